/- Layer 13 (arch): tiles, directories and metadata of any bytes: the law's walk. The conditions: what the arguments are. -/
import Derived.Test.YtaapjampmnanmaaGreatArchTi
import Derived.Test.YtaapjampmnanmaaGreatArchLive
import Derived.Test.YtaapjampmnanmaaGreatDirSame
namespace Go.Proofs.YtaapjampmnanmaaGreat
open Go.RowKit Go.Shelf
set_option linter.unusedVariables false
set_option linter.unusedSimpArgs false

/-- What unpacking gives: bytes, and the error. -/
def unV (R : Sum Nat (List UInt8)) : List UInt8 × Nat := match R with | .inl e => ([], e) | .inr o => (o, 0)
theorem UnP.val {w w' : World} {R : Sum Nat (List UInt8)} {e : Ending} (h : UnP w R e w') (m : List UInt8) (me : Nat) (hv : unV R = (m, me)) :
    Below w.heap.size w w' ∧ ∃ A c, e = .returned (.tuple #[.slice A m.length c, .int .i64 (me : Int)]) ∧ Rd w' w'.heap.size A m.length (m.map bv) := by
  obtain ⟨hb, ⟨er, rfl, h2, rfl⟩ | ⟨o, A, c, rfl, rfl, hr⟩⟩ := h
  · cases hv; exact ⟨hb, none, 0, rfl, Rd.nil _ _ _⟩
  · cases hv; exact ⟨hb, A, c, rfl, hr⟩

set_option maxRecDepth 100000 in
set_option maxHeartbeats 8000000 in
theorem archtiles_walk (A : Option Addr) (len c : Nat) (bs : List UInt8) (h : Hd) (z x y : Int) (a n : Nat) (w : World) (hr : Rd w w.heap.size A len (bs.map bv)) (hcap : len ≤ c) (hmx : len ≤ maxLen) (hk : h.Ok) :
    Calls Tryz.prog 4 #[.slice A len c, .agg h.cells, .agg #[.int .i64 z, .int .i64 x, .int .i64 y], .int .u64 (a : Int), .int .u64 (n : Int)] w fun e w' => e = .returned (.bool true) ∧ Below w.heap.size w w' := by
  have hlen := hr.len
  subst hlen
  obtain ⟨G, hG⟩ : ∃ G, w.heap.size = G := ⟨_, rfl⟩
  have hlive := hide (fun W => archlive_any W)
  obtain ⟨w1, hw1⟩ : ∃ W, w.alloc (.cells h.cells 30) = W := ⟨_, rfl⟩
  have hs1 : w1.heap.size = G + 1 := by rw [← hw1, ← hG]; simp
  obtain ⟨w2, hw2⟩ : ∃ W, w1.alloc (.cells #[.int .i64 z, .int .i64 x, .int .i64 y] 43) = W := ⟨_, rfl⟩
  have b2 := hide (show Below G w w2 from by rw [← hw2]; refine Below.alloc ?_ (by rw [hs1]; omega) _; rw [← hw1, ← hG]; exact (Below.refl _ w).alloc (Nat.le_refl _) _)
  have hs2 := hide (show w2.heap.size = G + 2 from by rw [← hw2]; simp [hs1])
  by_cases hbig : 2000 < bs.length
  · obtain ⟨n, hl⟩ : ∃ n, bs.length = n := ⟨_, rfl⟩
    rw [hl] at hbig hmx ⊢
    rw [hG]
    have hnI : (n : Int) ≤ 9223372036854775807 := by simp only [maxLen] at hmx; omega
    clear hmx hr hcap hk hl
    go_enter Tryz.func4, Tryz.ntmps4
    go_wp2_with (go_at_call 7; (with_reducible refine (hlive.out _).mono ?_); rintro e w20 ⟨rfl, hb20⟩; replace hb20 := hide hb20)
    go_ret
    exact ⟨rfl, b2.out.trans (hb20.out.mono (by have := hs2.out; omega))⟩
  · have k2 := hide (show Blk w2 G 30 h.cells from by rw [← hw2, ← hw1, ← hG]; exact (Blk.new w _ _).alloc _)
    have q2 := hide (show Blk w2 (G + 1) 43 #[.int .i64 z, .int .i64 x, .int .i64 y] from by rw [← hw2, ← hs1]; exact Blk.new w1 _ _)
    have hrd := hide (fun W (h : Below G w W) => (show Rd W W.heap.size A bs.length (bs.map bv) from (hr.below (by rw [hG]; exact h)).mono (by have := h.size; omega)))
    obtain ⟨N, E, hN, hE, hI1, hI2⟩ := plid_any z x y
    obtain ⟨ok, hok⟩ : ∃ ok, ok = decide (E = 0 ∧ h.minz ≤ z ∧ z ≤ h.maxz) := ⟨_, rfl⟩
    obtain ⟨⟨tl, tb, te⟩, hT⟩ := TileR.ex bs h ok N (fun es h => cut_ex es _ h)
    obtain ⟨⟨es, de⟩, hD⟩ := DirR.ex bs h.inn a n
    obtain ⟨⟨ml, me⟩, hM⟩ : ∃ m, unV (Ar.unpack bs h.m0 h.m1 h.inn) = m := ⟨_, rfl⟩
    have hes := hide (show es.length ≤ 65536 from hD.few)
    have hl1 := hide (show h.l1 ≤ 18446744073709551615 from hk.u.2.2.2.2.2.1)
    have hd1 := hide (show h.d1 ≤ 18446744073709551615 from hk.u.2.2.2.2.2.2.2)
    have hM1 := hide (fun W (hb : Below G w W) => (ameta_any A c bs h W (hrd.out W hb) hcap (by omega)).mono fun e w' hh => UnP.val hh ml me hM)
    have hM2 := hide (fun W (hb : Below G w W) => (armeta_any A c bs h W (hrd.out W hb) hcap (by omega)).mono fun e w' hh => UnP.val hh ml me hM)
    have hnI : (bs.length : Int) ≤ 2000 := by omega
    have hc := hide hcap
    have hm := hide (show bs.length ≤ 131072 by omega)
    replace hN := hide hN
    replace hE := hide hE
    replace hI1 := hide hI1
    replace hI2 := hide hI2
    replace hok := hide hok
    replace hT := hide hT
    replace hD := hide hD
    rw [hG]
    clear hr hbig hmx hcap hk hM
    go_enter Tryz.func4, Tryz.ntmps4
    go_wp2_with (first
      | (with_reducible refine wpList_load_row (o := ⟨some 31, .load 30 (.tmp 6), _, _, _, _⟩) rfl 30 (.tmp 6) rfl G rfl 30 h.cells (0, 0) _ k2.out.eq Tryz.underlying30 rfl (info_hd h) ?_)
      | (with_reducible refine wpList_load_row (o := ⟨some 32, .load 43 (.tmp 7), _, _, _, _⟩) rfl 43 (.tmp 7) rfl (G + 1) rfl 43 #[.int .i64 z, .int .i64 x, .int .i64 y] (0, 0) _ q2.out.eq Tryz.underlying43 rfl (info_pl _ _ _) ?_)
      | (go_at_call 12; (with_reducible refine (atile_any A c bs h z x y N E w2 (hrd.out w2 b2.out) hc.out (by have := hm.out; omega) hN.out hl1.out hd1.out hE.out hI1.out ok hok.out (tl, tb, te) hT.out).mono ?_); rintro e w3 ⟨hb, A3, c3, he, hr3⟩; obtain rfl : e = .returned (.tuple #[.slice A3 tl.length c3, .bool tb, .int .i64 (te : Int)]) := he; replace hr3 := hide (show Rd w3 w3.heap.size A3 tl.length (tl.map bv) from hr3); have k3 := hide (k2.out.below hb k2.out.lt); have q3 := hide (q2.out.below hb q2.out.lt); have b3 := hide (b2.out.trans (hb.mono (by have := k2.out.lt; omega))); have m3 := hide hb; clear hb)
      | (with_reducible refine wpList_load_row (o := ⟨some 39, .load 30 (.tmp 6), _, _, _, _⟩) rfl 30 (.tmp 6) rfl G rfl 30 h.cells (0, 0) _ k3.out.eq Tryz.underlying30 rfl (info_hd h) ?_)
      | (with_reducible refine wpList_load_row (o := ⟨some 40, .load 43 (.tmp 7), _, _, _, _⟩) rfl 43 (.tmp 7) rfl (G + 1) rfl 43 #[.int .i64 z, .int .i64 x, .int .i64 y] (0, 0) _ q3.out.eq Tryz.underlying43 rfl (info_pl _ _ _) ?_)
      | (go_at_call 13; (with_reducible refine (artile_any A c bs h z x y N E w3 (hrd.out w3 b3.out) hc.out (by have := hm.out; omega) hN.out hl1.out hd1.out hE.out hI2.out ok hok.out (tl, tb, te) hT.out).mono ?_); rintro e w4 ⟨hb, A4, c4, he, hr4⟩; obtain rfl : e = .returned (.tuple #[.slice A4 tl.length c4, .bool tb, .int .i64 (te : Int)]) := he; replace hr4 := hide (show Rd w4 w4.heap.size A4 tl.length (tl.map bv) from hr4); have k4 := hide (k3.out.below hb k3.out.lt); have q4 := hide (q3.out.below hb q3.out.lt); have b4 := hide (b3.out.trans (hb.mono (by have := k3.out.lt; omega))); have m4 := hide hb; clear hb)
      | (with_reducible refine wpList_load_row (o := ⟨some 47, .load 30 (.tmp 6), _, _, _, _⟩) rfl 30 (.tmp 6) rfl G rfl 30 h.cells (0, 0) _ k4.out.eq Tryz.underlying30 rfl (info_hd h) ?_)
      | (go_at_call 14; (with_reducible refine (adir_any A c bs h a n w4 (hrd.out w4 b4.out) hc.out (by have := hm.out; omega) (es, de) hD.out).mono ?_); rintro e w5 ⟨hb, A5, c5, he, hr5, hx5⟩; obtain rfl : e = .returned (.tuple #[.slice A5 es.length c5, .int .i64 (de : Int)]) := he; replace hr5 := hide (show RdE w5 w5.heap.size A5 es from hr5); clear hx5; have k5 := hide (k4.out.below hb k4.out.lt); have q5 := hide (q4.out.below hb q4.out.lt); have b5 := hide (b4.out.trans (hb.mono (by have := k4.out.lt; omega))); have m5 := hide hb; clear hb)
      | (with_reducible refine wpList_load_row (o := ⟨some 55, .load 30 (.tmp 6), _, _, _, _⟩) rfl 30 (.tmp 6) rfl G rfl 30 h.cells (0, 0) _ k5.out.eq Tryz.underlying30 rfl (info_hd h) ?_)
      | (go_at_call 15; (with_reducible refine (ardir_any A c bs h a n w5 (hrd.out w5 b5.out) hc.out (by have := hm.out; omega) (es, de) hD.out).mono ?_); rintro e w6 ⟨hb, A6, c6, he, hr6, hx6⟩; obtain rfl : e = .returned (.tuple #[.slice A6 es.length c6, .int .i64 (de : Int)]) := he; replace hr6 := hide (show RdE w6 w6.heap.size A6 es from hr6); clear hx6; have k6 := hide (k5.out.below hb k5.out.lt); have q6 := hide (q5.out.below hb q5.out.lt); have b6 := hide (b5.out.trans (hb.mono (by have := k5.out.lt; omega))); have m6 := hide hb; clear hb)
      | (with_reducible refine wpList_load_row (o := ⟨some 63, .load 30 (.tmp 6), _, _, _, _⟩) rfl 30 (.tmp 6) rfl G rfl 30 h.cells (0, 0) _ k6.out.eq Tryz.underlying30 rfl (info_hd h) ?_)
      | (go_at_call 16; (with_reducible refine (hM1.out w6 b6.out).mono ?_); rintro e w7 ⟨hb, A7, c7, rfl, hr7⟩; replace hr7 := hide hr7; have k7 := hide (k6.out.below hb k6.out.lt); have q7 := hide (q6.out.below hb q6.out.lt); have b7 := hide (b6.out.trans (hb.mono (by have := k6.out.lt; omega))); have m7 := hide hb; clear hb)
      | (with_reducible refine wpList_load_row (o := ⟨some 69, .load 30 (.tmp 6), _, _, _, _⟩) rfl 30 (.tmp 6) rfl G rfl 30 h.cells (0, 0) _ k7.out.eq Tryz.underlying30 rfl (info_hd h) ?_)
      | (go_at_call 17; (with_reducible refine (hM2.out w7 b7.out).mono ?_); rintro e w8 ⟨hb, A8, c8, rfl, hr8⟩; replace hr8 := hide hr8; have m38 := hide ((((m4.out.trans (m5.out.mono m4.out.size)).trans (m6.out.mono (by have := m4.out.size; have := m5.out.size; omega))).trans (m7.out.mono (by have := m4.out.size; have := m5.out.size; have := m6.out.size; omega))).trans (hb.mono (by have := m4.out.size; have := m5.out.size; have := m6.out.size; have := m7.out.size; omega))); have m48 := hide (((m5.out.trans (m6.out.mono m5.out.size)).trans (m7.out.mono (by have := m5.out.size; have := m6.out.size; omega))).trans (hb.mono (by have := m5.out.size; have := m6.out.size; have := m7.out.size; omega))); have m58 := hide ((m6.out.trans (m7.out.mono m6.out.size)).trans (hb.mono (by have := m6.out.size; have := m7.out.size; omega))); have m68 := hide (m7.out.trans (hb.mono m7.out.size)); have s3 := str13 (hr3.out.below m38.out) c3; have s4 := str13 (hr4.out.below m48.out) c4; have e5 := hide ((hr5.out.below m58.out).mono (by have := m58.out.size; omega)); have e6 := hide ((hr6.out.below m68.out).mono (by have := m68.out.size; omega)); have r7 := hide (hr7.out.below hb); have k8 := hide (k7.out.below hb k7.out.lt); have q8 := hide (q7.out.below hb q7.out.lt); have b8 := hide (b7.out.trans (hb.mono (by have := k7.out.lt; omega))); have m8 := hide hb; clear hb)
      | (go_at_call 9; (with_reducible refine (acode_any _ _).mono ?_); rintro e w' ⟨rfl, rfl⟩)
      | (go_at_call 18; (with_reducible refine (refsame_any A5 A6 c5 c6 es es w8 w8.heap.size e5.out e6.out hes.out hes.out true ⟨fun _ => rfl, fun _ => rfl⟩).mono ?_); rintro e w9 ⟨rfl, hb⟩; have s7 := str13 (r7.out.below (hb.mono (by have := m8.out.size; omega))) c7; have s8 := str13 (hr8.out.below hb) c8; have b9 := hide (b8.out.trans (hb.mono (by have := k8.out.lt; omega))); clear hb)
      | (go_at_call 7; (with_reducible refine (hlive.out _).mono ?_); rintro e w20 ⟨rfl, hb20⟩; replace hb20 := hide hb20))
    go_ret
    exact ⟨by simp, b9.out.trans (hb20.out.mono (by have := b9.out.size; omega))⟩

end Go.Proofs.YtaapjampmnanmaaGreat
