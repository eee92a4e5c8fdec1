/- Layer 13 (arch): bytes that lie where neither the tile, nor the directories, nor the header are have no influence: the law's walk. The conditions: what the arguments are. -/
import Derived.Test.YtaapjampmnanmaaArchTi
import Derived.Test.YtaapjampmnanmaaArchLive
import Derived.Test.YtaapjampmnanmaaDirLive
namespace Go.Proofs.Ytaapjampmnanmaa
open Go.RowKit Go.Shelf
set_option linter.unusedVariables false
set_option linter.unusedSimpArgs false

theorem headV_fit (bs : List UInt8) (r : Int) (hR : RightR (headOf bs) bs.length r) (h0 : (headV bs r).2 = 0) : Within (headV bs r).1.r0 (headV bs r).1.r1 bs.length ∧ Within (headV bs r).1.l0 (headV bs r).1.l1 bs.length ∧ (headV bs r).1.l1 ≤ 18446744073709551615 ∧ (headV bs r).1.d1 ≤ 18446744073709551615 := by
  unfold headV at h0 ⊢
  split at h0
  · cases h0
  · rw [if_neg (by assumption)]
    split at h0
    · cases h0
    · rw [if_neg (by assumption)]
      split at h0
      · rw [if_pos (by assumption)]
        split at h0
        · rename_i hr
          rw [if_pos hr]
          subst hr
          unfold RightR at hR
          by_cases h1 : FormA (headOf bs)
          · by_cases h2 : FormB (headOf bs)
            · by_cases h3 : FormC (headOf bs)
              · by_cases h4 : FormD (headOf bs) bs.length
                · have g1 := num_lt bs 48 8
                  have g2 := num_lt bs 64 8
                  unfold FormD at h4
                  rw [Int.toNat_natCast] at h4
                  exact ⟨h4.1, h4.2.2.1, show num bs 48 8 ≤ _ by omega, show num bs 64 8 ≤ _ by omega⟩
                · exact absurd (hR.2.2.2.1 h1 h2 h3 h4) (by decide)
              · exact absurd (hR.2.2.1 h1 h2 h3) (by decide)
            · exact absurd (hR.2.1 h1 h2) (by decide)
          · exact absurd (hR.1 h1) (by decide)
        · rename_i hr
          exact absurd h0 hr
      · cases h0
theorem TileR.put {bs : List UInt8} {h : Hd} {id k : Nat} {r : List UInt8 × Bool × Nat} (b : UInt8) {f : Ent × Bool × Nat} (hf : DownR bs h.inn h.l0 h.l1 id 4 h.r0 h.r1 f) (h1 : f.2.1 = false → r = ([], false, f.2.2))
    (h2 : f.2.1 = true → (¬ Within f.1.off f.1.len h.d1 → r = ([], false, 8)) ∧ (Within f.1.off f.1.len h.d1 →
      (∀ e, Ar.unpack bs ((h.d0 + f.1.off) % 18446744073709551616) f.1.len h.out = .inl e → r = ([], false, e)) ∧
      (∀ d, Ar.unpack bs ((h.d0 + f.1.off) % 18446744073709551616) f.1.len h.out = .inr d → r = (d, true, 0))))
    (hl : Within h.l0 h.l1 bs.length) (hb : bs.length ≤ 2000) (hk0 : k < h.r0 ∨ h.r0 + h.r1 ≤ k) (hk : k < h.l0 ∨ h.l0 + h.l1 ≤ k) (hkd : k < (h.d0 + f.1.off) % 18446744073709551616 ∨ (h.d0 + f.1.off) % 18446744073709551616 + f.1.len ≤ k) :
    TileR (bs.set k b) h true id r := by
  refine ⟨fun h => (by cases h), fun _ => ⟨f, hf.set b hl hb hk _ _ _ _ (fun _ => hk0), h1, fun h3 => ?_⟩⟩
  rw [Ar.unpack_set b h.out (fun _ => hkd)]
  exact h2 h3

set_option maxRecDepth 100000 in
set_option maxHeartbeats 16000000 in
theorem archothers_walk (A : Option Addr) (len c : Nat) (bs : List UInt8) (z x y : Int) (s : Nat) (b : UInt8) (w : World) (hr : Rd w w.heap.size A len (bs.map bv)) (hcap : len ≤ c) (hmx : len ≤ maxLen) (hs : s ≤ 65535) :
    Calls Try.prog 4 #[.slice A len c, .agg #[.int .i64 z, .int .i64 x, .int .i64 y], .int .u16 (s : Int), .int .u8 (b.toNat : Int)] w fun e w' => e = .returned (.bool true) ∧ Below w.heap.size w w' := by
  have hlen := hr.len
  subst hlen
  obtain ⟨G, hG⟩ : ∃ G, w.heap.size = G := ⟨_, rfl⟩
  have hlive := hide (fun W => archlive_any W)
  obtain ⟨w1, hw1⟩ : ∃ W, w.alloc (.cells #[.int .i64 z, .int .i64 x, .int .i64 y] 43) = W := ⟨_, rfl⟩
  have hs1 := hide (show w1.heap.size = G + 1 from by rw [← hw1, ← hG]; simp)
  have b1 := hide (show Below G w w1 from by rw [← hw1, ← hG]; exact (Below.refl _ w).alloc (Nat.le_refl _) _)
  have q1 := hide (show Blk w1 G 43 #[.int .i64 z, .int .i64 x, .int .i64 y] from by rw [← hw1, ← hG]; exact Blk.new w _ _)
  by_cases hbig : 2000 < bs.length ∨ bs.length = 0
  · obtain ⟨n, hl⟩ : ∃ n, bs.length = n := ⟨_, rfl⟩
    rw [hl] at hbig hmx ⊢
    rw [hG]
    have hnI : (n : Int) ≤ 9223372036854775807 := by simp only [maxLen] at hmx; omega
    clear hmx hr hcap hl
    rcases hbig with hbig | rfl
    all_goals
      go_enter Try.func4, Try.ntmps4
      go_wp2_with (go_at_call 13; (with_reducible refine (hlive.out _).mono ?_); rintro e w20 ⟨rfl, hb20⟩; replace hb20 := hide hb20)
      go_ret
      exact ⟨rfl, b1.out.trans (hb20.out.mono (by have := hs1.out; omega))⟩
  · obtain ⟨q, hR⟩ := RightR.ex (headOf bs) bs.length
    have hrd := hide (fun W (h : Below G w W) => (show Rd W W.heap.size A bs.length (bs.map bv) from (hr.below (by rw [hG]; exact h)).mono (by have := h.size; omega)))
    have hh := hide (ahead_any A c bs w1 w1.heap.size (hrd.out w1 b1.out) (Nat.le_refl _) hcap (by omega) q hR)
    have hfit := hide (headV_fit bs q hR)
    generalize headV bs q = V at hh hfit
    have hnI : (bs.length : Int) ≤ 2000 := by omega
    have hn0 : (0 : Int) < (bs.length : Int) := by omega
    have hnz : ¬ (bs.length : Int) = 0 := by omega
    have hn2 : decide ((2000 : Int) < (bs.length : Int)) = false := by simp; omega
    have hn3 : ((bs.length : Int) == 0) = false := by rw [beq_eq_false_iff_ne]; omega
    have hc := hide hcap
    have hm := hide (show bs.length ≤ 2000 by omega)
    have hnp := hide (show 0 < bs.length by omega)
    rw [hG]
    clear hR hr hbig hmx hcap
    by_cases he : V.2 = 0
    · rw [he] at hh
      obtain ⟨hf1, hf2, hl1, hd1⟩ := hfit.out he
      obtain ⟨N, E, hN, hE, hI1, hI2⟩ := plid_any z x y
      obtain ⟨ok, hok⟩ : ∃ ok, ok = decide (E = 0 ∧ V.1.minz ≤ z ∧ z ≤ V.1.maxz) := ⟨_, rfl⟩
      obtain ⟨⟨tl, tb, te⟩, hT⟩ := TileR.ex bs V.1 ok N (fun es h => cut_ex es _ h)
      have hokE := hide (show ok = true → E = 0 from fun h => (of_decide_eq_true (hok.symm.trans h)).1)
      have hok0 := hide (show ok = true → V.1.minz ≤ z ∧ z ≤ V.1.maxz from fun h => (of_decide_eq_true (hok.symm.trans h)).2)
      replace hf1 := hide hf1
      replace hf2 := hide hf2
      replace hl1 := hide hl1
      replace hd1 := hide hd1
      replace hN := hide hN
      replace hE := hide hE
      replace hI1 := hide hI1
      replace hI2 := hide hI2
      replace hok := hide hok
      replace hT := hide hT
      go_enter Try.func4, Try.ntmps4
      go_upto_region 7 with (first
        | (go_at_call 14; go_loud ((with_reducible refine hh.out.mono ?_); rintro e w2 ⟨rfl, hb2⟩; obtain ⟨g3, hg3⟩ : ∃ g, w2.heap.size = g := ⟨_, rfl⟩; obtain ⟨w3, hw3⟩ : ∃ W, w2.alloc (.cells #[.int .u64 0, .int .u64 0, .int .u64 0, .int .u64 0, .int .u64 0, .int .u64 0, .int .u64 0, .int .u64 0, .int .u64 0, .int .u64 0, .int .u64 0, .bool false, .int .i64 0, .int .i64 0, .int .i64 0, .int .i64 0, .int .i64 0, .int .i64 0, .int .i64 0, .int .i64 0, .int .i64 0, .int .i64 0, .int .i64 0, .int .i64 0] 49) = W := ⟨_, rfl⟩; have k3 := hide (show Blk w3 g3 49 #[.int .u64 0, .int .u64 0, .int .u64 0, .int .u64 0, .int .u64 0, .int .u64 0, .int .u64 0, .int .u64 0, .int .u64 0, .int .u64 0, .int .u64 0, .bool false, .int .i64 0, .int .i64 0, .int .i64 0, .int .i64 0, .int .i64 0, .int .i64 0, .int .i64 0, .int .i64 0, .int .i64 0, .int .i64 0, .int .i64 0, .int .i64 0] from by rw [← hw3, ← hg3]; exact Blk.new w2 _ _); have hs3 := hide (show w3.heap.size = g3 + 1 from by rw [← hw3, ← hg3]; simp); have hGg := hide (show G + 1 ≤ g3 from by have := hb2.size; have := q1.out.lt; omega); have b13 := hide (show Below w1.heap.size w1 w3 from by rw [← hw3]; exact hb2.alloc hb2.size _); clear hb2; obtain ⟨w4, hw4⟩ : ∃ W, w3.setRow g3 V.1.cells = W := ⟨_, rfl⟩; have k4 := hide (show Blk w4 g3 49 V.1.cells from by rw [← hw4]; exact k3.out.row _); have b14 := hide (show Below w1.heap.size w1 w4 from by rw [← hw4]; exact below_row b13.out (by have := hs1.out; have := hGg.out; omega) _); have b4 := hide (show Below G w w4 from b1.out.trans (b14.out.mono (by have := hs1.out; omega))); have q4 := hide (q1.out.below b14.out q1.out.lt); have hs4 := hide (show w4.heap.size = g3 + 1 from by rw [← hw4]; simpa using hs3.out)))
        | ((with_reducible refine wpList_store_row (o := ⟨none, .store 49 (.tmp 9) (.tmp 38), _, _, _, _⟩) rfl 49 (.tmp 9) (.tmp 38) rfl g3 V.1.cells rfl rfl 49 _ k3.out.eq (info_hd V.1) (z24hd V.1) V.1.one ?_); rw [hw4])
        | (go_at_call 15; (with_reducible refine (acode_any _ _).mono ?_); rintro e w' ⟨rfl, rfl⟩)
        | (with_reducible refine wpList_load_row (o := ⟨some 46, .load 49 (.tmp 9), _, _, _, _⟩) rfl 49 (.tmp 9) rfl g3 rfl 49 V.1.cells (0, 0) _ k4.out.eq Try.underlying49 rfl (info_hd V.1) ?_)
        | (with_reducible refine wpList_load_row (o := ⟨some 47, .load 43 (.tmp 5), _, _, _, _⟩) rfl 43 (.tmp 5) rfl G rfl 43 #[.int .i64 z, .int .i64 x, .int .i64 y] (0, 0) _ q4.out.eq Try.underlying43 rfl (info_pl _ _ _) ?_)
        | (go_at_call 16; (with_reducible refine (atile_any A c bs V.1 z x y N E w4 (hrd.out w4 b4.out) hc.out (by have := hm.out; omega) hN.out hl1.out hd1.out hE.out hI1.out ok hok.out (tl, tb, te) hT.out).mono ?_); rintro e w5 ⟨hb, A5, c5, he, hr5⟩; obtain rfl : e = .returned (.tuple #[.slice A5 tl.length c5, .bool tb, .int .i64 (te : Int)]) := he; replace hr5 := hide (show Rd w5 w5.heap.size A5 tl.length (tl.map bv) from hr5); have k5 := hide (k4.out.below hb k4.out.lt); have q5 := hide (q4.out.below hb q4.out.lt); have b5 := hide (b4.out.trans (hb.mono (by have := q4.out.lt; omega))); have hs5 := hide (show g3 + 1 ≤ w5.heap.size from by have := hb.size; have := hs4.out; omega); clear hb))
      clear hw1 hw3 hw4 k3 hs3 hh k4 q4
      have z5 : w5.cell? ⟨G, 0, none⟩ = some (.int .i64 z) := q5.out.cell 0
      rcases (show te ≠ 0 ∨ (te = 0 ∧ tb = false) ∨ (te = 0 ∧ tb = true ∧ z < 0) ∨ (te = 0 ∧ tb = true ∧ 0 ≤ z) by cases tb <;> simp <;> omega) with hte | ⟨rfl, rfl⟩ | ⟨rfl, rfl, hz⟩ | ⟨rfl, rfl, hz⟩
      · have hne : ((te : Int) != 0) = true := by simp; omega
        go_wp2_with (first | (go_at_call 15; (with_reducible refine (acode_any _ _).mono ?_); rintro e w' ⟨rfl, rfl⟩) | (go_at_call 13; (with_reducible refine (hlive.out _).mono ?_); rintro e w20 ⟨rfl, hb20⟩; replace hb20 := hide hb20))
        go_ret
        exact ⟨rfl, b5.out.trans (hb20.out.mono (by have := b5.out.size; have := q5.out.lt; omega))⟩
      · go_wp2_with (first | (go_at_call 15; (with_reducible refine (acode_any _ _).mono ?_); rintro e w' ⟨rfl, rfl⟩) | (go_at_call 13; (with_reducible refine (hlive.out _).mono ?_); rintro e w20 ⟨rfl, hb20⟩; replace hb20 := hide hb20))
        go_ret
        exact ⟨rfl, b5.out.trans (hb20.out.mono (by have := b5.out.size; have := q5.out.lt; omega))⟩
      · go_wp2_with (first | (go_at_call 15; (with_reducible refine (acode_any _ _).mono ?_); rintro e w' ⟨rfl, rfl⟩) | (go_at_call 13; (with_reducible refine (hlive.out _).mono ?_); rintro e w20 ⟨rfl, hb20⟩; replace hb20 := hide hb20))
        go_ret
        exact ⟨rfl, b5.out.trans (hb20.out.mono (by have := b5.out.size; have := q5.out.lt; omega))⟩
      · obtain rfl : ok = true := by
          cases ok
          · have := hT.out.1 rfl; cases this
          · rfl
        obtain rfl := hokE.out rfl
        obtain ⟨⟨⟨xi, xo, xl, xr⟩, fb, fe⟩, hf, h1, h2⟩ := hT.out.2 rfl
        replace hf := hide hf
        replace h1 := hide h1
        replace h2 := hide h2
        obtain ⟨n, hn⟩ : ∃ n, bs.length = n := ⟨_, rfl⟩
        obtain ⟨k, hk⟩ : ∃ k, s % n = k := ⟨_, rfl⟩
        obtain ⟨fr, hfr⟩ : ∃ fr, (V.1.d0 + xo) % 18446744073709551616 = fr := ⟨_, rfl⟩
        have hkn := hide (show k < n from by rw [← hk]; exact Nat.mod_lt _ (by have := hnp.out; omega))
        have hkm : Int.tmod (s : Int) (n : Int) = (k : Int) := by rw [Int.tmod_eq_emod_of_nonneg (by omega), ← Int.natCast_emod, hk]
        have hkw : IntKind.i64.wrap (k : Int) = (k : Int) := by rw [IntKind.wrap_i64]; have := hkn.out; omega
        have hkw2 : IntKind.u64.wrap (k : Int) = (k : Int) := by rw [IntKind.wrap_u64]; have := hkn.out; omega
        have hsw : IntKind.i64.wrap (s : Int) = (s : Int) := by rw [IntKind.wrap_i64]; omega
        have hfw : IntKind.u64.wrap ((V.1.d0 : Int) + (xo : Int)) = (fr : Int) := by rw [IntKind.wrap_u64]; omega
        have hfm : ((V.1.d0 : Int) + (xo : Int)) % 18446744073709551616 = (fr : Int) := by omega
        rw [hn] at hnI hn0 hnz hn2 hn3 ⊢
        replace hn := hide hn
        replace hk := hide hk
        replace hfr := hide hfr
        go_upto_region 11 with (first
          | (go_at_call 15; (with_reducible refine (acode_any _ _).mono ?_); rintro e w' ⟨rfl, rfl⟩)
          | (with_reducible refine wpList_load_row (o := ⟨some 66, .load 43 (.tmp 5), _, _, _, _⟩) rfl 43 (.tmp 5) rfl G rfl 43 #[.int .i64 z, .int .i64 x, .int .i64 y] (0, 0) _ q5.out.eq Try.underlying43 rfl (info_pl _ _ _) ?_)
          | (go_at_call 17; (with_reducible refine (hI2.out w5).mono ?_); rintro e w6 ⟨rfl, hb6⟩; have k6 := hide (k5.out.below hb6 k5.out.lt); have q6 := hide (q5.out.below hb6 q5.out.lt); have b6 := hide (b5.out.trans (hb6.mono (by have := q5.out.lt; omega))); have hs6 := hide (show g3 + 1 ≤ w6.heap.size from by have := hb6.size; have := hs5.out; omega); replace hb6 := hide hb6)
          | (with_reducible refine wpList_load_row (o := ⟨some 72, .load 49 (.tmp 9), _, _, _, _⟩) rfl 49 (.tmp 9) rfl g3 rfl 49 V.1.cells (0, 0) _ k6.out.eq Try.underlying49 rfl (info_hd V.1) ?_)
          | (go_at_call 18; (with_reducible refine ((hn.out ▸ afind_any A c bs V.1 N w6 (hrd.out w6 b6.out) hc.out (by have := hm.out; omega) hN.out hl1.out ((⟨xi, xo, xl, xr⟩ : Ent), fb, fe) hf.out :)).mono ?_); rintro e w7 ⟨he7, hb7⟩; obtain rfl : e = .returned (.tuple #[.agg #[.int .u64 (xi : Int), .int .u64 (xo : Int), .int .u64 (xl : Int), .int .u64 (xr : Int)], .bool fb, .int .i64 (fe : Int)]) := he7; replace hb7 := hide hb7; obtain ⟨g8, hg8⟩ : ∃ g, w7.heap.size = g := ⟨_, rfl⟩; obtain ⟨w8, hw8⟩ : ∃ W, w7.alloc (.cells #[.int .u64 0, .int .u64 0, .int .u64 0, .int .u64 0] 57) = W := ⟨_, rfl⟩; have k8 := hide (show Blk w8 g8 57 #[.int .u64 0, .int .u64 0, .int .u64 0, .int .u64 0] from by rw [← hw8, ← hg8]; exact Blk.new w7 _ _); obtain ⟨w9, hw9⟩ : ∃ W, w8.setRow g8 #[.int .u64 (xi : Int), .int .u64 (xo : Int), .int .u64 (xl : Int), .int .u64 (xr : Int)] = W := ⟨_, rfl⟩)
          | ((with_reducible refine wpList_store_row (o := ⟨none, .store 57 (.tmp 16) (.tmp 75), _, _, _, _⟩) rfl 57 (.tmp 16) (.tmp 75) rfl g8 #[.int .u64 (xi : Int), .int .u64 (xo : Int), .int .u64 (xl : Int), .int .u64 (xr : Int)] rfl rfl 57 _ k8.out.eq (info_ent _ _ _ _) rfl (ent_one _ _ _ _) ?_); rw [hw9]))
        have e9 := hide (show Blk w9 g8 57 #[.int .u64 (xi : Int), .int .u64 (xo : Int), .int .u64 (xl : Int), .int .u64 (xr : Int)] from by rw [← hw9]; exact k8.out.row _)
        have b69 := hide (show Below w6.heap.size w6 w9 from by rw [← hw9]; exact below_row (by rw [← hw8]; exact hb7.out.alloc hb7.out.size _) (by have := hb7.out.size; omega) _)
        have k9 := hide (k6.out.below b69.out k6.out.lt)
        have q9 := hide (q6.out.below b69.out q6.out.lt)
        have b9 := hide (b6.out.trans (b69.out.mono (by have := q6.out.lt; omega)))
        have b59 := hide (hb6.out.trans (b69.out.mono hb6.out.size))
        have c0 : w9.cell? ⟨g3, 0, none⟩ = some (.int .u64 (V.1.r0 : Int)) := (k9.out.cell 0).trans rfl
        have c1 : w9.cell? ⟨g3, 1, none⟩ = some (.int .u64 (V.1.r1 : Int)) := (k9.out.cell 1).trans rfl
        have c4 : w9.cell? ⟨g3, 4, none⟩ = some (.int .u64 (V.1.l0 : Int)) := (k9.out.cell 4).trans rfl
        have c5' : w9.cell? ⟨g3, 5, none⟩ = some (.int .u64 (V.1.l1 : Int)) := (k9.out.cell 5).trans rfl
        have c6 : w9.cell? ⟨g3, 6, none⟩ = some (.int .u64 (V.1.d0 : Int)) := (k9.out.cell 6).trans rfl
        have x1 : w9.cell? ⟨g8, 1, none⟩ = some (.int .u64 (xo : Int)) := e9.out.cell 1
        have x2 : w9.cell? ⟨g8, 2, none⟩ = some (.int .u64 (xl : Int)) := e9.out.cell 2
        clear hw8 hw9 k8 hb7 k5 q5 b5 k6 q6 b6 z5 hb6 hs5 hs6
        go_upto_region 13 with fail
        clear hkm hkw hkw2 hsw hfw hfm hnz c6 x1
        obtain ⟨d1, hd1'⟩ : ∃ d, k - V.1.r0 = d := ⟨_, rfl⟩
        obtain ⟨d2, hd2'⟩ : ∃ d, k - V.1.l0 = d := ⟨_, rfl⟩
        obtain ⟨d3, hd3'⟩ : ∃ d, k - fr = d := ⟨_, rfl⟩
        go_cut [21] (fun s21 wx => ∃ v, s21 = .bool v ∧ w9 = wx ∧ (v = false → Hid (127 ≤ k ∧ (k < V.1.r0 ∨ V.1.r0 + V.1.r1 ≤ k) ∧ (k < V.1.l0 ∨ V.1.l0 + V.1.l1 ≤ k) ∧ (k < fr ∨ fr + xl ≤ k))))
        case first =>
          have hkn2 := hkn.out
          clear hrd hlive hfit hT hokE hok0 hf1 hf2 hl1 hd1 hN hE hI1 hI2 hok hf h1 h2 hr5
          rcases (show k < 127 ∨ 127 ≤ k by omega) with c127 | c127
          · have i9 : (k : Int) < 127 := by omega
            go_wp2
            go_meet
            exact ⟨true, (by first | rfl | (simp; done) | (simp; omega)), rfl, fun h => by cases h⟩
          · have i9 : (127 : Int) ≤ (k : Int) := by omega
            rcases (show (V.1.r0 ≤ k ∧ d1 < V.1.r1) ∨ k < V.1.r0 ∨ (V.1.r0 ≤ k ∧ V.1.r1 ≤ d1) by omega) with ⟨g0, f0⟩ | g0 | ⟨g0, f0⟩
            · skip
              have i0 : (V.1.r0 : Int) ≤ (k : Int) := by omega
              have v0 : IntKind.u64.wrap ((k : Int) - (V.1.r0 : Int)) = (d1 : Int) := by rw [IntKind.wrap_u64]; omega
              have u0 : ((k : Int) - (V.1.r0 : Int)) % 18446744073709551616 = (d1 : Int) := by omega
              have j0 : (d1 : Int) < (V.1.r1 : Int) := by omega
              go_wp2
              go_meet
              exact ⟨true, (by first | rfl | (simp; done) | (simp; omega)), rfl, fun h => by cases h⟩
            · skip
              have i0 : (k : Int) < (V.1.r0 : Int) := by omega
              have o0 := hide (show k < V.1.r0 ∨ V.1.r0 + V.1.r1 ≤ k by omega)
              clear g0
              rcases (show (V.1.l0 ≤ k ∧ d2 < V.1.l1) ∨ k < V.1.l0 ∨ (V.1.l0 ≤ k ∧ V.1.l1 ≤ d2) by omega) with ⟨g1, f1⟩ | g1 | ⟨g1, f1⟩
              · skip
                have i1 : (V.1.l0 : Int) ≤ (k : Int) := by omega
                have v1 : IntKind.u64.wrap ((k : Int) - (V.1.l0 : Int)) = (d2 : Int) := by rw [IntKind.wrap_u64]; omega
                have u1 : ((k : Int) - (V.1.l0 : Int)) % 18446744073709551616 = (d2 : Int) := by omega
                have j1 : (d2 : Int) < (V.1.l1 : Int) := by omega
                go_wp2
                go_meet
                exact ⟨true, (by first | rfl | (simp; done) | (simp; omega)), rfl, fun h => by cases h⟩
              · skip
                have i1 : (k : Int) < (V.1.l0 : Int) := by omega
                have o1 := hide (show k < V.1.l0 ∨ V.1.l0 + V.1.l1 ≤ k by omega)
                clear g1
                rcases (show (fr ≤ k ∧ d3 < xl) ∨ k < fr ∨ (fr ≤ k ∧ xl ≤ d3) by omega) with ⟨g2, f2⟩ | g2 | ⟨g2, f2⟩
                · skip
                  have i2 : (fr : Int) ≤ (k : Int) := by omega
                  have v2 : IntKind.u64.wrap ((k : Int) - (fr : Int)) = (d3 : Int) := by rw [IntKind.wrap_u64]; omega
                  have u2 : ((k : Int) - (fr : Int)) % 18446744073709551616 = (d3 : Int) := by omega
                  have j2 : (d3 : Int) < (xl : Int) := by omega
                  go_wp2
                  go_meet
                  exact ⟨true, (by first | rfl | (simp; done) | (simp; omega)), rfl, fun h => by cases h⟩
                · skip
                  have i2 : (k : Int) < (fr : Int) := by omega
                  have o2 := hide (show k < fr ∨ fr + xl ≤ k by omega)
                  go_wp2
                  go_meet
                  exact ⟨false, (by first | rfl | (simp; done) | (simp; omega)), rfl, fun _ => hide ⟨by omega, o0.out, o1.out, o2.out⟩⟩
                · skip
                  have i2 : (fr : Int) ≤ (k : Int) := by omega
                  have v2 : IntKind.u64.wrap ((k : Int) - (fr : Int)) = (d3 : Int) := by rw [IntKind.wrap_u64]; omega
                  have u2 : ((k : Int) - (fr : Int)) % 18446744073709551616 = (d3 : Int) := by omega
                  have j2 : (xl : Int) ≤ (d3 : Int) := by omega
                  have o2 := hide (show k < fr ∨ fr + xl ≤ k by omega)
                  go_wp2
                  go_meet
                  exact ⟨false, (by first | rfl | (simp; done) | (simp; omega)), rfl, fun _ => hide ⟨by omega, o0.out, o1.out, o2.out⟩⟩
              · skip
                have i1 : (V.1.l0 : Int) ≤ (k : Int) := by omega
                have v1 : IntKind.u64.wrap ((k : Int) - (V.1.l0 : Int)) = (d2 : Int) := by rw [IntKind.wrap_u64]; omega
                have u1 : ((k : Int) - (V.1.l0 : Int)) % 18446744073709551616 = (d2 : Int) := by omega
                have j1 : (V.1.l1 : Int) ≤ (d2 : Int) := by omega
                have o1 := hide (show k < V.1.l0 ∨ V.1.l0 + V.1.l1 ≤ k by omega)
                clear g1 f1
                rcases (show (fr ≤ k ∧ d3 < xl) ∨ k < fr ∨ (fr ≤ k ∧ xl ≤ d3) by omega) with ⟨g2, f2⟩ | g2 | ⟨g2, f2⟩
                · skip
                  have i2 : (fr : Int) ≤ (k : Int) := by omega
                  have v2 : IntKind.u64.wrap ((k : Int) - (fr : Int)) = (d3 : Int) := by rw [IntKind.wrap_u64]; omega
                  have u2 : ((k : Int) - (fr : Int)) % 18446744073709551616 = (d3 : Int) := by omega
                  have j2 : (d3 : Int) < (xl : Int) := by omega
                  go_wp2
                  go_meet
                  exact ⟨true, (by first | rfl | (simp; done) | (simp; omega)), rfl, fun h => by cases h⟩
                · skip
                  have i2 : (k : Int) < (fr : Int) := by omega
                  have o2 := hide (show k < fr ∨ fr + xl ≤ k by omega)
                  go_wp2
                  go_meet
                  exact ⟨false, (by first | rfl | (simp; done) | (simp; omega)), rfl, fun _ => hide ⟨by omega, o0.out, o1.out, o2.out⟩⟩
                · skip
                  have i2 : (fr : Int) ≤ (k : Int) := by omega
                  have v2 : IntKind.u64.wrap ((k : Int) - (fr : Int)) = (d3 : Int) := by rw [IntKind.wrap_u64]; omega
                  have u2 : ((k : Int) - (fr : Int)) % 18446744073709551616 = (d3 : Int) := by omega
                  have j2 : (xl : Int) ≤ (d3 : Int) := by omega
                  have o2 := hide (show k < fr ∨ fr + xl ≤ k by omega)
                  go_wp2
                  go_meet
                  exact ⟨false, (by first | rfl | (simp; done) | (simp; omega)), rfl, fun _ => hide ⟨by omega, o0.out, o1.out, o2.out⟩⟩
            · skip
              have i0 : (V.1.r0 : Int) ≤ (k : Int) := by omega
              have v0 : IntKind.u64.wrap ((k : Int) - (V.1.r0 : Int)) = (d1 : Int) := by rw [IntKind.wrap_u64]; omega
              have u0 : ((k : Int) - (V.1.r0 : Int)) % 18446744073709551616 = (d1 : Int) := by omega
              have j0 : (V.1.r1 : Int) ≤ (d1 : Int) := by omega
              have o0 := hide (show k < V.1.r0 ∨ V.1.r0 + V.1.r1 ≤ k by omega)
              clear g0 f0
              rcases (show (V.1.l0 ≤ k ∧ d2 < V.1.l1) ∨ k < V.1.l0 ∨ (V.1.l0 ≤ k ∧ V.1.l1 ≤ d2) by omega) with ⟨g1, f1⟩ | g1 | ⟨g1, f1⟩
              · skip
                have i1 : (V.1.l0 : Int) ≤ (k : Int) := by omega
                have v1 : IntKind.u64.wrap ((k : Int) - (V.1.l0 : Int)) = (d2 : Int) := by rw [IntKind.wrap_u64]; omega
                have u1 : ((k : Int) - (V.1.l0 : Int)) % 18446744073709551616 = (d2 : Int) := by omega
                have j1 : (d2 : Int) < (V.1.l1 : Int) := by omega
                go_wp2
                go_meet
                exact ⟨true, (by first | rfl | (simp; done) | (simp; omega)), rfl, fun h => by cases h⟩
              · skip
                have i1 : (k : Int) < (V.1.l0 : Int) := by omega
                have o1 := hide (show k < V.1.l0 ∨ V.1.l0 + V.1.l1 ≤ k by omega)
                clear g1
                rcases (show (fr ≤ k ∧ d3 < xl) ∨ k < fr ∨ (fr ≤ k ∧ xl ≤ d3) by omega) with ⟨g2, f2⟩ | g2 | ⟨g2, f2⟩
                · skip
                  have i2 : (fr : Int) ≤ (k : Int) := by omega
                  have v2 : IntKind.u64.wrap ((k : Int) - (fr : Int)) = (d3 : Int) := by rw [IntKind.wrap_u64]; omega
                  have u2 : ((k : Int) - (fr : Int)) % 18446744073709551616 = (d3 : Int) := by omega
                  have j2 : (d3 : Int) < (xl : Int) := by omega
                  go_wp2
                  go_meet
                  exact ⟨true, (by first | rfl | (simp; done) | (simp; omega)), rfl, fun h => by cases h⟩
                · skip
                  have i2 : (k : Int) < (fr : Int) := by omega
                  have o2 := hide (show k < fr ∨ fr + xl ≤ k by omega)
                  go_wp2
                  go_meet
                  exact ⟨false, (by first | rfl | (simp; done) | (simp; omega)), rfl, fun _ => hide ⟨by omega, o0.out, o1.out, o2.out⟩⟩
                · skip
                  have i2 : (fr : Int) ≤ (k : Int) := by omega
                  have v2 : IntKind.u64.wrap ((k : Int) - (fr : Int)) = (d3 : Int) := by rw [IntKind.wrap_u64]; omega
                  have u2 : ((k : Int) - (fr : Int)) % 18446744073709551616 = (d3 : Int) := by omega
                  have j2 : (xl : Int) ≤ (d3 : Int) := by omega
                  have o2 := hide (show k < fr ∨ fr + xl ≤ k by omega)
                  go_wp2
                  go_meet
                  exact ⟨false, (by first | rfl | (simp; done) | (simp; omega)), rfl, fun _ => hide ⟨by omega, o0.out, o1.out, o2.out⟩⟩
              · skip
                have i1 : (V.1.l0 : Int) ≤ (k : Int) := by omega
                have v1 : IntKind.u64.wrap ((k : Int) - (V.1.l0 : Int)) = (d2 : Int) := by rw [IntKind.wrap_u64]; omega
                have u1 : ((k : Int) - (V.1.l0 : Int)) % 18446744073709551616 = (d2 : Int) := by omega
                have j1 : (V.1.l1 : Int) ≤ (d2 : Int) := by omega
                have o1 := hide (show k < V.1.l0 ∨ V.1.l0 + V.1.l1 ≤ k by omega)
                clear g1 f1
                rcases (show (fr ≤ k ∧ d3 < xl) ∨ k < fr ∨ (fr ≤ k ∧ xl ≤ d3) by omega) with ⟨g2, f2⟩ | g2 | ⟨g2, f2⟩
                · skip
                  have i2 : (fr : Int) ≤ (k : Int) := by omega
                  have v2 : IntKind.u64.wrap ((k : Int) - (fr : Int)) = (d3 : Int) := by rw [IntKind.wrap_u64]; omega
                  have u2 : ((k : Int) - (fr : Int)) % 18446744073709551616 = (d3 : Int) := by omega
                  have j2 : (d3 : Int) < (xl : Int) := by omega
                  go_wp2
                  go_meet
                  exact ⟨true, (by first | rfl | (simp; done) | (simp; omega)), rfl, fun h => by cases h⟩
                · skip
                  have i2 : (k : Int) < (fr : Int) := by omega
                  have o2 := hide (show k < fr ∨ fr + xl ≤ k by omega)
                  go_wp2
                  go_meet
                  exact ⟨false, (by first | rfl | (simp; done) | (simp; omega)), rfl, fun _ => hide ⟨by omega, o0.out, o1.out, o2.out⟩⟩
                · skip
                  have i2 : (fr : Int) ≤ (k : Int) := by omega
                  have v2 : IntKind.u64.wrap ((k : Int) - (fr : Int)) = (d3 : Int) := by rw [IntKind.wrap_u64]; omega
                  have u2 : ((k : Int) - (fr : Int)) % 18446744073709551616 = (d3 : Int) := by omega
                  have j2 : (xl : Int) ≤ (d3 : Int) := by omega
                  have o2 := hide (show k < fr ∨ fr + xl ≤ k by omega)
                  go_wp2
                  go_meet
                  exact ⟨false, (by first | rfl | (simp; done) | (simp; omega)), rfl, fun _ => hide ⟨by omega, o0.out, o1.out, o2.out⟩⟩
        case rest =>
          obtain ⟨v, rfl, rfl, hv⟩ := hcut
          cases v with
          | true =>
            go_wp2_with (go_at_call 13; (with_reducible refine (hlive.out _).mono ?_); rintro e w20 ⟨rfl, hb20⟩; replace hb20 := hide hb20)
            go_ret
            exact ⟨rfl, b9.out.trans (hb20.out.mono (by have := b9.out.size; have := q9.out.lt; omega))⟩
          | false =>
            have hnot := (hv rfl).out
            obtain ⟨g10, hg10⟩ : ∃ g, w9.heap.size = g := ⟨_, rfl⟩
            obtain ⟨w10, hw10⟩ : ∃ W, w9.alloc (.cells #[] 5) = W := ⟨_, rfl⟩
            have o10 := hide (show Ow w10 g10 5 (some ⟨g10, 0, none⟩) 0 0 [] from by rw [← hw10, ← hg10]; exact Ow.lit w9 #[] (Nat.le_refl _) (by simp [maxLen]))
            have b10 := hide (show Below g10 w9 w10 from by rw [← hw10, ← hg10]; exact (Below.refl _ w9).alloc (Nat.le_refl _) _)
            have s10 := hide (show w10.heap.size = g10 + 1 from by rw [← hw10, ← hg10]; simp)
            have r10 := hide (show Rd w10 w10.heap.size A n (bs.map bv) from by rw [← hn.out]; exact hrd.out w10 (b9.out.trans (b10.out.mono (by have := q9.out.lt; omega))))
            have hTN := hide (TileR.put b hf.out h1.out h2.out hf2.out hm.out hnot.2.1 hnot.2.2.1 (by rw [hfr.out]; exact hnot.2.2.2))
            have hTc := hide (fun (A' : Option Addr) (c' : Nat) (W : World) (hR : Rd W W.heap.size A' n ((bs.set k b).map bv)) (hc' : n ≤ c') => (show Calls Try.prog 16 #[.slice A' n c', .agg V.1.cells, .agg #[.int .i64 z, .int .i64 x, .int .i64 y]] W (TileP W.heap.size W (tl, true, 0)) from by
              have hlN : (bs.set k b).length = n := by rw [List.length_set, hn.out]
              have h := atile_any A' c' (bs.set k b) V.1 z x y N 0 W (by rw [hlN]; exact hR) (by omega) (by have := hm.out; have := hn.out; omega) hN.out hl1.out hd1.out (.inl rfl) hI1.out true (decide_eq_true ⟨rfl, hok0.out (by trivial)⟩).symm (tl, true, 0) hTN.out
              rw [hlN] at h
              exact h))
            have g5' := hide (show w9.heap.size = g10 from hg10)
            have hkI : (k : Int) < (n : Int) := by have := hkn.out; omega
            have hn2' := hide (show n ≤ 2000 by have := hm.out; have := hn.out; omega)
            have hnp' := hide (show 0 < n by have := hnp.out; have := hn.out; omega)
            clear hv hnot hT hf h1 h2 hfit c0 c1 c4 c5' x2
            go_upto_region 18 with (at_builtin; refine wpList_append_rd w10 rfl (.tmp 143) (.tmp 144) rfl elem_byte rfl o10.out rfl r10.out (bv_one _) (by have := hn2'.out; simp only [maxLen]; omega) (by have := hn2'.out; omega) (by have := s10.out; omega) ?_; intro A11 c11 w11 ho11 hc11 hn11; simp only [Nat.zero_add, List.nil_append] at ho11 ⊢; obtain ⟨g11, rfl, hge, hlt⟩ := ho11.pos hnp'.out; have f11 := ho11.free k; have hy : ∃ v, w11.cell? ⟨g11, k, none⟩ = some (.int .u8 v) := (by obtain ⟨b', o', hA, _, h⟩ := ho11.rd.byte hkn.out; cases hA; rw [Nat.zero_add] at h; exact ⟨_, h⟩); obtain ⟨vy, hy⟩ := hy; have hct11 := hide (show n ≤ c11 from (by rcases ho11.form with ⟨h, _⟩ | ⟨_, _, _, _, h, _⟩; (cases h); exact h)); have b11 := hide (show Below g10 w9 w11 from b10.out.trans (hc11.to_below (B := g10) (by have := s10.out; omega) (by simp [blk]))); clear hc11 hn11; replace ho11 := hide ho11)
            obtain ⟨w12, hw12⟩ : ∃ W, w11.setCell ⟨g11, k, none⟩ (.int .u8 (b.toNat : Int)) = W := ⟨_, rfl⟩
            have r12 := hide (show Rd w12 w12.heap.size (some ⟨g11, 0, none⟩) n ((bs.set k b).map bv) from by
              have h := (ho11.out.set k (.int .u8 (b.toNat : Int))).rd
              rw [hw12] at h
              rw [List.map_set]
              exact h)
            have b12 := hide (show Below w9.heap.size w9 w12 from by rw [← hw12, g5'.out]; exact b11.out.setCell hge _)
            have k12 := hide (k9.out.below b12.out k9.out.lt)
            have q12 := hide (q9.out.below b12.out q9.out.lt)
            have bG12 := hide (show Below G w w12 from b9.out.trans (b12.out.mono (by have := q9.out.lt; omega)))
            have r5 := hide (show Rd w12 w12.heap.size A5 tl.length (tl.map bv) from ((hr5.out.below b59.out).below (b12.out.mono b59.out.size)).mono (by have := b59.out.size; have := b12.out.size; omega))
            rw [hw12]
            clear hr5 b59 ho11 f11 hy b11 o10 b10 s10 r10 hn2 hn3 hnI hn0 hkI
            go_wp2_with (first
              | (with_reducible refine wpList_load_row (o := ⟨some 152, .load 49 (.tmp 9), _, _, _, _⟩) rfl 49 (.tmp 9) rfl g3 rfl 49 V.1.cells (0, 0) _ k12.out.eq Try.underlying49 rfl (info_hd V.1) ?_)
              | (with_reducible refine wpList_load_row (o := ⟨some 153, .load 43 (.tmp 5), _, _, _, _⟩) rfl 43 (.tmp 5) rfl G rfl 43 #[.int .i64 z, .int .i64 x, .int .i64 y] (0, 0) _ q12.out.eq Try.underlying43 rfl (info_pl _ _ _) ?_)
              | (go_at_call 16; (with_reducible refine (hTc.out (some ⟨g11, 0, none⟩) c11 w12 r12.out hct11.out).mono ?_); rintro e w13 ⟨hb, A13, c13, he, hr13⟩; obtain rfl : e = .returned (.tuple #[.slice A13 tl.length c13, .bool true, .int .i64 0]) := he; have s5 := str13 (r5.out.below hb) c5; have s13 := str13 (show Rd w13 w13.heap.size A13 tl.length (tl.map bv) from hr13) c13; have b13 := hide (bG12.out.trans (hb.mono (by have := q12.out.lt; omega))); clear hb hr13)
              | (go_at_call 15; (with_reducible refine (acode_any _ _).mono ?_); rintro e w' ⟨rfl, rfl⟩)
              | (go_at_call 13; (with_reducible refine (hlive.out _).mono ?_); rintro e w20 ⟨rfl, hb20⟩; replace hb20 := hide hb20))
            go_ret
            exact ⟨by simp, b13.out.trans (hb20.out.mono (by have := b13.out.size; omega))⟩
    · replace he := hide he
      obtain ⟨E, hE⟩ : ∃ E, V.2 = E := ⟨_, rfl⟩
      rw [hE] at hh he
      have hne : (E != 0) = true := by simp; exact he.out
      go_enter Try.func4, Try.ntmps4
      go_wp2_with (first
        | (go_at_call 14; go_loud ((with_reducible refine hh.out.mono ?_); rintro e w2 ⟨rfl, hb2⟩; obtain ⟨g3, hg3⟩ : ∃ g, w2.heap.size = g := ⟨_, rfl⟩; obtain ⟨w3, hw3⟩ : ∃ W, w2.alloc (.cells #[.int .u64 0, .int .u64 0, .int .u64 0, .int .u64 0, .int .u64 0, .int .u64 0, .int .u64 0, .int .u64 0, .int .u64 0, .int .u64 0, .int .u64 0, .bool false, .int .i64 0, .int .i64 0, .int .i64 0, .int .i64 0, .int .i64 0, .int .i64 0, .int .i64 0, .int .i64 0, .int .i64 0, .int .i64 0, .int .i64 0, .int .i64 0] 49) = W := ⟨_, rfl⟩; have k3 := hide (show Blk w3 g3 49 #[.int .u64 0, .int .u64 0, .int .u64 0, .int .u64 0, .int .u64 0, .int .u64 0, .int .u64 0, .int .u64 0, .int .u64 0, .int .u64 0, .int .u64 0, .bool false, .int .i64 0, .int .i64 0, .int .i64 0, .int .i64 0, .int .i64 0, .int .i64 0, .int .i64 0, .int .i64 0, .int .i64 0, .int .i64 0, .int .i64 0, .int .i64 0] from by rw [← hw3, ← hg3]; exact Blk.new w2 _ _); have hs3 := hide (show w3.heap.size = g3 + 1 from by rw [← hw3, ← hg3]; simp); have hGg := hide (show G + 1 ≤ g3 from by have := hb2.size; have := q1.out.lt; omega); have b13 := hide (show Below w1.heap.size w1 w3 from by rw [← hw3]; exact hb2.alloc hb2.size _); clear hb2; obtain ⟨w4, hw4⟩ : ∃ W, w3.setRow g3 V.1.cells = W := ⟨_, rfl⟩; have k4 := hide (show Blk w4 g3 49 V.1.cells from by rw [← hw4]; exact k3.out.row _); have b14 := hide (show Below w1.heap.size w1 w4 from by rw [← hw4]; exact below_row b13.out (by have := hs1.out; have := hGg.out; omega) _); have b4 := hide (show Below G w w4 from b1.out.trans (b14.out.mono (by have := hs1.out; omega))); have q4 := hide (q1.out.below b14.out q1.out.lt); have hs4 := hide (show w4.heap.size = g3 + 1 from by rw [← hw4]; simpa using hs3.out)))
        | ((with_reducible refine wpList_store_row (o := ⟨none, .store 49 (.tmp 9) (.tmp 38), _, _, _, _⟩) rfl 49 (.tmp 9) (.tmp 38) rfl g3 V.1.cells rfl rfl 49 _ k3.out.eq (info_hd V.1) (z24hd V.1) V.1.one ?_); rw [hw4])
        | (go_at_call 15; (with_reducible refine (acode_any _ _).mono ?_); rintro e w' ⟨rfl, rfl⟩)
        | (go_at_call 13; (with_reducible refine (hlive.out _).mono ?_); rintro e w20 ⟨rfl, hb20⟩; replace hb20 := hide hb20))
      go_ret
      exact ⟨rfl, b4.out.trans (hb20.out.mono (by have := b4.out.size; have := q4.out.lt; omega))⟩

end Go.Proofs.Ytaapjampmnanmaa
