/- Layer 13 (arch): Find of the reference, by value: the entry that a number has. The conditions: where the bytes lie, and how many they are. -/
import Derived.Test.YtaapjampmnanmaaGreatArchFi
namespace Go.Proofs.YtaapjampmnanmaaGreat
open Go.RowKit Go.Shelf
set_option linter.unusedVariables false
set_option linter.unusedSimpArgs false

set_option maxRecDepth 100000 in
set_option maxHeartbeats 4000000 in
theorem ardown_any (A : Option Addr) (c : Nat) (bs : List UInt8) (h : Hd) (id : Nat) (hc : bs.length ≤ c) (hm : bs.length ≤ 131072) (hid : id ≤ 18446744073709551615) (hl1 : h.l1 ≤ 18446744073709551615) : ∀ (k a n deep : Nat) (w : World) (r : Ent × Bool × Nat)
    (_ : Rd w w.heap.size A bs.length (bs.map bv)) (_ : deep + k = 5) (_ : DownR bs h.inn h.l0 h.l1 id k a n r),
    Calls Tryz.prog 31 #[.slice A bs.length c, .agg h.cells, .int .u64 (id : Int), .int .u64 (a : Int), .int .u64 (n : Int), .int .i64 (deep : Int)] w fun e w' => e = .returned (.tuple #[.agg r.1.cells, .bool r.2.1, .int .i64 (r.2.2 : Int)]) ∧ Below w.heap.size w w' := by
  intro k
  induction k with
  | zero =>
    intro a n deep w r hr hk hD
    obtain rfl : deep = 5 := by omega
    obtain rfl : r = (Ent.zero, false, 3) := hD
    obtain ⟨G, hG⟩ : ∃ G, w.heap.size = G := ⟨_, rfl⟩
    obtain ⟨w1, hw1⟩ : ∃ W, w.alloc (.cells h.cells 30) = W := ⟨_, rfl⟩
    have hs1 : w1.heap.size = G + 1 := by rw [← hw1, ← hG]; simp
    obtain ⟨w2, hw2⟩ : ∃ W, w1.alloc (.cells #[.int .u64 0, .int .u64 0, .int .u64 0, .int .u64 0] 36) = W := ⟨_, rfl⟩
    have he := hide (show Blk w2 (G + 1) 36 #[.int .u64 0, .int .u64 0, .int .u64 0, .int .u64 0] from by rw [← hw2, ← hs1]; exact Blk.new w1 _ _)
    have hb := hide (show Below G w w2 from by rw [← hw2]; refine Below.alloc ?_ (by rw [hs1]; omega) _; rw [← hw1, ← hG]; exact (Below.refl _ w).alloc (Nat.le_refl _) _)
    rw [hG] at hr ⊢
    clear hr hk hc hm hid hl1
    go_enter Tryz.func31, Tryz.ntmps31
    go_wp2_with (with_reducible refine wpList_store_row (o := ⟨none, .store 36 (.tmp 12) (.tmp 21), _, _, _, _⟩) rfl 36 (.tmp 12) (.tmp 21) rfl (G + 1) #[.int .u64 0, .int .u64 0, .int .u64 0, .int .u64 0] rfl rfl 36 _ he.out.eq (info_ent _ _ _ _) rfl (ent_one _ _ _ _) ?_)
    refine bodyPost_ret_by (results_row_tmp2 rfl _ _ (G + 1) 36 #[.int .u64 0, .int .u64 0, .int .u64 0, .int .u64 0] (0, 0) _ rfl (he.out.row _) Tryz.underlying36 rfl (info_ent _ _ _ _)) rfl ⟨rfl, below_row hb.out (by omega) _⟩
  | succ k ih =>
    intro a n deep w r hr hk hD
    obtain ⟨⟨es, er⟩, hd, h1, h2⟩ := hD
    obtain ⟨G, hG⟩ : ∃ G, w.heap.size = G := ⟨_, rfl⟩
    obtain ⟨w1, hw1⟩ : ∃ W, w.alloc (.cells h.cells 30) = W := ⟨_, rfl⟩
    have hs1 : w1.heap.size = G + 1 := by rw [← hw1, ← hG]; simp
    obtain ⟨w2, hw2⟩ : ∃ W, w1.alloc (.cells #[.int .u64 0, .int .u64 0, .int .u64 0, .int .u64 0] 36) = W := ⟨_, rfl⟩
    have hk2 := hide (show Blk w2 G 30 h.cells from by rw [← hw2, ← hw1, ← hG]; exact (Blk.new w _ _).alloc _)
    have he2 := hide (show Blk w2 (G + 1) 36 #[.int .u64 0, .int .u64 0, .int .u64 0, .int .u64 0] from by rw [← hw2, ← hs1]; exact Blk.new w1 _ _)
    have hb2 := hide (show Below G w w2 from by rw [← hw2]; refine Below.alloc ?_ (by rw [hs1]; omega) _; rw [← hw1, ← hG]; exact (Below.refl _ w).alloc (Nat.le_refl _) _)
    have hs2 := hide (show w2.heap.size = G + 2 from by rw [← hw2]; simp [hs1])
    have hdI : (deep : Int) ≤ 4 := by omega
    have hdw : IntKind.i64.wrap ((deep : Int) + 1) = (deep : Int) + 1 := by rw [IntKind.wrap_i64]; omega
    have hrd := hide (fun W (hb : Below G w W) => (show Rd W W.heap.size A bs.length (bs.map bv) from (hr.below (by rw [hG]; exact hb)).mono hb.size))
    have hdd := hide (ardir_any A c bs h a n w2 (hrd.out w2 hb2.out) hc hm (es, er) hd)
    rw [hG] at hr ⊢
    replace hr := hide hr
    replace hc := hide hc
    replace hm := hide hm
    replace hid := hide hid
    replace hl1 := hide hl1
    replace ih := hide ih
    replace hk := hide hk
    rcases Nat.eq_zero_or_pos er with rfl | hpos
    · obtain ⟨⟨⟨xi, xo, xl, xr⟩, ok⟩, hf, h3, h4⟩ := h2 rfl
      replace hf := hide hf
      replace h3 := hide h3
      replace h4 := hide h4
      clear h1 h2 hd
      go_enter Tryz.func31, Tryz.ntmps31
      go_upto_region 7 with (first
        | (with_reducible refine wpList_load_row (o := ⟨some 24, .load 30 (.tmp 7), _, _, _, _⟩) rfl 30 (.tmp 7) rfl G rfl 30 h.cells (0, 0) _ hk2.out.eq Tryz.underlying30 rfl (info_hd h) ?_)
        | (go_at_call 15; (with_reducible refine hdd.out.mono ?_); rintro e w3 ⟨hb3, A3, c3, he3, hr3, hR3⟩; obtain rfl : e = .returned (.tuple #[.slice A3 es.length c3, .int .i64 0]) := he3; replace hb3 := hide hb3; replace hr3 := hide hr3; replace hR3 := hide (hR3 rfl))
        | (go_at_call 63; (with_reducible refine (refdfind_any A3 c3 es id w3 w3.heap.size hr3.out (Nat.le_refl _) hR3.out.big hR3.out.few hid.out (⟨xi, xo, xl, xr⟩, ok) hf.out.no hf.out.yes).mono ?_); rintro e w4 ⟨he4, hb4⟩; obtain rfl : e = .returned (.tuple #[.agg #[.int .u64 (xi : Int), .int .u64 (xo : Int), .int .u64 (xl : Int), .int .u64 (xr : Int)], .bool ok]) := he4; replace hb4 := hide hb4; obtain ⟨g5, hg5⟩ : ∃ g, w4.heap.size = g := ⟨_, rfl⟩; obtain ⟨w5, hw5⟩ : ∃ W, w4.alloc (.cells #[.int .u64 0, .int .u64 0, .int .u64 0, .int .u64 0] 36) = W := ⟨_, rfl⟩; have k5 := hide (show Blk w5 g5 36 #[.int .u64 0, .int .u64 0, .int .u64 0, .int .u64 0] from by rw [← hw5, ← hg5]; exact Blk.new w4 _ _); obtain ⟨w6, hw6⟩ : ∃ W, w5.setRow g5 #[.int .u64 (xi : Int), .int .u64 (xo : Int), .int .u64 (xl : Int), .int .u64 (xr : Int)] = W := ⟨_, rfl⟩)
        | ((with_reducible refine wpList_store_row (o := ⟨none, .store 36 (.tmp 17) (.tmp 38), _, _, _, _⟩) rfl 36 (.tmp 17) (.tmp 38) rfl g5 #[.int .u64 (xi : Int), .int .u64 (xo : Int), .int .u64 (xl : Int), .int .u64 (xr : Int)] rfl rfl 36 _ k5.out.eq (info_ent _ _ _ _) rfl (ent_one _ _ _ _) ?_); rw [hw6]))
      have k6 := hide (show Blk w6 g5 36 #[.int .u64 (xi : Int), .int .u64 (xo : Int), .int .u64 (xl : Int), .int .u64 (xr : Int)] from by rw [← hw6]; exact k5.out.row _)
      have b4 := hide (show Below G w w4 from (hb2.out.trans (hb3.out.mono (by have := hs2.out; omega))).trans (hb4.out.mono (by have := hs2.out; have := hb3.out.size; omega)))
      have hg5G := hide (show G + 2 ≤ g5 from by have := hs2.out; have := hb3.out.size; have := hb4.out.size; omega)
      have b46 := hide (show Below g5 w4 w6 from by rw [← hw6]; exact below_row (by rw [← hw5, ← hg5]; exact (Below.refl _ w4).alloc (Nat.le_refl _) _) (Nat.le_refl _) _)
      have b6 := hide (show Below G w w6 from b4.out.trans (b46.out.mono (by have := hg5G.out; omega)))
      have b26 := hide (show Below (G + 2) w2 w6 from ((hb3.out.mono (by have := hs2.out; omega)).trans (hb4.out.mono (by have := hs2.out; have := hb3.out.size; omega))).trans (b46.out.mono hg5G.out))
      have kh6 := hide (hk2.out.below b26.out (by omega))
      have e6 := hide (he2.out.below b26.out (by omega))
      have d1 : w6.cell? ⟨g5, 1, none⟩ = some (.int .u64 (xo : Int)) := k6.out.cell 1
      have d2 : w6.cell? ⟨g5, 2, none⟩ = some (.int .u64 (xl : Int)) := k6.out.cell 2
      have d3 : w6.cell? ⟨g5, 3, none⟩ = some (.int .u64 (xr : Int)) := k6.out.cell 3
      have d4 : w6.cell? ⟨G, 4, none⟩ = some (.int .u64 (h.l0 : Int)) := by
        have := kh6.out.cell 4
        rw [show h.cells[4]? = some (.int .u64 (h.l0 : Int)) from rfl] at this
        exact this
      have d5 : w6.cell? ⟨G, 5, none⟩ = some (.int .u64 (h.l1 : Int)) := by
        have := kh6.out.cell 5
        rw [show h.cells[5]? = some (.int .u64 (h.l1 : Int)) from rfl] at this
        exact this
      clear hw5 hw6 k5 hb3 hb4 hdd hr3 hR3 hk2 he2
      cases ok with
      | false =>
        obtain rfl := h3.out rfl
        go_wp2_with (with_reducible refine wpList_store_row (o := ⟨none, .store 36 (.tmp 12) (.tmp 42), _, _, _, _⟩) rfl 36 (.tmp 12) (.tmp 42) rfl (G + 1) #[.int .u64 0, .int .u64 0, .int .u64 0, .int .u64 0] rfl rfl 36 _ e6.out.eq (info_ent _ _ _ _) rfl (ent_one _ _ _ _) ?_)
        refine bodyPost_ret_by (results_row_tmp2 rfl _ _ (G + 1) 36 #[.int .u64 0, .int .u64 0, .int .u64 0, .int .u64 0] (0, 0) _ rfl (e6.out.row _) Tryz.underlying36 rfl (info_ent _ _ _ _)) rfl ⟨rfl, below_row b6.out (by omega) _⟩
      | true =>
        rcases Nat.eq_zero_or_pos xr with rfl | hxr
        · by_cases hW : Within xo xl h.l1
          · have hwt := hide (show Calls Tryz.prog 35 #[.int .u64 (xo : Int), .int .u64 (xl : Int), .int .u64 (h.l1 : Int)] w6 fun e w' => e = .returned (.bool true) ∧ w6 = w' from by have := rwithin_any xo xl h.l1 w6 hl1.out; rw [decide_eq_true hW] at this; exact this)
            have hdn := ((h4.out rfl).2 rfl).2 hW
            obtain ⟨s, hs⟩ : ∃ s, (h.l0 + xo) % 18446744073709551616 = s := ⟨_, rfl⟩
            rw [hs] at hdn
            have hsw : IntKind.u64.wrap ((h.l0 : Int) + (xo : Int)) = (s : Int) := by rw [IntKind.wrap_u64]; omega
            have hsm : ((h.l0 : Int) + (xo : Int)) % 18446744073709551616 = (s : Int) := by omega
            have hrec := hide (ih.out s xl (deep + 1) w6 r (hrd.out w6 b6.out) (by have := hk.out; omega) hdn)
            rw [show ((deep + 1 : Nat) : Int) = (deep : Int) + 1 from by omega] at hrec
            obtain ⟨⟨ri, ro, rl, rr⟩, rb, rn⟩ := r
            replace hdn := hide hdn
            replace h4 := hide h4.out
            replace h3 := hide h3.out
            replace hs := hide hs
            replace hW := hide hW
            go_wp2_with (first
              | (go_at_call 35; (with_reducible refine hwt.out.mono ?_); rintro e w7 ⟨rfl, rfl⟩)
              | (with_reducible refine wpList_load_row (o := ⟨some 58, .load 30 (.tmp 7), _, _, _, _⟩) rfl 30 (.tmp 7) rfl G rfl 30 h.cells (0, 0) _ kh6.out.eq Tryz.underlying30 rfl (info_hd h) ?_)
              | (go_at_call 31; (with_reducible refine hrec.out.mono ?_); rintro e w7 ⟨he7, hb7⟩; obtain rfl : e = .returned (.tuple #[.agg #[.int .u64 (ri : Int), .int .u64 (ro : Int), .int .u64 (rl : Int), .int .u64 (rr : Int)], .bool rb, .int .i64 (rn : Int)]) := he7; have b7 := hide (b6.out.trans (hb7.mono (by have := e6.out.lt; omega))); have e7 := hide (e6.out.below hb7 e6.out.lt); clear hb7)
              | (with_reducible refine wpList_store_row (o := ⟨none, .store 36 (.tmp 12) (.tmp 71), _, _, _, _⟩) rfl 36 (.tmp 12) (.tmp 71) rfl (G + 1) #[.int .u64 (ri : Int), .int .u64 (ro : Int), .int .u64 (rl : Int), .int .u64 (rr : Int)] rfl rfl 36 _ e7.out.eq (info_ent _ _ _ _) rfl (ent_one _ _ _ _) ?_))
            refine bodyPost_ret_by (results_row_tmp2 rfl _ _ (G + 1) 36 #[.int .u64 (ri : Int), .int .u64 (ro : Int), .int .u64 (rl : Int), .int .u64 (rr : Int)] (0, 0) _ rfl (e7.out.row _) Tryz.underlying36 rfl (info_ent _ _ _ _)) rfl ⟨rfl, below_row b7.out (by omega) _⟩
          · obtain rfl := ((h4.out rfl).2 rfl).1 hW
            have hwt := hide (show Calls Tryz.prog 35 #[.int .u64 (xo : Int), .int .u64 (xl : Int), .int .u64 (h.l1 : Int)] w6 fun e w' => e = .returned (.bool false) ∧ w6 = w' from by have := rwithin_any xo xl h.l1 w6 hl1.out; rw [decide_eq_false hW] at this; exact this)
            replace hW := hide hW
            go_wp2_with (first
              | (go_at_call 35; (with_reducible refine hwt.out.mono ?_); rintro e w7 ⟨rfl, rfl⟩)
              | (with_reducible refine wpList_store_row (o := ⟨none, .store 36 (.tmp 12) (.tmp 56), _, _, _, _⟩) rfl 36 (.tmp 12) (.tmp 56) rfl (G + 1) #[.int .u64 0, .int .u64 0, .int .u64 0, .int .u64 0] rfl rfl 36 _ e6.out.eq (info_ent _ _ _ _) rfl (ent_one _ _ _ _) ?_))
            refine bodyPost_ret_by (results_row_tmp2 rfl _ _ (G + 1) 36 #[.int .u64 0, .int .u64 0, .int .u64 0, .int .u64 0] (0, 0) _ rfl (e6.out.row _) Tryz.underlying36 rfl (info_ent _ _ _ _)) rfl ⟨rfl, below_row b6.out (by omega) _⟩
        · obtain rfl := (h4.out rfl).1 hxr
          have hxI : (0 : Int) < (xr : Int) := by omega
          go_wp2_with (first
            | (with_reducible refine wpList_load_row (o := ⟨some 46, .load 36 (.tmp 17), _, _, _, _⟩) rfl 36 (.tmp 17) rfl g5 rfl 36 #[.int .u64 (xi : Int), .int .u64 (xo : Int), .int .u64 (xl : Int), .int .u64 (xr : Int)] (0, 0) _ k6.out.eq Tryz.underlying36 rfl (info_ent _ _ _ _) ?_)
            | (with_reducible refine wpList_store_row (o := ⟨none, .store 36 (.tmp 12) (.tmp 46), _, _, _, _⟩) rfl 36 (.tmp 12) (.tmp 46) rfl (G + 1) #[.int .u64 (xi : Int), .int .u64 (xo : Int), .int .u64 (xl : Int), .int .u64 (xr : Int)] rfl rfl 36 _ e6.out.eq (info_ent _ _ _ _) rfl (ent_one _ _ _ _) ?_))
          refine bodyPost_ret_by (results_row_tmp2 rfl _ _ (G + 1) 36 #[.int .u64 (xi : Int), .int .u64 (xo : Int), .int .u64 (xl : Int), .int .u64 (xr : Int)] (0, 0) _ rfl (e6.out.row _) Tryz.underlying36 rfl (info_ent _ _ _ _)) rfl ⟨rfl, below_row b6.out (by omega) _⟩
    · obtain rfl := h1 (by show er ≠ 0; omega)
      have hne : ((er : Int) != 0) = true := by simp; omega
      clear h2 hd
      go_enter Tryz.func31, Tryz.ntmps31
      go_wp2_with (first
        | (with_reducible refine wpList_load_row (o := ⟨some 24, .load 30 (.tmp 7), _, _, _, _⟩) rfl 30 (.tmp 7) rfl G rfl 30 h.cells (0, 0) _ hk2.out.eq Tryz.underlying30 rfl (info_hd h) ?_)
        | (go_at_call 15; (with_reducible refine hdd.out.mono ?_); rintro e w3 ⟨hb3, A3, c3, he3, hr3, hR3⟩; obtain rfl : e = .returned (.tuple #[.slice A3 es.length c3, .int .i64 er]) := he3; have b3 := hide (hb2.out.trans (hb3.mono (by have := hs2.out; omega))); have e3 := hide (he2.out.below hb3 he2.out.lt); clear hb3 hr3 hR3)
        | (with_reducible refine wpList_store_row (o := ⟨none, .store 36 (.tmp 12) (.tmp 32), _, _, _, _⟩) rfl 36 (.tmp 12) (.tmp 32) rfl (G + 1) #[.int .u64 0, .int .u64 0, .int .u64 0, .int .u64 0] rfl rfl 36 _ e3.out.eq (info_ent _ _ _ _) rfl (ent_one _ _ _ _) ?_))
      refine bodyPost_ret_by (results_row_tmp2 rfl _ _ (G + 1) 36 #[.int .u64 0, .int .u64 0, .int .u64 0, .int .u64 0] (0, 0) _ rfl (e3.out.row _) Tryz.underlying36 rfl (info_ent _ _ _ _)) rfl ⟨rfl, below_row b3.out (by omega) _⟩

set_option maxRecDepth 100000 in
set_option maxHeartbeats 4000000 in
theorem arfind_any (A : Option Addr) (c : Nat) (bs : List UInt8) (h : Hd) (id : Nat) (w : World) (hr : Rd w w.heap.size A bs.length (bs.map bv)) (hc : bs.length ≤ c) (hm : bs.length ≤ 131072) (hid : id ≤ 18446744073709551615) (hl1 : h.l1 ≤ 18446744073709551615) (r : Ent × Bool × Nat)
    (hD : DownR bs h.inn h.l0 h.l1 id 4 h.r0 h.r1 r) :
    Calls Tryz.prog 11 #[.slice A bs.length c, .agg h.cells, .int .u64 (id : Int)] w fun e w' => e = .returned (.tuple #[.agg r.1.cells, .bool r.2.1, .int .i64 (r.2.2 : Int)]) ∧ Below w.heap.size w w' := by
  obtain ⟨G, hG⟩ : ∃ G, w.heap.size = G := ⟨_, rfl⟩
  obtain ⟨w1, hw1⟩ : ∃ W, w.alloc (.cells h.cells 30) = W := ⟨_, rfl⟩
  have hs1 : w1.heap.size = G + 1 := by rw [← hw1, ← hG]; simp
  obtain ⟨w2, hw2⟩ : ∃ W, w1.alloc (.cells #[.int .u64 0, .int .u64 0, .int .u64 0, .int .u64 0] 36) = W := ⟨_, rfl⟩
  have hk2 := hide (show Blk w2 G 30 h.cells from by rw [← hw2, ← hw1, ← hG]; exact (Blk.new w _ _).alloc _)
  have he2 := hide (show Blk w2 (G + 1) 36 #[.int .u64 0, .int .u64 0, .int .u64 0, .int .u64 0] from by rw [← hw2, ← hs1]; exact Blk.new w1 _ _)
  have hb2 := hide (show Below G w w2 from by rw [← hw2]; refine Below.alloc ?_ (by rw [hs1]; omega) _; rw [← hw1, ← hG]; exact (Below.refl _ w).alloc (Nat.le_refl _) _)
  have c0 : w2.cell? ⟨G, 0, none⟩ = some (.int .u64 (h.r0 : Int)) := by
    have := hk2.out.cell 0
    rw [show h.cells[0]? = some (.int .u64 (h.r0 : Int)) from rfl] at this
    exact this
  have c1 : w2.cell? ⟨G, 1, none⟩ = some (.int .u64 (h.r1 : Int)) := by
    have := hk2.out.cell 1
    rw [show h.cells[1]? = some (.int .u64 (h.r1 : Int)) from rfl] at this
    exact this
  have hrec := hide (show Calls Tryz.prog 31 #[.slice A bs.length c, .agg h.cells, .int .u64 (id : Int), .int .u64 (h.r0 : Int), .int .u64 (h.r1 : Int), .int .i64 1] w2 _ from
    ardown_any A c bs h id hc hm hid hl1 4 h.r0 h.r1 1 w2 r ((hr.below (by rw [hG]; exact hb2.out)).mono hb2.out.size) rfl hD)
  obtain ⟨⟨ri, ro, rl, rr⟩, rb, rn⟩ := r
  rw [hG] at hr ⊢
  clear hr hc hm hid hl1 hD
  go_enter Tryz.func11, Tryz.ntmps11
  go_wp2_with (first
    | (with_reducible refine wpList_load_row (o := ⟨some 10, .load 30 (.tmp 4), _, _, _, _⟩) rfl 30 (.tmp 4) rfl G rfl 30 h.cells (0, 0) _ hk2.out.eq Tryz.underlying30 rfl (info_hd h) ?_)
    | (go_at_call 31; (with_reducible refine hrec.out.mono ?_); rintro e w7 ⟨he7, hb7⟩; obtain rfl : e = .returned (.tuple #[.agg #[.int .u64 (ri : Int), .int .u64 (ro : Int), .int .u64 (rl : Int), .int .u64 (rr : Int)], .bool rb, .int .i64 (rn : Int)]) := he7; have b7 := hide (hb2.out.trans (hb7.mono (by have := he2.out.lt; omega))); have e7 := hide (he2.out.below hb7 he2.out.lt); clear hb7)
    | (with_reducible refine wpList_store_row (o := ⟨none, .store 36 (.tmp 6) (.tmp 19), _, _, _, _⟩) rfl 36 (.tmp 6) (.tmp 19) rfl (G + 1) #[.int .u64 (ri : Int), .int .u64 (ro : Int), .int .u64 (rl : Int), .int .u64 (rr : Int)] rfl rfl 36 _ e7.out.eq (info_ent _ _ _ _) rfl (ent_one _ _ _ _) ?_))
  refine bodyPost_ret_by (results_row_tmp2 rfl _ _ (G + 1) 36 #[.int .u64 (ri : Int), .int .u64 (ro : Int), .int .u64 (rl : Int), .int .u64 (rr : Int)] (0, 0) _ rfl (e7.out.row _) Tryz.underlying36 rfl (info_ent _ _ _ _)) rfl ⟨rfl, below_row b7.out (by omega) _⟩

end Go.Proofs.YtaapjampmnanmaaGreat
