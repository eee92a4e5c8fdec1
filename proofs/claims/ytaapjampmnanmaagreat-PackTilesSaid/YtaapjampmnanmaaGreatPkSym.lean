/- Layer 14 (pack): the merge in place of the stable sort. The conditions: where the slice lies; both parts are in order. -/
import Derived.Test.YtaapjampmnanmaaGreatPkSwap
import Derived.Test.YtaapjampmnanmaaGreatPkIns
namespace Go.Proofs.YtaapjampmnanmaaGreat
open Go.RowKit
set_option linter.unusedVariables false
set_option linter.unusedSimpArgs false
attribute [local go_sem] grw_all
set_option maxRecDepth 100000 in
set_option maxHeartbeats 4000000 in
theorem symmerge_one (g n c a m b : Nat) (f : Nat → It) (w : World) (h : Arr w g n f) (hn : n ≤ 1048576) (hma : m = a + 1) (hmb : m < b) (hbn : b ≤ n) (hs : St.Srt It.id m b f) :
    Calls Tryz.prog 160 #[.slice (some ⟨g, 0, none⟩) n c, .int .i64 (a : Int), .int .i64 (m : Int), .int .i64 (b : Int), cmpF] w fun e w' => e = .returned (.tuple #[]) ∧ ∃ X, Arr w' g n X ∧ St.Rch a b f X ∧ St.Srt It.id a b X ∧ Chg (fun q => q = g) w w' := by
  have hmI : (m : Int) ≤ 1048576 := by omega
  have hbI : (b : Int) ≤ 1048576 := by omega
  have hd1 : (m : Int) - (a : Int) = 1 := by omega
  have haN : (a : Int) < (n : Int) := by omega
  replace h := hide h
  replace hs := hide hs
  go_enter Tryz.func160, Tryz.ntmps160
  go_wp2
  go_loopw [10, 11] (fun x y wr => ∃ i j : Nat, x = .int .i64 i ∧ y = .int .i64 j ∧ m ≤ i ∧ i ≤ j ∧ j ≤ b ∧ Hid (i = m ∨ (f (i - 1)).id < (f a).id) ∧ Hid (j = b ∨ (f a).id ≤ (f j).id) ∧ Hid (Arr wr g n f) ∧ Hid (Chg (fun q => q = g) w wr)) (fun x y _ => (intOf y).toNat - (intOf x).toNat)
  case atStart => exact ⟨m, b, rfl, rfl, Nat.le_refl _, by omega, Nat.le_refl _, hide (.inl rfl), hide (.inl rfl), h, hide (Chg.refl _ w)⟩
  case round =>
    obtain ⟨i, j, rfl, rfl, hmi, hij, hjb, hi, hj, hA, hC⟩ := hrel
    have hglt := hide (show g < wr.heap.size from hA.out.lt (i := a) (by omega))
    by_cases hlt : i < j
    · obtain ⟨k, hk⟩ : ∃ k, (i + j) / 2 = k := ⟨_, rfl⟩
      have hltI : (i : Int) < (j : Int) := by omega
      have hkI : ((i : Int) + (j : Int)) / 2 = (k : Int) := by omega
      have hjI : (j : Int) ≤ 1048576 := by omega
      have hkn : (k : Int) < (n : Int) := by omega
      have hik : i ≤ k := by omega
      have hkj : k < j := by omega
      have r1 := hA.out.range (i := k) (by omega)
      have r2 := hA.out.range (i := a) (by omega)
      have hA2 := hide (fun W (hb : Grw wr W) => (show Arr W g n f from hA.out.below hb.out hglt.out))
      have hlow := hide (cmpv_neg (f k).id (f a).id)
      have hx := hide (show (f k).id = (f k).id from rfl)
      have hcm := hide (fun W => itcmp_any (f k) (f a) W)
      obtain ⟨S, hS⟩ : ∃ S, cmpv (f k).id (f a).id = S := ⟨_, rfl⟩
      rw [hS] at hcm hlow
      have hni := hide (show S < 0 → (f (k + 1 - 1)).id < (f a).id from fun h => by rw [Nat.add_sub_cancel]; exact hlow.out.1 h)
      have hnj := hide (show 0 ≤ S → (f a).id ≤ (f k).id from fun h => by
        rcases Nat.lt_or_ge (f k).id (f a).id with h1 | h1
        · have := hlow.out.2 h1; omega
        · exact h1)
      clear hx hlow
      obtain ⟨x, hxe⟩ : ∃ x, f k = x := ⟨_, rfl⟩
      obtain ⟨y, hye⟩ : ∃ y, f a = y := ⟨_, rfl⟩
      rw [hxe] at r1
      rw [hye] at r2
      rw [hxe, hye] at hcm
      replace hxe := hide hxe
      replace hye := hide hye
      replace hk := hide hk
      by_cases hlo : S < 0
      · go_upto_region 5 with fail
        refine wp_region_grw (by kernel_rfl) (by kernel_rfl) ?_
        try simp only [Act.put]
        repeat (first
          | go_big_quiet_skip
          | (go_big_quiet_want
             first
               | (with_reducible refine quiet_load_it 129 (.tmp 43) (by rfl) g (k * 2) (by first | rfl | (simp [go_sem]; done)) [.int .u64 (x.id : Int), .slice x.A x.n x.c] _ Tryz.underlying129 rfl (info_it x) (by assumption) hglt.out ?_
                  simp only [Act.put, List.setIfInBounds_toArray, List.set_cons_zero, List.set_cons_succ]
                  go_big_quiet_on)
               | (with_reducible refine quiet_load_it 129 (.tmp 47) (by rfl) g (a * 2) (by first | rfl | (simp [go_sem]; done)) [.int .u64 (y.id : Int), .slice y.A y.n y.c] _ Tryz.underlying129 rfl (info_it y) (by assumption) hglt.out ?_
                  simp only [Act.put, List.setIfInBounds_toArray, List.set_cons_zero, List.set_cons_succ]
                  go_big_quiet_on)
               | (go_big_quiet_op
                  go_big_quiet_on)
               | (go_big_quiet_op
                  apply Exists.intro
                  refine ⟨fun w' hw' => ?_, ?_⟩
                  · (go_at_call 96; exact grw_step hw' (hcm.out w'))
                  go_big_quiet_on)))
        refine wpQuiet_nil ?_
        intro w9 hw9
        have hA9 := hide (hA2.out w9 hw9)
        have hC9 := hide (hC.out.trans (show Chg (fun q => q = g) wr w9 from ⟨hw9.out.os, hw9.out.tape, hw9.out.output, hw9.out.size, fun k hk _ => hw9.out.block k hk⟩) (fun _ _ h => h))
        go_wp2
        go_roundw
        case rel => exact ⟨k + 1, j, by go_num, rfl, by omega, by omega, hjb, hide (.inr (hni.out hlo)), hj, hA9, hC9⟩
        case measure => simp [intOf] <;> omega
      · have hlo2 : 0 ≤ S := by omega
        go_upto_region 5 with fail
        refine wp_region_grw (by kernel_rfl) (by kernel_rfl) ?_
        try simp only [Act.put]
        repeat (first
          | go_big_quiet_skip
          | (go_big_quiet_want
             first
               | (with_reducible refine quiet_load_it 129 (.tmp 43) (by rfl) g (k * 2) (by first | rfl | (simp [go_sem]; done)) [.int .u64 (x.id : Int), .slice x.A x.n x.c] _ Tryz.underlying129 rfl (info_it x) (by assumption) hglt.out ?_
                  simp only [Act.put, List.setIfInBounds_toArray, List.set_cons_zero, List.set_cons_succ]
                  go_big_quiet_on)
               | (with_reducible refine quiet_load_it 129 (.tmp 47) (by rfl) g (a * 2) (by first | rfl | (simp [go_sem]; done)) [.int .u64 (y.id : Int), .slice y.A y.n y.c] _ Tryz.underlying129 rfl (info_it y) (by assumption) hglt.out ?_
                  simp only [Act.put, List.setIfInBounds_toArray, List.set_cons_zero, List.set_cons_succ]
                  go_big_quiet_on)
               | (go_big_quiet_op
                  go_big_quiet_on)
               | (go_big_quiet_op
                  apply Exists.intro
                  refine ⟨fun w' hw' => ?_, ?_⟩
                  · (go_at_call 96; exact grw_step hw' (hcm.out w'))
                  go_big_quiet_on)))
        refine wpQuiet_nil ?_
        intro w9 hw9
        have hA9 := hide (hA2.out w9 hw9)
        have hC9 := hide (hC.out.trans (show Chg (fun q => q = g) wr w9 from ⟨hw9.out.os, hw9.out.tape, hw9.out.output, hw9.out.size, fun k hk _ => hw9.out.block k hk⟩) (fun _ _ h => h))
        go_wp2
        go_roundw
        case rel => exact ⟨i, k, rfl, rfl, hmi, by omega, by omega, hi, hide (.inr (hnj.out hlo2)), hA9, hC9⟩
        case measure => simp [intOf] <;> omega
    · obtain rfl : j = i := by omega
      obtain ⟨t, ht⟩ : ∃ t, j - 1 = t := ⟨_, rfl⟩
      have htI : (j : Int) - 1 = (t : Int) := by omega
      have htw : IntKind.i64.wrap (t : Int) = (t : Int) := by rw [IntKind.wrap_i64]; omega
      have hfin := hide (show St.Srt It.id a b (St.mvu f a t) from by rw [← ht]; exact St.Srt.mvu hs.out hma hmi hjb hi.out hj.out)
      have hrch := hide (show St.Rch a b f (St.mvu f a t) from St.mvu_rch f (by omega) (by omega))
      clear hi hj hs
      go_wp2
      go_loopw [13] (fun x wz => ∃ k : Nat, x = .int .i64 k ∧ a ≤ k ∧ k ≤ t ∧ Hid (Arr wz g n (St.mvu f a k)) ∧ Hid (Chg (fun q => q = g) w wz)) (fun x _ => t - (intOf x).toNat)
      case atStart => exact ⟨a, rfl, Nat.le_refl _, by omega, hide (by rw [St.mvu_zero]; exact hA.out), hC⟩
      case round =>
        clear hA hC
        obtain ⟨k, rfl, hak, hkt, hA, hC⟩ := hrel
        by_cases hlt2 : k < t
        · have hktI : (k : Int) < (t : Int) := by omega
          obtain ⟨q, hq⟩ : ∃ q, k + 1 = q := ⟨_, rfl⟩
          have hqI : (k : Int) + 1 = (q : Int) := by omega
          have hqw : IntKind.i64.wrap (q : Int) = (q : Int) := by rw [IntKind.wrap_i64]; omega
          have hkn : (k : Int) < (n : Int) := by omega
          have hqn : (q : Int) < (n : Int) := by omega
          obtain ⟨x0, x1, x2, x3⟩ := hA.out k (by omega)
          obtain ⟨y0, y1, y2, y3⟩ := hA.out q (by omega)
          have hSw := hide (hA.out.swap (i := k) (j := q) (by omega) (by omega))
          have hnx := hide (show St.swp (St.mvu f a k) k q = St.mvu f a q from by rw [← hq]; exact St.mvu_succ f hak)
          rw [hnx.out] at hSw
          have hC2 := hide (chg_swap (i := k) (j := q) (a := .int .u64 ((St.mvu f a k q).id : Int)) (b := .slice (St.mvu f a k q).A (St.mvu f a k q).n (St.mvu f a k q).c) (c := .int .u64 ((St.mvu f a k k).id : Int)) (d := .slice (St.mvu f a k k).A (St.mvu f a k k).n (St.mvu f a k k).c) hC.out)
          clear hnx
          obtain ⟨x, hx⟩ : ∃ x, St.mvu f a k k = x := ⟨_, rfl⟩
          obtain ⟨y, hy⟩ : ∃ y, St.mvu f a k q = y := ⟨_, rfl⟩
          rw [hx] at x0 x1
          rw [hy] at y0 y1
          rw [hx, hy] at hSw hC2
          replace hx := hide hx
          replace hy := hide hy
          replace hq := hide hq
          go_upto_region 11 with fail
          go_region
          go_wp2
          go_roundw
          case rel => exact ⟨q, rfl, by have := hq.out; omega, by have := hq.out; omega, hide hSw.out.drew, hide hC2.out.drew⟩
          case measure => simp [intOf] <;> omega
        · obtain rfl : k = t := by omega
          go_wp2
          refine bodyPost_ret (results_none rfl _ _ _) rfl ?_
          exact ⟨rfl, _, hA.out, hrch.out, hfin.out, hC.out⟩
set_option maxRecDepth 100000 in
set_option maxHeartbeats 4000000 in
theorem symmerge_last (g n c a m b : Nat) (f : Nat → It) (w : World) (h : Arr w g n f) (hn : n ≤ 1048576) (ham : a + 1 < m) (hmb : b = m + 1) (hbn : b ≤ n) (hs : St.Srt It.id a m f) :
    Calls Tryz.prog 160 #[.slice (some ⟨g, 0, none⟩) n c, .int .i64 (a : Int), .int .i64 (m : Int), .int .i64 (b : Int), cmpF] w fun e w' => e = .returned (.tuple #[]) ∧ ∃ X, Arr w' g n X ∧ St.Rch a b f X ∧ St.Srt It.id a b X ∧ Chg (fun q => q = g) w w' := by
  have hmI : (m : Int) ≤ 1048576 := by omega
  have hbI : (b : Int) ≤ 1048576 := by omega
  have hd1 : (b : Int) - (m : Int) = 1 := by omega
  have hd2 : (((m : Int) - (a : Int)) == 1) = false := by rw [beq_eq_false_iff_ne]; omega
  have hd3 : IntKind.i64.wrap ((m : Int) - (a : Int)) = (m : Int) - (a : Int) := by rw [IntKind.wrap_i64]; omega
  have hmN : (m : Int) < (n : Int) := by omega
  replace h := hide h
  replace hs := hide hs
  go_enter Tryz.func160, Tryz.ntmps160
  go_wp2
  go_loopw [14, 15] (fun x y wr => ∃ i j : Nat, x = .int .i64 i ∧ y = .int .i64 j ∧ a ≤ i ∧ i ≤ j ∧ j ≤ m ∧ Hid (i = a ∨ (f (i - 1)).id ≤ (f m).id) ∧ Hid (j = m ∨ (f m).id ≤ (f j).id) ∧ Hid (Arr wr g n f) ∧ Hid (Chg (fun q => q = g) w wr)) (fun x y _ => (intOf y).toNat - (intOf x).toNat)
  case atStart => exact ⟨a, m, rfl, rfl, Nat.le_refl _, by omega, Nat.le_refl _, hide (.inl rfl), hide (.inl rfl), h, hide (Chg.refl _ w)⟩
  case round =>
    clear hd1 hd2 hd3
    obtain ⟨i, j, rfl, rfl, hmi, hij, hjb, hi, hj, hA, hC⟩ := hrel
    have hglt := hide (show g < wr.heap.size from hA.out.lt (i := a) (by omega))
    by_cases hlt : i < j
    · obtain ⟨k, hk⟩ : ∃ k, (i + j) / 2 = k := ⟨_, rfl⟩
      have hltI : (i : Int) < (j : Int) := by omega
      have hkI : ((i : Int) + (j : Int)) / 2 = (k : Int) := by omega
      have hjI : (j : Int) ≤ 1048576 := by omega
      have hkn : (k : Int) < (n : Int) := by omega
      have hik : i ≤ k := by omega
      have hkj : k < j := by omega
      have r1 := hA.out.range (i := m) (by omega)
      have r2 := hA.out.range (i := k) (by omega)
      have hA2 := hide (fun W (hb : Grw wr W) => (show Arr W g n f from hA.out.below hb.out hglt.out))
      have hlow := hide (cmpv_neg (f m).id (f k).id)
      have hcm := hide (fun W => itcmp_any (f m) (f k) W)
      obtain ⟨S, hS⟩ : ∃ S, cmpv (f m).id (f k).id = S := ⟨_, rfl⟩
      rw [hS] at hcm hlow
      have hni := hide (show 0 ≤ S → (f (k + 1 - 1)).id ≤ (f m).id from fun h => by
        rw [Nat.add_sub_cancel]
        rcases Nat.lt_or_ge (f m).id (f k).id with h1 | h1
        · have := hlow.out.2 h1; omega
        · exact h1)
      have hnj := hide (show S < 0 → (f m).id ≤ (f k).id from fun h => Nat.le_of_lt (hlow.out.1 h))
      clear hlow
      obtain ⟨x, hxe⟩ : ∃ x, f m = x := ⟨_, rfl⟩
      obtain ⟨y, hye⟩ : ∃ y, f k = y := ⟨_, rfl⟩
      rw [hxe] at r1
      rw [hye] at r2
      rw [hxe, hye] at hcm
      replace hxe := hide hxe
      replace hye := hide hye
      replace hk := hide hk
      by_cases hlo : S < 0
      · go_upto_region 17 with fail
        refine wp_region_grw (by kernel_rfl) (by kernel_rfl) ?_
        try simp only [Act.put]
        repeat (first
          | go_big_quiet_skip
          | (go_big_quiet_want
             first
               | (with_reducible refine quiet_load_it 129 (.tmp 95) (by rfl) g (m * 2) (by first | rfl | (simp [go_sem]; done)) [.int .u64 (x.id : Int), .slice x.A x.n x.c] _ Tryz.underlying129 rfl (info_it x) (by assumption) hglt.out ?_
                  simp only [Act.put, List.setIfInBounds_toArray, List.set_cons_zero, List.set_cons_succ]
                  go_big_quiet_on)
               | (with_reducible refine quiet_load_it 129 (.tmp 99) (by rfl) g (k * 2) (by first | rfl | (simp [go_sem]; done)) [.int .u64 (y.id : Int), .slice y.A y.n y.c] _ Tryz.underlying129 rfl (info_it y) (by assumption) hglt.out ?_
                  simp only [Act.put, List.setIfInBounds_toArray, List.set_cons_zero, List.set_cons_succ]
                  go_big_quiet_on)
               | (go_big_quiet_op
                  go_big_quiet_on)
               | (go_big_quiet_op
                  apply Exists.intro
                  refine ⟨fun w' hw' => ?_, ?_⟩
                  · (go_at_call 96; exact grw_step hw' (hcm.out w'))
                  go_big_quiet_on)))
        refine wpQuiet_nil ?_
        intro w9 hw9
        have hA9 := hide (hA2.out w9 hw9)
        have hC9 := hide (hC.out.trans (show Chg (fun q => q = g) wr w9 from ⟨hw9.out.os, hw9.out.tape, hw9.out.output, hw9.out.size, fun k hk _ => hw9.out.block k hk⟩) (fun _ _ h => h))
        go_wp2
        go_roundw
        case rel => exact ⟨i, k, rfl, rfl, hmi, by omega, by omega, hi, hide (.inr (hnj.out hlo)), hA9, hC9⟩
        case measure => simp [intOf] <;> omega
      · have hlo2 : 0 ≤ S := by omega
        go_upto_region 17 with fail
        refine wp_region_grw (by kernel_rfl) (by kernel_rfl) ?_
        try simp only [Act.put]
        repeat (first
          | go_big_quiet_skip
          | (go_big_quiet_want
             first
               | (with_reducible refine quiet_load_it 129 (.tmp 95) (by rfl) g (m * 2) (by first | rfl | (simp [go_sem]; done)) [.int .u64 (x.id : Int), .slice x.A x.n x.c] _ Tryz.underlying129 rfl (info_it x) (by assumption) hglt.out ?_
                  simp only [Act.put, List.setIfInBounds_toArray, List.set_cons_zero, List.set_cons_succ]
                  go_big_quiet_on)
               | (with_reducible refine quiet_load_it 129 (.tmp 99) (by rfl) g (k * 2) (by first | rfl | (simp [go_sem]; done)) [.int .u64 (y.id : Int), .slice y.A y.n y.c] _ Tryz.underlying129 rfl (info_it y) (by assumption) hglt.out ?_
                  simp only [Act.put, List.setIfInBounds_toArray, List.set_cons_zero, List.set_cons_succ]
                  go_big_quiet_on)
               | (go_big_quiet_op
                  go_big_quiet_on)
               | (go_big_quiet_op
                  apply Exists.intro
                  refine ⟨fun w' hw' => ?_, ?_⟩
                  · (go_at_call 96; exact grw_step hw' (hcm.out w'))
                  go_big_quiet_on)))
        refine wpQuiet_nil ?_
        intro w9 hw9
        have hA9 := hide (hA2.out w9 hw9)
        have hC9 := hide (hC.out.trans (show Chg (fun q => q = g) wr w9 from ⟨hw9.out.os, hw9.out.tape, hw9.out.output, hw9.out.size, fun k hk _ => hw9.out.block k hk⟩) (fun _ _ h => h))
        go_wp2
        go_roundw
        case rel => exact ⟨k + 1, j, by go_num, rfl, by omega, by omega, hjb, hide (.inr (hni.out hlo2)), hj, hA9, hC9⟩
        case measure => simp [intOf] <;> omega
    · obtain rfl : j = i := by omega
      have hfin := hide (show St.Srt It.id a b (St.mvd f m j) from St.Srt.mvd hs.out hmb hmi hjb hi.out hj.out)
      have hrch := hide (show St.Rch a b f (St.mvd f m j) from St.mvd_rch f hmi hjb (by omega))
      clear hi hj hs
      go_wp2
      go_loopw [17] (fun x wz => ∃ k : Nat, x = .int .i64 k ∧ j ≤ k ∧ k ≤ m ∧ Hid (Arr wz g n (St.mvd f m k)) ∧ Hid (Chg (fun q => q = g) w wz)) (fun x _ => (intOf x).toNat - j)
      case atStart => exact ⟨m, rfl, hjb, Nat.le_refl _, hide (by rw [St.mvd_zero]; exact hA.out), hC⟩
      case round =>
        clear hA hC
        obtain ⟨k, rfl, hjk, hkm, hA, hC⟩ := hrel
        by_cases hlt2 : j < k
        · have hktI : (j : Int) < (k : Int) := by omega
          obtain ⟨q, hq⟩ : ∃ q, q + 1 = k := ⟨k - 1, by omega⟩
          have hqI : (k : Int) - 1 = (q : Int) := by omega
          have hqw : IntKind.i64.wrap (q : Int) = (q : Int) := by rw [IntKind.wrap_i64]; omega
          have hkn : (k : Int) < (n : Int) := by omega
          have hqn : (q : Int) < (n : Int) := by omega
          obtain ⟨x0, x1, x2, x3⟩ := hA.out k (by omega)
          obtain ⟨y0, y1, y2, y3⟩ := hA.out q (by omega)
          have hSw := hide (hA.out.swap (i := k) (j := q) (by omega) (by omega))
          have hnx := hide (show St.swp (St.mvd f m k) k q = St.mvd f m q from by rw [← hq]; exact St.mvd_succ f (by omega))
          rw [hnx.out] at hSw
          have hC2 := hide (chg_swap (i := k) (j := q) (a := .int .u64 ((St.mvd f m k q).id : Int)) (b := .slice (St.mvd f m k q).A (St.mvd f m k q).n (St.mvd f m k q).c) (c := .int .u64 ((St.mvd f m k k).id : Int)) (d := .slice (St.mvd f m k k).A (St.mvd f m k k).n (St.mvd f m k k).c) hC.out)
          clear hnx
          obtain ⟨x, hx⟩ : ∃ x, St.mvd f m k k = x := ⟨_, rfl⟩
          obtain ⟨y, hy⟩ : ∃ y, St.mvd f m k q = y := ⟨_, rfl⟩
          rw [hx] at x0 x1
          rw [hy] at y0 y1
          rw [hx, hy] at hSw hC2
          replace hx := hide hx
          replace hy := hide hy
          go_upto_region 23 with fail
          go_region
          go_wp2
          go_roundw
          case rel => exact ⟨q, rfl, by omega, by omega, hide hSw.out.drew, hide hC2.out.drew⟩
          case measure => simp [intOf] <;> omega
        · obtain rfl : k = j := by omega
          go_wp2
          refine bodyPost_ret (results_none rfl _ _ _) rfl ?_
          exact ⟨rfl, _, hA.out, hrch.out, hfin.out, hC.out⟩
def Ends (a m b mid s e : Nat) (f : Nat → It) : Prop := a ≤ s ∧ s ≤ m ∧ m ≤ e ∧ e ≤ b ∧ s + e = mid + m ∧ (s = a ∨ e = b ∨ (f (s - 1)).id ≤ (f e).id) ∧ (s = m ∨ e = m ∨ (f (e - 1)).id ≤ (f s).id)
def Lims (a m b mid lo hi : Nat) : Prop := (mid < m ∧ lo = mid + m - b ∧ hi = mid) ∨ (m ≤ mid ∧ lo = a ∧ hi = m)
set_option maxRecDepth 100000 in
set_option maxHeartbeats 8000000 in
theorem symmerge_many (g n c a m b : Nat) (f : Nat → It) (w : World) (h : Arr w g n f) (hn : n ≤ 1048576) (ham : a + 1 < m) (hmb : m + 1 < b) (hbn : b ≤ n) (hs1 : St.Srt It.id a m f) (hs2 : St.Srt It.id m b f)
    (ih : ∀ (a' m' b' : Nat) (f' : Nat → It) (w' : World), b' - a' < b - a → Arr w' g n f' → a' < m' → m' < b' → b' ≤ n → St.Srt It.id a' m' f' → St.Srt It.id m' b' f' →
      Calls Tryz.prog 160 #[.slice (some ⟨g, 0, none⟩) n c, .int .i64 (a' : Int), .int .i64 (m' : Int), .int .i64 (b' : Int), cmpF] w' fun e w'' => e = .returned (.tuple #[]) ∧ ∃ X, Arr w'' g n X ∧ St.Rch a' b' f' X ∧ St.Srt It.id a' b' X ∧ Chg (fun q => q = g) w' w'') :
    Calls Tryz.prog 160 #[.slice (some ⟨g, 0, none⟩) n c, .int .i64 (a : Int), .int .i64 (m : Int), .int .i64 (b : Int), cmpF] w fun e w' => e = .returned (.tuple #[]) ∧ ∃ X, Arr w' g n X ∧ St.Rch a b f X ∧ St.Srt It.id a b X ∧ Chg (fun q => q = g) w w' := by
  have hmI : (m : Int) ≤ 1048576 := by omega
  have hbI : (b : Int) ≤ 1048576 := by omega
  have hd1 : (((b : Int) - (m : Int)) == 1) = false := by rw [beq_eq_false_iff_ne]; omega
  have hd4 : IntKind.i64.wrap ((b : Int) - (m : Int)) = (b : Int) - (m : Int) := by rw [IntKind.wrap_i64]; omega
  have hd2 : (((m : Int) - (a : Int)) == 1) = false := by rw [beq_eq_false_iff_ne]; omega
  have hd3 : IntKind.i64.wrap ((m : Int) - (a : Int)) = (m : Int) - (a : Int) := by rw [IntKind.wrap_i64]; omega
  obtain ⟨mid, hmid⟩ : ∃ k, (a + b) / 2 = k := ⟨_, rfl⟩
  have hmidI : ((a : Int) + (b : Int)) / 2 = (mid : Int) := by omega
  obtain ⟨nn, hnn⟩ : ∃ k, mid + m = k := ⟨_, rfl⟩
  have hnnI : (mid : Int) + (m : Int) = (nn : Int) := by omega
  have hnnw : IntKind.i64.wrap (nn : Int) = (nn : Int) := by rw [IntKind.wrap_i64]; omega
  obtain ⟨p, hp⟩ : ∃ k, nn - 1 = k := ⟨_, rfl⟩
  have hpI : (nn : Int) - 1 = (p : Int) := by omega
  have hpw : IntKind.i64.wrap (p : Int) = (p : Int) := by rw [IntKind.wrap_i64]; omega
  have hmb2 : a < mid ∧ mid < b := by omega
  obtain ⟨lo, hi, hlim⟩ : ∃ lo hi, Lims a m b mid lo hi := by
    rcases Nat.lt_or_ge mid m with h | h
    · exact ⟨_, _, .inl ⟨h, rfl, rfl⟩⟩
    · exact ⟨_, _, .inr ⟨h, rfl, rfl⟩⟩
  have hlh : a ≤ lo ∧ lo ≤ hi ∧ hi ≤ m ∧ hi ≤ mid ∧ nn - lo ≤ b ∧ m ≤ nn - hi ∧ (lo = a ∨ nn - lo = b) ∧ (hi = m ∨ nn - hi = m) ∧ lo ≤ 1048576 := by unfold Lims at hlim; omega
  have hnn2 : (nn : Int) ≤ 2097152 := by omega
  replace h := hide h
  replace hs1 := hide hs1
  replace hs2 := hide hs2
  replace ih := hide ih
  replace hmid := hide hmid
  replace hnn := hide hnn
  replace hp := hide hp
  replace hlh := hide hlh
  have hmb3 := hide hmb2
  have hlimc : (mid < m ∧ lo = mid + m - b ∧ hi = mid) ∨ (m ≤ mid ∧ lo = a ∧ hi = m) := hlim
  clear hlim hmb2
  have key : ∃ T : Int, True := ⟨0, trivial⟩
  rcases hlimc with ⟨hc1, hc2, hc3⟩ | ⟨hc1, hc2, hc3⟩
  · have hT : (mid : Int) < (m : Int) := by omega
    have hloI : (nn : Int) - (b : Int) = (lo : Int) := by have := hnn.out; omega
    have hlow : IntKind.i64.wrap (lo : Int) = (lo : Int) := by rw [IntKind.wrap_i64]; have := hlh.out; omega
    go_enter Tryz.func160, Tryz.ntmps160
    go_wp2
    go_loopw [20, 21] (fun x y wr => ∃ s r : Nat, x = .int .i64 s ∧ y = .int .i64 r ∧ lo ≤ s ∧ s ≤ r ∧ r ≤ hi ∧ Hid (s = lo ∨ (f (s - 1)).id ≤ (f (nn - s)).id) ∧ Hid (r = hi ∨ (f (nn - r - 1)).id ≤ (f r).id) ∧ Hid (Arr wr g n f) ∧ Hid (Chg (fun q => q = g) w wr)) (fun x y _ => (intOf y).toNat - (intOf x).toNat)
    case atStart => exact ⟨lo, hi, by go_num, by go_num, Nat.le_refl _, hlh.out.2.1, Nat.le_refl _, hide (.inl rfl), hide (.inl rfl), h, hide (Chg.refl _ w)⟩
    case round =>
      clear hd1 hd2 hd3 hd4 h
      obtain ⟨s, r, rfl, rfl, hls, hsr, hrh, hsI, hrI, hA, hC⟩ := hrel
      have hglt := hide (show g < wr.heap.size from hA.out.lt (i := a) (by omega))
      by_cases hlt : s < r
      · obtain ⟨k, hk⟩ : ∃ k, (s + r) / 2 = k := ⟨_, rfl⟩
        have hL := hlh.out
        have hltI : (s : Int) < (r : Int) := by omega
        have hkI : ((s : Int) + (r : Int)) / 2 = (k : Int) := by omega
        have hrM : (r : Int) ≤ 1048576 := by omega
        have hkn : (k : Int) < (n : Int) := by omega
        have hsk : s ≤ k := by omega
        have hkr : k < r := by omega
        obtain ⟨d, hd⟩ : ∃ d, p - k = d := ⟨_, rfl⟩
        have hp' := hp.out
        have hdI : (p : Int) - (k : Int) = (d : Int) := by omega
        have hdw : IntKind.i64.wrap (d : Int) = (d : Int) := by rw [IntKind.wrap_i64]; omega
        have hdn : (d : Int) < (n : Int) := by omega
        have r1 := hA.out.range (i := d) (by omega)
        have r2 := hA.out.range (i := k) (by omega)
        have hA2 := hide (fun W (hb : Grw wr W) => (show Arr W g n f from hA.out.below hb.out hglt.out))
        have hlow := hide (cmpv_neg (f d).id (f k).id)
        have hcm := hide (fun W => itcmp_any (f d) (f k) W)
        obtain ⟨S, hS⟩ : ∃ S, cmpv (f d).id (f k).id = S := ⟨_, rfl⟩
        rw [hS] at hcm hlow
        have hni := hide (show 0 ≤ S → (f (k + 1 - 1)).id ≤ (f (nn - (k + 1))).id from fun h => by
          rw [Nat.add_sub_cancel, show nn - (k + 1) = d by omega]
          rcases Nat.lt_or_ge (f d).id (f k).id with h1 | h1
          · have := hlow.out.2 h1; omega
          · exact h1)
        have hnj := hide (show S < 0 → (f (nn - k - 1)).id ≤ (f k).id from fun h => by
          rw [show nn - k - 1 = d by omega]
          exact Nat.le_of_lt (hlow.out.1 h))
        clear hlow hL hp'
        obtain ⟨x, hxe⟩ : ∃ x, f d = x := ⟨_, rfl⟩
        obtain ⟨y, hye⟩ : ∃ y, f k = y := ⟨_, rfl⟩
        rw [hxe] at r1
        rw [hye] at r2
        rw [hxe, hye] at hcm
        replace hxe := hide hxe
        replace hye := hide hye
        replace hk := hide hk
        replace hd := hide hd
        by_cases hlo : S < 0
        · go_upto_region 35 with fail
          refine wp_region_grw (by kernel_rfl) (by kernel_rfl) ?_
          try simp only [Act.put]
          repeat (first
            | go_big_quiet_skip
            | (go_big_quiet_want
               first
                 | (with_reducible refine quiet_load_it 129 (.tmp 163) (by rfl) g (d * 2) (by first | rfl | (simp [go_sem]; done)) [.int .u64 (x.id : Int), .slice x.A x.n x.c] _ Tryz.underlying129 rfl (info_it x) (by assumption) hglt.out ?_
                    simp only [Act.put, List.setIfInBounds_toArray, List.set_cons_zero, List.set_cons_succ]
                    go_big_quiet_on)
                 | (with_reducible refine quiet_load_it 129 (.tmp 167) (by rfl) g (k * 2) (by first | rfl | (simp [go_sem]; done)) [.int .u64 (y.id : Int), .slice y.A y.n y.c] _ Tryz.underlying129 rfl (info_it y) (by assumption) hglt.out ?_
                    simp only [Act.put, List.setIfInBounds_toArray, List.set_cons_zero, List.set_cons_succ]
                    go_big_quiet_on)
                 | (go_big_quiet_op
                    go_big_quiet_on)
                 | (go_big_quiet_op
                    apply Exists.intro
                    refine ⟨fun w' hw' => ?_, ?_⟩
                    · (go_at_call 96; exact grw_step hw' (hcm.out w'))
                    go_big_quiet_on)))
          refine wpQuiet_nil ?_
          intro w9 hw9
          have hA9 := hide (hA2.out w9 hw9)
          have hC9 := hide (hC.out.trans (show Chg (fun q => q = g) wr w9 from ⟨hw9.out.os, hw9.out.tape, hw9.out.output, hw9.out.size, fun k hk _ => hw9.out.block k hk⟩) (fun _ _ h => h))
          go_wp2
          go_roundw
          case rel => exact ⟨s, k, rfl, rfl, hls, by omega, by omega, hsI, hide (.inr (hnj.out hlo)), hA9, hC9⟩
          case measure => simp [intOf] <;> omega
        · have hlo2 : 0 ≤ S := by omega
          go_upto_region 35 with fail
          refine wp_region_grw (by kernel_rfl) (by kernel_rfl) ?_
          try simp only [Act.put]
          repeat (first
            | go_big_quiet_skip
            | (go_big_quiet_want
               first
                 | (with_reducible refine quiet_load_it 129 (.tmp 163) (by rfl) g (d * 2) (by first | rfl | (simp [go_sem]; done)) [.int .u64 (x.id : Int), .slice x.A x.n x.c] _ Tryz.underlying129 rfl (info_it x) (by assumption) hglt.out ?_
                    simp only [Act.put, List.setIfInBounds_toArray, List.set_cons_zero, List.set_cons_succ]
                    go_big_quiet_on)
                 | (with_reducible refine quiet_load_it 129 (.tmp 167) (by rfl) g (k * 2) (by first | rfl | (simp [go_sem]; done)) [.int .u64 (y.id : Int), .slice y.A y.n y.c] _ Tryz.underlying129 rfl (info_it y) (by assumption) hglt.out ?_
                    simp only [Act.put, List.setIfInBounds_toArray, List.set_cons_zero, List.set_cons_succ]
                    go_big_quiet_on)
                 | (go_big_quiet_op
                    go_big_quiet_on)
                 | (go_big_quiet_op
                    apply Exists.intro
                    refine ⟨fun w' hw' => ?_, ?_⟩
                    · (go_at_call 96; exact grw_step hw' (hcm.out w'))
                    go_big_quiet_on)))
          refine wpQuiet_nil ?_
          intro w9 hw9
          have hA9 := hide (hA2.out w9 hw9)
          have hC9 := hide (hC.out.trans (show Chg (fun q => q = g) wr w9 from ⟨hw9.out.os, hw9.out.tape, hw9.out.output, hw9.out.size, fun k hk _ => hw9.out.block k hk⟩) (fun _ _ h => h))
          go_wp2
          go_roundw
          case rel => exact ⟨k + 1, r, by go_num, rfl, by omega, by omega, hrh, hide (.inr (hni.out hlo2)), hrI, hA9, hC9⟩
          case measure => simp [intOf] <;> omega
      · obtain rfl : r = s := by omega
        have hL := hlh.out
        have hnn' := hnn.out
        obtain ⟨e, he⟩ : ∃ e, nn - r = e := ⟨_, rfl⟩
        have heI : (nn : Int) - (r : Int) = (e : Int) := by omega
        have hew : IntKind.i64.wrap (e : Int) = (e : Int) := by rw [IntKind.wrap_i64]; omega
        have hE : Ends a m b mid r e f := by
          have h1 := hsI.out
          have h2 := hrI.out
          rw [he] at h1 h2
          refine ⟨by omega, by omega, by omega, by omega, by omega, ?_, ?_⟩
          · rcases hL.2.2.2.2.2.2.1 with h3 | h3
            · rcases h1 with h1 | h1
              · exact .inl (by omega)
              · exact .inr (.inr h1)
            · rcases h1 with h1 | h1
              · exact .inr (.inl (by omega))
              · exact .inr (.inr h1)
          · rcases hL.2.2.2.2.2.2.2.1 with h3 | h3
            · rcases h2 with h2 | h2
              · exact .inl (by omega)
              · exact .inr (.inr h2)
            · rcases h2 with h2 | h2
              · exact .inr (.inl (by omega))
              · exact .inr (.inr h2)
        obtain ⟨t1, t2, t3, t4, t5, t6, t7⟩ := hE
        obtain ⟨p1, p2, p3, p4, p5⟩ := St.halves hs1.out hs2.out t1 t2 t3 t4 t5 t6 t7
        have hrr : St.Rch a b f (St.rot r m e f) := by
          have := St.rot_rch (m := m) ((m - r) + (e - m)) (m - r) (e - m) f (Nat.le_refl _) (by omega)
          rw [show m - (m - r) = r by omega, show m + (e - m) = e by omega] at this
          exact this.mono t1 t4
        have hrn : r = m ∨ m = e → St.rot r m e f = f := fun h => St.rot_nil f h t2 t3
        have hro : r < m → m < e → Calls Tryz.prog 182 #[.slice (some ⟨g, 0, none⟩) n c, .int .i64 (r : Int), .int .i64 (m : Int), .int .i64 (e : Int), cmpF] wr _ := fun h1 h2 => rotate_any g n c r m e f wr hA.out hn h1 h2 (by omega)
        obtain ⟨X0, hX0⟩ : ∃ X, St.rot r m e f = X := ⟨_, rfl⟩
        rw [hX0] at p1 p2 p3 p4 p5 hrr hrn hro
        clear hX0 hsI hrI t6 t7 hs1 hs2
        replace p1 := hide p1
        replace p2 := hide p2
        replace p3 := hide p3
        replace p4 := hide p4
        replace p5 := hide p5
        replace hrr := hide hrr
        replace hrn := hide hrn
        replace hro := hide hro
        replace hL := hide hL
        rcases (show (r < m ∧ m < e ∧ a < r ∧ e < b) ∨ (r < m ∧ m < e ∧ a < r ∧ e = b) ∨ (r < m ∧ m < e ∧ a = r ∧ e < b) ∨ (r < m ∧ m < e ∧ a = r ∧ e = b) ∨ (r = m ∧ m < mid) ∨ (r = m ∧ m = mid) ∨ (r < m ∧ m = e) by omega) with ⟨c1, c2, c3, c4⟩ | ⟨c1, c2, c3, c4⟩ | ⟨c1, c2, c3, c4⟩ | ⟨c1, c2, c3, c4⟩ | ⟨c1, c2⟩ | ⟨c1, c2⟩ | ⟨c1, c2⟩
        · have i1 : (r : Int) < (m : Int) := by omega
          have i2 : (m : Int) < (e : Int) := by omega
          have i3 : (a : Int) < (r : Int) := by omega
          have i4 : (r : Int) < (mid : Int) := by omega
          have i5 : (mid : Int) < (e : Int) := by omega
          have i6 : (e : Int) < (b : Int) := by omega
          have hrc := hide (hro.out (by omega) (by omega))
          go_wp2_with (first
            | (go_at_call 182; (with_reducible refine hrc.out.mono ?_); rintro e' w2 ⟨rfl, hA2, hC2⟩; replace hA2 := hide hA2; replace hC2 := hide hC2)
            | (go_at_call 160; (with_reducible refine (ih.out a r mid X0 w2 (by omega) hA2.out (by omega) (by omega) (by omega) p1.out p2.out).mono ?_); rintro e' w3 ⟨rfl, X1, hA3, hr3, hs3, hC3⟩; replace hA3 := hide hA3; replace hr3 := hide hr3; replace hs3 := hide hs3; replace hC3 := hide hC3)
            | (go_at_call 160; (with_reducible refine (ih.out mid e b X1 w3 (by omega) hA3.out (by omega) (by omega) (by omega) (St.Srt.out p3.out hr3.out (Nat.le_refl _)) (St.Srt.out p4.out hr3.out (by omega))).mono ?_); rintro e' w4 ⟨rfl, X2, hA4, hr4, hs4, hC4⟩; replace hA4 := hide hA4; replace hr4 := hide hr4; replace hs4 := hide hs4; replace hC4 := hide hC4))
          all_goals (
            go_end0
            exact ⟨rfl, _, hA4.out, (hrr.out.trans ((hr3.out : St.Rch a mid X0 _).mono (Nat.le_refl _) (by omega))).trans ((hr4.out : St.Rch mid b _ _).mono (by omega) (Nat.le_refl _)), St.Srt.join p5.out hr3.out hs3.out hr4.out hs4.out, ((hC.out.trans hC2.out (fun _ _ h => h)).trans hC3.out (fun _ _ h => h)).trans hC4.out (fun _ _ h => h)⟩)
        · have i1 : (r : Int) < (m : Int) := by omega
          have i2 : (m : Int) < (e : Int) := by omega
          have i3 : (a : Int) < (r : Int) := by omega
          have i4 : (r : Int) < (mid : Int) := by omega
          have i5 : (mid : Int) < (e : Int) := by omega
          have i6 : decide ((e : Int) < (b : Int)) = false := by simp; omega
          have n6 : decide (e < b) = false := by simp; omega
          have g6 : ¬ e < b := by omega
          have hrc := hide (hro.out (by omega) (by omega))
          replace c4 := hide c4
          go_wp2_with (first
            | (go_at_call 182; (with_reducible refine hrc.out.mono ?_); rintro e' w2 ⟨rfl, hA2, hC2⟩; replace hA2 := hide hA2; replace hC2 := hide hC2)
            | (go_at_call 160; (with_reducible refine (ih.out a r mid X0 w2 (by omega) hA2.out (by omega) (by omega) (by omega) p1.out p2.out).mono ?_); rintro e' w3 ⟨rfl, X1, hA3, hr3, hs3, hC3⟩; replace hA3 := hide hA3; replace hr3 := hide hr3; replace hs3 := hide hs3; replace hC3 := hide hC3))
          all_goals (
            go_end0
            exact ⟨rfl, _, hA3.out, (hrr.out.trans ((hr3.out : St.Rch a mid X0 _).mono (Nat.le_refl _) (by omega))).trans (((.refl _) : St.Rch mid b _ _).mono (by omega) (Nat.le_refl _)), St.Srt.join p5.out hr3.out hs3.out (.refl _) (St.Srt.out (c4.out ▸ p3.out) hr3.out (Nat.le_refl _)), (hC.out.trans hC2.out (fun _ _ h => h)).trans hC3.out (fun _ _ h => h)⟩)
        · have i1 : (r : Int) < (m : Int) := by omega
          have i2 : (m : Int) < (e : Int) := by omega
          have i3 : decide ((a : Int) < (r : Int)) = false := by simp; omega
          have n3 : decide (a < r) = false := by simp; omega
          have g3 : ¬ a < r := by omega
          have i5 : (mid : Int) < (e : Int) := by omega
          have i6 : (e : Int) < (b : Int) := by omega
          have hrc := hide (hro.out (by omega) (by omega))
          replace c3 := hide c3
          go_wp2_with (first
            | (go_at_call 182; (with_reducible refine hrc.out.mono ?_); rintro e' w2 ⟨rfl, hA2, hC2⟩; replace hA2 := hide hA2; replace hC2 := hide hC2)
            | (go_at_call 160; (with_reducible refine (ih.out mid e b X0 w2 (by omega) hA2.out (by omega) (by omega) (by omega) p3.out p4.out).mono ?_); rintro e' w4 ⟨rfl, X2, hA4, hr4, hs4, hC4⟩; replace hA4 := hide hA4; replace hr4 := hide hr4; replace hs4 := hide hs4; replace hC4 := hide hC4))
          all_goals (
            go_end0
            exact ⟨rfl, _, hA4.out, (hrr.out.trans (((.refl _) : St.Rch a mid X0 _).mono (Nat.le_refl _) (by omega))).trans ((hr4.out : St.Rch mid b _ _).mono (by omega) (Nat.le_refl _)), St.Srt.join p5.out (.refl _) (c3.out ▸ p2.out) hr4.out hs4.out, (hC.out.trans hC2.out (fun _ _ h => h)).trans hC4.out (fun _ _ h => h)⟩)
        · have i1 : (r : Int) < (m : Int) := by omega
          have i2 : (m : Int) < (e : Int) := by omega
          have i3 : decide ((a : Int) < (r : Int)) = false := by simp; omega
          have n3 : decide (a < r) = false := by simp; omega
          have g3 : ¬ a < r := by omega
          have i5 : (mid : Int) < (e : Int) := by omega
          have i6 : decide ((e : Int) < (b : Int)) = false := by simp; omega
          have n6 : decide (e < b) = false := by simp; omega
          have g6 : ¬ e < b := by omega
          have hrc := hide (hro.out (by omega) (by omega))
          replace c3 := hide c3
          replace c4 := hide c4
          go_wp2_with (first
            | (go_at_call 182; (with_reducible refine hrc.out.mono ?_); rintro e' w2 ⟨rfl, hA2, hC2⟩; replace hA2 := hide hA2; replace hC2 := hide hC2))
          all_goals (
            go_end0
            exact ⟨rfl, _, hA2.out, (hrr.out.trans (((.refl _) : St.Rch a mid X0 _).mono (Nat.le_refl _) (by omega))).trans (((.refl _) : St.Rch mid b _ _).mono (by omega) (Nat.le_refl _)), St.Srt.join p5.out (.refl _) (c3.out ▸ p2.out) (.refl _) (c4.out ▸ p3.out), hC.out.trans hC2.out (fun _ _ h => h)⟩)
        · have c3 : e = mid := by omega
          have i1 : decide ((r : Int) < (m : Int)) = false := by simp; omega
          have n1 : decide (r < m) = false := by simp; omega
          have g1 : ¬ r < m := by omega
          have i3 : (a : Int) < (r : Int) := by omega
          have i4 : (r : Int) < (mid : Int) := by omega
          have i5 : decide ((mid : Int) < (e : Int)) = false := by simp; omega
          have n5 : decide (mid < e) = false := by simp; omega
          have g5 : ¬ mid < e := by omega
          rw [← hrn.out (by omega)] at hA
          replace c1 := hide c1
          replace c3 := hide c3
          go_wp2_with (first
            | (go_at_call 160; (with_reducible refine (ih.out a r mid X0 wr (by omega) hA.out (by omega) (by omega) (by omega) p1.out p2.out).mono ?_); rintro e' w3 ⟨rfl, X1, hA3, hr3, hs3, hC3⟩; replace hA3 := hide hA3; replace hr3 := hide hr3; replace hs3 := hide hs3; replace hC3 := hide hC3))
          all_goals (
            go_end0
            exact ⟨rfl, _, hA3.out, (hrr.out.trans ((hr3.out : St.Rch a mid X0 _).mono (Nat.le_refl _) (by omega))).trans (((.refl _) : St.Rch mid b _ _).mono (by omega) (Nat.le_refl _)), St.Srt.join p5.out hr3.out hs3.out (.refl _) (St.Srt.out (c3.out ▸ p4.out) hr3.out (Nat.le_refl _)), (hC.out).trans hC3.out (fun _ _ h => h)⟩)
        · have c3 : e = mid := by omega
          have c4 : r = mid := by omega
          have i1 : decide ((r : Int) < (m : Int)) = false := by simp; omega
          have n1 : decide (r < m) = false := by simp; omega
          have g1 : ¬ r < m := by omega
          have i3 : (a : Int) < (r : Int) := by omega
          have i4 : decide ((r : Int) < (mid : Int)) = false := by simp; omega
          have n4 : decide (r < mid) = false := by simp; omega
          have g4 : ¬ r < mid := by omega
          have i5 : decide ((mid : Int) < (e : Int)) = false := by simp; omega
          have n5 : decide (mid < e) = false := by simp; omega
          have g5 : ¬ mid < e := by omega
          rw [← hrn.out (by omega)] at hA
          replace c1 := hide c1
          replace c2 := hide c2
          replace c3 := hide c3
          replace c4 := hide c4
          go_wp2
          all_goals (
            go_end0
            exact ⟨rfl, _, hA.out, (hrr.out.trans (((.refl _) : St.Rch a mid X0 _).mono (Nat.le_refl _) (by omega))).trans (((.refl _) : St.Rch mid b _ _).mono (by omega) (Nat.le_refl _)), St.Srt.join p5.out (.refl _) (c4.out ▸ p1.out) (.refl _) (c3.out ▸ p4.out), hC.out⟩)
        · have c4 : r = mid := by omega
          have i1 : (r : Int) < (m : Int) := by omega
          have i2 : decide ((m : Int) < (e : Int)) = false := by simp; omega
          have n2 : decide (m < e) = false := by simp; omega
          have g2 : ¬ m < e := by omega
          have i3 : (a : Int) < (r : Int) := by omega
          have i4 : decide ((r : Int) < (mid : Int)) = false := by simp; omega
          have n4 : decide (r < mid) = false := by simp; omega
          have g4 : ¬ r < mid := by omega
          have i5 : (mid : Int) < (e : Int) := by omega
          have i6 : (e : Int) < (b : Int) := by omega
          rw [← hrn.out (by omega)] at hA
          replace c2 := hide c2
          replace c4 := hide c4
          go_wp2_with (first
            | (go_at_call 160; (with_reducible refine (ih.out mid e b X0 wr (by omega) hA.out (by omega) (by omega) (by omega) p3.out p4.out).mono ?_); rintro e' w4 ⟨rfl, X2, hA4, hr4, hs4, hC4⟩; replace hA4 := hide hA4; replace hr4 := hide hr4; replace hs4 := hide hs4; replace hC4 := hide hC4))
          all_goals (
            go_end0
            exact ⟨rfl, _, hA4.out, (hrr.out.trans (((.refl _) : St.Rch a mid X0 _).mono (Nat.le_refl _) (by omega))).trans ((hr4.out : St.Rch mid b _ _).mono (by omega) (Nat.le_refl _)), St.Srt.join p5.out (.refl _) (c4.out ▸ p1.out) hr4.out hs4.out, (hC.out).trans hC4.out (fun _ _ h => h)⟩)
  · have hT : (m : Int) ≤ (mid : Int) := by omega
    have hT2 : decide ((mid : Int) < (m : Int)) = false := by simp; omega
    go_enter Tryz.func160, Tryz.ntmps160
    go_wp2
    go_loopw [20, 21] (fun x y wr => ∃ s r : Nat, x = .int .i64 s ∧ y = .int .i64 r ∧ lo ≤ s ∧ s ≤ r ∧ r ≤ hi ∧ Hid (s = lo ∨ (f (s - 1)).id ≤ (f (nn - s)).id) ∧ Hid (r = hi ∨ (f (nn - r - 1)).id ≤ (f r).id) ∧ Hid (Arr wr g n f) ∧ Hid (Chg (fun q => q = g) w wr)) (fun x y _ => (intOf y).toNat - (intOf x).toNat)
    case atStart => exact ⟨lo, hi, by go_num, by go_num, Nat.le_refl _, hlh.out.2.1, Nat.le_refl _, hide (.inl rfl), hide (.inl rfl), h, hide (Chg.refl _ w)⟩
    case round =>
      clear hd1 hd2 hd3 hd4 h
      obtain ⟨s, r, rfl, rfl, hls, hsr, hrh, hsI, hrI, hA, hC⟩ := hrel
      have hglt := hide (show g < wr.heap.size from hA.out.lt (i := a) (by omega))
      by_cases hlt : s < r
      · obtain ⟨k, hk⟩ : ∃ k, (s + r) / 2 = k := ⟨_, rfl⟩
        have hL := hlh.out
        have hltI : (s : Int) < (r : Int) := by omega
        have hkI : ((s : Int) + (r : Int)) / 2 = (k : Int) := by omega
        have hrM : (r : Int) ≤ 1048576 := by omega
        have hkn : (k : Int) < (n : Int) := by omega
        have hsk : s ≤ k := by omega
        have hkr : k < r := by omega
        obtain ⟨d, hd⟩ : ∃ d, p - k = d := ⟨_, rfl⟩
        have hp' := hp.out
        have hdI : (p : Int) - (k : Int) = (d : Int) := by omega
        have hdw : IntKind.i64.wrap (d : Int) = (d : Int) := by rw [IntKind.wrap_i64]; omega
        have hdn : (d : Int) < (n : Int) := by omega
        have r1 := hA.out.range (i := d) (by omega)
        have r2 := hA.out.range (i := k) (by omega)
        have hA2 := hide (fun W (hb : Grw wr W) => (show Arr W g n f from hA.out.below hb.out hglt.out))
        have hlow := hide (cmpv_neg (f d).id (f k).id)
        have hcm := hide (fun W => itcmp_any (f d) (f k) W)
        obtain ⟨S, hS⟩ : ∃ S, cmpv (f d).id (f k).id = S := ⟨_, rfl⟩
        rw [hS] at hcm hlow
        have hni := hide (show 0 ≤ S → (f (k + 1 - 1)).id ≤ (f (nn - (k + 1))).id from fun h => by
          rw [Nat.add_sub_cancel, show nn - (k + 1) = d by omega]
          rcases Nat.lt_or_ge (f d).id (f k).id with h1 | h1
          · have := hlow.out.2 h1; omega
          · exact h1)
        have hnj := hide (show S < 0 → (f (nn - k - 1)).id ≤ (f k).id from fun h => by
          rw [show nn - k - 1 = d by omega]
          exact Nat.le_of_lt (hlow.out.1 h))
        clear hlow hL hp'
        obtain ⟨x, hxe⟩ : ∃ x, f d = x := ⟨_, rfl⟩
        obtain ⟨y, hye⟩ : ∃ y, f k = y := ⟨_, rfl⟩
        rw [hxe] at r1
        rw [hye] at r2
        rw [hxe, hye] at hcm
        replace hxe := hide hxe
        replace hye := hide hye
        replace hk := hide hk
        replace hd := hide hd
        by_cases hlo : S < 0
        · go_upto_region 35 with fail
          refine wp_region_grw (by kernel_rfl) (by kernel_rfl) ?_
          try simp only [Act.put]
          repeat (first
            | go_big_quiet_skip
            | (go_big_quiet_want
               first
                 | (with_reducible refine quiet_load_it 129 (.tmp 163) (by rfl) g (d * 2) (by first | rfl | (simp [go_sem]; done)) [.int .u64 (x.id : Int), .slice x.A x.n x.c] _ Tryz.underlying129 rfl (info_it x) (by assumption) hglt.out ?_
                    simp only [Act.put, List.setIfInBounds_toArray, List.set_cons_zero, List.set_cons_succ]
                    go_big_quiet_on)
                 | (with_reducible refine quiet_load_it 129 (.tmp 167) (by rfl) g (k * 2) (by first | rfl | (simp [go_sem]; done)) [.int .u64 (y.id : Int), .slice y.A y.n y.c] _ Tryz.underlying129 rfl (info_it y) (by assumption) hglt.out ?_
                    simp only [Act.put, List.setIfInBounds_toArray, List.set_cons_zero, List.set_cons_succ]
                    go_big_quiet_on)
                 | (go_big_quiet_op
                    go_big_quiet_on)
                 | (go_big_quiet_op
                    apply Exists.intro
                    refine ⟨fun w' hw' => ?_, ?_⟩
                    · (go_at_call 96; exact grw_step hw' (hcm.out w'))
                    go_big_quiet_on)))
          refine wpQuiet_nil ?_
          intro w9 hw9
          have hA9 := hide (hA2.out w9 hw9)
          have hC9 := hide (hC.out.trans (show Chg (fun q => q = g) wr w9 from ⟨hw9.out.os, hw9.out.tape, hw9.out.output, hw9.out.size, fun k hk _ => hw9.out.block k hk⟩) (fun _ _ h => h))
          go_wp2
          go_roundw
          case rel => exact ⟨s, k, rfl, rfl, hls, by omega, by omega, hsI, hide (.inr (hnj.out hlo)), hA9, hC9⟩
          case measure => simp [intOf] <;> omega
        · have hlo2 : 0 ≤ S := by omega
          go_upto_region 35 with fail
          refine wp_region_grw (by kernel_rfl) (by kernel_rfl) ?_
          try simp only [Act.put]
          repeat (first
            | go_big_quiet_skip
            | (go_big_quiet_want
               first
                 | (with_reducible refine quiet_load_it 129 (.tmp 163) (by rfl) g (d * 2) (by first | rfl | (simp [go_sem]; done)) [.int .u64 (x.id : Int), .slice x.A x.n x.c] _ Tryz.underlying129 rfl (info_it x) (by assumption) hglt.out ?_
                    simp only [Act.put, List.setIfInBounds_toArray, List.set_cons_zero, List.set_cons_succ]
                    go_big_quiet_on)
                 | (with_reducible refine quiet_load_it 129 (.tmp 167) (by rfl) g (k * 2) (by first | rfl | (simp [go_sem]; done)) [.int .u64 (y.id : Int), .slice y.A y.n y.c] _ Tryz.underlying129 rfl (info_it y) (by assumption) hglt.out ?_
                    simp only [Act.put, List.setIfInBounds_toArray, List.set_cons_zero, List.set_cons_succ]
                    go_big_quiet_on)
                 | (go_big_quiet_op
                    go_big_quiet_on)
                 | (go_big_quiet_op
                    apply Exists.intro
                    refine ⟨fun w' hw' => ?_, ?_⟩
                    · (go_at_call 96; exact grw_step hw' (hcm.out w'))
                    go_big_quiet_on)))
          refine wpQuiet_nil ?_
          intro w9 hw9
          have hA9 := hide (hA2.out w9 hw9)
          have hC9 := hide (hC.out.trans (show Chg (fun q => q = g) wr w9 from ⟨hw9.out.os, hw9.out.tape, hw9.out.output, hw9.out.size, fun k hk _ => hw9.out.block k hk⟩) (fun _ _ h => h))
          go_wp2
          go_roundw
          case rel => exact ⟨k + 1, r, by go_num, rfl, by omega, by omega, hrh, hide (.inr (hni.out hlo2)), hrI, hA9, hC9⟩
          case measure => simp [intOf] <;> omega
      · obtain rfl : r = s := by omega
        have hL := hlh.out
        have hnn' := hnn.out
        obtain ⟨e, he⟩ : ∃ e, nn - r = e := ⟨_, rfl⟩
        have heI : (nn : Int) - (r : Int) = (e : Int) := by omega
        have hew : IntKind.i64.wrap (e : Int) = (e : Int) := by rw [IntKind.wrap_i64]; omega
        have hE : Ends a m b mid r e f := by
          have h1 := hsI.out
          have h2 := hrI.out
          rw [he] at h1 h2
          refine ⟨by omega, by omega, by omega, by omega, by omega, ?_, ?_⟩
          · rcases hL.2.2.2.2.2.2.1 with h3 | h3
            · rcases h1 with h1 | h1
              · exact .inl (by omega)
              · exact .inr (.inr h1)
            · rcases h1 with h1 | h1
              · exact .inr (.inl (by omega))
              · exact .inr (.inr h1)
          · rcases hL.2.2.2.2.2.2.2.1 with h3 | h3
            · rcases h2 with h2 | h2
              · exact .inl (by omega)
              · exact .inr (.inr h2)
            · rcases h2 with h2 | h2
              · exact .inr (.inl (by omega))
              · exact .inr (.inr h2)
        obtain ⟨t1, t2, t3, t4, t5, t6, t7⟩ := hE
        obtain ⟨p1, p2, p3, p4, p5⟩ := St.halves hs1.out hs2.out t1 t2 t3 t4 t5 t6 t7
        have hrr : St.Rch a b f (St.rot r m e f) := by
          have := St.rot_rch (m := m) ((m - r) + (e - m)) (m - r) (e - m) f (Nat.le_refl _) (by omega)
          rw [show m - (m - r) = r by omega, show m + (e - m) = e by omega] at this
          exact this.mono t1 t4
        have hrn : r = m ∨ m = e → St.rot r m e f = f := fun h => St.rot_nil f h t2 t3
        have hro : r < m → m < e → Calls Tryz.prog 182 #[.slice (some ⟨g, 0, none⟩) n c, .int .i64 (r : Int), .int .i64 (m : Int), .int .i64 (e : Int), cmpF] wr _ := fun h1 h2 => rotate_any g n c r m e f wr hA.out hn h1 h2 (by omega)
        obtain ⟨X0, hX0⟩ : ∃ X, St.rot r m e f = X := ⟨_, rfl⟩
        rw [hX0] at p1 p2 p3 p4 p5 hrr hrn hro
        clear hX0 hsI hrI t6 t7 hs1 hs2
        replace p1 := hide p1
        replace p2 := hide p2
        replace p3 := hide p3
        replace p4 := hide p4
        replace p5 := hide p5
        replace hrr := hide hrr
        replace hrn := hide hrn
        replace hro := hide hro
        replace hL := hide hL
        rcases (show (r < m ∧ m < e ∧ a < r ∧ e < b) ∨ (r < m ∧ m < e ∧ a < r ∧ e = b) ∨ (r < m ∧ m < e ∧ a = r ∧ e < b) ∨ (r < m ∧ m < e ∧ a = r ∧ e = b) ∨ (r = m ∧ m < mid) ∨ (r = m ∧ m = mid) ∨ (r < m ∧ m = e) by omega) with ⟨c1, c2, c3, c4⟩ | ⟨c1, c2, c3, c4⟩ | ⟨c1, c2, c3, c4⟩ | ⟨c1, c2, c3, c4⟩ | ⟨c1, c2⟩ | ⟨c1, c2⟩ | ⟨c1, c2⟩
        · have i1 : (r : Int) < (m : Int) := by omega
          have i2 : (m : Int) < (e : Int) := by omega
          have i3 : (a : Int) < (r : Int) := by omega
          have i4 : (r : Int) < (mid : Int) := by omega
          have i5 : (mid : Int) < (e : Int) := by omega
          have i6 : (e : Int) < (b : Int) := by omega
          have hrc := hide (hro.out (by omega) (by omega))
          go_wp2_with (first
            | (go_at_call 182; (with_reducible refine hrc.out.mono ?_); rintro e' w2 ⟨rfl, hA2, hC2⟩; replace hA2 := hide hA2; replace hC2 := hide hC2)
            | (go_at_call 160; (with_reducible refine (ih.out a r mid X0 w2 (by omega) hA2.out (by omega) (by omega) (by omega) p1.out p2.out).mono ?_); rintro e' w3 ⟨rfl, X1, hA3, hr3, hs3, hC3⟩; replace hA3 := hide hA3; replace hr3 := hide hr3; replace hs3 := hide hs3; replace hC3 := hide hC3)
            | (go_at_call 160; (with_reducible refine (ih.out mid e b X1 w3 (by omega) hA3.out (by omega) (by omega) (by omega) (St.Srt.out p3.out hr3.out (Nat.le_refl _)) (St.Srt.out p4.out hr3.out (by omega))).mono ?_); rintro e' w4 ⟨rfl, X2, hA4, hr4, hs4, hC4⟩; replace hA4 := hide hA4; replace hr4 := hide hr4; replace hs4 := hide hs4; replace hC4 := hide hC4))
          all_goals (
            go_end0
            exact ⟨rfl, _, hA4.out, (hrr.out.trans ((hr3.out : St.Rch a mid X0 _).mono (Nat.le_refl _) (by omega))).trans ((hr4.out : St.Rch mid b _ _).mono (by omega) (Nat.le_refl _)), St.Srt.join p5.out hr3.out hs3.out hr4.out hs4.out, ((hC.out.trans hC2.out (fun _ _ h => h)).trans hC3.out (fun _ _ h => h)).trans hC4.out (fun _ _ h => h)⟩)
        · have i1 : (r : Int) < (m : Int) := by omega
          have i2 : (m : Int) < (e : Int) := by omega
          have i3 : (a : Int) < (r : Int) := by omega
          have i4 : (r : Int) < (mid : Int) := by omega
          have i5 : (mid : Int) < (e : Int) := by omega
          have i6 : decide ((e : Int) < (b : Int)) = false := by simp; omega
          have n6 : decide (e < b) = false := by simp; omega
          have g6 : ¬ e < b := by omega
          have hrc := hide (hro.out (by omega) (by omega))
          replace c4 := hide c4
          go_wp2_with (first
            | (go_at_call 182; (with_reducible refine hrc.out.mono ?_); rintro e' w2 ⟨rfl, hA2, hC2⟩; replace hA2 := hide hA2; replace hC2 := hide hC2)
            | (go_at_call 160; (with_reducible refine (ih.out a r mid X0 w2 (by omega) hA2.out (by omega) (by omega) (by omega) p1.out p2.out).mono ?_); rintro e' w3 ⟨rfl, X1, hA3, hr3, hs3, hC3⟩; replace hA3 := hide hA3; replace hr3 := hide hr3; replace hs3 := hide hs3; replace hC3 := hide hC3))
          all_goals (
            go_end0
            exact ⟨rfl, _, hA3.out, (hrr.out.trans ((hr3.out : St.Rch a mid X0 _).mono (Nat.le_refl _) (by omega))).trans (((.refl _) : St.Rch mid b _ _).mono (by omega) (Nat.le_refl _)), St.Srt.join p5.out hr3.out hs3.out (.refl _) (St.Srt.out (c4.out ▸ p3.out) hr3.out (Nat.le_refl _)), (hC.out.trans hC2.out (fun _ _ h => h)).trans hC3.out (fun _ _ h => h)⟩)
        · have i1 : (r : Int) < (m : Int) := by omega
          have i2 : (m : Int) < (e : Int) := by omega
          have i3 : decide ((a : Int) < (r : Int)) = false := by simp; omega
          have n3 : decide (a < r) = false := by simp; omega
          have g3 : ¬ a < r := by omega
          have i5 : (mid : Int) < (e : Int) := by omega
          have i6 : (e : Int) < (b : Int) := by omega
          have hrc := hide (hro.out (by omega) (by omega))
          replace c3 := hide c3
          go_wp2_with (first
            | (go_at_call 182; (with_reducible refine hrc.out.mono ?_); rintro e' w2 ⟨rfl, hA2, hC2⟩; replace hA2 := hide hA2; replace hC2 := hide hC2)
            | (go_at_call 160; (with_reducible refine (ih.out mid e b X0 w2 (by omega) hA2.out (by omega) (by omega) (by omega) p3.out p4.out).mono ?_); rintro e' w4 ⟨rfl, X2, hA4, hr4, hs4, hC4⟩; replace hA4 := hide hA4; replace hr4 := hide hr4; replace hs4 := hide hs4; replace hC4 := hide hC4))
          all_goals (
            go_end0
            exact ⟨rfl, _, hA4.out, (hrr.out.trans (((.refl _) : St.Rch a mid X0 _).mono (Nat.le_refl _) (by omega))).trans ((hr4.out : St.Rch mid b _ _).mono (by omega) (Nat.le_refl _)), St.Srt.join p5.out (.refl _) (c3.out ▸ p2.out) hr4.out hs4.out, (hC.out.trans hC2.out (fun _ _ h => h)).trans hC4.out (fun _ _ h => h)⟩)
        · have i1 : (r : Int) < (m : Int) := by omega
          have i2 : (m : Int) < (e : Int) := by omega
          have i3 : decide ((a : Int) < (r : Int)) = false := by simp; omega
          have n3 : decide (a < r) = false := by simp; omega
          have g3 : ¬ a < r := by omega
          have i5 : (mid : Int) < (e : Int) := by omega
          have i6 : decide ((e : Int) < (b : Int)) = false := by simp; omega
          have n6 : decide (e < b) = false := by simp; omega
          have g6 : ¬ e < b := by omega
          have hrc := hide (hro.out (by omega) (by omega))
          replace c3 := hide c3
          replace c4 := hide c4
          go_wp2_with (first
            | (go_at_call 182; (with_reducible refine hrc.out.mono ?_); rintro e' w2 ⟨rfl, hA2, hC2⟩; replace hA2 := hide hA2; replace hC2 := hide hC2))
          all_goals (
            go_end0
            exact ⟨rfl, _, hA2.out, (hrr.out.trans (((.refl _) : St.Rch a mid X0 _).mono (Nat.le_refl _) (by omega))).trans (((.refl _) : St.Rch mid b _ _).mono (by omega) (Nat.le_refl _)), St.Srt.join p5.out (.refl _) (c3.out ▸ p2.out) (.refl _) (c4.out ▸ p3.out), hC.out.trans hC2.out (fun _ _ h => h)⟩)
        · have c3 : e = mid := by omega
          have i1 : decide ((r : Int) < (m : Int)) = false := by simp; omega
          have n1 : decide (r < m) = false := by simp; omega
          have g1 : ¬ r < m := by omega
          have i3 : (a : Int) < (r : Int) := by omega
          have i4 : (r : Int) < (mid : Int) := by omega
          have i5 : decide ((mid : Int) < (e : Int)) = false := by simp; omega
          have n5 : decide (mid < e) = false := by simp; omega
          have g5 : ¬ mid < e := by omega
          rw [← hrn.out (by omega)] at hA
          replace c1 := hide c1
          replace c3 := hide c3
          go_wp2_with (first
            | (go_at_call 160; (with_reducible refine (ih.out a r mid X0 wr (by omega) hA.out (by omega) (by omega) (by omega) p1.out p2.out).mono ?_); rintro e' w3 ⟨rfl, X1, hA3, hr3, hs3, hC3⟩; replace hA3 := hide hA3; replace hr3 := hide hr3; replace hs3 := hide hs3; replace hC3 := hide hC3))
          all_goals (
            go_end0
            exact ⟨rfl, _, hA3.out, (hrr.out.trans ((hr3.out : St.Rch a mid X0 _).mono (Nat.le_refl _) (by omega))).trans (((.refl _) : St.Rch mid b _ _).mono (by omega) (Nat.le_refl _)), St.Srt.join p5.out hr3.out hs3.out (.refl _) (St.Srt.out (c3.out ▸ p4.out) hr3.out (Nat.le_refl _)), (hC.out).trans hC3.out (fun _ _ h => h)⟩)
        · have c3 : e = mid := by omega
          have c4 : r = mid := by omega
          have i1 : decide ((r : Int) < (m : Int)) = false := by simp; omega
          have n1 : decide (r < m) = false := by simp; omega
          have g1 : ¬ r < m := by omega
          have i3 : (a : Int) < (r : Int) := by omega
          have i4 : decide ((r : Int) < (mid : Int)) = false := by simp; omega
          have n4 : decide (r < mid) = false := by simp; omega
          have g4 : ¬ r < mid := by omega
          have i5 : decide ((mid : Int) < (e : Int)) = false := by simp; omega
          have n5 : decide (mid < e) = false := by simp; omega
          have g5 : ¬ mid < e := by omega
          rw [← hrn.out (by omega)] at hA
          replace c1 := hide c1
          replace c2 := hide c2
          replace c3 := hide c3
          replace c4 := hide c4
          go_wp2
          all_goals (
            go_end0
            exact ⟨rfl, _, hA.out, (hrr.out.trans (((.refl _) : St.Rch a mid X0 _).mono (Nat.le_refl _) (by omega))).trans (((.refl _) : St.Rch mid b _ _).mono (by omega) (Nat.le_refl _)), St.Srt.join p5.out (.refl _) (c4.out ▸ p1.out) (.refl _) (c3.out ▸ p4.out), hC.out⟩)
        · have c4 : r = mid := by omega
          have i1 : (r : Int) < (m : Int) := by omega
          have i2 : decide ((m : Int) < (e : Int)) = false := by simp; omega
          have n2 : decide (m < e) = false := by simp; omega
          have g2 : ¬ m < e := by omega
          have i3 : (a : Int) < (r : Int) := by omega
          have i4 : decide ((r : Int) < (mid : Int)) = false := by simp; omega
          have n4 : decide (r < mid) = false := by simp; omega
          have g4 : ¬ r < mid := by omega
          have i5 : (mid : Int) < (e : Int) := by omega
          have i6 : (e : Int) < (b : Int) := by omega
          rw [← hrn.out (by omega)] at hA
          replace c2 := hide c2
          replace c4 := hide c4
          go_wp2_with (first
            | (go_at_call 160; (with_reducible refine (ih.out mid e b X0 wr (by omega) hA.out (by omega) (by omega) (by omega) p3.out p4.out).mono ?_); rintro e' w4 ⟨rfl, X2, hA4, hr4, hs4, hC4⟩; replace hA4 := hide hA4; replace hr4 := hide hr4; replace hs4 := hide hs4; replace hC4 := hide hC4))
          all_goals (
            go_end0
            exact ⟨rfl, _, hA4.out, (hrr.out.trans (((.refl _) : St.Rch a mid X0 _).mono (Nat.le_refl _) (by omega))).trans ((hr4.out : St.Rch mid b _ _).mono (by omega) (Nat.le_refl _)), St.Srt.join p5.out (.refl _) (c4.out ▸ p1.out) hr4.out hs4.out, (hC.out).trans hC4.out (fun _ _ h => h)⟩)
end Go.Proofs.YtaapjampmnanmaaGreat
