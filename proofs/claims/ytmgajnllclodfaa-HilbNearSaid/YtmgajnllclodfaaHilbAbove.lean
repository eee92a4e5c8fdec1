/- The walk of the law HilbAbove: it returns true for every triple of numbers and every two bytes. There is no condition. -/
import Derived.Test.YtmgajnllclodfaaHilbIDs
namespace Go.Proofs.Ytmgajnllclodfaa
open Go.RowKit
attribute [local go_sem] grw_all

theorem cells3 {w : World} {g : Nat} {t : TypeId} {a b c : Value} (h : Blk w g t #[a, b, c]) : w.cell? ⟨g, 0, none⟩ = some a ∧ w.cell? ⟨g, 1, none⟩ = some b ∧ w.cell? ⟨g, 2, none⟩ = some c := ⟨h.cell 0, h.cell 1, h.cell 2⟩

/-- The arms of the walk that lead to 'live'. -/
theorem hilbabove_out (z x y : Int) (a b : Nat) (w : World) (ha : a ≤ 255) (hb' : b ≤ 255) (h : ¬ IsPl z x y ∨ (IsPl z x y ∧ z < (a % 31 : Nat) + (b % 31 : Nat))) :
    Calls Try.prog 5 #[.agg #[.int .i64 z, .int .i64 x, .int .i64 y], .int .u8 (a : Int), .int .u8 (b : Int)] w fun e w' => e = .returned (.bool true) ∧ Below w.heap.size w w' := by
  have ea : (a : Int) % 31 = ((a % 31 : Nat) : Int) := by omega
  have eb : (b : Int) % 31 = ((b % 31 : Nat) : Int) := by omega
  have la : a % 31 ≤ 30 := by omega
  have lb : b % 31 ≤ 30 := by omega
  generalize a % 31 = U at *
  generalize b % 31 = V at *
  rcases h with h | ⟨h, hlt⟩
  · have h := hide h
    go_enter Try.func5, Try.ntmps5
    go_wp2_with (first
      | (go_at_call 20; (with_reducible refine (refright_no z x y _ h.out).mono ?_); rintro e w1 ⟨rfl, hb1⟩; obtain ⟨c0, c1, c2, hb⟩ := box3 hb1; clear hb1)
      | (go_at_call 21; (with_reducible refine (hlive_any _).mono ?_); rintro e w5 ⟨rfl, hb5⟩))
    go_ret
    exact ⟨rfl, hb.trans (hb5.mono hb.size)⟩
  · obtain ⟨p, q, r, rfl, rfl, rfl, hp, hq, hr⟩ := isPl_nat h
    have hri := hide (fun W => refright_yes p q r W hp hq hr)
    clear h hq hr
    go_enter Try.func5, Try.ntmps5
    go_wp2_with (first
      | (go_at_call 20; (with_reducible refine (hri.out _).mono ?_); rintro e w1 ⟨rfl, hb1⟩; obtain ⟨c0, c1, c2, hb⟩ := box3 hb1; clear hb1)
      | (go_at_call 21; (with_reducible refine (hlive_any _).mono ?_); rintro e w5 ⟨rfl, hb5⟩))
    go_ret
    exact ⟨rfl, hb.trans (hb5.mono hb.size)⟩

set_option maxHeartbeats 1000000 in
theorem hilbabove_in (z x y a b : Nat) (w : World) (ha : a ≤ 255) (hb' : b ≤ 255) (hz : z ≤ 30) (hx : x < 2 ^ z) (hy : y < 2 ^ z) (hup : a % 31 + b % 31 ≤ z) :
    Calls Try.prog 5 #[.agg #[.int .i64 (z : Int), .int .i64 (x : Int), .int .i64 (y : Int)], .int .u8 (a : Int), .int .u8 (b : Int)] w fun e w' => e = .returned (.bool true) ∧ Below w.heap.size w w' := by
  have ea : (a : Int) % 31 = ((a % 31 : Nat) : Int) := by omega
  have eb : (b : Int) % 31 = ((b % 31 : Nat) : Int) := by omega
  generalize a % 31 = U at *
  generalize b % 31 = V at *
  have hri := hide (fun W => refright_yes z x y W hz hx hy)
  have hpar := hide (fun W => parent_yes z x y U W hz hx hy (by omega))
  have hxu : x / 2 ^ U < 2 ^ (z - U) := by rw [Nat.div_lt_iff_lt_mul (Hilb.two_pos U), ← Nat.pow_add, show z - U + U = z from by omega]; exact hx
  have hyu : y / 2 ^ U < 2 ^ (z - U) := by rw [Nat.div_lt_iff_lt_mul (Hilb.two_pos U), ← Nat.pow_add, show z - U + U = z from by omega]; exact hy
  have hpar2 := hide (fun W => parent_yes (z - U) (x / 2 ^ U) (y / 2 ^ U) V W (by omega) hxu hyu (by omega))
  have hpar3 := fun W => parent_yes z x y (U + V) W hz hx hy hup
  have eUV : z - (U + V) = z - U - V := by omega
  rw [eUV, Nat.pow_add, ← Nat.div_div_eq_div_mul, ← Nat.div_div_eq_div_mul, show ((U + V : Nat) : Int) = (U : Int) + V from by omega] at hpar3
  have hpar3 := hide hpar3
  have hrq := hide (fun W => right_yes (z - U) (x / 2 ^ U) (y / 2 ^ U) W (by omega) hxu hyu)
  have hid := hide (fun W => id_yes z x y W hz hx hy)
  have hidq := fun W => id_yes (z - U) (x / 2 ^ U) (y / 2 ^ U) W (by omega) hxu hyu
  have hu := Hilb.hil_ups U (z - U) x y (by rw [show z - U + U = z from by omega]; exact hx) (by rw [show z - U + U = z from by omega]; exact hy)
  rw [show z - U + U = z from by omega] at hu
  rw [hu] at hidq
  have hidq := hide hidq
  have hfz := hide (fun W => firstin_any z W (by omega))
  have hfq := hide (fun W => firstin_any (z - U) W (by omega))
  have hF := Hilb.F_lt (z := z) (by omega)
  have hFq := Hilb.F_lt (z := z - U) (by omega)
  have hH := hil_bound z x y hz hx hy
  have hHq : Hilb.hil z x y / 4 ^ U ≤ Hilb.hil z x y := Nat.div_le_self _ _
  clear hx hy hxu hyu hu eUV
  have hk1 := hide (rfl : z - U = z - U)
  generalize z - U = Q at *
  generalize x / 2 ^ U = X at *
  generalize y / 2 ^ U = Y at *
  generalize Q - V = Q' at *
  generalize X / 2 ^ V = X' at *
  generalize Y / 2 ^ V = Y' at *
  generalize Hilb.F z = FZ at *
  generalize Hilb.F Q = FQ at *
  generalize Hilb.hil z x y = H at *
  generalize hR0 : H / 4 ^ U = R at *
  have hR := hide hR0
  clear hR0
  clear hk1
  go_enter Try.func5, Try.ntmps5
  go_wp2_with (first
    | (go_at_call 20; (with_reducible refine (hri.out _).mono ?_); rintro e w1 ⟨rfl, hb1⟩; obtain ⟨c0, c1, c2, hb⟩ := box3 hb1; have hk := (Blk.new w 35 #[.int .i64 z, .int .i64 x, .int .i64 y]).below hb1 (by simp); clear hb1)
    | (go_at_call 22; (with_reducible refine (hpar.out _).mono ?_); rintro e w2 ⟨rfl, hb2⟩; have hk2 := hk.below hb2 hk.lt; have hz2 := hb2.size; have hlt2 := hk2.lt))
  have hsum : IntKind.i64.wrap ((U : Int) + V) = (U : Int) + V := IntWalk.i64_in _ ⟨by omega, by omega⟩
  have hk3 := hk2.alloc (.cells #[.int .i64 Q, .int .i64 X, .int .i64 Y] 35)
  have hq3 := Blk.new w2 35 #[.int .i64 Q, .int .i64 X, .int .i64 Y]
  have hb3 := (hb.trans (hb2.mono hb.size)).alloc (Nat.le_trans hb.size hz2) (.cells #[.int .i64 Q, .int .i64 X, .int .i64 Y] 35)
  have hne : Hid (w2.heap.size = w2.heap.size) := rfl
  generalize hg : w2.heap.size = g at *
  generalize w2.alloc (.cells #[.int .i64 Q, .int .i64 X, .int .i64 Y] 35) = w3 at *
  clear hk2 hb2 hk c0 c1 c2 hg hne
  refine wp_region_grw (by kernel_rfl) (by kernel_rfl) ?_
  repeat (first
    | go_big_quiet_skip
    | (go_big_quiet_want
       first
         | (with_reducible refine quiet_load_row 35 (.tmp 9) rfl g rfl 35 #[.int .i64 Q, .int .i64 X, .int .i64 Y] _ Try.underlying35 rfl (info_place _ _ _) hq3 ?_
            simp only [Act.put, List.setIfInBounds_toArray, List.set_cons_zero, List.set_cons_succ]
            go_big_quiet_on)
         | (with_reducible refine quiet_load_row 35 (.tmp 3) rfl w.heap.size rfl 35 #[.int .i64 z, .int .i64 x, .int .i64 y] _ Try.underlying35 rfl (info_place _ _ _) hk3 ?_
            simp only [Act.put, List.setIfInBounds_toArray, List.set_cons_zero, List.set_cons_succ]
            go_big_quiet_on)
         | (go_big_quiet_op
            go_big_quiet_on)
         | (go_big_quiet_op
            apply Exists.intro
            refine ⟨fun w' hw' => ?_, ?_⟩
            · first
                | (go_at_call 22; with_reducible exact grw_step hw' (hpar2.out w'))
                | (go_at_call 22; with_reducible exact grw_step hw' (hpar3.out w'))
                | (go_at_call 23; exact grw_step hw' (hrq.out w'))
            go_big_quiet_on)))
  refine wpQuiet_nil ?_
  intro w9 hb9
  have hk9 := hk3.below hb9.out hk3.lt
  have hq9 := hq3.below hb9.out hq3.lt
  have hb10 := hb3.trans (hb9.out.mono hb3.size)
  have hkl := hk9.lt
  have hql := hq9.lt
  clear hk3 hq3 hb3 hb9 hb hpar hpar2 hpar3 hri hrq
  obtain ⟨c0, c1, c2⟩ := cells3 hk9
  obtain ⟨d0, d1, d2⟩ := cells3 hq9
  go_wp2_with (first
    | (go_at_call 24; (with_reducible refine (hid.out _).mono ?_); rintro e w10 ⟨rfl, hb4⟩; have hk10 := hk9.below hb4 hkl; have hq10 := hq9.below hb4 hql; have hz10 := hb4.size; have hkl10 := hk10.lt; have hql10 := hq10.lt; obtain ⟨i0, i1, i2⟩ := cells3 hk10; obtain ⟨j0, j1, j2⟩ := cells3 hq10)
    | (go_at_call 24; (with_reducible refine (hidq.out _).mono ?_); rintro e w11 ⟨rfl, hb5⟩; have hk11 := hk10.below hb5 hkl10; have hq11 := hq10.below hb5 hql10; have hz11 := hb5.size; obtain ⟨p0, p1, p2⟩ := cells3 hk11; obtain ⟨q0, q1, q2⟩ := cells3 hq11)
    | (go_at_call 25; (with_reducible refine (hfz.out _).mono ?_); rintro e w' ⟨rfl, rfl⟩))
  have eZ : (FZ : Int) + H - FZ = H := by omega
  rw [eZ]
  clear eZ
  go_loop [14, 15] (fun d i => ∃ k : Nat, k ≤ U ∧ i = .int .i64 k ∧ d = .int .u64 ((H / 4 ^ k : Nat) : Int)) (fun _ i => U - (intOf i).toNat)
  case atStart => exact ⟨0, by omega, rfl, by simp⟩
  case round =>
    obtain ⟨k, hk, rfl, rfl⟩ := hrel
    have hn := Nat.div_le_self H (4 ^ k)
    have hs : Hid (H / 4 ^ (k + 1) = H / 4 ^ k / 4) := by show _ = _; rw [Nat.pow_succ, Nat.div_div_eq_div_mul]
    by_cases hlt : k < U
    · generalize H / 4 ^ k = D at *
      go_wp2
      go_round
      case rel => exact ⟨k + 1, by omega, by go_num, by rw [hs.out]; push_cast; rfl⟩
      case measure => simp [intOf]; omega
    · obtain rfl : k = U := by omega
      rw [hR.out]
      have hq : ((FQ + R : Nat) : Int) - FQ = R := by omega
      have hqq : (FQ : Int) + R - FQ = R := by omega
      clear hn hs
      go_wp2_with (first
        | (go_at_call 25; (with_reducible refine (hfq.out _).mono ?_); rintro e w' ⟨rfl, rfl⟩)
        | (go_at_call 26; (with_reducible refine (hcode_any _ _).mono ?_); rintro e w' ⟨rfl, rfl⟩)
        | (go_at_call 21; (with_reducible refine (hlive_any _).mono ?_); rintro e w12 ⟨rfl, hb6⟩))
      go_ret
      have hB11 := (hb10.trans (hb4.mono hb10.size)).trans (hb5.mono (Nat.le_trans hb10.size hz10))
      exact ⟨rfl, hB11.trans (hb6.mono hB11.size)⟩

theorem hilbabove_walk (z x y : Int) (a b : Nat) (w : World) (ha : a ≤ 255) (hb' : b ≤ 255) :
    Calls Try.prog 5 #[.agg #[.int .i64 z, .int .i64 x, .int .i64 y], .int .u8 (a : Int), .int .u8 (b : Int)] w fun e w' => e = .returned (.bool true) ∧ Below w.heap.size w w' := by
  by_cases h : IsPl z x y
  · by_cases h2 : z < (a % 31 : Nat) + (b % 31 : Nat)
    · exact hilbabove_out z x y a b w ha hb' (.inr ⟨h, h2⟩)
    · obtain ⟨p, q, r, rfl, rfl, rfl, hp, hq, hr⟩ := isPl_nat h
      exact hilbabove_in p q r a b w ha hb' hp hq hr (by omega)
  · exact hilbabove_out z x y a b w ha hb' (.inl h)

end Go.Proofs.Ytmgajnllclodfaa
