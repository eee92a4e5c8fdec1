/- The walks of layer 11's reference: the number of a place. -/
import Derived.Test.YtmgajnllclodfaaHilbB
namespace Go.Proofs.Ytmgajnllclodfaa
open Go.RowKit

set_option maxHeartbeats 1000000 in
theorem refid_yes (z x y : Nat) (w : World) (hz : z ≤ 30) (hx : x < 2 ^ z) (hy : y < 2 ^ z) :
    Calls Try.prog 29 #[.agg #[.int .i64 (z : Int), .int .i64 (x : Int), .int .i64 (y : Int)]] w
      fun e w' => e = .returned (.tuple #[.int .u64 ((Hilb.F z + Hilb.hil z x y : Nat) : Int), .int .i64 0]) ∧ Below w.heap.size w w' := by
  have hS := pow2_le z hz
  have hx1 : x < 1073741824 := by omega
  have hy1 : y < 1073741824 := by omega
  have hx := hide hx
  have hy := hide hy
  clear hS
  go_enter Try.func29, Try.ntmps29
  go_wp2_with (first
    | (go_at_call 20; (with_reducible refine (refright_yes z x y _ hz hx.out hy.out).mono ?_); rintro e w1 ⟨rfl, hb1⟩; obtain ⟨c0, c1, c2, hb⟩ := box3 hb1; clear hb1)
    | (go_at_call 28; (with_reducible refine (reffirst_any z z _ (by omega)).mono ?_); rintro e w' ⟨rfl, rfl⟩))
  go_quiet (fail)
  go_wp2
  have hb := hide hb
  go_loopw [4, 5, 6, 7] (fun d p q i wr => ∃ k X Y D n : Nat, k ≤ z ∧ i = .int .i64 ((z : Int) - 1 - k) ∧ d = .int .u64 (D : Int) ∧ p = .int .i64 (X : Int) ∧ q = .int .i64 (Y : Int) ∧ Hid (X < 2 ^ (z - k)) ∧ Hid (Y < 2 ^ (z - k)) ∧ Hid (D + Hilb.hil (z - k) X Y = Hilb.F z + Hilb.hil z x y) ∧ wr = w1.drewN n) (fun _ _ _ i _ => (intOf i + 1).toNat)
  case atStart => exact ⟨0, x, y, Hilb.F z, _, by omega, by go_num, rfl, rfl, rfl, hx, hy, rfl, rfl⟩
  case round =>
    obtain ⟨k, X, Y, D, n, hk, rfl, rfl, rfl, rfl, hX, hY, hD, rfl⟩ := hrel
    by_cases hlt : k < z
    · have hj : z - k = (z - 1 - k) + 1 := by omega
      rw [hj] at hX hY hD
      have hpw := fun W => power_any (z - 1 - k) W (by omega)
      have L := lev_of (z - 1 - k) X Y (by omega) hX.out hY.out
      have hh := hil_lev (z - 1 - k) X Y hX.out hY.out
      have hd := Hilb.dig_lt _ _ L.a2 L.b2
      have hT := Hilb.turn_lt (X / 2 ^ (z - 1 - k)) (Y / 2 ^ (z - 1 - k)) L.mx L.my
      have hl := hil_bound z x y hz hx.out hy.out
      have hq : z - (k + 1) = z - 1 - k := by omega
      have hlift : Hid (∀ t, t < 2 ^ (z - 1 - k) → t < 2 ^ (z - (k + 1))) := by show ∀ _, _; intro t h; rw [hq]; exact h
      have hq := hide hq
      obtain ⟨lpos, lle, lqx, lqy, la, lb, lmx, lmy, lsq, lsq0⟩ := L
      have hD' := hD.out
      rw [hh] at hD'
      have hez : ((z - 1 - k : Nat) : Int) = (z : Int) - 1 - k := by omega
      rw [hez] at hpw
      clear hX hY hD hj hh hez
      generalize 2 ^ (z - 1 - k) = s at *
      have mx := Int.natCast_emod X s
      have my := Int.natCast_emod Y s
      generalize X % s = U at *
      generalize Y % s = V at *
      generalize X / s = a at *
      generalize Y / s = b at *
      have mx := mx.symm
      have my := my.symm
      have hpw := hide hpw
      have hpos : (1 : Int) ≤ s := by omega
      have ha' : a = 0 ∨ a = 1 := by omega
      have hb' : b = 0 ∨ b = 1 := by omega
      have hkz : (k : Int) + 1 ≤ z := by omega
      clear hx1 hy1 hd la lb
      rcases ha' with rfl | rfl <;> rcases hb' with rfl | rfl
      all_goals
        simp only [Hilb.dig, Hilb.turn, if_true, if_false, Nat.zero_ne_one, Nat.one_ne_zero, Nat.sub_zero, Nat.reduceSub, Int.ofNat_zero, Int.ofNat_one] at lqx lqy hT hD'
        have hDb : D + s * s * 3 ≤ 4999999999999999999 := by
          have h1 : ((s * s : Nat) : Int) ≤ 1152921504606846976 := by rw [Int.natCast_mul]; exact lsq
          omega
        have hDn := hide hD'
        have hT := hide hT
        clear hD' hl
        go_wp2_with (go_at_call 53; refine (hpw.out _).mono ?_; rintro e w' ⟨rfl, rfl⟩)
        go_quiet (fail)
        go_wp2
        go_quiet (fail)
        rw [mx, my]
        clear mx my
        go_wp2
        go_roundw
        case rel =>
          have hDo := hDn.out
          first
            | exact ⟨k + 1, V, U, D, _, by omega, by go_num, by go_num, by go_num, by go_num, hlift.out _ hT.out.1, hlift.out _ hT.out.2, by show _ = _; rw [hq.out]; omega, rfl⟩
            | exact ⟨k + 1, U, V, D + s * s, _, by omega, by go_num, by go_num, by go_num, by go_num, hlift.out _ hT.out.1, hlift.out _ hT.out.2, by show _ = _; rw [hq.out]; omega, rfl⟩
            | exact ⟨k + 1, s - 1 - V, s - 1 - U, D + s * s * 3, _, by omega, by go_num, by go_num, by go_num, by go_num, hlift.out _ hT.out.1, hlift.out _ hT.out.2, by show _ = _; rw [hq.out]; omega, rfl⟩
            | exact ⟨k + 1, U, V, D + s * s * 2, _, by omega, by go_num, by go_num, by go_num, by go_num, hlift.out _ hT.out.1, hlift.out _ hT.out.2, by show _ = _; rw [hq.out]; omega, rfl⟩
        case measure => simp [intOf]; omega
    · obtain rfl : k = z := by omega
      go_wp2
      go_ret2
      have hD' := hD.out
      rw [Nat.sub_self] at hD'
      exact ⟨by rw [← hD']; rfl, below_drewN hb.out _⟩

set_option maxHeartbeats 400000 in
theorem refid_no (z x y : Int) (w : World) (h : ¬ IsPl z x y) :
    Calls Try.prog 29 #[.agg #[.int .i64 z, .int .i64 x, .int .i64 y]] w fun e w' => e = .returned (.tuple #[.int .u64 0, .int .i64 8]) ∧ Below w.heap.size w w' := by
  have h := hide h
  go_enter Try.func29, Try.ntmps29
  go_wp2_with (go_at_call 20; (with_reducible refine (refright_no z x y _ h.out).mono ?_); rintro e w1 ⟨rfl, hb1⟩; obtain ⟨c0, c1, c2, hb⟩ := box3 hb1; clear hb1)
  go_ret2
  exact ⟨rfl, hb⟩

end Go.Proofs.Ytmgajnllclodfaa
