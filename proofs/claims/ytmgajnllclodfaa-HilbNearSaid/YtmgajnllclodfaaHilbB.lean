/- The walks of layer 11 (hilb) and of its reference: the number of a place. -/
import Derived.Test.YtmgajnllclodfaaHilbA
namespace Go.Proofs.Ytmgajnllclodfaa
open Go.RowKit

/-- A place that was boxed, behind a call. -/
theorem box3 {w w1 : World} {t : TypeId} {a b c : Value} (hb : Below (w.alloc (.cells #[a, b, c] t)).heap.size (w.alloc (.cells #[a, b, c] t)) w1) :
    w1.cell? ⟨w.heap.size, 0, none⟩ = some a ∧ w1.cell? ⟨w.heap.size, 1, none⟩ = some b ∧ w1.cell? ⟨w.heap.size, 2, none⟩ = some c ∧ Below w.heap.size w w1 := by
  have hk : Blk w1 w.heap.size t #[a, b, c] := (Blk.new w t #[a, b, c]).below hb (by simp)
  exact ⟨hk.cell 0, hk.cell 1, hk.cell 2, ((Below.refl _ _).alloc (Nat.le_refl _) _).trans (hb.mono (by simp))⟩

theorem hil_bound (z x y : Nat) (hz : z ≤ 30) (hx : x < 2 ^ z) (hy : y < 2 ^ z) : Hilb.F z + Hilb.hil z x y ≤ 1537228672809129301 := by
  have h1 := Hilb.hil_lt z x y hx hy
  have h2 := Hilb.F_lt (z := z + 1) (by omega)
  rw [Hilb.F_next] at h2
  omega
theorem xor_dig (a b : Nat) (ha : a < 2) (hb : b < 2) : bits .xor .i64 (3 * (a : Int)) (b : Int) = ((Hilb.dig a b : Nat) : Int) := by
  have ha' : a = 0 ∨ a = 1 := by omega
  have hb' : b = 0 ∨ b = 1 := by omega
  rcases ha' with rfl | rfl <;> rcases hb' with rfl | rfl <;> decide +kernel
theorem and_bit (a : Nat) (ha : a < 2) : bits .and .i64 (a : Int) 1 = (a : Int) := by
  have ha' : a = 0 ∨ a = 1 := by omega
  rcases ha' with rfl | rfl <;> decide +kernel

set_option maxHeartbeats 1000000 in
theorem id_yes (z x y : Nat) (w : World) (hz : z ≤ 30) (hx : x < 2 ^ z) (hy : y < 2 ^ z) :
    Calls Try.prog 24 #[.agg #[.int .i64 (z : Int), .int .i64 (x : Int), .int .i64 (y : Int)]] w
      fun e w' => e = .returned (.tuple #[.int .u64 ((Hilb.F z + Hilb.hil z x y : Nat) : Int), .int .i64 0]) ∧ Below w.heap.size w w' := by
  have hS := pow2_le z hz
  have hx1 : x < 1073741824 := by omega
  have hy1 : y < 1073741824 := by omega
  have hx := hide hx
  have hy := hide hy
  clear hS
  go_enter Try.func24, Try.ntmps24
  go_wp2_with (first
    | (go_at_call 23; (with_reducible refine (right_yes z x y _ hz hx.out hy.out).mono ?_); rintro e w1 ⟨rfl, hb1⟩; obtain ⟨c0, c1, c2, hb⟩ := box3 hb1; clear hb1)
    | (go_at_call 25; (with_reducible refine (firstin_any z _ (by omega)).mono ?_); rintro e w' ⟨rfl, rfl⟩))
  go_quiet (fail)
  go_wp2
  have hb := hide hb
  go_loopw [4, 5, 6, 23] (fun d p q i wr => ∃ k X Y D n : Nat, k ≤ z ∧ i = .int .i64 k ∧ d = .int .u64 (D : Int) ∧ p = .int .i64 (X : Int) ∧ q = .int .i64 (Y : Int) ∧ Hid (X < 2 ^ (z - k)) ∧ Hid (Y < 2 ^ (z - k)) ∧ Hid (D + Hilb.hil (z - k) X Y = Hilb.F z + Hilb.hil z x y) ∧ wr = w1.drewN n) (fun _ _ _ i _ => z - (intOf i).toNat)
  case atStart => exact ⟨0, x, y, Hilb.F z, _, by omega, rfl, rfl, rfl, rfl, hx, hy, rfl, rfl⟩
  case round =>
    obtain ⟨k, X, Y, D, n, hk, rfl, rfl, rfl, rfl, hX, hY, hD, rfl⟩ := hrel
    by_cases hlt : k < z
    · have hj : z - k = (z - 1 - k) + 1 := by omega
      rw [hj] at hX hY hD
      have hw := pow2_i64 (z - 1 - k) (by omega)
      have L := lev_of (z - 1 - k) X Y (by omega) hX.out hY.out
      have hh := hil_lev (z - 1 - k) X Y hX.out hY.out
      have hd := Hilb.dig_lt _ _ L.a2 L.b2
      have hT := Hilb.turn_lt (X / 2 ^ (z - 1 - k)) (Y / 2 ^ (z - 1 - k)) L.mx L.my
      have hF := Hilb.F_lt (z := z) (by omega)
      have hl := hil_bound z x y hz hx.out hy.out
      have ht := fun W => turn_any (X % 2 ^ (z - 1 - k)) (Y % 2 ^ (z - 1 - k)) (X / 2 ^ (z - 1 - k)) (Y / 2 ^ (z - 1 - k)) (2 ^ (z - 1 - k)) W L.mx L.my L.le L.a2 L.b2
      have hq : z - (k + 1) = z - 1 - k := by omega
      have hlift : Hid (∀ t, t < 2 ^ (z - 1 - k) → t < 2 ^ (z - (k + 1))) := by show ∀ _, _; intro t h; rw [hq]; exact h
      have hq := hide hq
      obtain ⟨lpos, lle, lqx, lqy, la, lb, lmx, lmy, lsq, lsq0⟩ := L
      have hdx : bits .xor .i64 (3 * ((X / 2 ^ (z - 1 - k) : Nat) : Int)) ((Y / 2 ^ (z - 1 - k) : Nat) : Int) = ((Hilb.dig (X / 2 ^ (z - 1 - k)) (Y / 2 ^ (z - 1 - k)) : Nat) : Int) := xor_dig _ _ la lb
      have hax := and_bit _ la
      have hbx := and_bit _ lb
      simp only [Int.natCast_emod] at ht
      have hD' := hD.out
      rw [hh] at hD'
      clear hX hY hD hj hh hF
      generalize 2 ^ (z - 1 - k) = s at *
      generalize X / s = a at *
      generalize Y / s = b at *
      generalize Hilb.dig a b = d at *
      have ht := hide ht
      have hT := hide hT
      generalize Hilb.turn (X % s) (Y % s) a b s = T at *
      have hP : ((s * s * d : Nat) : Int) ≤ 1537228672809129301 - D := by omega
      have hP0 : 0 ≤ ((s * s * d : Nat) : Int) := by omega
      rw [Int.natCast_mul, Int.natCast_mul] at hP hP0
      have hDn := hide hD'
      have hDb : D ≤ 1537228672809129301 := by omega
      have hpos : (1 : Int) ≤ s := by omega
      clear hD' hl hx1 hy1 lmx lmy
      go_wp2
      rw [hw]
      clear hw
      go_quiet (fail)
      go_wp2
      go_quiet ((go_at_call 54; exact quiet_left2 (ht.out _)))
      go_wp2
      go_roundw
      case rel => exact ⟨k + 1, T.1, T.2, D + s * s * d, _, by omega, by go_num, by push_cast; rfl, rfl, rfl, hlift.out _ hT.out.1, hlift.out _ hT.out.2, by show _ = _; rw [hq.out]; have := hDn.out; omega, rfl⟩
      case measure => simp [intOf]; omega
    · obtain rfl : k = z := by omega
      go_wp2
      go_ret2
      have hD' := hD.out
      rw [Nat.sub_self] at hD'
      exact ⟨by rw [← hD']; rfl, below_drewN hb.out _⟩

set_option maxHeartbeats 400000 in
theorem id_no (z x y : Int) (w : World) (h : ¬ IsPl z x y) :
    Calls Try.prog 24 #[.agg #[.int .i64 z, .int .i64 x, .int .i64 y]] w fun e w' => e = .returned (.tuple #[.int .u64 0, .int .i64 8]) ∧ Below w.heap.size w w' := by
  have h := hide h
  go_enter Try.func24, Try.ntmps24
  go_wp2_with (go_at_call 23; (with_reducible refine (right_no z x y _ h.out).mono ?_); rintro e w1 ⟨rfl, hb1⟩; obtain ⟨c0, c1, c2, hb⟩ := box3 hb1; clear hb1)
  go_ret2
  exact ⟨rfl, hb⟩

end Go.Proofs.Ytmgajnllclodfaa
