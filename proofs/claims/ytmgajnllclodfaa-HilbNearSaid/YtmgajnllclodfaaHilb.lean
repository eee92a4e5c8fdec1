/- The walks of layer 11 (hilb) and of its reference: which places are right. -/
import Derived.Test.YtmgajnllclodfaaBase
import Derived.Test.YtmgajnllclodfaaHilbLaw
namespace Go.Proofs.Ytmgajnllclodfaa
open Go.RowKit

theorem pow2_le (z : Nat) (hz : z ≤ 30) : 2 ^ z ≤ 1073741824 := show 2 ^ z ≤ 2 ^ 30 from Nat.pow_le_pow_right (by omega) hz
theorem pow2_i64 (z : Nat) (hz : z ≤ 30) : wrap64 ((2 : Int) ^ z) = ((2 ^ z : Nat) : Int) := by
  have h := pow2_le z hz
  have e : (2 : Int) ^ z = ((2 ^ z : Nat) : Int) := by norm_cast
  rw [e]
  generalize 2 ^ z = S at *
  exact IntWalk.wrap64_in _ ⟨by omega, by omega⟩

/-- Is (z, x, y) a place? -/
def IsPl (z x y : Int) : Prop := 0 ≤ z ∧ z ≤ 30 ∧ 0 ≤ x ∧ 0 ≤ y ∧ x < ((2 ^ z.toNat : Nat) : Int) ∧ y < ((2 ^ z.toNat : Nat) : Int)
theorem isPl_nat {z x y : Int} (h : IsPl z x y) : ∃ a b c : Nat, z = a ∧ x = b ∧ y = c ∧ a ≤ 30 ∧ b < 2 ^ a ∧ c < 2 ^ a := by
  obtain ⟨h1, h2, h3, h4, h5, h6⟩ := h
  exact ⟨z.toNat, x.toNat, y.toNat, by omega, by omega, by omega, by omega, by omega, by omega⟩
theorem isPl_of (z x y : Nat) (hz : z ≤ 30) (hx : x < 2 ^ z) (hy : y < 2 ^ z) : IsPl z x y := by
  refine ⟨by omega, by omega, by omega, by omega, ?_, ?_⟩ <;> rw [Int.toNat_natCast] <;> omega
instance (z x y : Int) : Decidable (IsPl z x y) := by unfold IsPl; infer_instance

set_option maxHeartbeats 400000 in
theorem right_yes (z x y : Nat) (w : World) (hz : z ≤ 30) (hx : x < 2 ^ z) (hy : y < 2 ^ z) :
    Calls Try.prog 23 #[.agg #[.int .i64 (z : Int), .int .i64 (x : Int), .int .i64 (y : Int)]] w fun e w' => e = .returned (.bool true) ∧ Below w.heap.size w w' := by
  have hw := pow2_i64 z hz
  have hS := pow2_le z hz
  generalize 2 ^ z = S at *
  go_enter Try.func23, Try.ntmps23
  go_wp2
  go_ret
  exact ⟨rfl, (Below.refl _ _).alloc (Nat.le_refl _) _⟩

/-- Why a triple is no place. -/
theorem notPl {z x y : Int} (h : ¬ IsPl z x y) : z < 0 ∨ 30 < z ∨ ∃ a : Nat, z = a ∧ a ≤ 30 ∧ (x < 0 ∨ (0 ≤ x ∧ ((2 ^ a : Nat) : Int) ≤ x) ∨ (0 ≤ x ∧ x < ((2 ^ a : Nat) : Int) ∧ (y < 0 ∨ (0 ≤ y ∧ ((2 ^ a : Nat) : Int) ≤ y)))) := by
  by_cases h1 : z < 0
  · exact .inl h1
  by_cases h2 : 30 < z
  · exact .inr (.inl h2)
  refine .inr (.inr ⟨z.toNat, by omega, by omega, ?_⟩)
  by_cases h3 : x < 0
  · exact .inl h3
  by_cases h4 : ((2 ^ z.toNat : Nat) : Int) ≤ x
  · exact .inr (.inl ⟨by omega, h4⟩)
  refine .inr (.inr ⟨by omega, by omega, ?_⟩)
  by_cases h5 : y < 0
  · exact .inl h5
  refine .inr ⟨by omega, ?_⟩
  by_cases h6 : ((2 ^ z.toNat : Nat) : Int) ≤ y
  · exact h6
  · exact absurd ⟨by omega, by omega, by omega, by omega, by omega, by omega⟩ h

set_option maxHeartbeats 1000000 in
theorem right_no (z x y : Int) (w : World) (h : ¬ IsPl z x y) :
    Calls Try.prog 23 #[.agg #[.int .i64 z, .int .i64 x, .int .i64 y]] w fun e w' => e = .returned (.bool false) ∧ Below w.heap.size w w' := by
  rcases notPl h with h1 | h1 | ⟨a, rfl, ha, h1⟩
  · go_enter Try.func23, Try.ntmps23
    go_wp2
    go_ret
    exact ⟨rfl, (Below.refl _ _).alloc (Nat.le_refl _) _⟩
  · go_enter Try.func23, Try.ntmps23
    go_wp2
    go_ret
    exact ⟨rfl, (Below.refl _ _).alloc (Nat.le_refl _) _⟩
  · have hw := pow2_i64 a ha
    have hS := pow2_le a ha
    clear h
    generalize 2 ^ a = S at *
    rcases h1 with h1 | ⟨h0, h1⟩ | ⟨h0, h1, h2 | ⟨h3, h2⟩⟩
    all_goals
      go_enter Try.func23, Try.ntmps23
      go_wp2
      go_ret
      exact ⟨by first | rfl | (simp; omega), (Below.refl _ _).alloc (Nat.le_refl _) _⟩

/-! ### The reference's -/
set_option maxHeartbeats 400000 in
theorem power_any (n : Nat) (w : World) (hn : n ≤ 30) :
    Calls Try.prog 53 #[.int .i64 (n : Int)] w fun e w' => e = .returned (.int .i64 ((2 ^ n : Nat) : Int)) ∧ w = w' := by
  go_enter Try.func53, Try.ntmps53
  go_wp2
  go_loop [3, 4] (fun p i => ∃ k : Nat, k ≤ n ∧ i = .int .i64 k ∧ p = .int .i64 ((2 ^ k : Nat) : Int)) (fun _ i => n - (intOf i).toNat)
  case atStart => exact ⟨0, by omega, rfl, rfl⟩
  case round =>
    obtain ⟨k, hk, rfl, rfl⟩ := hrel
    have hS := pow2_le k (by omega)
    have hP : Hid (2 ^ (k + 1) = 2 * 2 ^ k) := by show 2 ^ (k + 1) = 2 * 2 ^ k; rw [Nat.pow_succ, Nat.mul_comm]
    by_cases hlt : k < n
    · generalize 2 ^ k = S at *
      go_wp2
      go_round
      case rel => exact ⟨k + 1, by omega, by go_num, by rw [hP.out]; go_num⟩
      case measure => simp [intOf]; omega
    · obtain rfl : k = n := by omega
      go_wp2
      go_ret
      exact ⟨rfl, rfl⟩

theorem notPl2 {z x y : Int} (h : ¬ IsPl z x y) : z < 0 ∨ 30 < z ∨ ∃ a : Nat, z = a ∧ a ≤ 30 ∧ (x < 0 ∨ (0 ≤ x ∧ y < 0) ∨ (0 ≤ x ∧ 0 ≤ y ∧ ((2 ^ a : Nat) : Int) ≤ x) ∨ (0 ≤ x ∧ 0 ≤ y ∧ x < ((2 ^ a : Nat) : Int) ∧ ((2 ^ a : Nat) : Int) ≤ y)) := by
  by_cases h1 : z < 0
  · exact .inl h1
  by_cases h2 : 30 < z
  · exact .inr (.inl h2)
  refine .inr (.inr ⟨z.toNat, by omega, by omega, ?_⟩)
  by_cases h3 : x < 0
  · exact .inl h3
  by_cases h5 : y < 0
  · exact .inr (.inl ⟨by omega, h5⟩)
  by_cases h4 : ((2 ^ z.toNat : Nat) : Int) ≤ x
  · exact .inr (.inr (.inl ⟨by omega, by omega, h4⟩))
  by_cases h6 : ((2 ^ z.toNat : Nat) : Int) ≤ y
  · exact .inr (.inr (.inr ⟨by omega, by omega, by omega, h6⟩))
  · exact absurd ⟨by omega, by omega, by omega, by omega, by omega, by omega⟩ h

set_option maxHeartbeats 1000000 in
theorem refright_yes (z x y : Nat) (w : World) (hz : z ≤ 30) (hx : x < 2 ^ z) (hy : y < 2 ^ z) :
    Calls Try.prog 20 #[.agg #[.int .i64 (z : Int), .int .i64 (x : Int), .int .i64 (y : Int)]] w fun e w' => e = .returned (.bool true) ∧ Below w.heap.size w w' := by
  have hp := fun W => power_any z W hz
  have hS := pow2_le z hz
  generalize 2 ^ z = S at *
  have hp := hide hp
  have hz' : (z : Int) ≤ 30 := by omega
  have hx' : (x : Int) < S := by omega
  have hy' : (y : Int) < S := by omega
  go_enter Try.func20, Try.ntmps20
  go_wp2
  go_quiet ((go_at_call 53; exact quiet_left (hp.out _)))
  go_wp2
  go_ret
  exact ⟨rfl, below_drewN ((Below.refl _ _).alloc (Nat.le_refl _) _) _⟩

set_option maxHeartbeats 1000000 in
theorem refright_no (z x y : Int) (w : World) (h : ¬ IsPl z x y) :
    Calls Try.prog 20 #[.agg #[.int .i64 z, .int .i64 x, .int .i64 y]] w fun e w' => e = .returned (.bool false) ∧ Below w.heap.size w w' := by
  rcases notPl2 h with h1 | h1 | ⟨a, rfl, ha, h1⟩
  · have hd : decide (0 ≤ z) = false := by simpa using h1
    go_enter Try.func20, Try.ntmps20
    go_wp2
    go_quiet (fail)
    go_wp2
    go_ret
    exact ⟨rfl, below_drewN ((Below.refl _ _).alloc (Nat.le_refl _) _) _⟩
  · have hd : decide (z ≤ 30) = false := by simpa using h1
    have h0 : 0 ≤ z := by omega
    go_enter Try.func20, Try.ntmps20
    go_wp2
    go_quiet (fail)
    go_wp2
    go_ret
    exact ⟨rfl, below_drewN ((Below.refl _ _).alloc (Nat.le_refl _) _) _⟩
  · have hp := fun W => power_any a W ha
    have hS := pow2_le a ha
    clear h
    generalize 2 ^ a = S at *
    have hp := hide hp
    have ha' : (a : Int) ≤ 30 := by omega
    rcases h1 with h1 | ⟨h0, h1⟩ | ⟨h0, h1, h2⟩ | ⟨h0, h1, h2, h3⟩
    · have hd : decide (0 ≤ x) = false := by simpa using h1
      go_enter Try.func20, Try.ntmps20
      go_wp2
      go_quiet (fail)
      go_wp2
      go_ret
      exact ⟨rfl, below_drewN ((Below.refl _ _).alloc (Nat.le_refl _) _) _⟩
    · have hd : decide (0 ≤ y) = false := by simpa using h1
      go_enter Try.func20, Try.ntmps20
      go_wp2
      go_quiet (fail)
      go_wp2
      go_ret
      exact ⟨rfl, below_drewN ((Below.refl _ _).alloc (Nat.le_refl _) _) _⟩
    · have hd : decide (x < (S : Int)) = false := by simpa using h2
      go_enter Try.func20, Try.ntmps20
      go_wp2
      go_quiet ((go_at_call 53; exact quiet_left (hp.out _)))
      go_wp2
      go_ret
      exact ⟨rfl, below_drewN ((Below.refl _ _).alloc (Nat.le_refl _) _) _⟩
    · have hd : decide (y < (S : Int)) = false := by simpa using h3
      go_enter Try.func20, Try.ntmps20
      go_wp2
      go_quiet ((go_at_call 53; exact quiet_left (hp.out _)))
      go_wp2
      go_ret
      exact ⟨rfl, below_drewN ((Below.refl _ _).alloc (Nat.le_refl _) _) _⟩

end Go.Proofs.Ytmgajnllclodfaa
