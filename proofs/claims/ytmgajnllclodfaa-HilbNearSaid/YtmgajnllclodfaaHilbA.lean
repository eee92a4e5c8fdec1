/- The walks of layer 11 (hilb) and of its reference: how many tiles all zooms below have; a turned part; a code's number. -/
import Derived.Test.YtmgajnllclodfaaHilb
namespace Go.Proofs.Ytmgajnllclodfaa
open Go.RowKit

theorem ofInt64 (a : Nat) (ha : a < 9223372036854775808) : (BitVec.ofInt 64 (a : Int)).toNat = a := by
  rw [BitVec.ofInt_natCast, BitVec.toNat_ofNat]
  exact Nat.mod_eq_of_lt (by omega)
theorem and_i64 (a b : Nat) (ha : a < 9223372036854775808) (hb : b < 9223372036854775808) : bits .and .i64 (a : Int) (b : Int) = ((a &&& b : Nat) : Int) := by
  have hx : a &&& b < 2 ^ 63 := Nat.and_lt_two_pow _ (by omega)
  show IntKind.i64.wrap ((BitVec.ofInt 64 (a : Int) &&& BitVec.ofInt 64 (b : Int)).toNat : Int) = _
  rw [BitVec.toNat_and, ofInt64 a ha, ofInt64 b hb, IntKind.wrap_i64]
  omega
theorem xor_i64 (a b : Nat) (ha : a < 9223372036854775808) (hb : b < 9223372036854775808) : bits .xor .i64 (a : Int) (b : Int) = ((a ^^^ b : Nat) : Int) := by
  have hx : a ^^^ b < 2 ^ 63 := Nat.xor_lt_two_pow (by omega) (by omega)
  show IntKind.i64.wrap ((BitVec.ofInt 64 (a : Int) ^^^ BitVec.ofInt 64 (b : Int)).toNat : Int) = _
  rw [BitVec.toNat_xor, ofInt64 a ha, ofInt64 b hb, IntKind.wrap_i64]
  omega

/-- One level of the curve: the digits of x and y, and what is left. -/
structure Lev (s X Y a b : Nat) : Prop where
  pos : 1 ≤ s
  le : s ≤ 1073741824
  qx : (X : Int) / (s : Int) = a
  qy : (Y : Int) / (s : Int) = b
  a2 : a < 2
  b2 : b < 2
  mx : X % s < s
  my : Y % s < s
  sq : ((s : Int) * (s : Int)) ≤ 1152921504606846976
  sq0 : 0 ≤ ((s : Int) * (s : Int))
theorem lev_of (j X Y : Nat) (hj : j ≤ 29) (hX : X < 2 ^ (j + 1)) (hY : Y < 2 ^ (j + 1)) : Lev (2 ^ j) X Y (X / 2 ^ j) (Y / 2 ^ j) := by
  have hp := Hilb.two_pos j
  have hle := pow2_le j (by omega)
  rw [Nat.pow_succ] at hX hY
  generalize 2 ^ j = s at *
  have h1 : s * s ≤ 1152921504606846976 := Nat.mul_le_mul hle hle
  have h2 : ((s * s : Nat) : Int) ≤ 1152921504606846976 := by omega
  have h3 : 0 ≤ ((s * s : Nat) : Int) := by omega
  rw [Int.natCast_mul] at h2 h3
  refine ⟨by omega, hle, by norm_cast, by norm_cast, ?_, ?_, Nat.mod_lt _ (by omega), Nat.mod_lt _ (by omega), ?_, ?_⟩
  · rw [Nat.div_lt_iff_lt_mul (by omega)]; omega
  · rw [Nat.div_lt_iff_lt_mul (by omega)]; omega
  · exact h2
  · exact h3
theorem hil_lev (j X Y : Nat) (hX : X < 2 ^ (j + 1)) (hY : Y < 2 ^ (j + 1)) : Hilb.hil (j + 1) X Y = 2 ^ j * 2 ^ j * Hilb.dig (X / 2 ^ j) (Y / 2 ^ j) +
    Hilb.hil j (Hilb.turn (X % 2 ^ j) (Y % 2 ^ j) (X / 2 ^ j) (Y / 2 ^ j) (2 ^ j)).1 (Hilb.turn (X % 2 ^ j) (Y % 2 ^ j) (X / 2 ^ j) (Y / 2 ^ j) (2 ^ j)).2 := by
  have hp := Hilb.two_pos j
  have dx : X / 2 ^ j < 2 := by rw [Nat.div_lt_iff_lt_mul hp]; rw [Nat.pow_succ] at hX; omega
  have dy : Y / 2 ^ j < 2 := by rw [Nat.div_lt_iff_lt_mul hp]; rw [Nat.pow_succ] at hY; omega
  rw [Hilb.hil_succ, Nat.mod_eq_of_lt dx, Nat.mod_eq_of_lt dy]

theorem wrap_four (m : Nat) (hm : m ≤ 31) : IntKind.u64.wrap ((2 : Int) ^ (2 * m)) = 3 * ((Hilb.F m : Nat) : Int) + 1 := by
  have h := Hilb.F_lt hm
  have e : (2 : Int) ^ (2 * m) = ((3 * Hilb.F m + 1 : Nat) : Int) := by
    rw [Hilb.F_pow, show (4 : Nat) = 2 ^ 2 from rfl, ← Nat.pow_mul]
    norm_cast
  rw [e, IntKind.wrap_u64]
  omega

set_option maxHeartbeats 400000 in
theorem firstin_any (m : Nat) (w : World) (hm : m ≤ 31) :
    Calls Try.prog 25 #[.int .i64 (m : Int)] w fun e w' => e = .returned (.int .u64 ((Hilb.F m : Nat) : Int)) ∧ w = w' := by
  have hw := wrap_four m hm
  have hF := Hilb.F_lt hm
  generalize Hilb.F m = G at *
  go_enter Try.func25, Try.ntmps25
  go_wp2
  go_ret
  exact ⟨ret_int (by omega), rfl⟩

/-- However far out of range: the number is cut. -/
theorem first_any (z : Int) (m : Nat) (w : World) (hm : min (max z 0) 31 = (m : Int)) :
    Calls Try.prog 25 #[.int .i64 z] w fun e w' => e = .returned (.int .u64 ((Hilb.F m : Nat) : Int)) ∧ w = w' := by
  have hm' : m ≤ 31 := by omega
  have hcut : z < 0 ∧ m = 0 ∨ 31 < z ∧ m = 31 ∨ z = m := by omega
  rcases hcut with ⟨h1, rfl⟩ | ⟨h1, rfl⟩ | rfl
  · go_enter Try.func25, Try.ntmps25
    go_wp2
    go_ret
    exact ⟨rfl, rfl⟩
  · have hF := hide Hilb.F_31
    go_enter Try.func25, Try.ntmps25
    go_wp2
    go_ret
    exact ⟨ret_int (by rw [hF.out]; rfl), rfl⟩
  · exact firstin_any m w hm'

set_option maxHeartbeats 400000 in
theorem reffirst_any (z : Int) (m : Nat) (w : World) (hm : min (max z 0) 31 = (m : Int)) :
    Calls Try.prog 28 #[.int .i64 z] w fun e w' => e = .returned (.int .u64 ((Hilb.F m : Nat) : Int)) ∧ w = w' := by
  have hm' : m ≤ 31 := by omega
  go_enter Try.func28, Try.ntmps28
  go_wp2
  go_loop [3, 4, 5] (fun n a i => ∃ k : Nat, k ≤ m ∧ i = .int .i64 k ∧ n = .int .u64 ((3 * Hilb.F k + 1 : Nat) : Int) ∧ a = .int .u64 ((Hilb.F k : Nat) : Int)) (fun _ _ i => m - (intOf i).toNat)
  case atStart => exact ⟨0, by omega, rfl, rfl, rfl⟩
  case round =>
    obtain ⟨k, hk, rfl, rfl, rfl⟩ := hrel
    by_cases hlt : k < m
    · have hF := Hilb.F_lt (z := k) (by omega)
      have hF' := Hilb.F_lt (z := k + 1) (by omega)
      have hN : Hid (Hilb.F (k + 1) = 4 * Hilb.F k + 1) := rfl
      generalize Hilb.F k = G at *
      have h1 : (k : Int) < z := by omega
      have h2 : (k : Int) < 31 := by omega
      have h3 : 4 * G + 1 ≤ 1537228672809129301 := by have := hN.out; omega
      clear hm
      go_wp2
      go_round
      case rel => exact ⟨k + 1, by omega, by go_num, by rw [hN.out]; go_num, by rw [hN.out]; go_num⟩
      case measure => simp [intOf]; omega
    · obtain rfl : k = m := by omega
      by_cases h1 : (k : Int) < z
      · have h2 : 31 ≤ (k : Int) := by omega
        go_wp2
        go_ret
        exact ⟨rfl, rfl⟩
      · go_wp2
        go_ret
        exact ⟨rfl, rfl⟩

set_option maxHeartbeats 400000 in
theorem hcode_any (n : Int) (w : World) :
    Calls Try.prog 26 #[.int .i64 n] w fun e w' => e = .returned (.int .i64 n) ∧ w = w' := by
  go_enter Try.func26, Try.ntmps26
  go_wp2
  go_ret
  exact ⟨rfl, rfl⟩

set_option maxHeartbeats 400000 in
theorem turn_any (x y a b s : Nat) (w : World) (hx : x < s) (hy : y < s) (hs : s ≤ 1073741824) (ha : a < 2) (hb : b < 2) :
    Calls Try.prog 54 #[.int .i64 (x : Int), .int .i64 (y : Int), .int .i64 (a : Int), .int .i64 (b : Int), .int .i64 (s : Int)] w
      fun e w' => e = .returned (.tuple #[.int .i64 (((Hilb.turn x y a b s).1 : Nat) : Int), .int .i64 (((Hilb.turn x y a b s).2 : Nat) : Int)]) ∧ w = w' := by
  have hcut : b = 1 ∨ (b = 0 ∧ a = 1) ∨ (b = 0 ∧ a = 0) := by omega
  rcases hcut with rfl | ⟨rfl, rfl⟩ | ⟨rfl, rfl⟩
  · go_enter Try.func54, Try.ntmps54
    go_wp2
    go_ret2
    exact ⟨rfl, rfl⟩
  · have e1 : Hid (Hilb.turn x y 1 0 s = (s - 1 - y, s - 1 - x)) := rfl
    have e2 : ((s - 1 - y : Nat) : Int) = (s : Int) - 1 - y := by omega
    have e3 : ((s - 1 - x : Nat) : Int) = (s : Int) - 1 - x := by omega
    have e2 := hide e2
    have e3 := hide e3
    go_enter Try.func54, Try.ntmps54
    go_wp2
    go_ret2
    exact ⟨by rw [e1.out]; show _ = Ending.returned (.tuple #[.int .i64 ((s - 1 - y : Nat) : Int), .int .i64 ((s - 1 - x : Nat) : Int)]); rw [e2.out, e3.out]; rfl, rfl⟩
  · go_enter Try.func54, Try.ntmps54
    go_wp2
    go_ret2
    exact ⟨rfl, rfl⟩

end Go.Proofs.Ytmgajnllclodfaa
