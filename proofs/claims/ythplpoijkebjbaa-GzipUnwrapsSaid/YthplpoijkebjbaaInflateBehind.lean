/- The laws InflateBehind and InflateShort: the walks. There is no condition. -/
import Derived.Test.YthplpoijkebjbaaInfLive
namespace Go.Proofs.Ythplpoijkebjbaa
open Go.RowKit
set_option linter.unusedVariables false

theorem bits8 (bs : List UInt8) : (Bit.bitsOf bs).length % 8 = 0 := by rw [Bit.bitsOf_length]; omega
theorem Inf.data_pos (l : List Bool) (h8 : l.length % 8 = 0) (most F n : Nat) (o : List UInt8) (h : Inf.data l most (F + 1) = .inr (o, n)) : 1 ≤ n := by
  rcases Nat.eq_zero_or_pos n with h0 | h0
  · subst h0
    have h1 := (Inf.data_pre h (List.nil_prefix (l := l)) rfl).1 (Nat.zero_le _)
    have h2 : Inf.data [] most (F + 1) = .inl 2 := rfl
    rw [h2] at h1
    cases h1
  · exact h0
theorem Rd.upto {w : World} {B n : Nat} {A : Option Addr} {bs : List UInt8} (h : Rd w B A n (bs.map bv)) (k : Nat) (hk : k ≤ n) : Rd w B A k ((bs.take k).map bv) := by
  have := h.sub 0 k (by omega)
  rw [List.drop_zero, ← List.map_take] at this
  cases A with
  | none => exact this
  | some a => exact this
end Go.Proofs.Ythplpoijkebjbaa
