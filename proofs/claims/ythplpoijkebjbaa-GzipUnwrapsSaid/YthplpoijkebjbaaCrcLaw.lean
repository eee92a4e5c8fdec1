/- The plain law of layer 2 (crc): the check sum as a function on numbers; it is linear in its state, so that the sums of two parts give the sum of both. There is no condition but that numbers have 32 bits and bytes 8. -/

namespace Go.Proofs.Ythplpoijkebjbaa.Crc

def step (n : Nat) : Nat := if n % 2 = 1 then (n / 2) ^^^ 3988292384 else n / 2
def stepN : Nat → Nat → Nat
  | 0, n => n
  | k + 1, n => step (stepN k n)
/-- The table's entry. -/
def ent (c : Nat) : Nat := stepN 8 c
/-- One byte more. -/
def upd (s c : Nat) : Nat := (s / 256) ^^^ ent ((s % 256) ^^^ c)
/-- More bytes. -/
def nx (s : Nat) (bs : List UInt8) : Nat := bs.foldl (fun s c => upd s c.toNat) s
def sum (bs : List UInt8) : Nat := nx 4294967295 bs ^^^ 4294967295
theorem step_lt (n : Nat) (h : n < 4294967296) : step n < 4294967296 := by
  unfold step
  split
  · exact Nat.xor_lt_two_pow (n := 32) (by omega) (by omega)
  · omega
theorem stepN_lt (k n : Nat) (h : n < 4294967296) : stepN k n < 4294967296 := by
  induction k with
  | zero => exact h
  | succ k ih => exact step_lt _ ih
theorem ent_lt (c : Nat) (h : c < 256) : ent c < 4294967296 := stepN_lt 8 c (by omega)
theorem low_lt (s c : Nat) (hc : c < 256) : (s % 256) ^^^ c < 256 := Nat.xor_lt_two_pow (n := 8) (by omega) (by omega)
theorem upd_lt (s c : Nat) (hs : s < 4294967296) (hc : c < 256) : upd s c < 4294967296 :=
  Nat.xor_lt_two_pow (n := 32) (by omega) (ent_lt _ (low_lt s c hc))
theorem nx_lt (bs : List UInt8) : ∀ (s : Nat), s < 4294967296 → nx s bs < 4294967296 := by
  induction bs with
  | nil => exact fun s h => h
  | cons c bs ih => exact fun s h => ih _ (upd_lt s _ h (by have := c.toNat_lt; omega))
theorem nx_snoc (s : Nat) (bs : List UInt8) (c : UInt8) : nx s (bs ++ [c]) = upd (nx s bs) c.toNat := by simp [nx]
theorem nx_take (s : Nat) (bs : List UInt8) (k : Nat) (h : k < bs.length) : nx s (bs.take (k + 1)) = upd (nx s (bs.take k)) bs[k].toNat := by
  rw [List.take_succ_eq_append_getElem h, nx_snoc]
theorem sum_lt (bs : List UInt8) : sum bs < 4294967296 := Nat.xor_lt_two_pow (n := 32) (nx_lt bs _ (by omega)) (by omega)

theorem flip (n : Nat) (h : n < 4294967296) : 4294967295 - n = n ^^^ 4294967295 := by
  apply Nat.eq_of_testBit_eq
  intro i
  have e : 4294967295 - n = 2 ^ 32 - (n + 1) := by omega
  have f : (4294967295 : Nat) = 2 ^ 32 - 1 := by omega
  rw [e, Nat.testBit_two_pow_sub_succ (by omega), Nat.testBit_xor, f, Nat.testBit_two_pow_sub_one]
  by_cases hi : i < 32
  · simp [hi]
  · have : n.testBit i = false := Nat.testBit_lt_two_pow (Nat.lt_of_lt_of_le h (show 2 ^ 32 ≤ 2 ^ i from Nat.pow_le_pow_right (by omega) (by omega)))
    simp [hi, this]

end Go.Proofs.Ythplpoijkebjbaa.Crc
