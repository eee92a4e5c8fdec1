/- The plain law of layer 2 (crc): the check sum as a function on numbers; it is linear in its state, so that the sums of two parts give the sum of both. There is no condition but that numbers have 32 bits and bytes 8. -/
namespace Go.Proofs.Ythplpoijkebjbaa.Crc

def step (n : Nat) : Nat := if n % 2 = 1 then (n / 2) ^^^ 3988292384 else n / 2
def stepN : Nat → Nat → Nat
  | 0, n => n
  | k + 1, n => step (stepN k n)
/-- The table's entry. -/
def ent (c : Nat) : Nat := stepN 8 c
/-- One byte more. -/
def upd (s c : Nat) : Nat := (s / 256) ^^^ ent ((s % 256) ^^^ c)
/-- More bytes. -/
def nx (s : Nat) (bs : List UInt8) : Nat := bs.foldl (fun s c => upd s c.toNat) s
def sum (bs : List UInt8) : Nat := nx 4294967295 bs ^^^ 4294967295
def zeros : Nat → Nat → Nat
  | 0, s => s
  | n + 1, s => upd (zeros n s) 0

theorem step_lt (n : Nat) (h : n < 4294967296) : step n < 4294967296 := by
  unfold step
  split
  · exact Nat.xor_lt_two_pow (n := 32) (by omega) (by omega)
  · omega
theorem stepN_lt (k n : Nat) (h : n < 4294967296) : stepN k n < 4294967296 := by
  induction k with
  | zero => exact h
  | succ k ih => exact step_lt _ ih
theorem ent_lt (c : Nat) (h : c < 256) : ent c < 4294967296 := stepN_lt 8 c (by omega)
theorem low_lt (s c : Nat) (hc : c < 256) : (s % 256) ^^^ c < 256 := Nat.xor_lt_two_pow (n := 8) (by omega) (by omega)
theorem upd_lt (s c : Nat) (hs : s < 4294967296) (hc : c < 256) : upd s c < 4294967296 :=
  Nat.xor_lt_two_pow (n := 32) (by omega) (ent_lt _ (low_lt s c hc))
theorem nx_lt (bs : List UInt8) : ∀ (s : Nat), s < 4294967296 → nx s bs < 4294967296 := by
  induction bs with
  | nil => exact fun s h => h
  | cons c bs ih => exact fun s h => ih _ (upd_lt s _ h (by have := c.toNat_lt; omega))
theorem zeros_lt (n s : Nat) (h : s < 4294967296) : zeros n s < 4294967296 := by
  induction n with
  | zero => exact h
  | succ n ih => exact upd_lt _ _ ih (by omega)
theorem nx_snoc (s : Nat) (bs : List UInt8) (c : UInt8) : nx s (bs ++ [c]) = upd (nx s bs) c.toNat := by simp [nx]
theorem nx_take (s : Nat) (bs : List UInt8) (k : Nat) (h : k < bs.length) : nx s (bs.take (k + 1)) = upd (nx s (bs.take k)) bs[k].toNat := by
  rw [List.take_succ_eq_append_getElem h, nx_snoc]
theorem sum_lt (bs : List UInt8) : sum bs < 4294967296 := Nat.xor_lt_two_pow (n := 32) (nx_lt bs _ (by omega)) (by omega)

theorem flip (n : Nat) (h : n < 4294967296) : 4294967295 - n = n ^^^ 4294967295 := by
  apply Nat.eq_of_testBit_eq
  intro i
  have e : 4294967295 - n = 2 ^ 32 - (n + 1) := by omega
  have f : (4294967295 : Nat) = 2 ^ 32 - 1 := by omega
  rw [e, Nat.testBit_two_pow_sub_succ (by omega), Nat.testBit_xor, f, Nat.testBit_two_pow_sub_one]
  by_cases hi : i < 32
  · simp [hi]
  · have : n.testBit i = false := Nat.testBit_lt_two_pow (Nat.lt_of_lt_of_le h (show 2 ^ 32 ≤ 2 ^ i from Nat.pow_le_pow_right (by omega) (by omega)))
    simp [hi, this]

theorem xor_mid (a b c d : Nat) : (a ^^^ b) ^^^ (c ^^^ d) = (a ^^^ c) ^^^ (b ^^^ d) := by
  rw [Nat.xor_assoc, Nat.xor_assoc, ← Nat.xor_assoc b, ← Nat.xor_assoc c, Nat.xor_comm b c]
theorem mod_xor (k x y : Nat) : (x ^^^ y) % 2 ^ k = (x % 2 ^ k) ^^^ (y % 2 ^ k) := by
  apply Nat.eq_of_testBit_eq
  intro i
  simp only [Nat.testBit_mod_two_pow, Nat.testBit_xor]
  cases decide (i < k) <;> simp
theorem xor_two (x y : Nat) : (x ^^^ y) % 2 = (x % 2 + y % 2) % 2 := by
  have h := mod_xor 1 x y
  rw [Nat.pow_one] at h
  rw [h]
  have hx : x % 2 = 0 ∨ x % 2 = 1 := by omega
  have hy : y % 2 = 0 ∨ y % 2 = 1 := by omega
  rcases hx with hx | hx <;> rcases hy with hy | hy <;> simp [hx, hy]
theorem step_xor (x y : Nat) : step (x ^^^ y) = step x ^^^ step y := by
  unfold step
  rw [Nat.xor_div_two, xor_two]
  have hx : x % 2 = 0 ∨ x % 2 = 1 := by omega
  have hy : y % 2 = 0 ∨ y % 2 = 1 := by omega
  rcases hx with hx | hx <;> rcases hy with hy | hy <;> simp [hx, hy]
  · rw [Nat.xor_assoc]
  · rw [Nat.xor_assoc, Nat.xor_comm (y / 2), ← Nat.xor_assoc]
  · rw [xor_mid, Nat.xor_self, Nat.xor_zero]
theorem stepN_xor (k x y : Nat) : stepN k (x ^^^ y) = stepN k x ^^^ stepN k y := by
  induction k with
  | zero => rfl
  | succ k ih => simp only [stepN, ih, step_xor]
theorem div_xor (k x y : Nat) : (x ^^^ y) / 2 ^ k = x / 2 ^ k ^^^ y / 2 ^ k := by
  apply Nat.eq_of_testBit_eq
  intro i
  simp [Nat.testBit_div_two_pow]
theorem upd_xor (x y c : Nat) : upd (x ^^^ y) c = upd x 0 ^^^ upd y c := by
  unfold upd ent
  have h1 := div_xor 8 x y
  have h2 := mod_xor 8 x y
  rw [show (2 : Nat) ^ 8 = 256 from rfl] at h1 h2
  rw [h1, h2, Nat.xor_zero, xor_mid, ← stepN_xor, Nat.xor_assoc (x % 256)]
theorem nx_xor (bs : List UInt8) : ∀ (x y : Nat), nx (x ^^^ y) bs = zeros bs.length x ^^^ nx y bs := by
  suffices h : ∀ (l : List UInt8) (x y : Nat), nx (x ^^^ y) l.reverse = zeros l.length x ^^^ nx y l.reverse by
    intro x y
    simpa using h bs.reverse x y
  intro l
  induction l with
  | nil => intro x y; rfl
  | cons c l ih =>
    intro x y
    rw [List.reverse_cons, nx_snoc, nx_snoc, ih, upd_xor]
    rfl
theorem nx_append (s : Nat) (a b : List UInt8) : nx s (a ++ b) = nx (nx s a) b := by simp [nx]
/-- THE LAW: the first part's sum, through as many bytes 0 as the second part has, and the second part's sum. -/
theorem join (a b : List UInt8) : zeros b.length (sum a) ^^^ sum b = sum (a ++ b) := by
  unfold sum
  have h := nx_xor b (nx 4294967295 a ^^^ 4294967295) 4294967295
  rw [Nat.xor_assoc, Nat.xor_self, Nat.xor_zero] at h
  rw [nx_append, h, Nat.xor_assoc]

end Go.Proofs.Ythplpoijkebjbaa.Crc
