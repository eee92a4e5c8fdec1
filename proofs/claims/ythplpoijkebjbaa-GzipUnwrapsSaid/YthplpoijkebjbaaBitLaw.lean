/- The plain law of layer 1 (bitio): bits as lists of truths, their number, bytes of bits and bits of bytes. There is no condition. -/

namespace Go.Proofs.Ythplpoijkebjbaa.Bit

/-- The number of bits, the first one counting 1. -/
def num : List Bool → Nat
  | [] => 0
  | b :: r => b.toNat + 2 * num r
/-- The n lowest bits of a number, the lowest one first. -/
def low (v n : Nat) : List Bool := (List.range n).map v.testBit
/-- The bits of bytes. -/
def bitsOf : List UInt8 → List Bool
  | [] => []
  | b :: r => low b.toNat 8 ++ bitsOf r
/-- So many bytes as bits take. -/
def size (n : Nat) : Nat := (n + 7) / 8
/-- Byte j of bits. -/
def byte (l : List Bool) (j : Nat) : UInt8 := UInt8.ofNat (num ((l.drop (8 * j)).take 8))
/-- The bytes of bits, the last one filled up. -/
def pack (l : List Bool) : List UInt8 := (List.range (size l.length)).map (byte l)
/-- So many bits up to a whole byte. -/
def gap (n : Nat) : Nat := (8 - n % 8) % 8

theorem num_lt (l : List Bool) : num l < 2 ^ l.length := by
  induction l with
  | nil => exact Nat.one_pos
  | cons b r ih => rw [num, List.length_cons, Nat.pow_succ]; cases b <;> simp <;> omega
theorem num_append (a b : List Bool) : num (a ++ b) = num a + 2 ^ a.length * num b := by
  induction a with
  | nil => simp [num]
  | cons x r ih => rw [List.cons_append, num, ih, num, List.length_cons, Nat.pow_succ, Nat.mul_add, Nat.mul_comm (2 ^ r.length) 2, Nat.mul_assoc]; omega
theorem num_snoc (l : List Bool) (b : Bool) : num (l ++ [b]) = num l + 2 ^ l.length * b.toNat := by rw [num_append]; simp [num]
theorem low_length (v n : Nat) : (low v n).length = n := by simp [low]
theorem low_succ (v n : Nat) : low v (n + 1) = low v n ++ [v.testBit n] := by simp [low, List.range_succ]
theorem low_cons (v n : Nat) : low v (n + 1) = (v % 2 == 1) :: low (v / 2) n := by
  simp only [low, List.range_succ_eq_map, List.map_cons, List.map_map]
  congr 1
  · rw [Nat.testBit_zero]; by_cases h : v % 2 = 1 <;> simp [h]
  · apply List.map_congr_left
    intro i _
    simp [Nat.testBit_succ]
theorem num_low (n : Nat) : ∀ v, num (low v n) = v % 2 ^ n := by
  induction n with
  | zero => intro v; simp [low, num, Nat.mod_one]
  | succ n ih =>
    intro v
    rw [low_cons, num, ih, Nat.pow_succ, Nat.mul_comm (2 ^ n) 2, Nat.mod_mul]
    rcases Nat.mod_two_eq_zero_or_one v with h | h <;> simp [h]
theorem bitsOf_length (bs : List UInt8) : (bitsOf bs).length = 8 * bs.length := by
  induction bs with
  | nil => rfl
  | cons b r ih => rw [bitsOf, List.length_append, low_length, ih, List.length_cons]; omega
theorem bitsOf_get (bs : List UInt8) : ∀ i (h : i < 8 * bs.length), (bitsOf bs)[i]'(by rw [bitsOf_length]; exact h) = (bs[i / 8]'(by omega)).toNat.testBit (i % 8) := by
  induction bs with
  | nil => intro i h; simp at h
  | cons b r ih =>
    intro i h
    have hl := low_length b.toNat 8
    by_cases hi : i < 8
    · have e : i / 8 = 0 := by omega
      have e2 : i % 8 = i := by omega
      simp only [bitsOf, e, e2, List.getElem_cons_zero]
      rw [List.getElem_append_left (by omega)]
      simp [low]
    · have h' : i - 8 < 8 * r.length := by rw [List.length_cons] at h; omega
      have e : i / 8 = (i - 8) / 8 + 1 := by omega
      have e2 : i % 8 = (i - 8) % 8 := by omega
      simp only [bitsOf, e, e2, List.getElem_cons_succ]
      rw [List.getElem_append_right (by omega)]
      simp only [hl]
      exact ih (i - 8) h'
theorem size_le (n : Nat) : size n ≤ n := by unfold size; omega
theorem size_succ (n : Nat) : size (n + 1) = if n % 8 = 0 then size n + 1 else size n := by unfold size; split <;> omega
theorem pack_length (l : List Bool) : (pack l).length = size l.length := by simp [pack]
theorem byte_toNat (l : List Bool) (j : Nat) : (byte l j).toNat = num ((l.drop (8 * j)).take 8) := by
  have h := num_lt ((l.drop (8 * j)).take 8)
  have hl : ((l.drop (8 * j)).take 8).length ≤ 8 := List.length_take_le _ _
  have h2 : 2 ^ ((l.drop (8 * j)).take 8).length ≤ 2 ^ 8 := Nat.pow_le_pow_right (by omega) hl
  unfold byte
  rw [UInt8.toNat_ofNat', Nat.mod_eq_of_lt (by omega)]
/-- One bit more: a new byte, or the last byte changed. -/
theorem pack_new (l : List Bool) (b : Bool) (h : l.length % 8 = 0) : pack (l ++ [b]) = pack l ++ [UInt8.ofNat b.toNat] := by
  have hs : size (l ++ [b]).length = size l.length + 1 := by rw [List.length_append, List.length_singleton, size_succ, if_pos h]
  have h8 : size l.length = l.length / 8 := by unfold size; omega
  unfold pack
  rw [hs, List.range_succ, List.map_append]
  congr 1
  · apply List.map_congr_left
    intro j hj
    have hj' : j < size l.length := by simpa using hj
    unfold byte
    rw [List.drop_append_of_le_length (by omega), List.take_append_of_le_length (by rw [List.length_drop]; omega)]
  · simp only [List.map_cons, List.map_nil, byte]
    rw [h8, List.drop_append_of_le_length (by omega), List.drop_of_length_le (l := l) (by omega)]
    simp [num]
theorem pack_more (l : List Bool) (b : Bool) (h : l.length % 8 ≠ 0) :
    pack (l ++ [b]) = (pack l).set (size l.length - 1) (UInt8.ofNat ((byte l (size l.length - 1)).toNat + 2 ^ (l.length % 8) * b.toNat)) := by
  have hs : size (l ++ [b]).length = size l.length := by rw [List.length_append, List.length_singleton, size_succ, if_neg h]
  have h8 : size l.length - 1 = l.length / 8 := by unfold size; omega
  have hp : 0 < size l.length := by unfold size; omega
  apply List.ext_getElem
  · rw [List.length_set, pack_length, pack_length, hs]
  · intro j h1 h2
    rw [pack_length, hs] at h1
    rw [List.getElem_set]
    simp only [pack, List.getElem_map, List.getElem_range]
    by_cases hj : size l.length - 1 = j
    · rw [if_pos hj, byte_toNat, hj]
      have hj8 : j = l.length / 8 := by omega
      unfold byte
      congr 1
      rw [List.drop_append_of_le_length (by omega)]
      have hd : (l.drop (8 * j)).length = l.length % 8 := by rw [List.length_drop]; omega
      rw [List.take_of_length_le (by rw [List.length_append, hd, List.length_singleton]; omega), List.take_of_length_le (by omega), num_snoc, hd]
    · rw [if_neg hj]
      unfold byte
      rw [List.drop_append_of_le_length (by omega), List.take_append_of_le_length (by rw [List.length_drop]; omega)]
/-- Filled up with truths that are false, the bytes stay. -/
theorem num_pad (l : List Bool) (k : Nat) : num (l ++ List.replicate k false) = num l := by
  rw [num_append]
  have : num (List.replicate k false) = 0 := by
    induction k with
    | zero => rfl
    | succ k ih => rw [List.replicate_succ, num, ih]; rfl
  rw [this]; omega
theorem pack_pad (l : List Bool) : pack (l ++ List.replicate (gap l.length) false) = pack l := by
  have hs : size (l ++ List.replicate (gap l.length) false).length = size l.length := by
    rw [List.length_append, List.length_replicate]; unfold size gap; omega
  unfold pack
  rw [hs]
  apply List.map_congr_left
  intro j hj
  have hj' : j < size l.length := by simpa using hj
  have h8 : 8 * j ≤ l.length := by unfold size at hj'; omega
  unfold byte
  rw [List.drop_append_of_le_length h8, List.take_append]
  have ht : (List.replicate (gap l.length) false).take (8 - (l.drop (8 * j)).length) = List.replicate (min (8 - (l.drop (8 * j)).length) (gap l.length)) false := by rw [List.take_replicate]
  rw [ht, num_pad]

/-- Bits of bytes of bits: what was packed, filled up. -/
theorem bitsOf_pack (l : List Bool) : bitsOf (pack l) = l ++ List.replicate (gap l.length) false := by
  apply List.ext_getElem
  · rw [bitsOf_length, pack_length, List.length_append, List.length_replicate]; unfold size gap; omega
  · intro i h1 h2
    rw [bitsOf_length, pack_length] at h1
    rw [bitsOf_get (pack l) i (by rw [pack_length]; exact h1)]
    simp only [pack, List.getElem_map, List.getElem_range]
    rw [byte_toNat]
    have hb : ∀ (m : List Bool) (k : Nat), (num m).testBit k = m.getD k false := by
      intro m
      induction m with
      | nil => intro k; simp [num]
      | cons x r ih =>
        intro k
        cases k with
        | zero => rw [num, Nat.testBit_zero]; cases x <;> simp <;> omega
        | succ k =>
          rw [num, Nat.testBit_succ]
          have : (x.toNat + 2 * num r) / 2 = num r := by cases x <;> simp <;> omega
          rw [this, ih]; simp
    rw [hb, List.getD_eq_getElem?_getD, List.getElem?_take, if_pos (Nat.mod_lt _ (by omega)), List.getElem?_drop, show 8 * (i / 8) + i % 8 = i from by omega]
    by_cases hi : i < l.length
    · rw [List.getElem?_eq_getElem hi, List.getElem_append_left hi]; rfl
    · rw [List.getElem?_eq_none (by omega), List.getElem_append_right (by omega)]; simp

end Go.Proofs.Ythplpoijkebjbaa.Bit
