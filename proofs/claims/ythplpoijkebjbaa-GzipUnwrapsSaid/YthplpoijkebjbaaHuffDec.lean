/- The plain law of reading a symbol: of a stream of truths, by a code's lengths; and that what a code writes is read back. There is no condition. -/
import Derived.Test.YthplpoijkebjbaaHuffNew
import Derived.Test.YthplpoijkebjbaaBitLaw
namespace Go.Proofs.Ythplpoijkebjbaa
open Go.RowKit

/-- Is there a symbol whose code is the number v of s digits? -/
def Huf.hits (ls : List Nat) (s v : Nat) : Bool := decide (Huf.first ls s ≤ v) && decide (v < Huf.first ls s + Huf.cnt ls s)
def Huf.sym (ls : List Nat) (s v : Nat) : Nat := (Huf.idx ls ls.length s).getD (v - Huf.first ls s) 0
/-- Of a stream l: s bits were read, they are the number v; r more may be. The symbol, how many bits were read, and the error. -/
def Huf.dec (ls : List Nat) (l : List Bool) : Nat → Nat → Nat → Nat × Nat × Nat
  | 0, s, _ => (0, s, 3)
  | r + 1, s, v =>
    match l[s]? with
    | none => (0, s, 2)
    | some b => if Huf.hits ls (s + 1) (2 * v + b.toNat) then (Huf.sym ls (s + 1) (2 * v + b.toNat), s + 1, 0) else Huf.dec ls l r (s + 1) (2 * v + b.toNat)

theorem Huf.dec_short (ls : List Nat) (l : List Bool) (r s v : Nat) (h : l.length ≤ s) : Huf.dec ls l (r + 1) s v = (0, s, 2) := by
  rw [Huf.dec, List.getElem?_eq_none h]
theorem Huf.dec_hit (ls : List Nat) (l : List Bool) (r s v : Nat) (b : Bool) (h : l[s]? = some b) (hh : Huf.hits ls (s + 1) (2 * v + b.toNat) = true) : Huf.dec ls l (r + 1) s v = (Huf.sym ls (s + 1) (2 * v + b.toNat), s + 1, 0) := by
  rw [Huf.dec, h]
  simp only [hh, if_true]
theorem Huf.dec_miss (ls : List Nat) (l : List Bool) (r s v : Nat) (b : Bool) (h : l[s]? = some b) (hh : Huf.hits ls (s + 1) (2 * v + b.toNat) = false) : Huf.dec ls l (r + 1) s v = Huf.dec ls l r (s + 1) (2 * v + b.toNat) := by
  rw [Huf.dec, h]
  simp only [hh, Bool.false_eq_true, if_false]
theorem Huf.dec_le (ls : List Nat) (l : List Bool) : ∀ r s v, s ≤ (Huf.dec ls l r s v).2.1 ∧ (Huf.dec ls l r s v).2.1 ≤ s + r ∧ (s ≤ l.length → (Huf.dec ls l r s v).2.1 ≤ l.length) := by
  intro r
  induction r with
  | zero => intro s v; exact ⟨Nat.le_refl _, Nat.le_refl _, fun h => h⟩
  | succ r ih =>
    intro s v
    by_cases hs : s < l.length
    · have he : l[s]? = some l[s] := List.getElem?_eq_getElem hs
      cases hh : Huf.hits ls (s + 1) (2 * v + l[s].toNat) with
      | true =>
        rw [Huf.dec_hit ls l r s v _ he hh]
        exact ⟨by simp, by simp, fun _ => by simp; omega⟩
      | false =>
        rw [Huf.dec_miss ls l r s v _ he hh]
        have := ih (s + 1) (2 * v + l[s].toNat)
        exact ⟨by omega, by omega, fun _ => this.2.2 hs⟩
    · rw [Huf.dec_short ls l r s v (by omega)]
      exact ⟨Nat.le_refl _, by simp, fun h => h⟩
theorem Huf.dec_sym (ls : List Nat) (l : List Bool) : ∀ r s v, (Huf.dec ls l r s v).1 ≤ ls.length := by
  intro r
  induction r with
  | zero => intro s v; exact Nat.zero_le _
  | succ r ih =>
    intro s v
    by_cases hs : s < l.length
    · have he : l[s]? = some l[s] := List.getElem?_eq_getElem hs
      cases hh : Huf.hits ls (s + 1) (2 * v + l[s].toNat) with
      | true =>
        rw [Huf.dec_hit ls l r s v _ he hh]
        simp only [Huf.sym, List.getD_eq_getElem?_getD]
        cases hx : (Huf.idx ls ls.length (s + 1))[2 * v + l[s].toNat - Huf.first ls (s + 1)]? with
        | none => exact Nat.zero_le _
        | some x =>
          obtain ⟨hl, rfl⟩ := List.getElem?_eq_some_iff.1 hx
          have := (Huf.idx_at ls (s + 1) ls.length _ hl).2.2
          simp only [Option.getD_some]
          omega
      | false =>
        rw [Huf.dec_miss ls l r s v _ he hh]
        exact ih _ _
    · rw [Huf.dec_short ls l r s v (by omega)]
      exact Nat.zero_le _

/-- The code of symbol i, as bits in the order in which they are written. -/
def Huf.word (y x : Nat) : List Bool := (Bit.low y x).reverse
theorem Huf.word_length (y x : Nat) : (Huf.word y x).length = x := by rw [Huf.word, List.length_reverse, Bit.low_length]
theorem Huf.word_get (y x j : Nat) (h : j < x) : (Huf.word y x)[j]? = some (y.testBit (x - 1 - j)) := by
  rw [List.getElem?_eq_getElem (by rw [Huf.word_length]; exact h)]
  simp only [Huf.word, List.getElem_reverse, Bit.low, List.getElem_map, List.getElem_range, List.length_map, List.length_range]

theorem Huf.V_grow (ls : List Nat) (s : Nat) : ∀ t, s ≤ t → Huf.V ls s * 2 ^ (t - s) ≤ Huf.V ls t := by
  intro t
  induction t with
  | zero => intro h; obtain rfl : s = 0 := by omega
            simp [Huf.V]
  | succ t ih =>
    intro h
    by_cases e : s = t + 1
    · subst e; simp
    · have := ih (by omega)
      rw [show t + 1 - s = t - s + 1 from by omega, Nat.pow_succ, ← Nat.mul_assoc]
      simp only [Huf.V]
      omega
/-- What a code writes is read back. -/
theorem Huf.dec_word (ls : List Nat) (i x : Nat) (hi : ls[i]? = some x) (h1 : 1 ≤ x) (h15 : x ≤ 15) (hs : Huf.sum ls ≤ 32768) (rest : List Bool) :
    Huf.dec ls (Huf.word (Huf.code ls i x) x ++ rest) 15 0 0 = (i, x, 0) := by
  have hcl := Huf.code_lt ls hs i x hi h1 h15
  have hrk := Huf.rank_lt ls i x hi
  have key : ∀ s, s < x → Huf.dec ls (Huf.word (Huf.code ls i x) x ++ rest) 15 0 0 = Huf.dec ls (Huf.word (Huf.code ls i x) x ++ rest) (15 - s) s (Huf.code ls i x / 2 ^ (x - s)) := by
    intro s
    induction s with
    | zero => intro _; rw [Nat.sub_zero, Nat.sub_zero, Nat.div_eq_of_lt hcl]
    | succ s ih =>
      intro hsx
      rw [ih (by omega), show 15 - s = 15 - (s + 1) + 1 from by omega]
      have hb : (Huf.word (Huf.code ls i x) x ++ rest)[s]? = some ((Huf.code ls i x).testBit (x - 1 - s)) := by
        rw [List.getElem?_append_left (by rw [Huf.word_length]; omega), Huf.word_get _ _ _ (by omega)]
      have hst := Huf.div_step (Huf.code ls i x) x s (by omega)
      have hbt : 2 * (Huf.code ls i x / 2 ^ (x - s)) + ((Huf.code ls i x).testBit (x - 1 - s)).toNat = Huf.code ls i x / 2 ^ (x - (s + 1)) := by
        rw [hst]
        cases (Huf.code ls i x).testBit (x - 1 - s) <;> rfl
      rw [Huf.dec_miss ls _ _ s _ _ hb, hbt]
      rw [hbt]
      have hge : Huf.V ls (s + 1) ≤ Huf.code ls i x / 2 ^ (x - (s + 1)) := by
        rw [Nat.le_div_iff_mul_le (Nat.two_pow_pos _)]
        have h2 := Huf.V_grow ls (s + 1) (x - 1) (by omega)
        have h3 : Huf.first ls x = 2 * Huf.V ls (x - 1) := by
          obtain ⟨t, rfl⟩ : ∃ t, x = t + 1 := ⟨x - 1, by omega⟩
          rfl
        have h4 : Huf.V ls (s + 1) * 2 ^ (x - (s + 1)) = 2 * (Huf.V ls (s + 1) * 2 ^ (x - 1 - (s + 1))) := by
          rw [show x - (s + 1) = x - 1 - (s + 1) + 1 from by omega, Nat.pow_succ, ← Nat.mul_assoc, Nat.mul_comm]
        rw [h4]
        have : Huf.first ls x ≤ Huf.code ls i x := by unfold Huf.code; omega
        omega
      have hfc := Huf.first_cnt ls (s + 1) (by omega)
      unfold Huf.hits
      rw [hfc]
      simp
      omega
  have h0 := key (x - 1) (by omega)
  rw [h0, show 15 - (x - 1) = 15 - x + 1 from by omega]
  have hb : (Huf.word (Huf.code ls i x) x ++ rest)[x - 1]? = some ((Huf.code ls i x).testBit (x - 1 - (x - 1))) := by
    rw [List.getElem?_append_left (by rw [Huf.word_length]; omega), Huf.word_get _ _ _ (by omega)]
  have hst := Huf.div_step (Huf.code ls i x) x (x - 1) (by omega)
  have hx1 : x - 1 + 1 = x := by omega
  have hbt : 2 * (Huf.code ls i x / 2 ^ (x - (x - 1))) + ((Huf.code ls i x).testBit (x - 1 - (x - 1))).toNat = Huf.code ls i x := by
    rw [hx1, Nat.sub_self, Nat.pow_zero, Nat.div_one] at hst
    refine Eq.trans ?_ hst.symm
    cases (Huf.code ls i x).testBit (x - 1 - (x - 1)) <;> rfl
  rw [Huf.dec_hit ls _ _ (x - 1) _ _ hb]
  · rw [hbt, hx1, Huf.sym, Huf.code, Nat.add_sub_cancel_left, List.getD_eq_getElem?_getD, Huf.idx_rank ls i x hi ls.length (List.getElem?_eq_some_iff.1 hi).1]
    rfl
  · rw [hbt, hx1]
    unfold Huf.hits Huf.code
    simp
    exact hrk

end Go.Proofs.Ythplpoijkebjbaa
