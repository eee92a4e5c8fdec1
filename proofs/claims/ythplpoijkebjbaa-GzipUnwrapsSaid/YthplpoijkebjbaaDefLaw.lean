/- Layer 5 (deflate): the plain law of the longest match, and of the symbols. There is no condition. -/
import Derived.Test.YthplpoijkebjbaaBase
namespace Go.Proofs.Ythplpoijkebjbaa

/-- How many bytes from two places on are the same, the second one d further back. -/
def Def.lcp (bs : List UInt8) (at' d : Nat) : Nat → Nat
  | 0 => 0
  | f + 1 => if at' < bs.length ∧ bs.getD at' 0 = bs.getD (at' - d) 0 then 1 + Def.lcp bs (at' + 1) d f else 0
/-- No more than 258. -/
def Def.alike (bs : List UInt8) (at' d : Nat) : Nat := Def.lcp bs at' d 258
theorem Def.lcp_le (bs : List UInt8) (at' d f : Nat) : Def.lcp bs at' d f ≤ f := by
  induction f generalizing at' with
  | zero => exact Nat.le_refl _
  | succ f ih =>
    rw [Def.lcp]
    split
    · have := ih (at' + 1)
      omega
    · omega
theorem Def.lcp_len (bs : List UInt8) (at' d f : Nat) (h : at' ≤ bs.length) : at' + Def.lcp bs at' d f ≤ bs.length := by
  induction f generalizing at' with
  | zero => simpa [Def.lcp] using h
  | succ f ih =>
    rw [Def.lcp]
    split
    · rename_i h2
      have := ih (at' + 1) (by omega)
      omega
    · omega
/-- What a loop that counts on finds. -/
def Def.Runs (bs : List UInt8) (at' d n : Nat) : Prop := ∀ j, j < n → at' + j < bs.length ∧ bs.getD (at' + j) 0 = bs.getD (at' + j - d) 0
theorem Def.lcp_of (bs : List UInt8) (at' d f n : Nat) (h : Def.Runs bs at' d n) (hn : n ≤ f) (hs : n = f ∨ ¬ (at' + n < bs.length ∧ bs.getD (at' + n) 0 = bs.getD (at' + n - d) 0)) : Def.lcp bs at' d f = n := by
  induction f generalizing at' n with
  | zero =>
    have : n = 0 := by omega
    subst this
    rfl
  | succ f ih =>
    rw [Def.lcp]
    cases n with
    | zero =>
      rw [if_neg]
      rcases hs with hs | hs
      · omega
      · simpa using hs
    | succ n =>
      have h0 := h 0 (by omega)
      simp only [Nat.add_zero] at h0
      rw [if_pos h0, ih (at' + 1) n (fun j hj => by have := h (j + 1) (by omega); rwa [show at' + (j + 1) = at' + 1 + j by omega] at this) (by omega)
        (by
          rcases hs with hs | hs
          · exact .inl (by omega)
          · right
            rwa [show at' + (n + 1) = at' + 1 + n by omega] at hs)]
      omega

/-- Of the distances 1 to m: the longest match, the nearest of them; or none of three bytes. -/
def Def.Best (a : Nat → Nat) (m l d : Nat) : Prop :=
  (l = 0 ∧ d = 0 ∧ ∀ e, 1 ≤ e → e ≤ m → a e < 3) ∨
  (3 ≤ l ∧ 1 ≤ d ∧ d ≤ m ∧ a d = l ∧ (∀ e, 1 ≤ e → e ≤ m → a e ≤ l) ∧ (∀ e, 1 ≤ e → e < d → a e < l))
theorem Def.Best.uniq {a : Nat → Nat} {m l d l' d' : Nat} (h : Def.Best a m l d) (h' : Def.Best a m l' d') : l = l' ∧ d = d' := by
  rcases h with ⟨rfl, rfl, h1⟩ | ⟨h1, h2, h3, h4, h5, h6⟩ <;> rcases h' with ⟨rfl, rfl, g1⟩ | ⟨g1, g2, g3, g4, g5, g6⟩
  · exact ⟨rfl, rfl⟩
  · have := h1 d' g2 g3
    omega
  · have := g1 d h2 h3
    omega
  · have e1 := h5 d' g2 g3
    have e2 := g5 d h2 h3
    have e3 : l = l' := by omega
    refine ⟨e3, ?_⟩
    rcases Nat.lt_trichotomy d d' with h | h | h
    · have := g6 d h2 h
      omega
    · exact h
    · have := h6 d' g2 h
      omega
theorem Def.Best.zero (a : Nat → Nat) : Def.Best a 0 0 0 := .inl ⟨rfl, rfl, fun e h1 h2 => by omega⟩
/-- One distance more, from the nearest on. -/
theorem Def.Best.up {a : Nat → Nat} {m l d : Nat} (h : Def.Best a m l d) : (3 ≤ a (m + 1) ∧ l < a (m + 1) → Def.Best a (m + 1) (a (m + 1)) (m + 1)) ∧ (¬ (3 ≤ a (m + 1) ∧ l < a (m + 1)) → Def.Best a (m + 1) l d) := by
  constructor
  · rintro ⟨h3, hl⟩
    right
    refine ⟨h3, by omega, Nat.le_refl _, rfl, fun e h1 h2 => ?_, fun e h1 h2 => ?_⟩
    · by_cases he : e = m + 1
      · rw [he]
        exact Nat.le_refl _
      · rcases h with ⟨_, _, g⟩ | ⟨_, _, _, _, g, _⟩
        · have := g e h1 (by omega)
          omega
        · have := g e h1 (by omega)
          omega
    · rcases h with ⟨_, _, g⟩ | ⟨_, _, _, _, g, _⟩
      · have := g e h1 (by omega)
        omega
      · have := g e h1 (by omega)
        omega
  · intro hn
    rcases h with ⟨rfl, rfl, g⟩ | ⟨h1, h2, h3, h4, h5, h6⟩
    · left
      refine ⟨rfl, rfl, fun e h1 h2 => ?_⟩
      by_cases he : e = m + 1
      · rw [he]
        omega
      · exact g e h1 (by omega)
    · right
      refine ⟨h1, h2, by omega, h4, fun e g1 g2 => ?_, h6⟩
      by_cases he : e = m + 1
      · rw [he]
        omega
      · exact h5 e g1 (by omega)
/-- From the furthest on: of the distances above k. -/
def Def.BestD (a : Nat → Nat) (k m l d : Nat) : Prop :=
  (l = 0 ∧ d = 0 ∧ ∀ e, k < e → e ≤ m → a e < 3) ∨
  (3 ≤ l ∧ k < d ∧ d ≤ m ∧ a d = l ∧ (∀ e, k < e → e ≤ m → a e ≤ l) ∧ (∀ e, k < e → e < d → a e < l))
theorem Def.BestD.start (a : Nat → Nat) (m : Nat) : Def.BestD a m m 0 0 := .inl ⟨rfl, rfl, fun e h1 h2 => by omega⟩
/-- Above all that there are: none. -/
theorem Def.BestD.skip {a : Nat → Nat} {k m : Nat} (hk : m ≤ k) : Def.BestD a k m 0 0 := .inl ⟨rfl, rfl, fun e h1 h2 => by omega⟩
/-- The symbol of a length: base and extra bits, from 257 on; of a distance. -/
def Def.lenB (k : Nat) : Nat := if k = 28 then 258 else if k < 8 then 3 + k else 3 + (4 + k % 4) * 2 ^ ((k - 4) / 4)
def Def.lenX (k : Nat) : Nat := if k = 28 then 0 else if k < 8 then 0 else (k - 4) / 4
def Def.dstB (k : Nat) : Nat := if k < 4 then 1 + k else 1 + (2 + k % 2) * 2 ^ ((k - 2) / 2)
def Def.dstX (k : Nat) : Nat := if k < 4 then 0 else (k - 2) / 2
/-- The greatest one of the first m whose base is n at most. -/
def Def.top (B : Nat → Nat) (n : Nat) : Nat → Nat
  | 0 => 0
  | m + 1 => if B m ≤ n then m else Def.top B n m
theorem Def.top_spec (B : Nat → Nat) (n m : Nat) (h0 : B 0 ≤ n) (hm : 0 < m) : Def.top B n m < m ∧ B (Def.top B n m) ≤ n ∧ ∀ j, Def.top B n m < j → j < m → n < B j := by
  induction m with
  | zero => omega
  | succ m ih =>
    rw [Def.top]
    by_cases h : B m ≤ n
    · rw [if_pos h]
      exact ⟨by omega, h, fun j h1 h2 => by omega⟩
    · rw [if_neg h]
      have hm0 : 0 < m := by
        rcases Nat.eq_zero_or_pos m with rfl | h'
        · exact absurd h0 h
        · exact h'
      obtain ⟨h1, h2, h3⟩ := ih hm0
      refine ⟨by omega, h2, fun j g1 g2 => ?_⟩
      by_cases hj : j = m
      · subst hj
        omega
      · exact h3 j g1 (by omega)

/-- The longest match, reckoned from the nearest on. -/
def Def.fnd (a : Nat → Nat) : Nat → Nat × Nat
  | 0 => (0, 0)
  | m + 1 => if 3 ≤ a (m + 1) ∧ (Def.fnd a m).1 < a (m + 1) then (a (m + 1), m + 1) else Def.fnd a m
theorem Def.fnd_best (a : Nat → Nat) (m : Nat) : Def.Best a m (Def.fnd a m).1 (Def.fnd a m).2 := by
  induction m with
  | zero => exact Def.Best.zero a
  | succ m ih =>
    rw [Def.fnd]
    split
    · rename_i h
      exact ih.up.1 h
    · rename_i h
      exact ih.up.2 h
/-- The match at a place. -/
def Def.mt (bs : List UInt8) (at' : Nat) : Nat × Nat := Def.fnd (Def.alike bs at') (min 256 at')
theorem Def.mt_best (bs : List UInt8) (at' : Nat) : Def.Best (Def.alike bs at') (min 256 at') (Def.mt bs at').1 (Def.mt bs at').2 := Def.fnd_best _ _
theorem Def.mt_len (bs : List UInt8) (at' : Nat) (h : at' ≤ bs.length) : at' + (Def.mt bs at').1 ≤ bs.length ∧ (Def.mt bs at').1 ≤ 258 ∧ (Def.mt bs at').2 ≤ 256 ∧ ((Def.mt bs at').1 = 0 ∨ (3 ≤ (Def.mt bs at').1 ∧ 1 ≤ (Def.mt bs at').2)) := by
  rcases Def.mt_best bs at' with ⟨h1, h2, _⟩ | ⟨h1, h2, h3, h4, _, _⟩
  · rw [h1, h2]
    exact ⟨by omega, by omega, by omega, .inl rfl⟩
  · have g1 := Def.lcp_len bs at' (Def.mt bs at').2 258 h
    have g2 := Def.lcp_le bs at' (Def.mt bs at').2 258
    unfold Def.alike at h4
    omega
/-- What stands at a place: a byte, or a match; and how far it goes. -/
def Def.tok (bs : List UInt8) (at' : Nat) : Nat × Nat := if (Def.mt bs at').1 = 0 then (0, (bs.getD at' 0).toNat) else Def.mt bs at'
def Def.stp (t : Nat × Nat) : Nat := if t.1 = 0 then 1 else t.1
/-- All of it, parted, from a place on. -/
def Def.toks (bs : List UInt8) : Nat → Nat → List (Nat × Nat)
  | 0, _ => []
  | f + 1, at' => if at' < bs.length then Def.tok bs at' :: Def.toks bs f (at' + Def.stp (Def.tok bs at')) else []
theorem Def.toks_end (bs : List UInt8) (f at' : Nat) (h : bs.length ≤ at') : Def.toks bs f at' = [] := by
  cases f with
  | zero => rfl
  | succ f => rw [Def.toks, if_neg (by omega)]
/-- Fuel that is enough is as good as more. -/
theorem Def.toks_fuel (bs : List UInt8) (f g at' : Nat) (hf : bs.length ≤ at' + f) (hg : f ≤ g) : Def.toks bs g at' = Def.toks bs f at' := by
  induction f generalizing g at' with
  | zero => rw [Def.toks_end bs g at' (by omega), Def.toks_end bs 0 at' (by omega)]
  | succ f ih =>
    cases g with
    | zero => omega
    | succ g =>
      rw [Def.toks, Def.toks]
      split
      · have : 1 ≤ Def.stp (Def.tok bs at') := by unfold Def.stp; split <;> omega
        rw [ih g (at' + Def.stp (Def.tok bs at')) (by omega) (by omega)]
      · rfl
def Def.parse (bs : List UInt8) : List (Nat × Nat) := Def.toks bs bs.length 0
/-- From a place on, with fuel for the rest. -/
def Def.rest (bs : List UInt8) (at' : Nat) : List (Nat × Nat) := Def.toks bs (bs.length - at') at'
theorem Def.rest_step (bs : List UInt8) (at' : Nat) (h : at' < bs.length) : Def.rest bs at' = Def.tok bs at' :: Def.rest bs (at' + Def.stp (Def.tok bs at')) := by
  have hs : 1 ≤ Def.stp (Def.tok bs at') := by unfold Def.stp; split <;> omega
  unfold Def.rest
  rw [show bs.length - at' = (bs.length - at' - 1) + 1 by omega, Def.toks, if_pos h, Def.toks_fuel bs (bs.length - (at' + Def.stp (Def.tok bs at'))) _ _ (by omega) (by omega)]
theorem Def.rest_end (bs : List UInt8) (at' : Nat) (h : bs.length ≤ at') : Def.rest bs at' = [] := Def.toks_end _ _ _ h

end Go.Proofs.Ythplpoijkebjbaa
