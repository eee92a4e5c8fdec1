/- Sorting in place by exchanges (the stable sort of Go's library): what rotating, inserting and merging leave: plain law. There is no condition. -/
import Derived.Test.YtaapjampmnanmaaGreatBase
namespace Go.Proofs.YtaapjampmnanmaaGreat
set_option linter.unusedVariables false
namespace St

section
variable {α : Type}
/-- The places i and j exchanged. -/
def swp (f : Nat → α) (i j : Nat) : Nat → α := fun k => if k = i then f j else if k = j then f i else f k
/-- Reached by exchanges within [a, b). -/
inductive Rch (a b : Nat) : (Nat → α) → (Nat → α) → Prop where
  | refl (f : Nat → α) : Rch a b f f
  | step {f g : Nat → α} (i j : Nat) : Rch a b f g → a ≤ i → i < b → a ≤ j → j < b → Rch a b f (swp g i j)
theorem Rch.trans {a b : Nat} {f g h : Nat → α} (h1 : Rch a b f g) (h2 : Rch a b g h) : Rch a b f h := by
  induction h2 with
  | refl => exact h1
  | step i j _ h3 h4 h5 h6 ih => exact .step i j ih h3 h4 h5 h6
theorem Rch.mono {a b a' b' : Nat} {f g : Nat → α} (h1 : Rch a b f g) (ha : a' ≤ a) (hb : b ≤ b') : Rch a' b' f g := by
  induction h1 with
  | refl => exact .refl f
  | step i j _ h3 h4 h5 h6 ih => exact .step i j ih (by omega) (by omega) (by omega) (by omega)
theorem Rch.out {a b : Nat} {f g : Nat → α} (h1 : Rch a b f g) {k : Nat} (hk : k < a ∨ b ≤ k) : g k = f k := by
  induction h1 with
  | refl => rfl
  | step i j _ h3 h4 h5 h6 ih =>
    unfold swp
    rw [if_neg (by omega), if_neg (by omega)]
    exact ih
theorem Rch.all {a b : Nat} {f g : Nat → α} (h1 : Rch a b f g) (p : α → Prop) (h : ∀ k, a ≤ k → k < b → p (f k)) : ∀ k, a ≤ k → k < b → p (g k) := by
  induction h1 with
  | refl => exact h
  | step i j _ h3 h4 h5 h6 ih =>
    intro k hk hk2
    unfold swp
    split
    · exact ih j h5 h6
    · split
      · exact ih i h3 h4
      · exact ih k hk hk2
theorem perm_swp {n i j : Nat} (g : Nat → α) (hi : i < n) (hj : j < n) : ((List.range n).map (swp g i j)).Perm ((List.range n).map g) := by
  have h : (List.range n).map (swp g i j) = (((List.range n).map g).set i (g j)).set j (g i) := by
    apply List.ext_getElem
    · simp
    · intro k h1 h2
      rw [List.getElem_set, List.getElem_set]
      simp only [List.getElem_map, List.getElem_range]
      unfold swp
      by_cases hki : k = i
      · subst hki
        rw [if_pos rfl]
        by_cases hkj : j = k
        · subst hkj; rw [if_pos rfl]
        · rw [if_neg hkj, if_pos rfl]
      · rw [if_neg hki]
        by_cases hkj : k = j
        · subst hkj; rw [if_pos rfl, if_pos rfl]
        · rw [if_neg hkj, if_neg (fun h => hkj h.symm), if_neg (fun h => hki h.symm)]
  rw [h]
  have hli : i < ((List.range n).map g).length := by simpa using hi
  have hlj : j < ((List.range n).map g).length := by simpa using hj
  have := List.set_set_perm hli hlj
  simpa using this
theorem Rch.perm {a b n : Nat} {f g : Nat → α} (h1 : Rch a b f g) (hb : b ≤ n) : ((List.range n).map g).Perm ((List.range n).map f) := by
  induction h1 with
  | refl => exact .refl _
  | step i j _ h3 h4 h5 h6 ih => exact (perm_swp _ (by omega) (by omega)).trans ih

/-- Ascending on [a, b). -/
def Srt (key : α → Nat) (a b : Nat) (f : Nat → α) : Prop := ∀ i j, a ≤ i → i ≤ j → j < b → key (f i) ≤ key (f j)

theorem Srt.out {key : α → Nat} {a b c d : Nat} {f g : Nat → α} (h : Srt key c d f) (hr : Rch a b f g) (hb : b ≤ c) : Srt key c d g := by
  intro p q hp hpq hq
  rw [hr.out (k := p) (.inr (by omega)), hr.out (k := q) (.inr (by omega))]
  exact h p q hp hpq hq
theorem Srt.pre {key : α → Nat} {a b c d : Nat} {f g : Nat → α} (h : Srt key c d f) (hr : Rch a b f g) (hd : d ≤ a) : Srt key c d g := by
  intro p q hp hpq hq
  rw [hr.out (k := p) (.inl (by omega)), hr.out (k := q) (.inl (by omega))]
  exact h p q hp hpq hq
/-- The first k of two stretches exchanged. -/
def swr (f : Nat → α) (a b n : Nat) : Nat → α := fun k => if a ≤ k ∧ k < a + n then f (k - a + b) else if b ≤ k ∧ k < b + n then f (k - b + a) else f k
theorem swr_zero (f : Nat → α) (a b : Nat) : swr f a b 0 = f := by
  funext k; unfold swr; rw [if_neg (by omega), if_neg (by omega)]
theorem swr_succ (f : Nat → α) {a b n : Nat} (h : a + n < b) : swp (swr f a b n) (a + n) (b + n) = swr f a b (n + 1) := by
  funext k
  unfold swp swr
  by_cases h1 : k = a + n
  · subst h1
    rw [if_pos rfl, if_neg (by omega), if_neg (by omega), if_pos (by omega)]
    congr 1; omega
  · rw [if_neg h1]
    by_cases h2 : k = b + n
    · subst h2
      rw [if_pos rfl, if_neg (by omega), if_neg (by omega), if_neg (by omega), if_pos (by omega)]
      congr 1; omega
    · rw [if_neg h2]
      by_cases h3 : a ≤ k ∧ k < a + n
      · rw [if_pos h3, if_pos (by omega)]
      · rw [if_neg h3, if_neg (show ¬ (a ≤ k ∧ k < a + (n + 1)) by omega)]
        by_cases h4 : b ≤ k ∧ k < b + n
        · rw [if_pos h4, if_pos (by omega)]
        · rw [if_neg h4, if_neg (by omega)]
theorem swr_rch (f : Nat → α) {a b : Nat} : ∀ n, a + n ≤ b → Rch a (b + n) f (swr f a b n) := by
  intro n
  induction n with
  | zero => intro _; rw [swr_zero]; exact .refl f
  | succ n ih =>
    intro h
    rw [← swr_succ f (by omega)]
    exact .step _ _ ((ih (by omega)).mono (Nat.le_refl _) (by omega)) (by omega) (by omega) (by omega) (by omega)
/-- The stretches [s, m) and [m, e) in the other order. -/
def rot (s m e : Nat) (f : Nat → α) : Nat → α := fun i => if s ≤ i ∧ i < e then (if i < s + (e - m) then f (i + m - s) else f (i - (e - m))) else f i
theorem rot_gt (f : Nat → α) {m i j : Nat} (hi : i ≤ m) (hj : j < i) : rot (m - i) m (m + j) f = rot (m - (i - j)) m (m + j) (swr f (m - i) m j) := by
  funext k
  unfold rot swr
  by_cases h : m - i ≤ k ∧ k < m + j
  · rw [if_pos h]
    by_cases h1 : k < m - i + (m + j - m)
    · rw [if_pos h1, if_neg (by omega), if_pos (by omega)]
      congr 1; omega
    · rw [if_neg h1, if_pos (by omega)]
      by_cases h2 : k < m - (i - j) + (m + j - m)
      · rw [if_pos h2, if_neg (by omega), if_pos (by omega)]
        congr 1; omega
      · rw [if_neg h2, if_neg (by omega), if_neg (by omega)]
  · rw [if_neg h, if_neg (by omega), if_neg (by omega), if_neg (by omega)]
theorem rot_lt (f : Nat → α) {m i j : Nat} (hi : i ≤ m) (hj : i < j) : rot (m - i) m (m + j) f = rot (m - i) m (m + (j - i)) (swr f (m - i) (m + j - i) i) := by
  funext k
  unfold rot swr
  by_cases h : m - i ≤ k ∧ k < m + j
  · rw [if_pos h]
    by_cases h1 : k < m - i + (m + j - m)
    · rw [if_pos h1]
      by_cases h2 : k < m + (j - i)
      · rw [if_pos (by omega)]
        by_cases h3 : k < m - i + (m + (j - i) - m)
        · rw [if_pos h3, if_neg (by omega), if_neg (by omega)]
        · rw [if_neg h3, if_pos (by omega)]
          congr 1; omega
      · omega
    · rw [if_neg h1]
      by_cases h2 : k < m + (j - i)
      · omega
      · rw [if_neg (by omega), if_neg (by omega), if_pos (by omega)]
        congr 1; omega
  · rw [if_neg h, if_neg (by omega), if_neg (by omega), if_neg (by omega)]
theorem rot_eq (f : Nat → α) {m i : Nat} (hi : i ≤ m) : rot (m - i) m (m + i) f = swr f (m - i) m i := by
  funext k
  unfold rot swr
  by_cases h : m - i ≤ k ∧ k < m + i
  · rw [if_pos h]
    by_cases h1 : k < m - i + (m + i - m)
    · rw [if_pos h1, if_pos (by omega)]
      congr 1; omega
    · rw [if_neg h1, if_neg (by omega), if_pos (by omega)]
      congr 1; omega
  · rw [if_neg h, if_neg (by omega), if_neg (by omega)]
theorem rot_nil (f : Nat → α) {s m e : Nat} (h : s = m ∨ m = e) (hs : s ≤ m) (he : m ≤ e) : rot s m e f = f := by
  funext k
  unfold rot
  split
  · split <;> congr 1 <;> omega
  · rfl

theorem rot_rch {m : Nat} : ∀ (s i j : Nat) (f : Nat → α), i + j ≤ s → i ≤ m → Rch (m - i) (m + j) f (rot (m - i) m (m + j) f) := by
  intro s
  induction s with
  | zero =>
    intro i j f h hi
    rw [rot_nil f (.inl (by omega)) (by omega) (by omega)]
    exact .refl f
  | succ s ih =>
    intro i j f h hi
    by_cases h0 : i = 0 ∨ j = 0
    · rw [rot_nil f (by omega) (by omega) (by omega)]
      exact .refl f
    · rcases Nat.lt_trichotomy i j with h1 | h1 | h1
      · rw [rot_lt f hi h1]
        have h2 := swr_rch f (a := m - i) (b := m + j - i) i (by omega)
        have h3 := ih i (j - i) (swr f (m - i) (m + j - i) i) (by omega) hi
        exact (h2.mono (Nat.le_refl _) (by omega)).trans (h3.mono (Nat.le_refl _) (by omega))
      · subst h1
        rw [rot_eq f hi]
        exact (swr_rch f i (by omega)).mono (Nat.le_refl _) (Nat.le_refl _)
      · rw [rot_gt f hi h1]
        have h2 := swr_rch f (a := m - i) (b := m) j (by omega)
        have h3 := ih (i - j) j (swr f (m - i) m j) (by omega) (by omega)
        exact h2.trans (h3.mono (by omega) (Nat.le_refl _))

/-- The element at a moved up to k. -/
def mvu (f : Nat → α) (a k : Nat) : Nat → α := fun q => if a ≤ q ∧ q < k then f (q + 1) else if q = k then f a else f q
theorem mvu_zero (f : Nat → α) (a : Nat) : mvu f a a = f := by
  funext q; unfold mvu; rw [if_neg (by omega)]; split
  · rename_i h; rw [h]
  · rfl
theorem mvu_succ (f : Nat → α) {a k : Nat} (h : a ≤ k) : swp (mvu f a k) k (k + 1) = mvu f a (k + 1) := by
  funext q
  unfold swp mvu
  by_cases h1 : q = k
  · subst h1
    rw [if_pos rfl, if_neg (by omega), if_neg (by omega), if_pos (by omega)]
  · rw [if_neg h1]
    by_cases h2 : q = k + 1
    · subst h2
      rw [if_pos rfl, if_neg (by omega), if_pos rfl, if_neg (by omega), if_pos rfl]
    · rw [if_neg h2, if_neg h2]
      by_cases h3 : a ≤ q ∧ q < k
      · rw [if_pos h3, if_pos (by omega)]
      · rw [if_neg h3, if_neg h1, if_neg (by omega)]
theorem mvu_rch (f : Nat → α) {a b k : Nat} (ha : a ≤ k) (hk : k < b) : Rch a b f (mvu f a k) := by
  obtain ⟨d, rfl⟩ : ∃ d, k = a + d := ⟨k - a, by omega⟩
  clear ha
  induction d with
  | zero => rw [Nat.add_zero, mvu_zero]; exact .refl f
  | succ d ih =>
    rw [← Nat.add_assoc, ← mvu_succ f (by omega)]
    exact .step _ _ (ih (by omega)) (by omega) (by omega) (by omega) (by omega)
/-- The element at m moved down to k. -/
def mvd (f : Nat → α) (m k : Nat) : Nat → α := fun q => if k < q ∧ q ≤ m then f (q - 1) else if q = k then f m else f q
theorem mvd_zero (f : Nat → α) (m : Nat) : mvd f m m = f := by
  funext q; unfold mvd; rw [if_neg (by omega)]; split
  · rename_i h; rw [h]
  · rfl
theorem mvd_succ (f : Nat → α) {m k : Nat} (h : k + 1 ≤ m) : swp (mvd f m (k + 1)) (k + 1) k = mvd f m k := by
  funext q
  unfold swp mvd
  by_cases h1 : q = k + 1
  · subst h1
    rw [if_pos rfl, if_neg (by omega), if_neg (by omega), if_pos (by omega)]
    congr 1
  · rw [if_neg h1]
    by_cases h2 : q = k
    · subst h2
      rw [if_pos rfl, if_neg (by omega), if_pos rfl, if_neg (by omega), if_pos rfl]
    · rw [if_neg h2, if_neg h2]
      by_cases h3 : k + 1 < q ∧ q ≤ m
      · rw [if_pos h3, if_pos (by omega)]
      · rw [if_neg h3, if_neg h1, if_neg (by omega)]
theorem mvd_rch (f : Nat → α) {a b m k : Nat} (ha : a ≤ k) (hk : k ≤ m) (hm : m < b) : Rch a b f (mvd f m k) := by
  obtain ⟨d, rfl⟩ : ∃ d, m = k + d := ⟨m - k, by omega⟩
  clear hk
  induction d generalizing k with
  | zero => rw [Nat.add_zero, mvd_zero]; exact .refl f
  | succ d ih =>
    have h := ih (k := k + 1) (by omega) (by omega)
    have e : k + 1 + d = k + (d + 1) := by omega
    rw [e] at h
    rw [← mvd_succ f (by omega)]
    exact .step _ _ h (by omega) (by omega) (by omega) (by omega)

section
variable {key : α → Nat} {f : Nat → α} {a m b i : Nat}
theorem Srt.mvu (h : Srt key m b f) (hm : m = a + 1) (hi : m ≤ i) (hib : i ≤ b) (h1 : i = m ∨ key (f (i - 1)) < key (f a)) (h2 : i = b ∨ key (f a) ≤ key (f i)) : Srt key a b (mvu f a (i - 1)) := by
  subst hm
  intro p q hp hpq hq
  unfold St.mvu
  by_cases c1 : p < i - 1
  · rw [if_pos ⟨hp, c1⟩]
    by_cases c2 : q < i - 1
    · rw [if_pos ⟨by omega, c2⟩]
      exact h _ _ (by omega) (by omega) (by omega)
    · rw [if_neg (by omega)]
      by_cases c3 : q = i - 1
      · rw [if_pos c3]
        have := h (p + 1) (i - 1) (by omega) (by omega) (by omega)
        omega
      · rw [if_neg c3]
        exact h _ _ (by omega) (by omega) (by omega)
  · rw [if_neg (by omega)]
    by_cases c3 : p = i - 1
    · rw [if_pos c3]
      rw [if_neg (by omega)]
      by_cases c4 : q = i - 1
      · rw [if_pos c4]; exact Nat.le_refl _
      · rw [if_neg c4]
        have := h i q (by omega) (by omega) (by omega)
        omega
    · rw [if_neg c3, if_neg (by omega), if_neg (by omega)]
      exact h _ _ (by omega) (by omega) (by omega)
theorem Srt.mvd (h : Srt key a m f) (hb : b = m + 1) (hi : a ≤ i) (him : i ≤ m) (h1 : i = a ∨ key (f (i - 1)) ≤ key (f m)) (h2 : i = m ∨ key (f m) ≤ key (f i)) : Srt key a b (mvd f m i) := by
  subst hb
  intro p q hp hpq hq
  unfold St.mvd
  by_cases c1 : i < p
  · rw [if_pos ⟨c1, by omega⟩, if_pos (by omega)]
    exact h _ _ (by omega) (by omega) (by omega)
  · rw [if_neg (by omega)]
    by_cases c2 : p = i
    · rw [if_pos c2]
      by_cases c3 : i < q
      · rw [if_pos ⟨c3, by omega⟩]
        have := h i (q - 1) (by omega) (by omega) (by omega)
        omega
      · rw [if_neg (by omega), if_pos (by omega)]; exact Nat.le_refl _
    · rw [if_neg c2]
      by_cases c3 : i < q
      · rw [if_pos ⟨c3, by omega⟩]
        exact h _ _ (by omega) (by omega) (by omega)
      · rw [if_neg (by omega)]
        by_cases c4 : q = i
        · rw [if_pos c4]
          have := h p (i - 1) (by omega) (by omega) (by omega)
          omega
        · rw [if_neg c4]
          exact h _ _ (by omega) (by omega) (by omega)
/-- Two sorted stretches, the inner parts exchanged where the search says: four sorted parts, and nothing left of the middle is above anything right of it. -/
theorem halves {mid s e : Nat} (hl : Srt key a m f) (hr : Srt key m b f) (hs : a ≤ s) (hsm : s ≤ m) (hme : m ≤ e) (heb : e ≤ b) (hse : s + e = mid + m) (h1 : s = a ∨ e = b ∨ key (f (s - 1)) ≤ key (f e)) (h2 : s = m ∨ e = m ∨ key (f (e - 1)) ≤ key (f s)) :
    Srt key a s (rot s m e f) ∧ Srt key s mid (rot s m e f) ∧ Srt key mid e (rot s m e f) ∧ Srt key e b (rot s m e f) ∧ ∀ i j, a ≤ i → i < mid → mid ≤ j → j < b → key (rot s m e f i) ≤ key (rot s m e f j) := by
  have r1 : ∀ q, q < s → rot s m e f q = f q := fun q h => by unfold rot; rw [if_neg (by omega)]
  have r2 : ∀ q, s ≤ q → q < mid → rot s m e f q = f (q + m - s) := fun q h h' => by unfold rot; rw [if_pos (by omega), if_pos (by omega)]
  have r3 : ∀ q, mid ≤ q → q < e → rot s m e f q = f (q - (e - m)) := fun q h h' => by unfold rot; rw [if_pos (by omega), if_neg (by omega)]
  have r4 : ∀ q, e ≤ q → rot s m e f q = f q := fun q h => by unfold rot; rw [if_neg (by omega)]
  refine ⟨fun p q hp hpq hq => ?_, fun p q hp hpq hq => ?_, fun p q hp hpq hq => ?_, fun p q hp hpq hq => ?_, fun p q hp hpm hmq hq => ?_⟩
  · rw [r1 p (by omega), r1 q (by omega)]; exact hl _ _ (by omega) (by omega) (by omega)
  · rw [r2 p (by omega) (by omega), r2 q (by omega) (by omega)]; exact hr _ _ (by omega) (by omega) (by omega)
  · rw [r3 p (by omega) (by omega), r3 q (by omega) (by omega)]; exact hl _ _ (by omega) (by omega) (by omega)
  · rw [r4 p (by omega), r4 q (by omega)]; exact hr _ _ (by omega) (by omega) (by omega)
  · by_cases c1 : p < s
    · rw [r1 p c1]
      by_cases c2 : q < e
      · rw [r3 q hmq c2]; exact hl _ _ (by omega) (by omega) (by omega)
      · rw [r4 q (by omega)]
        have g1 := hl p (s - 1) (by omega) (by omega) (by omega)
        have g2 := hr e q (by omega) (by omega) (by omega)
        omega
    · rw [r2 p (by omega) hpm]
      by_cases c2 : q < e
      · rw [r3 q hmq c2]
        have g1 := hr (p + m - s) (e - 1) (by omega) (by omega) (by omega)
        have g2 := hl s (q - (e - m)) (by omega) (by omega) (by omega)
        omega
      · rw [r4 q (by omega)]; exact hr _ _ (by omega) (by omega) (by omega)
theorem Srt.join {mid : Nat} {g h : Nat → α} (hg : ∀ i j, a ≤ i → i < mid → mid ≤ j → j < b → key (f i) ≤ key (f j)) (h1 : Rch a mid f g) (s1 : Srt key a mid g) (h2 : Rch mid b g h) (s2 : Srt key mid b h) : Srt key a b h := by
  intro p q hp hpq hq
  by_cases c1 : q < mid
  · rw [h2.out (.inl (by omega)), h2.out (.inl c1)]; exact s1 p q hp hpq c1
  · by_cases c2 : mid ≤ p
    · exact s2 p q c2 hpq hq
    · rw [h2.out (k := p) (.inl (by omega))]
      refine h2.all (fun x => key (g p) ≤ key x) (fun k hk hk2 => ?_) q (by omega) hq
      rw [h1.out (k := k) (.inr hk)]
      exact h1.all (fun x => key x ≤ key (f k)) (fun i hi hi2 => hg i k hi hi2 hk hk2) p hp (by omega)
end
end
end St
end Go.Proofs.YtaapjampmnanmaaGreat
