/- Sorting in place by exchanges (the stable sort of Go's library): what rotating, inserting and merging leave: plain law. There is no condition. Layer 14 (pack): items with their numbers in memory, and what the exchanges of the sort leave. The conditions: where the slice lies. -/
import Derived.Test.YtaapjampmnanmaaGreatBase
import Derived.Test.YtaapjampmnanmaaGreatMem
import Derived.BigQuiet
import Derived.BigRegion
import Derived.Deep.LoopGhost
import Derived.Deep.DeepCutAuto
namespace Go.Proofs.YtaapjampmnanmaaGreat
set_option linter.unusedVariables false
namespace St
section
variable {α : Type}
def swp (f : Nat → α) (i j : Nat) : Nat → α := fun k => if k = i then f j else if k = j then f i else f k
inductive Rch (a b : Nat) : (Nat → α) → (Nat → α) → Prop where
  | refl (f : Nat → α) : Rch a b f f
  | step {f g : Nat → α} (i j : Nat) : Rch a b f g → a ≤ i → i < b → a ≤ j → j < b → Rch a b f (swp g i j)
theorem Rch.trans {a b : Nat} {f g h : Nat → α} (h1 : Rch a b f g) (h2 : Rch a b g h) : Rch a b f h := by
  induction h2 with
  | refl => exact h1
  | step i j _ h3 h4 h5 h6 ih => exact .step i j ih h3 h4 h5 h6
theorem Rch.mono {a b a' b' : Nat} {f g : Nat → α} (h1 : Rch a b f g) (ha : a' ≤ a) (hb : b ≤ b') : Rch a' b' f g := by
  induction h1 with
  | refl => exact .refl f
  | step i j _ h3 h4 h5 h6 ih => exact .step i j ih (by omega) (by omega) (by omega) (by omega)
theorem Rch.out {a b : Nat} {f g : Nat → α} (h1 : Rch a b f g) {k : Nat} (hk : k < a ∨ b ≤ k) : g k = f k := by
  induction h1 with
  | refl => rfl
  | step i j _ h3 h4 h5 h6 ih =>
    unfold swp
    rw [if_neg (by omega), if_neg (by omega)]
    exact ih
theorem Rch.all {a b : Nat} {f g : Nat → α} (h1 : Rch a b f g) (p : α → Prop) (h : ∀ k, a ≤ k → k < b → p (f k)) : ∀ k, a ≤ k → k < b → p (g k) := by
  induction h1 with
  | refl => exact h
  | step i j _ h3 h4 h5 h6 ih =>
    intro k hk hk2
    unfold swp
    split
    · exact ih j h5 h6
    · split
      · exact ih i h3 h4
      · exact ih k hk hk2
theorem perm_swp {n i j : Nat} (g : Nat → α) (hi : i < n) (hj : j < n) : ((List.range n).map (swp g i j)).Perm ((List.range n).map g) := by
  have h : (List.range n).map (swp g i j) = (((List.range n).map g).set i (g j)).set j (g i) := by
    apply List.ext_getElem
    · simp
    · intro k h1 h2
      rw [List.getElem_set, List.getElem_set]
      simp only [List.getElem_map, List.getElem_range]
      unfold swp
      by_cases hki : k = i
      · subst hki
        rw [if_pos rfl]
        by_cases hkj : j = k
        · subst hkj; rw [if_pos rfl]
        · rw [if_neg hkj, if_pos rfl]
      · rw [if_neg hki]
        by_cases hkj : k = j
        · subst hkj; rw [if_pos rfl, if_pos rfl]
        · rw [if_neg hkj, if_neg (fun h => hkj h.symm), if_neg (fun h => hki h.symm)]
  rw [h]
  have hli : i < ((List.range n).map g).length := by simpa using hi
  have hlj : j < ((List.range n).map g).length := by simpa using hj
  have := List.set_set_perm hli hlj
  simpa using this
theorem Rch.perm {a b n : Nat} {f g : Nat → α} (h1 : Rch a b f g) (hb : b ≤ n) : ((List.range n).map g).Perm ((List.range n).map f) := by
  induction h1 with
  | refl => exact .refl _
  | step i j _ h3 h4 h5 h6 ih => exact (perm_swp _ (by omega) (by omega)).trans ih
def Srt (key : α → Nat) (a b : Nat) (f : Nat → α) : Prop := ∀ i j, a ≤ i → i ≤ j → j < b → key (f i) ≤ key (f j)
theorem Srt.out {key : α → Nat} {a b c d : Nat} {f g : Nat → α} (h : Srt key c d f) (hr : Rch a b f g) (hb : b ≤ c) : Srt key c d g := by
  intro p q hp hpq hq
  rw [hr.out (k := p) (.inr (by omega)), hr.out (k := q) (.inr (by omega))]
  exact h p q hp hpq hq
theorem Srt.pre {key : α → Nat} {a b c d : Nat} {f g : Nat → α} (h : Srt key c d f) (hr : Rch a b f g) (hd : d ≤ a) : Srt key c d g := by
  intro p q hp hpq hq
  rw [hr.out (k := p) (.inl (by omega)), hr.out (k := q) (.inl (by omega))]
  exact h p q hp hpq hq
def swr (f : Nat → α) (a b n : Nat) : Nat → α := fun k => if a ≤ k ∧ k < a + n then f (k - a + b) else if b ≤ k ∧ k < b + n then f (k - b + a) else f k
theorem swr_zero (f : Nat → α) (a b : Nat) : swr f a b 0 = f := by
  funext k; unfold swr; rw [if_neg (by omega), if_neg (by omega)]
theorem swr_succ (f : Nat → α) {a b n : Nat} (h : a + n < b) : swp (swr f a b n) (a + n) (b + n) = swr f a b (n + 1) := by
  funext k
  unfold swp swr
  by_cases h1 : k = a + n
  · subst h1
    rw [if_pos rfl, if_neg (by omega), if_neg (by omega), if_pos (by omega)]
    congr 1; omega
  · rw [if_neg h1]
    by_cases h2 : k = b + n
    · subst h2
      rw [if_pos rfl, if_neg (by omega), if_neg (by omega), if_neg (by omega), if_pos (by omega)]
      congr 1; omega
    · rw [if_neg h2]
      by_cases h3 : a ≤ k ∧ k < a + n
      · rw [if_pos h3, if_pos (by omega)]
      · rw [if_neg h3, if_neg (show ¬ (a ≤ k ∧ k < a + (n + 1)) by omega)]
        by_cases h4 : b ≤ k ∧ k < b + n
        · rw [if_pos h4, if_pos (by omega)]
        · rw [if_neg h4, if_neg (by omega)]
theorem swr_rch (f : Nat → α) {a b : Nat} : ∀ n, a + n ≤ b → Rch a (b + n) f (swr f a b n) := by
  intro n
  induction n with
  | zero => intro _; rw [swr_zero]; exact .refl f
  | succ n ih =>
    intro h
    rw [← swr_succ f (by omega)]
    exact .step _ _ ((ih (by omega)).mono (Nat.le_refl _) (by omega)) (by omega) (by omega) (by omega) (by omega)
def rot (s m e : Nat) (f : Nat → α) : Nat → α := fun i => if s ≤ i ∧ i < e then (if i < s + (e - m) then f (i + m - s) else f (i - (e - m))) else f i
theorem rot_gt (f : Nat → α) {m i j : Nat} (hi : i ≤ m) (hj : j < i) : rot (m - i) m (m + j) f = rot (m - (i - j)) m (m + j) (swr f (m - i) m j) := by
  funext k
  unfold rot swr
  by_cases h : m - i ≤ k ∧ k < m + j
  · rw [if_pos h]
    by_cases h1 : k < m - i + (m + j - m)
    · rw [if_pos h1, if_neg (by omega), if_pos (by omega)]
      congr 1; omega
    · rw [if_neg h1, if_pos (by omega)]
      by_cases h2 : k < m - (i - j) + (m + j - m)
      · rw [if_pos h2, if_neg (by omega), if_pos (by omega)]
        congr 1; omega
      · rw [if_neg h2, if_neg (by omega), if_neg (by omega)]
  · rw [if_neg h, if_neg (by omega), if_neg (by omega), if_neg (by omega)]
theorem rot_lt (f : Nat → α) {m i j : Nat} (hi : i ≤ m) (hj : i < j) : rot (m - i) m (m + j) f = rot (m - i) m (m + (j - i)) (swr f (m - i) (m + j - i) i) := by
  funext k
  unfold rot swr
  by_cases h : m - i ≤ k ∧ k < m + j
  · rw [if_pos h]
    by_cases h1 : k < m - i + (m + j - m)
    · rw [if_pos h1]
      by_cases h2 : k < m + (j - i)
      · rw [if_pos (by omega)]
        by_cases h3 : k < m - i + (m + (j - i) - m)
        · rw [if_pos h3, if_neg (by omega), if_neg (by omega)]
        · rw [if_neg h3, if_pos (by omega)]
          congr 1; omega
      · omega
    · rw [if_neg h1]
      by_cases h2 : k < m + (j - i)
      · omega
      · rw [if_neg (by omega), if_neg (by omega), if_pos (by omega)]
        congr 1; omega
  · rw [if_neg h, if_neg (by omega), if_neg (by omega), if_neg (by omega)]
theorem rot_eq (f : Nat → α) {m i : Nat} (hi : i ≤ m) : rot (m - i) m (m + i) f = swr f (m - i) m i := by
  funext k
  unfold rot swr
  by_cases h : m - i ≤ k ∧ k < m + i
  · rw [if_pos h]
    by_cases h1 : k < m - i + (m + i - m)
    · rw [if_pos h1, if_pos (by omega)]
      congr 1; omega
    · rw [if_neg h1, if_neg (by omega), if_pos (by omega)]
      congr 1; omega
  · rw [if_neg h, if_neg (by omega), if_neg (by omega)]
theorem rot_nil (f : Nat → α) {s m e : Nat} (h : s = m ∨ m = e) (hs : s ≤ m) (he : m ≤ e) : rot s m e f = f := by
  funext k
  unfold rot
  split
  · split <;> congr 1 <;> omega
  · rfl
theorem rot_rch {m : Nat} : ∀ (s i j : Nat) (f : Nat → α), i + j ≤ s → i ≤ m → Rch (m - i) (m + j) f (rot (m - i) m (m + j) f) := by
  intro s
  induction s with
  | zero =>
    intro i j f h hi
    rw [rot_nil f (.inl (by omega)) (by omega) (by omega)]
    exact .refl f
  | succ s ih =>
    intro i j f h hi
    by_cases h0 : i = 0 ∨ j = 0
    · rw [rot_nil f (by omega) (by omega) (by omega)]
      exact .refl f
    · rcases Nat.lt_trichotomy i j with h1 | h1 | h1
      · rw [rot_lt f hi h1]
        have h2 := swr_rch f (a := m - i) (b := m + j - i) i (by omega)
        have h3 := ih i (j - i) (swr f (m - i) (m + j - i) i) (by omega) hi
        exact (h2.mono (Nat.le_refl _) (by omega)).trans (h3.mono (Nat.le_refl _) (by omega))
      · subst h1
        rw [rot_eq f hi]
        exact (swr_rch f i (by omega)).mono (Nat.le_refl _) (Nat.le_refl _)
      · rw [rot_gt f hi h1]
        have h2 := swr_rch f (a := m - i) (b := m) j (by omega)
        have h3 := ih (i - j) j (swr f (m - i) m j) (by omega) (by omega)
        exact h2.trans (h3.mono (by omega) (Nat.le_refl _))
def mvu (f : Nat → α) (a k : Nat) : Nat → α := fun q => if a ≤ q ∧ q < k then f (q + 1) else if q = k then f a else f q
theorem mvu_zero (f : Nat → α) (a : Nat) : mvu f a a = f := by
  funext q; unfold mvu; rw [if_neg (by omega)]; split
  · rename_i h; rw [h]
  · rfl
theorem mvu_succ (f : Nat → α) {a k : Nat} (h : a ≤ k) : swp (mvu f a k) k (k + 1) = mvu f a (k + 1) := by
  funext q
  unfold swp mvu
  by_cases h1 : q = k
  · subst h1
    rw [if_pos rfl, if_neg (by omega), if_neg (by omega), if_pos (by omega)]
  · rw [if_neg h1]
    by_cases h2 : q = k + 1
    · subst h2
      rw [if_pos rfl, if_neg (by omega), if_pos rfl, if_neg (by omega), if_pos rfl]
    · rw [if_neg h2, if_neg h2]
      by_cases h3 : a ≤ q ∧ q < k
      · rw [if_pos h3, if_pos (by omega)]
      · rw [if_neg h3, if_neg h1, if_neg (by omega)]
theorem mvu_rch (f : Nat → α) {a b k : Nat} (ha : a ≤ k) (hk : k < b) : Rch a b f (mvu f a k) := by
  obtain ⟨d, rfl⟩ : ∃ d, k = a + d := ⟨k - a, by omega⟩
  clear ha
  induction d with
  | zero => rw [Nat.add_zero, mvu_zero]; exact .refl f
  | succ d ih =>
    rw [← Nat.add_assoc, ← mvu_succ f (by omega)]
    exact .step _ _ (ih (by omega)) (by omega) (by omega) (by omega) (by omega)
def mvd (f : Nat → α) (m k : Nat) : Nat → α := fun q => if k < q ∧ q ≤ m then f (q - 1) else if q = k then f m else f q
theorem mvd_zero (f : Nat → α) (m : Nat) : mvd f m m = f := by
  funext q; unfold mvd; rw [if_neg (by omega)]; split
  · rename_i h; rw [h]
  · rfl
theorem mvd_succ (f : Nat → α) {m k : Nat} (h : k + 1 ≤ m) : swp (mvd f m (k + 1)) (k + 1) k = mvd f m k := by
  funext q
  unfold swp mvd
  by_cases h1 : q = k + 1
  · subst h1
    rw [if_pos rfl, if_neg (by omega), if_neg (by omega), if_pos (by omega)]
    congr 1
  · rw [if_neg h1]
    by_cases h2 : q = k
    · subst h2
      rw [if_pos rfl, if_neg (by omega), if_pos rfl, if_neg (by omega), if_pos rfl]
    · rw [if_neg h2, if_neg h2]
      by_cases h3 : k + 1 < q ∧ q ≤ m
      · rw [if_pos h3, if_pos (by omega)]
      · rw [if_neg h3, if_neg h1, if_neg (by omega)]
theorem mvd_rch (f : Nat → α) {a b m k : Nat} (ha : a ≤ k) (hk : k ≤ m) (hm : m < b) : Rch a b f (mvd f m k) := by
  obtain ⟨d, rfl⟩ : ∃ d, m = k + d := ⟨m - k, by omega⟩
  clear hk
  induction d generalizing k with
  | zero => rw [Nat.add_zero, mvd_zero]; exact .refl f
  | succ d ih =>
    have h := ih (k := k + 1) (by omega) (by omega)
    have e : k + 1 + d = k + (d + 1) := by omega
    rw [e] at h
    rw [← mvd_succ f (by omega)]
    exact .step _ _ h (by omega) (by omega) (by omega) (by omega)
section
variable {key : α → Nat} {f : Nat → α} {a m b i : Nat}
theorem Srt.mvu (h : Srt key m b f) (hm : m = a + 1) (hi : m ≤ i) (hib : i ≤ b) (h1 : i = m ∨ key (f (i - 1)) < key (f a)) (h2 : i = b ∨ key (f a) ≤ key (f i)) : Srt key a b (mvu f a (i - 1)) := by
  subst hm
  intro p q hp hpq hq
  unfold St.mvu
  by_cases c1 : p < i - 1
  · rw [if_pos ⟨hp, c1⟩]
    by_cases c2 : q < i - 1
    · rw [if_pos ⟨by omega, c2⟩]
      exact h _ _ (by omega) (by omega) (by omega)
    · rw [if_neg (by omega)]
      by_cases c3 : q = i - 1
      · rw [if_pos c3]
        have := h (p + 1) (i - 1) (by omega) (by omega) (by omega)
        omega
      · rw [if_neg c3]
        exact h _ _ (by omega) (by omega) (by omega)
  · rw [if_neg (by omega)]
    by_cases c3 : p = i - 1
    · rw [if_pos c3]
      rw [if_neg (by omega)]
      by_cases c4 : q = i - 1
      · rw [if_pos c4]; exact Nat.le_refl _
      · rw [if_neg c4]
        have := h i q (by omega) (by omega) (by omega)
        omega
    · rw [if_neg c3, if_neg (by omega), if_neg (by omega)]
      exact h _ _ (by omega) (by omega) (by omega)
theorem Srt.mvd (h : Srt key a m f) (hb : b = m + 1) (hi : a ≤ i) (him : i ≤ m) (h1 : i = a ∨ key (f (i - 1)) ≤ key (f m)) (h2 : i = m ∨ key (f m) ≤ key (f i)) : Srt key a b (mvd f m i) := by
  subst hb
  intro p q hp hpq hq
  unfold St.mvd
  by_cases c1 : i < p
  · rw [if_pos ⟨c1, by omega⟩, if_pos (by omega)]
    exact h _ _ (by omega) (by omega) (by omega)
  · rw [if_neg (by omega)]
    by_cases c2 : p = i
    · rw [if_pos c2]
      by_cases c3 : i < q
      · rw [if_pos ⟨c3, by omega⟩]
        have := h i (q - 1) (by omega) (by omega) (by omega)
        omega
      · rw [if_neg (by omega), if_pos (by omega)]; exact Nat.le_refl _
    · rw [if_neg c2]
      by_cases c3 : i < q
      · rw [if_pos ⟨c3, by omega⟩]
        exact h _ _ (by omega) (by omega) (by omega)
      · rw [if_neg (by omega)]
        by_cases c4 : q = i
        · rw [if_pos c4]
          have := h p (i - 1) (by omega) (by omega) (by omega)
          omega
        · rw [if_neg c4]
          exact h _ _ (by omega) (by omega) (by omega)
theorem halves {mid s e : Nat} (hl : Srt key a m f) (hr : Srt key m b f) (hs : a ≤ s) (hsm : s ≤ m) (hme : m ≤ e) (heb : e ≤ b) (hse : s + e = mid + m) (h1 : s = a ∨ e = b ∨ key (f (s - 1)) ≤ key (f e)) (h2 : s = m ∨ e = m ∨ key (f (e - 1)) ≤ key (f s)) :
    Srt key a s (rot s m e f) ∧ Srt key s mid (rot s m e f) ∧ Srt key mid e (rot s m e f) ∧ Srt key e b (rot s m e f) ∧ ∀ i j, a ≤ i → i < mid → mid ≤ j → j < b → key (rot s m e f i) ≤ key (rot s m e f j) := by
  have r1 : ∀ q, q < s → rot s m e f q = f q := fun q h => by unfold rot; rw [if_neg (by omega)]
  have r2 : ∀ q, s ≤ q → q < mid → rot s m e f q = f (q + m - s) := fun q h h' => by unfold rot; rw [if_pos (by omega), if_pos (by omega)]
  have r3 : ∀ q, mid ≤ q → q < e → rot s m e f q = f (q - (e - m)) := fun q h h' => by unfold rot; rw [if_pos (by omega), if_neg (by omega)]
  have r4 : ∀ q, e ≤ q → rot s m e f q = f q := fun q h => by unfold rot; rw [if_neg (by omega)]
  refine ⟨fun p q hp hpq hq => ?_, fun p q hp hpq hq => ?_, fun p q hp hpq hq => ?_, fun p q hp hpq hq => ?_, fun p q hp hpm hmq hq => ?_⟩
  · rw [r1 p (by omega), r1 q (by omega)]; exact hl _ _ (by omega) (by omega) (by omega)
  · rw [r2 p (by omega) (by omega), r2 q (by omega) (by omega)]; exact hr _ _ (by omega) (by omega) (by omega)
  · rw [r3 p (by omega) (by omega), r3 q (by omega) (by omega)]; exact hl _ _ (by omega) (by omega) (by omega)
  · rw [r4 p (by omega), r4 q (by omega)]; exact hr _ _ (by omega) (by omega) (by omega)
  · by_cases c1 : p < s
    · rw [r1 p c1]
      by_cases c2 : q < e
      · rw [r3 q hmq c2]; exact hl _ _ (by omega) (by omega) (by omega)
      · rw [r4 q (by omega)]
        have g1 := hl p (s - 1) (by omega) (by omega) (by omega)
        have g2 := hr e q (by omega) (by omega) (by omega)
        omega
    · rw [r2 p (by omega) hpm]
      by_cases c2 : q < e
      · rw [r3 q hmq c2]
        have g1 := hr (p + m - s) (e - 1) (by omega) (by omega) (by omega)
        have g2 := hl s (q - (e - m)) (by omega) (by omega) (by omega)
        omega
      · rw [r4 q (by omega)]; exact hr _ _ (by omega) (by omega) (by omega)
theorem Srt.join {mid : Nat} {g h : Nat → α} (hg : ∀ i j, a ≤ i → i < mid → mid ≤ j → j < b → key (f i) ≤ key (f j)) (h1 : Rch a mid f g) (s1 : Srt key a mid g) (h2 : Rch mid b g h) (s2 : Srt key mid b h) : Srt key a b h := by
  intro p q hp hpq hq
  by_cases c1 : q < mid
  · rw [h2.out (.inl (by omega)), h2.out (.inl c1)]; exact s1 p q hp hpq c1
  · by_cases c2 : mid ≤ p
    · exact s2 p q c2 hpq hq
    · rw [h2.out (k := p) (.inl (by omega))]
      refine h2.all (fun x => key (g p) ≤ key x) (fun k hk hk2 => ?_) q (by omega) hq
      rw [h1.out (k := k) (.inr hk)]
      exact h1.all (fun x => key x ≤ key (f k)) (fun i hi hi2 => hg i k hi hi2 hk hk2) p hp (by omega)
end
end
end St
end Go.Proofs.YtaapjampmnanmaaGreat
namespace Go.Proofs.YtaapjampmnanmaaGreat
open Go.RowKit
set_option linter.unusedVariables false
set_option linter.unusedSimpArgs false
structure It where
  id : Nat
  A : Option Addr
  n : Nat
  c : Nat
  bs : List UInt8
def Arr (w : World) (g n : Nat) (f : Nat → It) : Prop := ∀ i, i < n → w.cell? ⟨g, i * 2, none⟩ = some (.int .u64 ((f i).id : Int)) ∧ w.cell? ⟨g, i * 2 + 1, none⟩ = some (.slice (f i).A (f i).n (f i).c) ∧
  w.frozen? ⟨g, i * 2, none⟩ = false ∧ w.frozen? ⟨g, i * 2 + 1, none⟩ = false
theorem Arr.below {w w' : World} {g n B : Nat} {f : Nat → It} (h : Arr w g n f) (hb : Below B w w') (hg : g < B) : Arr w' g n f := by
  intro i hi
  obtain ⟨h1, h2, h3, h4⟩ := h i hi
  have hbl := hb.block g hg
  refine ⟨(hb.cell (p := ⟨g, i * 2, none⟩) hg).trans h1, (hb.cell (p := ⟨g, i * 2 + 1, none⟩) hg).trans h2, ?_, ?_⟩
  · unfold World.frozen? at h3 ⊢; rw [hbl]; exact h3
  · unfold World.frozen? at h4 ⊢; rw [hbl]; exact h4
theorem Arr.drew {w : World} {g n : Nat} {f : Nat → It} (h : Arr w g n f) : Arr w.drew g n f := h
theorem Arr.drewN {w : World} {g n : Nat} {f : Nat → It} (h : Arr w g n f) (k : Nat) : Arr (w.drewN k) g n f := h
def oneIt (f : Nat → It) (j : Nat) (x : It) : Nat → It := fun k => if k = j then x else f k
theorem oneIt_same (f : Nat → It) (j : Nat) (x : It) : oneIt f j x j = x := if_pos rfl
theorem oneIt_ne (f : Nat → It) {i j : Nat} (x : It) (h : ¬ i = j) : oneIt f j x i = f i := if_neg h
theorem Arr.put {w : World} {g n : Nat} {f : Nat → It} (h : Arr w g n f) {j : Nat} (hj : j < n) (x : It) :
    Arr ((w.setCell ⟨g, j * 2, none⟩ (.int .u64 (x.id : Int))).setCell ⟨g, j * 2 + 1, none⟩ (.slice x.A x.n x.c)) g n (oneIt f j x) := by
  intro i hi
  obtain ⟨h1, h2, h3, h4⟩ := h i hi
  obtain ⟨e1, e2, _, _⟩ := h j hj
  have ne1 : (⟨g, j * 2, none⟩ : Addr) ≠ ⟨g, j * 2 + 1, none⟩ := by intro h; injection h with _ h _; omega
  have hf : ∀ (W : World) (p q : Addr) (u : Value), (W.setCell p u).frozen? q = W.frozen? q := fun W p q u => by simp
  by_cases hij : i = j
  · subst hij
    have e3 : (w.setCell ⟨g, i * 2, none⟩ (.int .u64 (x.id : Int))).cell? ⟨g, i * 2 + 1, none⟩ = some (.slice (f i).A (f i).n (f i).c) := by
      rw [World.cell?_setCell_other _ _ _ _ ne1]; exact e2
    refine ⟨?_, ?_, by rw [hf, hf]; exact h3, by rw [hf, hf]; exact h4⟩
    · rw [World.cell?_setCell_other _ _ _ _ (Ne.symm ne1), World.cell?_setCell_same _ _ _ e1, oneIt_same]
    · rw [World.cell?_setCell_same _ _ _ e3, oneIt_same]
  · have n1 : (⟨g, j * 2, none⟩ : Addr) ≠ ⟨g, i * 2, none⟩ := by intro h; injection h with _ h _; omega
    have n2 : (⟨g, j * 2 + 1, none⟩ : Addr) ≠ ⟨g, i * 2, none⟩ := by intro h; injection h with _ h _; omega
    have n3 : (⟨g, j * 2, none⟩ : Addr) ≠ ⟨g, i * 2 + 1, none⟩ := by intro h; injection h with _ h _; omega
    have n4 : (⟨g, j * 2 + 1, none⟩ : Addr) ≠ ⟨g, i * 2 + 1, none⟩ := by intro h; injection h with _ h _; omega
    refine ⟨?_, ?_, by rw [hf, hf]; exact h3, by rw [hf, hf]; exact h4⟩
    · rw [World.cell?_setCell_other _ _ _ _ n2, World.cell?_setCell_other _ _ _ _ n1, oneIt_ne f x hij]; exact h1
    · rw [World.cell?_setCell_other _ _ _ _ n4, World.cell?_setCell_other _ _ _ _ n3, oneIt_ne f x hij]; exact h2
theorem Arr.swap {w : World} {g n : Nat} {f : Nat → It} (h : Arr w g n f) {i j : Nat} (hi : i < n) (hj : j < n) :
    Arr ((((w.setCell ⟨g, i * 2, none⟩ (.int .u64 ((f j).id : Int))).setCell ⟨g, i * 2 + 1, none⟩ (.slice (f j).A (f j).n (f j).c)).setCell ⟨g, j * 2, none⟩ (.int .u64 ((f i).id : Int))).setCell ⟨g, j * 2 + 1, none⟩ (.slice (f i).A (f i).n (f i).c)) g n (St.swp f i j) := by
  have h2 := (h.put hi (f j)).put hj (f i)
  have e : oneIt (oneIt f i (f j)) j (f i) = St.swp f i j := by
    funext k
    unfold St.swp oneIt
    by_cases h1 : k = i
    · subst h1
      by_cases h2 : k = j
      · subst h2; simp
      · simp [h2]
    · simp [h1]
  rw [e] at h2
  exact h2
theorem chg_swap {w W : World} {g i j : Nat} {a b c d : Value} (h : Chg (fun q => q = g) w W) :
    Chg (fun q => q = g) w ((((W.setCell ⟨g, i * 2, none⟩ a).setCell ⟨g, i * 2 + 1, none⟩ b).setCell ⟨g, j * 2, none⟩ c).setCell ⟨g, j * 2 + 1, none⟩ d) :=
  (((h.setCell (.inr rfl) _).setCell (.inr rfl) _).setCell (.inr rfl) _).setCell (.inr rfl) _
abbrev cmpF : Value := .func (.func 96) #[] #[]
set_option maxRecDepth 100000 in
set_option maxHeartbeats 4000000 in
theorem swaprange_any (g n c a b m : Nat) (f : Nat → It) (w : World) (h : Arr w g n f) (hn : n ≤ 1048576) (hab : a + m ≤ b) (hbn : b + m ≤ n) :
    Calls Tryz.prog 203 #[.slice (some ⟨g, 0, none⟩) n c, .int .i64 (a : Int), .int .i64 (b : Int), .int .i64 (m : Int), cmpF] w fun e w' => e = .returned (.tuple #[]) ∧ Arr w' g n (St.swr f a b m) ∧ Chg (fun q => q = g) w w' := by
  have hnI : (n : Int) ≤ 1048576 := by omega
  have hmI : (m : Int) ≤ 1048576 := by omega
  go_enter Tryz.func203, Tryz.ntmps203
  go_wp2
  go_loopw [10] (fun i wr => ∃ k : Nat, k ≤ m ∧ i = .int .i64 k ∧ Hid (Arr wr g n (St.swr f a b k)) ∧ Hid (Chg (fun q => q = g) w wr)) (fun i _ => m - (intOf i).toNat)
  case atStart => exact ⟨0, by omega, rfl, hide (by rw [St.swr_zero]; exact h), hide (Chg.refl _ w)⟩
  case round =>
    obtain ⟨k, hk, rfl, hA, hC⟩ := hrel
    by_cases hlt : k < m
    · have hkI : (k : Int) < m := by omega
      obtain ⟨p, hp⟩ : ∃ p, a + k = p := ⟨_, rfl⟩
      obtain ⟨q, hq⟩ : ∃ q, b + k = q := ⟨_, rfl⟩
      have hpI : (a : Int) + (k : Int) = (p : Int) := by omega
      have hqI : (b : Int) + (k : Int) = (q : Int) := by omega
      have hpw : IntKind.i64.wrap (p : Int) = (p : Int) := by rw [IntKind.wrap_i64]; omega
      have hqw : IntKind.i64.wrap (q : Int) = (q : Int) := by rw [IntKind.wrap_i64]; omega
      have hpn : (p : Int) < (n : Int) := by omega
      have hqn : (q : Int) < (n : Int) := by omega
      obtain ⟨x0, x1, x2, x3⟩ := hA.out p (by omega)
      obtain ⟨y0, y1, y2, y3⟩ := hA.out q (by omega)
      have hS := hide (hA.out.swap (i := p) (j := q) (by omega) (by omega))
      have hC2 := hide (chg_swap (i := p) (j := q) (a := .int .u64 ((St.swr f a b k q).id : Int)) (b := .slice (St.swr f a b k q).A (St.swr f a b k q).n (St.swr f a b k q).c) (c := .int .u64 ((St.swr f a b k p).id : Int)) (d := .slice (St.swr f a b k p).A (St.swr f a b k p).n (St.swr f a b k p).c) hC.out)
      have hnext : St.swp (St.swr f a b k) p q = St.swr f a b (k + 1) := by rw [← hp, ← hq]; exact St.swr_succ f (by omega)
      rw [hnext] at hS
      replace hnext := hide hnext
      generalize St.swr f a b k p = X at *
      generalize St.swr f a b k q = Y at *
      replace hp := hide hp
      replace hq := hide hq
      go_upto_region 3 with fail
      go_region
      go_wp2
      go_roundw
      case rel => exact ⟨k + 1, by omega, by go_num, hide hS.out.drew, hide hC2.out.drew⟩
      case measure => simp [intOf] <;> omega
    · obtain rfl : k = m := by omega
      go_wp2
      go_end0
      exact ⟨rfl, hA.out, hC.out⟩
set_option maxRecDepth 100000 in
set_option maxHeartbeats 4000000 in
theorem rotate_any (g n c a m b : Nat) (f : Nat → It) (w : World) (h : Arr w g n f) (hn : n ≤ 1048576) (ham : a < m) (hmb : m < b) (hbn : b ≤ n) :
    Calls Tryz.prog 182 #[.slice (some ⟨g, 0, none⟩) n c, .int .i64 (a : Int), .int .i64 (m : Int), .int .i64 (b : Int), cmpF] w fun e w' => e = .returned (.tuple #[]) ∧ Arr w' g n (St.rot a m b f) ∧ Chg (fun q => q = g) w w' := by
  have hmI : (m : Int) ≤ 1048576 := by omega
  have haI : (a : Int) < (m : Int) := by omega
  have hbI : (m : Int) < (b : Int) := by omega
  have hbM : (b : Int) ≤ 1048576 := by omega
  obtain ⟨i0, hi0⟩ : ∃ i, m - a = i := ⟨_, rfl⟩
  obtain ⟨j0, hj0⟩ : ∃ j, b - m = j := ⟨_, rfl⟩
  have h1 : (m : Int) - (a : Int) = (i0 : Int) := by omega
  have h2 : (b : Int) - (m : Int) = (j0 : Int) := by omega
  have h1w : IntKind.i64.wrap (i0 : Int) = (i0 : Int) := by rw [IntKind.wrap_i64]; omega
  have h2w : IntKind.i64.wrap (j0 : Int) = (j0 : Int) := by rw [IntKind.wrap_i64]; omega
  obtain ⟨R, hR⟩ : ∃ R, St.rot a m b f = R := ⟨_, rfl⟩
  have hR0 := hide (show St.rot (m - i0) m (m + j0) f = R from by rw [← hR]; congr 1 <;> omega)
  rw [hR]
  replace h := hide h
  replace hR := hide hR
  go_enter Tryz.func182, Tryz.ntmps182
  go_wp2
  go_loopw [10, 11] (fun x y wr => ∃ i j : Nat, x = .int .i64 i ∧ y = .int .i64 j ∧ 0 < i ∧ 0 < j ∧ i ≤ m ∧ m + j ≤ n ∧ Hid (∃ X, Arr wr g n X ∧ St.rot (m - i) m (m + j) X = R) ∧ Hid (Chg (fun q => q = g) w wr)) (fun x y _ => (intOf x).toNat + (intOf y).toNat)
  case atStart => exact ⟨i0, j0, rfl, rfl, by omega, by omega, by omega, by omega, hide ⟨f, h.out, hR0.out⟩, hide (Chg.refl _ w)⟩
  case round =>
    clear h hR hR0 h1 h2 h1w h2w
    obtain ⟨i, j, rfl, rfl, hi, hj, him, hjn, hX, hC⟩ := hrel
    obtain ⟨X, hA, hRX⟩ := hX.out
    replace hA := hide hA
    replace hRX := hide hRX
    clear hX
    obtain ⟨p, hp⟩ : ∃ p, m - i = p := ⟨_, rfl⟩
    have hpI : (m : Int) - (i : Int) = (p : Int) := by omega
    have hpw : IntKind.i64.wrap (p : Int) = (p : Int) := by rw [IntKind.wrap_i64]; omega
    rcases Nat.lt_trichotomy i j with hlt | heq | hgt
    · have hltI : (i : Int) < (j : Int) := by omega
      have hneI : ((i : Int) != (j : Int)) = true := by simp; omega
      obtain ⟨d, hd⟩ : ∃ d, j - i = d := ⟨_, rfl⟩
      have hdI : (j : Int) - (i : Int) = (d : Int) := by omega
      have hdw : IntKind.i64.wrap (d : Int) = (d : Int) := by rw [IntKind.wrap_i64]; omega
      obtain ⟨t, ht⟩ : ∃ t, m + j = t := ⟨_, rfl⟩
      have htI : (m : Int) + (j : Int) = (t : Int) := by omega
      have htw : IntKind.i64.wrap (t : Int) = (t : Int) := by rw [IntKind.wrap_i64]; omega
      obtain ⟨q, hq⟩ : ∃ q, m + j - i = q := ⟨_, rfl⟩
      have hqI : (t : Int) - (i : Int) = (q : Int) := by omega
      have hqw : IntKind.i64.wrap (q : Int) = (q : Int) := by rw [IntKind.wrap_i64]; omega
      have hs := hide (swaprange_any g n c p q i X wr hA.out hn (by omega) (by omega))
      have hRn := hide (show St.rot (m - i) m (m + d) (St.swr X p q i) = R from by rw [← hRX.out, St.rot_lt X him hlt, hp, hq, hd])
      go_wp2_with (go_at_call 203; (with_reducible refine hs.out.mono ?_); rintro e w2 ⟨rfl, hA2, hC2⟩; have hC2 := hide (hC.out.trans hC2 (fun _ _ h => h)); replace hA2 := hide hA2)
      go_roundw
      case rel => exact ⟨i, d, rfl, rfl, hi, by omega, him, by omega, hide ⟨_, hA2.out, hRn.out⟩, hC2⟩
      case measure => simp [intOf] <;> omega
    · subst heq
      have hs := hide (swaprange_any g n c p m i X wr hA.out hn (by omega) (by omega))
      have hRn := hide (show St.swr X p m i = R from by rw [← hRX.out, St.rot_eq X him, hp])
      rw [hRn.out] at hs
      go_wp2_with (go_at_call 203; (with_reducible refine hs.out.mono ?_); rintro e w2 ⟨rfl, hA2, hC2⟩; have hC2 := hide (hC.out.trans hC2 (fun _ _ h => h)); replace hA2 := hide hA2)
      go_end0
      exact ⟨rfl, hA2.out, hC2.out⟩
    · have hltI : (j : Int) < (i : Int) := by omega
      have hneI : ((i : Int) != (j : Int)) = true := by simp; omega
      obtain ⟨d, hd⟩ : ∃ d, i - j = d := ⟨_, rfl⟩
      have hdI : (i : Int) - (j : Int) = (d : Int) := by omega
      have hdw : IntKind.i64.wrap (d : Int) = (d : Int) := by rw [IntKind.wrap_i64]; omega
      have hs := hide (swaprange_any g n c p m j X wr hA.out hn (by omega) (by omega))
      have hRn := hide (show St.rot (m - d) m (m + j) (St.swr X p m j) = R from by rw [← hRX.out, St.rot_gt X him hgt, hp, hd])
      go_wp2_with (go_at_call 203; (with_reducible refine hs.out.mono ?_); rintro e w2 ⟨rfl, hA2, hC2⟩; have hC2 := hide (hC.out.trans hC2 (fun _ _ h => h)); replace hA2 := hide hA2)
      go_roundw
      case rel => exact ⟨d, j, rfl, rfl, by omega, hj, by omega, hjn, hide ⟨_, hA2.out, hRn.out⟩, hC2⟩
      case measure => simp [intOf] <;> omega
end Go.Proofs.YtaapjampmnanmaaGreat
