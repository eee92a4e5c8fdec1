/- Layer 14 (pack): what a sorted array of numbered items says of the items: plain law. There is no condition. -/
import Derived.Test.YtaapjampmnanmaaGreatPkItem
namespace Go.Proofs.YtaapjampmnanmaaGreat
open Go.RowKit
set_option linter.unusedVariables false
theorem itf_map (l : List Im) (d : Im) : (List.range l.length).map (itf l d) = l.map Im.it := by
  apply List.ext_getElem
  · simp
  · intro i h1 h2
    have hi : i < l.length := by simpa using h1
    rw [List.getElem_map, List.getElem_map, List.getElem_range, itf_at l d hi]
theorem sort_perm {l : List Im} {d : Im} {X : Nat → It} (hR : St.Rch 0 l.length (itf l d) X) : ((List.range l.length).map X).Perm (l.map Im.it) := by
  have := hR.perm (Nat.le_refl _)
  rwa [itf_map] at this
theorem sort_mem {l : List Im} {d : Im} {X : Nat → It} (hR : St.Rch 0 l.length (itf l d) X) {k : Nat} (hk : k < l.length) : ∃ m ∈ l, X k = m.it := by
  have h : X k ∈ (List.range l.length).map X := List.mem_map.2 ⟨k, List.mem_range.2 hk, rfl⟩
  obtain ⟨m, hm, he⟩ := List.mem_map.1 ((sort_perm hR).mem_iff.1 h)
  exact ⟨m, hm, he.symm⟩
theorem sort_has {l : List Im} {d : Im} {X : Nat → It} (hR : St.Rch 0 l.length (itf l d) X) {m : Im} (hm : m ∈ l) : ∃ k, k < l.length ∧ X k = m.it := by
  have h : m.it ∈ (List.range l.length).map X := (sort_perm hR).mem_iff.2 (List.mem_map.2 ⟨m, hm, rfl⟩)
  obtain ⟨k, hk, he⟩ := List.mem_map.1 h
  exact ⟨k, List.mem_range.1 hk, he⟩
theorem sort_ids {l : List Im} {d : Im} {X : Nat → It} (hR : St.Rch 0 l.length (itf l d) X) : ((List.range l.length).map fun k => (X k).id).Perm (l.map Im.num) := by
  have h := (sort_perm hR).map It.id
  rw [List.map_map, List.map_map] at h
  exact h
theorem nodup_of_apart (l : List Im) (h : ∀ (i j : Nat) (hi : i < l.length) (hj : j < l.length), i < j → l[i].num ≠ l[j].num) : (l.map Im.num).Nodup := by
  rw [List.Nodup, List.pairwise_iff_getElem]
  intro i j hi hj hij
  rw [List.getElem_map, List.getElem_map]
  exact h i j (by simpa using hi) (by simpa using hj) hij
theorem apart_of_nodup (l : List Im) (h : (l.map Im.num).Nodup) : ∀ (i j : Nat) (hi : i < l.length) (hj : j < l.length), i < j → l[i].num ≠ l[j].num := by
  rw [List.Nodup, List.pairwise_iff_getElem] at h
  intro i j hi hj hij
  have := h i j (by simpa using hi) (by simpa using hj) hij
  rwa [List.getElem_map, List.getElem_map] at this
theorem sort_dup {l : List Im} {d : Im} {X : Nat → It} (hR : St.Rch 0 l.length (itf l d) X) {k q : Nat} (hq : q < k) (hk : k < l.length) (he : (X q).id = (X k).id) : ∃ (i j : Nat) (hi : i < l.length) (hj : j < l.length), i < j ∧ l[i].num = l[j].num := by
  apply Classical.byContradiction
  intro hn
  have h1 : (l.map Im.num).Nodup := nodup_of_apart l (fun i j hi hj hij he => hn ⟨i, j, hi, hj, hij, he⟩)
  have h2 := (sort_ids hR).nodup_iff.2 h1
  rw [List.Nodup, List.pairwise_iff_getElem] at h2
  have h3 := h2 q k (by simp; omega) (by simpa using hk) hq
  rw [List.getElem_map, List.getElem_map, List.getElem_range, List.getElem_range] at h3
  exact h3 he
theorem sort_apart {l : List Im} {d : Im} {X : Nat → It} (hR : St.Rch 0 l.length (itf l d) X) (hS : St.Srt It.id 0 l.length X) (hA : ∀ k, k < l.length → 0 < k → (X (k - 1)).id ≠ (X k).id) : ∀ (i j : Nat) (hi : i < l.length) (hj : j < l.length), i < j → l[i].num ≠ l[j].num := by
  apply apart_of_nodup
  rw [← (sort_ids hR).nodup_iff, List.Nodup, List.pairwise_iff_getElem]
  intro i j hi hj hij
  rw [List.getElem_map, List.getElem_map, List.getElem_range, List.getElem_range]
  have hjl : j < l.length := by simpa using hj
  have h1 := hS i (j - 1) (Nat.zero_le _) (by omega) (by omega)
  have h2 := hS (j - 1) j (Nat.zero_le _) (by omega) hjl
  have h3 := hA j hjl (by omega)
  omega
end Go.Proofs.YtaapjampmnanmaaGreat
