/- Layer 14 (pack): the least number from a number on, told by the sorted array: plain law. There is no condition. -/
import Derived.Test.YtaapjampmnanmaaPkRef
import Derived.Test.YtaapjampmnanmaaPkPlain
namespace Go.Proofs.Ytaapjampmnanmaa
open Go.RowKit
set_option linter.unusedVariables false

theorem sort_strict {l : List Im} {d : Im} {X : Nat → It} (hR : St.Rch 0 l.length (itf l d) X) (hS : St.Srt It.id 0 l.length X) (hN : (l.map Im.num).Nodup) {i j : Nat} (hij : i < j) (hj : j < l.length) : (X i).id < (X j).id := by
  have h1 := hS i j (Nat.zero_le _) (Nat.le_of_lt hij) hj
  have h2 := (sort_ids hR).nodup_iff.2 hN
  rw [List.Nodup, List.pairwise_iff_getElem] at h2
  have h3 := h2 i j (by simp; omega) (by simpa using hj) hij
  rw [List.getElem_map, List.getElem_map, List.getElem_range, List.getElem_range] at h3
  omega
/-- From which number on the k-th search goes. -/
def nextFrom (X : Nat → It) (k : Nat) : Nat := if k = 0 then 0 else (X (k - 1)).id + 1
theorem nextFrom_succ (X : Nat → It) (k : Nat) : nextFrom X (k + 1) = (X k).id + 1 := by
  unfold nextFrom
  rw [if_neg (by omega)]
  rfl
theorem below_from {l : List Im} {d : Im} {X : Nat → It} (hR : St.Rch 0 l.length (itf l d) X) (hS : St.Srt It.id 0 l.length X) {q k : Nat} (hq : q < k) (hk : k ≤ l.length) : (X q).id < nextFrom X k := by
  unfold nextFrom
  rw [if_neg (by omega)]
  have h1 := hS q (k - 1) (Nat.zero_le _) (by omega) (by omega)
  omega
theorem least_next {l : List Im} {d : Im} {X : Nat → It} (hR : St.Rch 0 l.length (itf l d) X) (hS : St.Srt It.id 0 l.length X) (hN : (l.map Im.num).Nodup) {k : Nat} (hk : k < l.length) {t : Int} (h : Least l (nextFrom X k) l.length t) :
    ∃ i, ∃ hi : i < l.length, t = i ∧ l[i].it = X k := by
  obtain ⟨m, hm, hXk⟩ := sort_mem hR hk
  obtain ⟨j, hj, rfl⟩ := List.mem_iff_getElem.1 hm
  have hfr : nextFrom X k ≤ (X k).id := by
    unfold nextFrom
    split
    · omega
    · have := sort_strict hR hS hN (i := k - 1) (j := k) (by omega) hk
      omega
  have hnum : l[j].num = (X k).id := by rw [hXk]; rfl
  rcases h with ⟨_, h⟩ | ⟨i, hi, _, rfl, h1, h2⟩
  · have := h j hj hj
    omega
  · refine ⟨i, hi, rfl, ?_⟩
    obtain ⟨q, hq, hXq⟩ := sort_has hR (List.getElem_mem hi)
    have hnq : l[i].num = (X q).id := by rw [hXq]; rfl
    have h3 := h2 j hj hj (by omega)
    have h4 : q = k := by
      rcases Nat.lt_trichotomy q k with h5 | h5 | h5
      · have := below_from hR hS h5 (Nat.le_of_lt hk)
        omega
      · exact h5
      · have := sort_strict hR hS hN h5 hq
        omega
    rw [← hXq, h4]
theorem least_end {l : List Im} {d : Im} {X : Nat → It} (hR : St.Rch 0 l.length (itf l d) X) (hS : St.Srt It.id 0 l.length X) {t : Int} (h : Least l (nextFrom X l.length) l.length t) : t = -1 := by
  rcases h with ⟨h, _⟩ | ⟨i, hi, _, rfl, h1, h2⟩
  · exact h
  · obtain ⟨q, hq, hXq⟩ := sort_has hR (List.getElem_mem hi)
    have hnq : l[i].num = (X q).id := by rw [hXq]; rfl
    have := below_from hR hS hq (Nat.le_refl _)
    omega

end Go.Proofs.Ytaapjampmnanmaa
