/- Layer 14 (pack): the least number from a number on, told by the sorted array: plain law. There is no condition. Layer 14 (pack): Entries of the reference. The conditions: where the items lie; at most 40 items; at most 4000 bytes each. -/
import Derived.Test.YtaapjampmnanmaaGreatPkSorted
import Derived.Test.YtaapjampmnanmaaGreatHilbX
import Derived.Test.YtaapjampmnanmaaGreatPkPlain
import Derived.Test.YtaapjampmnanmaaGreatPkEnts
import Derived.Test.YtaapjampmnanmaaGreatPkEn
namespace Go.Proofs.YtaapjampmnanmaaGreat
open Go.RowKit
set_option linter.unusedVariables false
theorem sort_strict {l : List Im} {d : Im} {X : Nat → It} (hR : St.Rch 0 l.length (itf l d) X) (hS : St.Srt It.id 0 l.length X) (hN : (l.map Im.num).Nodup) {i j : Nat} (hij : i < j) (hj : j < l.length) : (X i).id < (X j).id := by
  have h1 := hS i j (Nat.zero_le _) (Nat.le_of_lt hij) hj
  have h2 := (sort_ids hR).nodup_iff.2 hN
  rw [List.Nodup, List.pairwise_iff_getElem] at h2
  have h3 := h2 i j (by simp; omega) (by simpa using hj) hij
  rw [List.getElem_map, List.getElem_map, List.getElem_range, List.getElem_range] at h3
  omega
end Go.Proofs.YtaapjampmnanmaaGreat
namespace Go.Proofs.YtaapjampmnanmaaGreat
open Go.RowKit Go.Maps
set_option linter.unusedVariables false
set_option linter.unusedSimpArgs false
theorem idx_at (a : List UInt8) (l : List (List UInt8)) (h : l.idxOf a < l.length) : l[l.idxOf a] = a := List.getElem_idxOf h
theorem idx_le (a : List UInt8) (l : List (List UInt8)) : l.idxOf a ≤ l.length := List.idxOf_le_length
section
variable {G : Nat} {w0 w w' : World} {out : List Ent} {texts cs : List (List UInt8)} {A7 : Option Addr} {c7 : Nat} {A8 : Option Addr} {c8 : Nat} {A9 : Option Addr} {c9 : Nat} {vs : List Sl}
end
theorem sorted_nodup {l : List Im} {er : Nat} (h : SortE l er) (h0 : er = 0) : (l.map Im.num).Nodup := by
  refine nodup_of_apart l (fun i j hi hj hij he => ?_)
  have := h.form (sorted_ok h h0) (.inr (.inr ⟨i, j, hi, hj, hij, he⟩))
  omega
end Go.Proofs.YtaapjampmnanmaaGreat
