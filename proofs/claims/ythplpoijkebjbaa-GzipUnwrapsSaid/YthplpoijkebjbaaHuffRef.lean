/- The walks of layer 3's reference: a number's digits, and each symbol's code as a text. There is no condition but where the slice lies. -/
import Derived.Test.YthplpoijkebjbaaHuffNew
namespace Go.Proofs.Ythplpoijkebjbaa
open Go.RowKit

def sv (bs : List UInt8) : Value := .string ⟨bs.toArray⟩

def Huf.txt (ls : List Nat) (t k i : Nat) : List UInt8 := if 1 ≤ ls.getD i 0 ∧ (ls.getD i 0 < t ∨ (ls.getD i 0 = t ∧ i < k)) then Huf.dig (Huf.code ls i (ls.getD i 0)) (ls.getD i 0) else []
theorem map_upd {α : Type} (f : Nat → α) (g : α → Value) (n k : Nat) (v : α) : ((List.range n).map fun j => g (f j)).set k (g v) = (List.range n).map fun j => g (upd f k v j) := by
  apply List.ext_getElem
  · simp
  · intro j h2 h3
    rw [List.getElem_set]
    simp only [List.getElem_map, List.getElem_range]
    by_cases e : k = j
    · subst e; rw [if_pos rfl, upd_same]
    · rw [if_neg e, upd_ne _ _ (Ne.symm e)]

end Go.Proofs.Ythplpoijkebjbaa
