/- A slice of numbers (int) that came in, opened into what the walks ask. There is no condition. -/
import Derived.Test.YtceafmiieaeodaaOpen
import Derived.Test.YtceafmiieaeodaaHuffK
namespace Go.Proofs.Ytceafmiieaeodaa
open Go.ChangeShapes Go.WideShapes Go.ChangeAt Go.RowKit

theorem open_intsl {H : Type} {enc : TypeId × Value → H} {w : World} {sp : Nat → Bool} {b : Bool} {A : Option Addr} {n c : Nat} {d : DataW H} {p : List MemPlace}
    (h : DataW.Trod enc Try.prog w 0 sp b 22 (.slice A n c) d p) : ∃ zs : List Int, Rd w w.heap.size A n (zs.map iv) ∧ n ≤ maxLen ∧ ∀ z ∈ zs, -9223372036854775808 ≤ z ∧ z ≤ 9223372036854775807 := by
  obtain ⟨fuel, hf⟩ := h
  rcases open_ints Try.underlying22 Try.underlying3 (by kernel_rfl) hf with ⟨hcs, _⟩ | ⟨x, l, cc, zs, hcs, _, hl, hm, hz, _, hcell, hwz⟩
  · simp [Value.cells] at hcs
    obtain ⟨rfl, rfl, rfl⟩ := hcs
    exact ⟨[], Rd.nil _ _ _, Nat.zero_le _, by simp⟩
  · simp [Value.cells] at hcs
    obtain ⟨rfl, rfl, rfl⟩ := hcs
    refine ⟨zs.take n, rd_of_cells ?_ ?_, Nat.le_trans hl hm, fun z hz => wf_i64 (hwz z (List.mem_of_mem_take hz))⟩
    · rw [List.length_map, List.length_take]
      split at hz <;> omega
    · intro i hi
      have hzl : i < zs.length := by split at hz <;> omega
      rw [hcell i hzl, List.getElem?_map, List.getElem?_take, if_pos hi, List.getElem?_eq_getElem hzl]
      simp [iv, hzl]

end Go.Proofs.Ytceafmiieaeodaa
