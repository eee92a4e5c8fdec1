/- Layer 14 (pack): which error items have; small steps of the laws' walks. There is no condition. -/
import Derived.Test.YtaapjampmnanmaaGreatPkSorted
import Derived.Test.YtaapjampmnanmaaGreatPkEnts
import Derived.BigQuiet
namespace Go.Proofs.YtaapjampmnanmaaGreat
open Go.RowKit
set_option linter.unusedVariables false
set_option linter.unusedSimpArgs false
theorem sortE_ex (l : List Im) : ∃ er, SortE l er ∧ er ≤ 8 := by
  by_cases h1 : ∃ m ∈ l, ¬ m.ok
  · refine ⟨8, ⟨fun _ => rfl, fun h => ?_, fun h => ?_, fun h => ?_⟩, by omega⟩ <;> (obtain ⟨m, hm, hn⟩ := h1; exact absurd (h m hm) hn)
  by_cases h2 : l = [] ∨ (∃ m ∈ l, m.n = 0) ∨ ∃ (i j : Nat) (hi : i < l.length) (hj : j < l.length), i < j ∧ l[i].num = l[j].num
  · refine ⟨3, ⟨fun h => absurd h h1, fun _ _ => rfl, fun _ h3 h4 h5 _ => ?_, fun _ h3 h4 h5 _ => ?_⟩, by omega⟩ <;>
      (rcases h2 with h | ⟨m, hm, h⟩ | ⟨i, j, hi, hj, hij, h⟩
       · exact absurd h h3
       · exact absurd h (h4 m hm)
       · exact absurd h (h5 i j hi hj hij))
  by_cases h3 : ∃ m ∈ l, 1048576 < m.n
  · refine ⟨5, ⟨fun h => absurd h h1, fun _ h => absurd h h2, fun _ _ _ _ h => ?_, fun _ _ _ _ _ => rfl⟩, by omega⟩
    obtain ⟨m, hm, h4⟩ := h3
    have := h m hm
    omega
  · exact ⟨0, ⟨fun h => absurd h h1, fun _ h => absurd h h2, fun _ _ _ _ _ => rfl, fun _ _ _ _ h => absurd h h3⟩, by omega⟩
theorem SortE.small {l : List Im} {er : Nat} (h : SortE l er) (h0 : er = 0) : ¬ ∃ m ∈ l, 1048576 < m.n := by
  intro hb
  have h1 := sorted_ok h h0
  have h2 : ¬ (l = [] ∨ (∃ m ∈ l, m.n = 0) ∨ ∃ (i j : Nat) (hi : i < l.length) (hj : j < l.length), i < j ∧ l[i].num = l[j].num) := fun hf => by
    have := h.form h1 hf
    omega
  have := h.long h1 (fun e => h2 (.inl e)) (fun m hm e => h2 (.inr (.inl ⟨m, hm, e⟩))) (fun i j hi hj hij e => h2 (.inr (.inr ⟨i, j, hi, hj, hij, e⟩))) hb
  omega
theorem le_nsum (l : List Im) : ∀ m ∈ l, m.n ≤ (l.map Im.n).sum := by
  induction l with
  | nil => intro m hm; cases hm
  | cons x t ih =>
    intro m hm
    rw [List.map_cons, List.sum_cons]
    rcases List.mem_cons.1 hm with rfl | h
    · omega
    · have := ih m h
      omega
theorem RdIm.mono' {w : World} {B B' : Nat} {A : Option Addr} {l : List Im} (h : RdIm w B A l) (hb : B ≤ B') : RdIm w B' A l := by
  intro j hj
  obtain ⟨b, o, h1, h2, r⟩ := h j hj
  exact ⟨b, o, h1, Nat.lt_of_lt_of_le h2 hb, r⟩
section
variable {o : Oper} {a : Act} {K : Act → Prop} {w : World}
theorem quiet_str (x : Operand) (ho : o.op = .convert 22 9 x) (A : Option Addr) (n c : Nat) (bs : List UInt8) (hx : a.eval x = .slice A n c) (hr : Rd w w.heap.size A n (bs.map bv)) (h : K (a.put o.dst (.string ⟨bs.toArray⟩))) : o.quiet Tryz.prog a (Grw w) K :=
  ⟨.string ⟨bs.toArray⟩, fun w' hw' => by
    have hc := str_pk (hr.below hw'.out) c
    unfold Oper.quietAt execOp
    simp only [ho, hx, Sem.run_bind, Sem.run_pure, Result.andThen_ok, hc]
    exact ⟨rfl, rfl⟩, h⟩
end
end Go.Proofs.YtaapjampmnanmaaGreat
