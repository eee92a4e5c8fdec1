/- Layer 12's laws: the example, and DirFinds: a walk. There is no condition. -/
import Derived.Test.YtaapjampmnanmaaDirX
import Derived.Laws.IdiomStrings
import Derived.Laws.BytesArg
namespace Go.Proofs.Ytaapjampmnanmaa
open Go.RowKit

theorem cut_ex (es : List Ent) (id : Nat) (h : Asc es) : ∃ i, CutAt es id i := by
  have key : ∀ m, m ≤ es.length → ∃ i, i ≤ m ∧ (∀ j (hj : j < es.length), j < i → es[j].id ≤ id) ∧ ∀ j (hj : j < es.length), i ≤ j → j < m → id < es[j].id := by
    intro m
    induction m with
    | zero => intro _; exact ⟨0, Nat.le_refl _, fun _ _ h => absurd h (Nat.not_lt_zero _), fun _ _ _ h => absurd h (Nat.not_lt_zero _)⟩
    | succ m ih =>
      intro hm
      obtain ⟨i, h1, h2, h3⟩ := ih (by omega)
      by_cases hle : es[m].id ≤ id
      · refine ⟨m + 1, Nat.le_refl _, fun j hj hjm => Nat.le_trans (h j m hj (by omega) (by omega)) hle, fun j _ h4 h5 => by omega⟩
      · refine ⟨i, by omega, h2, fun j hj h4 h5 => ?_⟩
        by_cases e : j = m
        · subst e; omega
        · exact h3 j hj h4 (by omega)
  obtain ⟨i, h1, h2, h3⟩ := key es.length (Nat.le_refl _)
  exact ⟨i, h1, h2, fun j hj h4 => h3 j hj h4 hj⟩

end Go.Proofs.Ytaapjampmnanmaa
