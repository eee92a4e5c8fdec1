/- Own slices of rows: every element takes as many cells, whatever they hold; append of one row. There is no condition. -/
import Derived.Test.YtaapjampmnanmaaGreatMem
import Derived.Maps.AppendAt
namespace Go.Proofs.YtaapjampmnanmaaGreat
open Go.RowKit
set_option linter.unusedVariables false
set_option linter.unusedSimpArgs false
theorem flat_at (s : Nat) : ∀ (rows : List (List Value)), (∀ r ∈ rows, r.length = s) → ∀ (j : Nat) (hj : j < rows.length) (t : Nat), t < s → rows.flatten[j * s + t]? = rows[j][t]? := by
  intro rows
  induction rows with
  | nil => intro _ j hj; exact absurd hj (Nat.not_lt_zero _)
  | cons r rows ih =>
    intro h j hj t ht
    have hr := h r (by simp)
    rw [List.flatten_cons]
    cases j with
    | zero =>
      rw [List.getElem?_append_left (by rw [hr]; omega)]
      simp
    | succ j =>
      rw [List.getElem?_append_right (by rw [hr, Nat.succ_mul]; omega), hr, show (j + 1) * s + t - s = j * s + t by rw [Nat.succ_mul]; omega, ih (fun q hq => h q (by simp [hq])) j (by simpa using hj) t ht]
      rfl
theorem flat_len (s : Nat) : ∀ (rows : List (List Value)), (∀ r ∈ rows, r.length = s) → rows.flatten.length = rows.length * s := by
  intro rows
  induction rows with
  | nil => intro _; simp
  | cons r rows ih =>
    intro h
    rw [List.flatten_cons, List.length_append, h r (by simp), ih (fun q hq => h q (by simp [hq])), List.length_cons, Nat.succ_mul]
    omega
structure ElemR (P : Program) (t e : TypeId) (z : Value) (s bytes : Nat) : Prop where
  under : P.underlying t = some (.slice e)
  info : (P.info? e).map (fun i => (i.zero, i.size, i.bytes)) = some (some z, s, bytes)
  zs : z.cells.size = s
  pos : 0 < s
  few : bytes ≤ 1048576
def OwR (w : World) (base : Nat) (e : TypeId) (s : Nat) (A : Option Addr) (n c : Nat) (rows : List (List Value)) : Prop :=
  rows.length = n ∧ (∀ r ∈ rows, r.length = s) ∧ w.ownsRow base e s (.slice A n c) n rows.flatten
section
variable {w w' : World} {base n c s : Nat} {e : TypeId} {A : Option Addr} {rows : List (List Value)}
theorem OwR.nil (w : World) (base : Nat) (e : TypeId) (s : Nat) : OwR w base e s none 0 0 [] := ⟨rfl, (fun _ h => by cases h), World.ownsRow_nil w base e s⟩
theorem OwR.form (h : OwR w base e s A n c rows) : (A = none ∧ n = 0 ∧ c = 0) ∨ ∃ g, A = some ⟨g, 0, none⟩ ∧ base ≤ g ∧ g < w.heap.size ∧ n ≤ c := by
  rcases h.2.2.2 with ⟨hv, h0⟩ | ⟨g, cap, cur, hv, hg, hh, hc, _⟩
  · injection hv with h1 h2 h3
    exact .inl ⟨h1, h0, h3⟩
  · injection hv with h1 h2 h3
    exact .inr ⟨g, h1, hg, lt_of_block hh, by rw [h3]; exact hc⟩
theorem OwR.pos (h : OwR w base e s A n c rows) (hn : 0 < n) : ∃ g, A = some ⟨g, 0, none⟩ ∧ base ≤ g ∧ g < w.heap.size ∧ n ≤ c := by
  rcases h.form with ⟨_, h0, _⟩ | h
  · omega
  · exact h
theorem OwR.blk_lt (h : OwR w base e s A n c rows) : ∀ g, blk A = some g → base ≤ g ∧ g < w.heap.size := by
  intro g hg
  rcases h.form with ⟨rfl, _⟩ | ⟨g', rfl, h1, h2, _⟩
  · simp [blk] at hg
  · simp [blk] at hg
    subst hg
    exact ⟨h1, h2⟩
theorem OwR.row (h : OwR w base e s A n c rows) {g : Nat} (hg : blk A = some g) : ∃ cur, w.heap[g]? = some (.cells cur e (0, 0)) := by
  rcases h.2.2.2 with ⟨hv, _⟩ | ⟨g', cap, cur, hv, _, hh, _⟩
  · injection hv with h1
    rw [h1] at hg
    simp [blk] at hg
  · injection hv with h1
    rw [h1] at hg
    have : g' = g := by simpa [blk] using hg
    subst this
    exact ⟨cur, hh⟩
theorem OwR.chg {R : Nat → Prop} (h : OwR w base e s A n c rows) (hk : Chg R w w') (hn : ∀ g, blk A = some g → ¬ R g) : OwR w' base e s A n c rows := by
  refine ⟨h.1, h.2.1, h.2.2.1, ?_⟩
  rcases h.2.2.2 with h2 | ⟨g, cap, cur, hv, hb, hh, r⟩
  · exact .inl h2
  · refine .inr ⟨g, cap, cur, hv, hb, ?_, r⟩
    injection hv with h1
    rw [hk.block g (lt_of_block hh) (hn g (by rw [h1]; rfl))]
    exact hh
theorem OwR.below (h : OwR w base e s A n c rows) (hk : Below w.heap.size w w') : OwR w' base e s A n c rows :=
  h.chg (R := fun _ => False) ⟨hk.os, hk.tape, hk.output, hk.size, fun k hl _ => hk.block k hl⟩ (fun _ _ h => h)
theorem OwR.ne (h : OwR w base e s A n c rows) {g : Nat} {t : TypeId} {cs : Array Value} (hk : Blk w g t cs) (hne : e ≠ t) : blk A ≠ some g := by
  intro hg
  obtain ⟨cur, hh⟩ := h.row hg
  exact Blk.same (w := w) hh hk hne rfl
theorem OwR.cells (h : OwR w base e s A n c rows) (j : Nat) (hj : j < n) (t : Nat) (ht : t < s) : ∃ g v, A = some ⟨g, 0, none⟩ ∧ (rows[j]'(by rw [h.1]; exact hj))[t]? = some v ∧ w.cell? ⟨g, j * s + t, none⟩ = some v ∧ w.frozen? ⟨g, j * s + t, none⟩ = false := by
  obtain ⟨g, rfl, _, _, _⟩ := h.pos (by omega)
  have hj' : j < rows.length := by rw [h.1]; exact hj
  have h1 := flat_at s rows h.2.1 j hj' t ht
  have hl := h.2.1 _ (List.getElem_mem hj')
  have h2 : (rows[j])[t]? = some ((rows[j])[t]'(by rw [hl]; exact ht)) := List.getElem?_eq_getElem _
  rw [h2] at h1
  refine ⟨g, _, rfl, h2, ?_, ?_⟩
  · have := h.2.2.cells (g := g) rfl _ _ h1
    rwa [Addr.add_mid, Nat.zero_add] at this
  · obtain ⟨cur, hh⟩ := h.row (g := g) rfl
    exact Blk.free (w := w) hh _
end
section
variable {P : Program}
theorem run_append_row (w : World) {t e : TypeId} {z : Value} {s bytes : Nat} (E : ElemR P t e z s bytes) (ty : TypeId) {base n c : Nat} {A : Option Addr} {rows : List (List Value)} (h : OwR w base e s A n c rows) (r : List Value) (hr : r.length = s) (h1 : ∀ u ∈ r, u.oneCell' = true) (te : TypeId) (fr : Nat × Nat) (h63 : n ≤ 1048576) (hb64 : bytes ≤ 64) (hbase : base ≤ w.heap.size) :
    ∃ A' c' w', (Builtin.append_ #[t, t] ty #[.slice A n c, .slice (some ⟨w.heap.size, 0, none⟩) 1 1]).run P (w.alloc (.cells r.toArray te fr)) = .ok (.slice A' (n + 1) c') w' ∧ OwR w' base e s A' (n + 1) c' (rows ++ [r]) ∧ Chg (fun k => blk A = some k) w w' ∧
      (blk A' = blk A ∨ ∃ k, w.heap.size ≤ k ∧ blk A' = some k) := by
  obtain ⟨i, hi, hz, hs, hb⟩ := info_parts E.info
  have hby : (n + 1) * bytes ≤ 140737488355328 := Nat.le_trans (Nat.mul_le_mul (show n + 1 ≤ 1048577 by omega) hb64) (by omega)
  obtain ⟨v', w', hrun, h2, h3, _, h5⟩ := run_append_own_at (P := P) (w := w.alloc (.cells r.toArray te fr)) base t ty e i z s bytes E.under hi hz hs hb E.zs E.pos (.slice A n c) n rows.flatten (h.2.2.alloc _) ⟨w.heap.size, 0, none⟩ 1 1 r (by rw [hr, Nat.one_mul])
    (by
      intro j u hu
      rw [Addr.add_mid, cell_of_row _ _ _ r.toArray te fr (heap_alloc_new w _), ← hu, Nat.zero_add]
      simp)
    h1 (by simp only [maxLen]; omega) hby (by simp; omega)
  rw [show (Value.slice A n c).ownBlock = blk A from ownBlock_slice] at h3 h5
  have hc : Chg (fun k => blk A = some k) w w' := ((Chg.refl _ w).alloc _).trans (chg_of_grown h3) (fun _ _ h => h)
  rcases h2.2 with ⟨hv, h0⟩ | ⟨g, cap, cur, hv, hq⟩
  · omega
  · rw [hv] at hrun h2 h5
    refine ⟨_, cap, w', hrun, ⟨by rw [List.length_append, h.1]; rfl, ?_, by rw [List.flatten_append]; simpa using h2⟩, hc, ?_⟩
    · intro q hq
      rcases List.mem_append.1 hq with hq | hq
      · exact h.2.1 q hq
      · rw [List.mem_singleton.1 hq]; exact hr
    rw [ownBlock_slice] at h5
    rcases h5 with h5 | h5
    · exact .inl h5
    · exact .inr ⟨_, by simp, h5⟩
theorem wpList_append_row {ops : Array Oper} {rest : List Oper} {o : Oper} {a : Act} {Q : Exit → Act → World → Prop} (w : World) (hgd : o.guard = none) (q y : Operand) {t e : TypeId} {z : Value} {s bytes : Nat}
    (ho : o.op = .call { callee := .builtin .append, args := #[q, y], argTypes := #[t, t] }) (E : ElemR P t e z s bytes)
    {base n c : Nat} {A : Option Addr} {rows : List (List Value)} (hs : a.eval q = .slice A n c) (h : OwR w base e s A n c rows) (r : List Value) (hr : r.length = s) (h1 : ∀ u ∈ r, u.oneCell' = true) (te : TypeId) (fr : Nat × Nat) (hx : a.eval y = .slice (some ⟨w.heap.size, 0, none⟩) 1 1)
    (h63 : n ≤ 1048576) (hb64 : bytes ≤ 64) (hbase : base ≤ w.heap.size)
    (hk : ∀ A' c' w', OwR w' base e s A' (n + 1) c' (rows ++ [r]) → Chg (fun k => blk A = some k) w w' → (blk A' = blk A ∨ ∃ k, w.heap.size ≤ k ∧ blk A' = some k) → wpList P ops Q rest (a.put o.dst (.slice A' (n + 1) c')) w') :
    wpList P ops Q (o :: rest) a (w.alloc (.cells r.toArray te fr)) :=
  wpList_plain hgd fun _ hK => by
    obtain ⟨A', c', w', hrun, h2, h3, h4⟩ := run_append_row w E o.type h r hr h1 te fr h63 hb64 hbase
    unfold Oper.wp execOp
    simp only [ho, resolve, invoke, builtin, Sem.run_bind, Sem.run_pure, Result.andThen_ok, List.map_toArray, List.map_cons, List.map_nil, hs, hx, hrun]
    exact hK _ _ (hk A' c' w' h2 h3 h4)
end
end Go.Proofs.YtaapjampmnanmaaGreat
