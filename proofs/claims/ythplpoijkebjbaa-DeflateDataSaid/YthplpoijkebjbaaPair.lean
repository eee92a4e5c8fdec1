/- A slice of pairs of integers that a call makes for itself: append of one, within and without a fence. There is no condition. -/
import Derived.Test.YthplpoijkebjbaaMem
import Derived.OwnWalkIn
namespace Go.Proofs.Ythplpoijkebjbaa
open Go.RowKit
set_option linter.unusedVariables false

/-- The cells of pairs. -/
def pv2 (t : Nat × Nat) : List Value := [.int .i64 (t.1 : Int), .int .i64 (t.2 : Int)]
def flat2 (ts : List (Nat × Nat)) : List Value := ts.flatMap pv2
theorem flat2_len (ts : List (Nat × Nat)) : (flat2 ts).length = ts.length * 2 := by
  induction ts with
  | nil => rfl
  | cons t ts ih =>
    rw [flat2, List.flatMap_cons, List.length_append, show (ts.flatMap pv2).length = ts.length * 2 from ih, List.length_cons]
    show 2 + _ = _
    omega
theorem flat2_at (ts : List (Nat × Nat)) : ∀ j (h : j < ts.length), (flat2 ts)[j * 2]? = some (.int .i64 (ts[j].1 : Int)) ∧ (flat2 ts)[j * 2 + 1]? = some (.int .i64 (ts[j].2 : Int)) := by
  induction ts with
  | nil => intro j h; simp at h
  | cons t ts ih =>
    intro j h
    rw [show flat2 (t :: ts) = pv2 t ++ flat2 ts from List.flatMap_cons]
    cases j with
    | zero => exact ⟨rfl, rfl⟩
    | succ j =>
      obtain ⟨h1, h2⟩ := ih j (by simpa using h)
      have hl : (pv2 t).length = 2 := rfl
      exact ⟨by rw [List.getElem?_append_right (by rw [hl]; omega), hl, show (j + 1) * 2 - 2 = j * 2 by omega, h1]; rfl, by rw [List.getElem?_append_right (by rw [hl]; omega), hl, show (j + 1) * 2 + 1 - 2 = j * 2 + 1 by omega, h2]; rfl⟩
theorem flat2_snoc (ts : List (Nat × Nat)) (t : Nat × Nat) : flat2 (ts ++ [t]) = flat2 ts ++ pv2 t := by
  rw [flat2, List.flatMap_append]
  simp [flat2]

/-- What the program's tables say of a slice type t of pairs of type e. -/
structure Elem2 (P : Program) (t e : TypeId) : Prop where
  under : P.underlying t = some (.slice e)
  info : (P.info? e).map (fun i => (i.zero, i.size, i.bytes)) = some (some (.agg #[.int .i64 0, .int .i64 0]), 2, 16)

/-- The slice value '.slice A n c' is the call's own and holds these pairs. -/
def OwM (w : World) (base : Nat) (e : TypeId) (A : Option Addr) (n c : Nat) (ts : List (Nat × Nat)) : Prop := ts.length = n ∧ w.ownsRow base e 2 (.slice A n c) n (flat2 ts)
section
variable {w w' : World} {base n c : Nat} {e : TypeId} {A : Option Addr} {ts : List (Nat × Nat)}
theorem OwM.nil (w : World) (base : Nat) (e : TypeId) : OwM w base e none 0 0 [] := ⟨rfl, World.ownsRow_nil w base e 2⟩
theorem OwM.form (h : OwM w base e A n c ts) : (A = none ∧ n = 0 ∧ c = 0) ∨ ∃ g, A = some ⟨g, 0, none⟩ ∧ base ≤ g ∧ g < w.heap.size := by
  rcases h.2.2 with ⟨hv, h0⟩ | ⟨g, cap, cur, hv, hg, hh, _⟩
  · injection hv with h1 h2 h3
    exact .inl ⟨h1, h0, h3⟩
  · injection hv with h1 h2 h3
    exact .inr ⟨g, h1, hg, lt_of_block hh⟩
theorem OwM.pos (h : OwM w base e A n c ts) (hn : 0 < n) : ∃ g, A = some ⟨g, 0, none⟩ ∧ base ≤ g ∧ g < w.heap.size := by
  rcases h.form with ⟨_, h0, _⟩ | h
  · omega
  · exact h
theorem OwM.blk_lt (h : OwM w base e A n c ts) : ∀ g, blk A = some g → base ≤ g ∧ g < w.heap.size := by
  intro g hg
  rcases h.form with ⟨rfl, _⟩ | ⟨g', rfl, h1, h2⟩
  · simp [blk] at hg
  · simp [blk] at hg
    subst hg
    exact ⟨h1, h2⟩
theorem OwM.row (h : OwM w base e A n c ts) {g : Nat} (hg : blk A = some g) : ∃ cur, w.heap[g]? = some (.cells cur e (0, 0)) := by
  rcases h.2.2 with ⟨hv, _⟩ | ⟨g', cap, cur, hv, _, hh, _⟩
  · injection hv with h1
    rw [h1] at hg
    simp [blk] at hg
  · injection hv with h1
    rw [h1] at hg
    have : g' = g := by simpa [blk] using hg
    subst this
    exact ⟨cur, hh⟩
theorem OwM.chg {R : Nat → Prop} (h : OwM w base e A n c ts) (hk : Chg R w w') (hn : ∀ g, blk A = some g → ¬ R g) : OwM w' base e A n c ts := by
  refine ⟨h.1, h.2.1, ?_⟩
  rcases h.2.2 with h2 | ⟨g, cap, cur, hv, hb, hh, r⟩
  · exact .inl h2
  · refine .inr ⟨g, cap, cur, hv, hb, ?_, r⟩
    injection hv with h1
    rw [hk.block g (lt_of_block hh) (hn g (by rw [h1]; rfl))]
    exact hh
theorem OwM.below (h : OwM w base e A n c ts) (hk : Below w.heap.size w w') : OwM w' base e A n c ts :=
  h.chg (R := fun _ => False) ⟨hk.os, hk.tape, hk.output, hk.size, fun k hl _ => hk.block k hl⟩ (fun _ _ h => h)
theorem OwM.ne (h : OwM w base e A n c ts) {g : Nat} {t : TypeId} {cs : Array Value} (hk : Blk w g t cs) (hne : e ≠ t) : blk A ≠ some g := by
  intro hg
  obtain ⟨cur, hh⟩ := h.row hg
  exact Blk.same (w := w) hh hk hne rfl
theorem OwM.cells (h : OwM w base e A n c ts) (j : Nat) (hj : j < n) : ∃ g, A = some ⟨g, 0, none⟩ ∧ w.cell? ⟨g, j * 2, none⟩ = some (.int .i64 ((ts[j]'(by rw [h.1]; exact hj)).1 : Int)) ∧ w.cell? ⟨g, j * 2 + 1, none⟩ = some (.int .i64 ((ts[j]'(by rw [h.1]; exact hj)).2 : Int)) := by
  obtain ⟨g, rfl, _, _⟩ := h.pos (by omega)
  obtain ⟨h1, h2⟩ := flat2_at ts j (by rw [h.1]; exact hj)
  refine ⟨g, rfl, ?_, ?_⟩
  · have := h.2.cells (g := g) rfl _ _ h1
    rwa [Addr.add_mid, Nat.zero_add] at this
  · have := h.2.cells (g := g) rfl _ _ h2
    rwa [Addr.add_mid, Nat.zero_add] at this
end
section
variable {P : Program}
/-- append of one pair, laid into a block of its own first: what runs. -/
theorem run_append_pair (w : World) {t e : TypeId} (E : Elem2 P t e) (ty : TypeId) {base n c : Nat} {A : Option Addr} {ts : List (Nat × Nat)} (h : OwM w base e A n c ts) (x1 x2 : Nat) (te : TypeId) (fr : Nat × Nat) (h63 : n ≤ 1048576) (hbase : base ≤ w.heap.size) :
    ∃ A' c' w', (Builtin.append_ #[t, t] ty #[.slice A n c, .slice (some ⟨w.heap.size, 0, none⟩) 1 1]).run P (w.alloc (.cells #[.int .i64 (x1 : Int), .int .i64 (x2 : Int)] te fr)) = .ok (.slice A' (n + 1) c') w' ∧ OwM w' base e A' (n + 1) c' (ts ++ [(x1, x2)]) ∧ Chg (fun k => blk A = some k) w w' ∧
      (blk A' = blk A ∨ ∃ k, w.heap.size ≤ k ∧ blk A' = some k) := by
  obtain ⟨i, hi, hz, hs, hb⟩ := info_parts E.info
  obtain ⟨v', w', hrun, h2, h3, _, h5⟩ := run_append_own_at (P := P) (w.alloc (.cells #[.int .i64 (x1 : Int), .int .i64 (x2 : Int)] te fr)) base t ty e i _ 2 16 E.under hi hz hs hb rfl (by omega) (.slice A n c) n (flat2 ts) (h.2.alloc _) ⟨w.heap.size, 0, none⟩ 1 1 (pv2 (x1, x2)) rfl
    (by
      intro j u hu
      rw [Addr.add_mid, cell_of_row _ _ _ #[.int .i64 (x1 : Int), .int .i64 (x2 : Int)] te fr (heap_alloc_new w _)]
      rw [← hu, Nat.zero_add]
      simp [pv2])
    (by
      intro u hu
      simp [pv2] at hu
      rcases hu with rfl | rfl <;> rfl) (by simp only [maxLen]; omega) (by omega) (by simp; omega)
  rw [show (Value.slice A n c).ownBlock = blk A from ownBlock_slice] at h3 h5
  have hc : Chg (fun k => blk A = some k) w w' := ((Chg.refl _ w).alloc _).trans (chg_of_grown h3) (fun _ _ h => h)
  rcases h2.2 with ⟨hv, h0⟩ | ⟨g, cap, cur, hv, r⟩
  · omega
  · rw [hv] at hrun h2 h5
    refine ⟨_, cap, w', hrun, ⟨by rw [List.length_append, h.1]; rfl, by rw [flat2_snoc]; exact h2⟩, hc, ?_⟩
    rw [ownBlock_slice] at h5
    rcases h5 with h5 | h5
    · exact .inl h5
    · exact .inr ⟨_, by simp, h5⟩
theorem wpList_append_pair {ops : Array Oper} {rest : List Oper} {o : Oper} {a : Act} {Q : Exit → Act → World → Prop} (w : World) (hgd : o.guard = none) (s y : Operand) {t e : TypeId}
    (ho : o.op = .call { callee := .builtin .append, args := #[s, y], argTypes := #[t, t] }) (E : Elem2 P t e)
    {base n c : Nat} {A : Option Addr} {ts : List (Nat × Nat)} (hs : a.eval s = .slice A n c) (h : OwM w base e A n c ts) (x1 x2 : Nat) (te : TypeId) (fr : Nat × Nat) (hx : a.eval y = .slice (some ⟨w.heap.size, 0, none⟩) 1 1)
    (h63 : n ≤ 1048576) (hbase : base ≤ w.heap.size)
    (hk : ∀ A' c' w', OwM w' base e A' (n + 1) c' (ts ++ [(x1, x2)]) → Chg (fun k => blk A = some k) w w' → (blk A' = blk A ∨ ∃ k, w.heap.size ≤ k ∧ blk A' = some k) → wpList P ops Q rest (a.put o.dst (.slice A' (n + 1) c')) w') :
    wpList P ops Q (o :: rest) a (w.alloc (.cells #[.int .i64 (x1 : Int), .int .i64 (x2 : Int)] te fr)) :=
  wpList_plain hgd fun _ hK => by
    obtain ⟨A', c', w', hrun, h2, h3, h4⟩ := run_append_pair w E o.type h x1 x2 te fr h63 hbase
    unfold Oper.wp execOp
    simp only [ho, resolve, invoke, builtin, Sem.run_bind, Sem.run_pure, Result.andThen_ok, List.map_toArray, List.map_cons, List.map_nil, hs, hx, hrun]
    exact hK _ _ (hk A' c' w' h2 h3 h4)
/-- The same within a fence. -/
theorem wpListIn_append_pair {F : Fence} {m : Nat} {ops : Array Oper} {rest : List Oper} {o : Oper} {a : Act} {Q : Exit → Act → World → Prop} (w : World) (hgd : o.guard = none) (s y : Operand) {t e : TypeId}
    (ho : o.op = .call { callee := .builtin .append, args := #[s, y], argTypes := #[t, t] }) (E : Elem2 P t e)
    {base n c : Nat} {A : Option Addr} {ts : List (Nat × Nat)} (hs : a.eval s = .slice A n c) (h : OwM w base e A n c ts) (x1 x2 : Nat) (te : TypeId) (fr : Nat × Nat) (hx : a.eval y = .slice (some ⟨w.heap.size, 0, none⟩) 1 1)
    (h63 : n ≤ 1048576) (hbase : base ≤ w.heap.size)
    (hk : ∀ A' c' w', OwM w' base e A' (n + 1) c' (ts ++ [(x1, x2)]) → Chg (fun k => blk A = some k) w w' → (blk A' = blk A ∨ ∃ k, w.heap.size ≤ k ∧ blk A' = some k) → wpListIn F m P ops Q rest (a.put o.dst (.slice A' (n + 1) c')) w') :
    wpListIn F m P ops Q (o :: rest) a (w.alloc (.cells #[.int .i64 (x1 : Int), .int .i64 (x2 : Int)] te fr)) := by
  refine wpListIn_plain hgd fun K hK' => ?_
  obtain ⟨A', c', w', hrun, h2, h3, h4⟩ := run_append_pair (P := P) w E o.type h x1 x2 te fr h63 hbase
  unfold Oper.wpIn
  refine ⟨?_, ?_⟩
  · simp [Oper.about, ho, resolve, Target.leads, Sem.run_pure]
  · rw [Oper.semAt_plain F _ _ (by rw [ho]; intro c hc'; cases hc')]
    simp [execOp, ho, resolve, invoke, builtin, hs, hx, hrun, Result.andThen]
    exact hK' _ _ (hk A' c' w' h2 h3 h4)
end

end Go.Proofs.Ythplpoijkebjbaa
