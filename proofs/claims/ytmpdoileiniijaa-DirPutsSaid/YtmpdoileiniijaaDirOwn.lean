/- Layer 12 (dir): a slice of entries that a call makes for itself: append of one, a store into one's field. There is no condition. -/
import Derived.Test.YtmpdoileiniijaaDirPut
namespace Go.Proofs.Ytmpdoileiniijaa
open Go.RowKit

/-- The slice value '.slice A es.length c' is the call's own and holds these entries. -/
def OwE (w : World) (base : Nat) (A : Option Addr) (c : Nat) (es : List Ent) : Prop :=
  ∃ xs, w.ownsRow base 43 4 (.slice A es.length c) es.length xs ∧ ∀ j (h : j < es.length), xs[j * 4]? = some (qv es[j].id) ∧ xs[j * 4 + 1]? = some (qv es[j].off) ∧ xs[j * 4 + 2]? = some (qv es[j].len) ∧ xs[j * 4 + 3]? = some (qv es[j].run)

section
variable {w w' : World} {base c : Nat} {A : Option Addr} {es : List Ent}
theorem OwE.nil (w : World) (base : Nat) : OwE w base none 0 [] := ⟨[], World.ownsRow_nil w base _ 4, fun _ h => absurd h (Nat.not_lt_zero _)⟩
theorem OwE.form (h : OwE w base A c es) : (A = none ∧ es = [] ∧ c = 0) ∨ ∃ g, A = some ⟨g, 0, none⟩ ∧ base ≤ g ∧ g < w.heap.size := by
  obtain ⟨xs, h, _⟩ := h
  rcases h.2 with ⟨hv, h0⟩ | ⟨g, cap, cur, hv, hg, hh, _⟩
  · injection hv with h1 h2 h3
    exact .inl ⟨h1, List.eq_nil_of_length_eq_zero h0, h3⟩
  · injection hv with h1 h2 h3
    exact .inr ⟨g, h1, hg, lt_of_block hh⟩
theorem OwE.pos (h : OwE w base A c es) (hn : 0 < es.length) : ∃ g, A = some ⟨g, 0, none⟩ ∧ base ≤ g ∧ g < w.heap.size := by
  rcases h.form with ⟨_, h0, _⟩ | h
  · simp [h0] at hn
  · exact h
theorem OwE.blk_lt (h : OwE w base A c es) : ∀ g, blk A = some g → base ≤ g ∧ g < w.heap.size := by
  intro g hg
  rcases h.form with ⟨rfl, _⟩ | ⟨g', rfl, h1, h2⟩
  · simp [blk] at hg
  · simp [blk] at hg
    subst hg
    exact ⟨h1, h2⟩
theorem OwE.chg {R : Nat → Prop} (h : OwE w base A c es) (hk : Chg R w w') (hn : ∀ g, blk A = some g → ¬ R g) : OwE w' base A c es := by
  obtain ⟨xs, h, hx⟩ := h
  refine ⟨xs, ⟨h.1, ?_⟩, hx⟩
  rcases h.2 with h2 | ⟨g, cap, cur, hv, hb, hh, r⟩
  · exact .inl h2
  · refine .inr ⟨g, cap, cur, hv, hb, ?_, r⟩
    injection hv with h1
    rw [hk.block g (lt_of_block hh) (hn g (by rw [h1]; rfl))]
    exact hh
theorem OwE.below (h : OwE w base A c es) (hk : Below w.heap.size w w') : OwE w' base A c es :=
  h.chg (R := fun _ => False) ⟨hk.os, hk.tape, hk.output, hk.size, fun k hl _ => hk.block k hl⟩ (fun _ _ h => h)
theorem OwE.ne (h : OwE w base A c es) {g : Nat} {t : TypeId} {cs : Array Value} (hk : Blk w g t cs) (hne : 43 ≠ t) : blk A ≠ some g := by
  obtain ⟨xs, h, _⟩ := h
  intro hg
  rcases h.2 with ⟨hv, _⟩ | ⟨g', cap, cur, hv, _, hh, _⟩
  · injection hv with h1
    rw [h1] at hg
    simp [blk] at hg
  · injection hv with h1
    rw [h1] at hg
    have : g' = g := by simpa [blk] using hg
    subst this
    exact Blk.same (w := w) hh hk hne rfl
theorem OwE.ne_ow (h : OwE w base A c es) {base' n' c' : Nat} {e' : TypeId} {A' : Option Addr} {xs' : List Value} (h' : Ow w base' e' A' n' c' xs') (hne : 43 ≠ e') : ∀ g, blk A = some g → blk A' ≠ some g := by
  obtain ⟨xs, h, _⟩ := h
  intro g hg
  rcases h.2 with ⟨hv, _⟩ | ⟨g', cap, cur, hv, _, hh, _⟩
  · injection hv with h1
    rw [h1] at hg
    simp [blk] at hg
  · injection hv with h1
    rw [h1] at hg
    have : g' = g := by simpa [blk] using hg
    subst this
    exact h'.ne (t := 43) (cs := cur) hh (Ne.symm hne)
theorem OwE.rd (h : OwE w base A c es) : RdE w w.heap.size A es := by
  intro j hj
  obtain ⟨g, rfl, h1, h2⟩ := h.pos (by omega)
  obtain ⟨xs, h, hx⟩ := h
  obtain ⟨x0, x1, x2, x3⟩ := hx j hj
  refine ⟨g, 0, rfl, h2, ?_, ?_, ?_, ?_⟩
  · have := h.cells (g := g) rfl _ _ x0
    rwa [Addr.add_mid] at this
  · have := h.cells (g := g) rfl _ _ x1
    rwa [Addr.add_mid] at this
  · have := h.cells (g := g) rfl _ _ x2
    rwa [Addr.add_mid] at this
  · have := h.cells (g := g) rfl _ _ x3
    rwa [Addr.add_mid] at this
theorem OwE.free {g : Nat} (h : OwE w base (some ⟨g, 0, none⟩) c es) (i : Nat) : w.frozen? ⟨g, i, none⟩ = false := by
  obtain ⟨xs, h, _⟩ := h
  exact h.frozenAt i
/-- A store into an entry: the entry that then stands there. -/
theorem OwE.put {g : Nat} (h : OwE w base (some ⟨g, 0, none⟩) c es) (j : Nat) (hj : j < es.length) (f : Nat) (hf : f < 4) (x : Nat) (y : Ent)
    (hy : (f = 0 ∧ y = { es[j] with id := x }) ∨ (f = 1 ∧ y = { es[j] with off := x }) ∨ (f = 2 ∧ y = { es[j] with len := x }) ∨ (f = 3 ∧ y = { es[j] with run := x })) :
    OwE (w.setCell ⟨g, j * 4 + f, none⟩ (qv x)) base (some ⟨g, 0, none⟩) c (es.set j y) := by
  obtain ⟨xs, h, hx⟩ := h
  have hlen : xs.length = es.length * 4 := h.1
  refine ⟨xs.set (j * 4 + f) (qv x), by rw [List.length_set]; exact (h.stored _ _).1, ?_⟩
  intro i hi
  rw [List.length_set] at hi
  obtain ⟨x0, x1, x2, x3⟩ := hx i hi
  by_cases e : j = i
  · subst e
    rw [List.getElem_set_self]
    rcases hy with ⟨rfl, rfl⟩ | ⟨rfl, rfl⟩ | ⟨rfl, rfl⟩ | ⟨rfl, rfl⟩
    · exact ⟨by rw [Nat.add_zero, List.getElem?_set_self (by omega)], by rw [List.getElem?_set_ne (by omega), x1], by rw [List.getElem?_set_ne (by omega), x2], by rw [List.getElem?_set_ne (by omega), x3]⟩
    · exact ⟨by rw [List.getElem?_set_ne (by omega), x0], by rw [List.getElem?_set_self (by omega)], by rw [List.getElem?_set_ne (by omega), x2], by rw [List.getElem?_set_ne (by omega), x3]⟩
    · exact ⟨by rw [List.getElem?_set_ne (by omega), x0], by rw [List.getElem?_set_ne (by omega), x1], by rw [List.getElem?_set_self (by omega)], by rw [List.getElem?_set_ne (by omega), x3]⟩
    · exact ⟨by rw [List.getElem?_set_ne (by omega), x0], by rw [List.getElem?_set_ne (by omega), x1], by rw [List.getElem?_set_ne (by omega), x2], by rw [List.getElem?_set_self (by omega)]⟩
  · rw [List.getElem_set_ne e]
    exact ⟨by rw [List.getElem?_set_ne (by omega), x0], by rw [List.getElem?_set_ne (by omega), x1], by rw [List.getElem?_set_ne (by omega), x2], by rw [List.getElem?_set_ne (by omega), x3]⟩
end

theorem info_entry : (Try.prog.info? 43).map (fun i => (i.zero, i.size, i.bytes)) = some (some (.agg #[.int .u64 0, .int .u64 0, .int .u64 0, .int .u64 0]), 4, 32) := by kernel_rfl

/-- append of one entry, laid into a block of its own first: what runs. -/
theorem run_append_ent (w : World) (ty : TypeId) {base c : Nat} {A : Option Addr} {es : List Ent} (h : OwE w base A c es) (x : Ent) (fr : Nat × Nat) (h63 : es.length ≤ 1048576) (hbase : base ≤ w.heap.size) :
    ∃ A' c' w', (Builtin.append_ #[41, 41] ty #[.slice A es.length c, .slice (some ⟨w.heap.size, 0, none⟩) 1 1]).run Try.prog (w.alloc (.cells x.cells 43 fr)) = .ok (.slice A' (es ++ [x]).length c') w' ∧ OwE w' base A' c' (es ++ [x]) ∧ Chg (fun k => blk A = some k) w w' ∧
      (blk A' = blk A ∨ ∃ k, w.heap.size ≤ k ∧ blk A' = some k) := by
  obtain ⟨i, hi, hz, hs, hb⟩ := info_parts info_entry
  obtain ⟨xs, h, hx⟩ := h
  have hlen : xs.length = es.length * 4 := h.1
  obtain ⟨v', w', hrun, h2, h3, _, h5⟩ := run_append_own_at (P := Try.prog) (w.alloc (.cells x.cells 43 fr)) base 41 ty 43 i _ 4 32 Try.underlying41 hi hz hs hb rfl (by omega) (.slice A es.length c) es.length xs (h.alloc _) ⟨w.heap.size, 0, none⟩ 1 1 x.cells.toList rfl
    (by
      intro j u hu
      rw [Addr.add_mid, cell_of_row _ _ _ x.cells 43 fr (heap_alloc_new w _)]
      simpa using hu)
    (by
      intro u hu
      simp [Ent.cells] at hu
      rcases hu with rfl | rfl | rfl | rfl <;> rfl) (by simp only [maxLen]; omega) (by omega) (by simp; omega)
  rw [ownBlock_slice] at h3 h5
  have hent : ∀ j (hj : j < (es ++ [x]).length), (xs ++ x.cells.toList)[j * 4]? = some (qv (es ++ [x])[j].id) ∧ (xs ++ x.cells.toList)[j * 4 + 1]? = some (qv (es ++ [x])[j].off) ∧ (xs ++ x.cells.toList)[j * 4 + 2]? = some (qv (es ++ [x])[j].len) ∧ (xs ++ x.cells.toList)[j * 4 + 3]? = some (qv (es ++ [x])[j].run) := by
    intro j hj
    rw [List.length_append, List.length_singleton] at hj
    by_cases e : j < es.length
    · obtain ⟨x0, x1, x2, x3⟩ := hx j e
      rw [List.getElem_append_left e]
      exact ⟨by rw [List.getElem?_append_left (by omega), x0], by rw [List.getElem?_append_left (by omega), x1], by rw [List.getElem?_append_left (by omega), x2], by rw [List.getElem?_append_left (by omega), x3]⟩
    · obtain rfl : j = es.length := by omega
      rw [List.getElem_concat_length rfl]
      exact ⟨by rw [List.getElem?_append_right (by omega), show es.length * 4 - xs.length = 0 from by omega]; rfl, by rw [List.getElem?_append_right (by omega), show es.length * 4 + 1 - xs.length = 1 from by omega]; rfl, by rw [List.getElem?_append_right (by omega), show es.length * 4 + 2 - xs.length = 2 from by omega]; rfl, by rw [List.getElem?_append_right (by omega), show es.length * 4 + 3 - xs.length = 3 from by omega]; rfl⟩
  have hnl : (es ++ [x]).length = es.length + 1 := by simp
  have hc : Chg (fun k => blk A = some k) w w' := ((Chg.refl _ w).alloc _).trans (chg_of_grown h3) (fun _ _ h => h)
  rcases h2.2 with ⟨hv, h0⟩ | ⟨g, cap, cur, hv, r⟩
  · omega
  · rw [hv] at hrun h2 h5
    refine ⟨_, cap, w', by rw [hnl]; exact hrun, ⟨_, by rw [hnl]; exact h2, hent⟩, hc, ?_⟩
    rw [ownBlock_slice] at h5
    rcases h5 with h5 | h5
    · exact .inl h5
    · exact .inr ⟨_, by simp, h5⟩

theorem wpList_append_ent {ops : Array Oper} {rest : List Oper} {o : Oper} {a : Act} {Q : Exit → Act → World → Prop} (w : World) (hgd : o.guard = none) (s y : Operand)
    (ho : o.op = .call { callee := .builtin .append, args := #[s, y], argTypes := #[41, 41] })
    {base c : Nat} {A : Option Addr} {es : List Ent} (hs : a.eval s = .slice A es.length c) (h : OwE w base A c es) (x : Ent) (fr : Nat × Nat) (hx : a.eval y = .slice (some ⟨w.heap.size, 0, none⟩) 1 1)
    (h63 : es.length ≤ 1048576) (hbase : base ≤ w.heap.size)
    (hk : ∀ A' c' w', OwE w' base A' c' (es ++ [x]) → Chg (fun k => blk A = some k) w w' → (blk A' = blk A ∨ ∃ k, w.heap.size ≤ k ∧ blk A' = some k) → wpList Try.prog ops Q rest (a.put o.dst (.slice A' (es ++ [x]).length c')) w') :
    wpList Try.prog ops Q (o :: rest) a (w.alloc (.cells #[.int .u64 (x.id : Int), .int .u64 (x.off : Int), .int .u64 (x.len : Int), .int .u64 (x.run : Int)] 43 fr)) :=
  wpList_plain hgd fun _ hK => by
    obtain ⟨A', c', w', hrun, h2, h3, h4⟩ := run_append_ent w o.type h x fr h63 hbase
    unfold Ent.cells at hrun
    unfold Oper.wp execOp
    simp only [ho, resolve, invoke, builtin, Sem.run_bind, Sem.run_pure, Result.andThen_ok, List.map_toArray, List.map_cons, List.map_nil, hs, hx, hrun]
    exact hK _ _ (hk A' c' w' h2 h3 h4)

end Go.Proofs.Ytmpdoileiniijaa
