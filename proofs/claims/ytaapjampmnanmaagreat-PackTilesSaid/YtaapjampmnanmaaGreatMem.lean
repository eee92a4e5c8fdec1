/- Plain facts on memory that a call makes and writes: a slice of the call's own, append to it, and which blocks may have changed. There is no condition. -/
import Derived.Test.YtaapjampmnanmaaGreatBase
import Derived.Maps.AppendAt
import Derived.Laws.AppendOwnNone
namespace Go.Proofs.YtaapjampmnanmaaGreat
open Go.RowKit
structure Chg (R : Nat → Prop) (w w' : World) : Prop where
  os : w'.os = w.os
  tape : w'.tape = w.tape
  output : w'.output = w.output
  size : w.heap.size ≤ w'.heap.size
  block : ∀ k, k < w.heap.size → ¬ R k → w'.heap[k]? = w.heap[k]?
section
variable {R R' : Nat → Prop} {a b w w' : World}
theorem Chg.refl (R : Nat → Prop) (w : World) : Chg R w w := ⟨rfl, rfl, rfl, Nat.le_refl _, fun _ _ _ => rfl⟩
theorem Chg.trans (h : Chg R a b) (k : Chg R' b w) (hR : ∀ i, i < a.heap.size → R' i → R i) : Chg R a w :=
  ⟨k.os.trans h.os, k.tape.trans h.tape, k.output.trans h.output, Nat.le_trans h.size k.size, fun i hi hn => (k.block i (Nat.lt_of_lt_of_le hi h.size) (fun h' => hn (hR i hi h'))).trans (h.block i hi hn)⟩
theorem Chg.mono (h : Chg R a b) (hR : ∀ i, i < a.heap.size → R i → R' i) : Chg R' a b := ⟨h.os, h.tape, h.output, h.size, fun i hi hn => h.block i hi fun h' => hn (hR i hi h')⟩
theorem Chg.drew (h : Chg R a b) : Chg R a b.drew := ⟨h.os, h.tape, h.output, h.size, h.block⟩
theorem Chg.drewN (h : Chg R a b) (n : Nat) : Chg R a (b.drewN n) := ⟨h.os, h.tape, h.output, h.size, h.block⟩
theorem Chg.alloc (h : Chg R a b) (o : Obj) : Chg R a (b.alloc o) :=
  h.trans (R' := fun _ => False) ⟨rfl, rfl, rfl, by simp, fun k hk _ => Below.heap_alloc _ _ _ hk⟩ (fun _ _ h => h.elim)
theorem Chg.setCell (h : Chg R a b) {p : Addr} (hp : a.heap.size ≤ p.block ∨ R p.block) (u : Value) : Chg R a (b.setCell p u) :=
  h.trans (R' := fun k => k = p.block) ⟨rfl, rfl, rfl, by simp [World.setCell], fun k _ hk => Below.heap_setCell _ _ _ _ hk⟩ (fun i hi e => by
    subst e
    rcases hp with hp | hp
    · omega
    · exact hp)
theorem Chg.setRow (h : Chg R a b) {g : Nat} (hg : a.heap.size ≤ g ∨ R g) (cs : Array Value) : Chg R a (b.setRow g cs) :=
  h.trans (R' := fun k => k = g) ⟨rfl, rfl, rfl, by simp, fun k _ hk => setRow_other b g k cs hk⟩ (fun i hi e => by
    subst e
    rcases hg with hg | hg
    · omega
    · exact hg)
theorem Chg.below (h : Chg R a b) (k : Below b.heap.size b w) : Chg R a w :=
  h.trans (R' := fun _ => False) ⟨k.os, k.tape, k.output, k.size, fun i hi _ => k.block i hi⟩ (fun _ _ h => h.elim)
theorem Chg.of_below {B : Nat} (k : Below B a b) : Chg (fun i => B ≤ i) a b := ⟨k.os, k.tape, k.output, k.size, fun i _ hn => k.block i (by omega)⟩
theorem Chg.to_below (h : Chg R a b) {B : Nat} (hB : B ≤ a.heap.size) (hR : ∀ i, R i → B ≤ i) : Below B a b :=
  ⟨h.os, h.tape, h.output, h.size, fun k hk => h.block k (by omega) fun hr => by have := hR k hr; omega⟩
theorem Chg.cell (h : Chg R a b) {p : Addr} {v : Value} (hc : a.cell? p = some v) (hn : ¬ R p.block) : b.cell? p = some v :=
  (World.cell?_of_block (w := a) (h.block p.block (World.block_lt_of_cell? a p hc) hn)).trans hc
theorem Chg.frozen (h : Chg R a b) {p : Addr} (hp : p.block < a.heap.size) (hn : ¬ R p.block) : b.frozen? p = a.frozen? p := World.frozen?_of_block (w := a) (h.block p.block hp hn)
theorem Blk.chg {g : Nat} {t : TypeId} {cs : Array Value} (hk : Blk a g t cs) (h : Chg R a b) (hn : ¬ R g) : Blk b g t cs := (h.block g hk.lt hn).trans hk
theorem Rd.chg {B n : Nat} {A : Option Addr} {xs : List Value} (hr : Rd a B A n xs) (h : Chg R a b) (hB : B ≤ a.heap.size) (hn : ∀ g, g < B → A.map (·.block) = some g → ¬ R g) : Rd b B A n xs :=
  ⟨hr.1, fun j hj => by
    obtain ⟨g, o, e, hg, hc⟩ := hr.2 j hj
    refine ⟨g, o, e, hg, ?_⟩
    rw [← hc]
    exact World.cell?_of_block (w := a) (h.block g (by omega) (hn g hg (by rw [e]; rfl)))⟩
end
/-! ### A slice of the call's own, one cell an element -/
structure Elem1 (P : Program) (t e : TypeId) (z : Value) (bytes : Nat) : Prop where
  under : P.underlying t = some (.slice e)
  info : (P.info? e).map (fun i => (i.zero, i.size, i.bytes)) = some (some z, 1, bytes)
  one : z.cells.size = 1
def Ow (w : World) (base : Nat) (e : TypeId) (A : Option Addr) (n c : Nat) (xs : List Value) : Prop := w.ownsRow base e 1 (.slice A n c) n xs
def blk (A : Option Addr) : Option Nat := A.map (·.block)
section
variable {w w' : World} {base n c : Nat} {e : TypeId} {A : Option Addr} {xs : List Value}
theorem ownBlock_slice : (Value.slice A n c).ownBlock = blk A := by cases A <;> rfl
theorem Ow.nil (w : World) (base : Nat) (e : TypeId) : Ow w base e none 0 0 [] := World.ownsRow_nil w base e 1
theorem Ow.len (h : Ow w base e A n c xs) : xs.length = n := by have := h.1; omega
theorem Ow.form (h : Ow w base e A n c xs) : (A = none ∧ n = 0 ∧ c = 0) ∨ ∃ g, A = some ⟨g, 0, none⟩ ∧ base ≤ g ∧ g < w.heap.size ∧ n ≤ c ∧ c ≤ maxLen := by
  rcases h.2 with ⟨hv, rfl⟩ | ⟨g, cap, cur, hv, hg, hh, hn, hc, _⟩
  · injection hv with h1 h2 h3
    exact .inl ⟨h1, rfl, h3⟩
  · injection hv with h1 h2 h3
    subst h3
    exact .inr ⟨g, h1, hg, lt_of_block hh, hn, hc⟩
theorem Ow.pos (h : Ow w base e A n c xs) (hn : 0 < n) : ∃ g, A = some ⟨g, 0, none⟩ ∧ base ≤ g ∧ g < w.heap.size := by
  rcases h.form with ⟨_, h0, _⟩ | ⟨g, rfl, h1, h2, _⟩
  · omega
  · exact ⟨g, rfl, h1, h2⟩
theorem Ow.blk_lt (h : Ow w base e A n c xs) : ∀ g, blk A = some g → base ≤ g ∧ g < w.heap.size := by
  intro g hg
  rcases h.form with ⟨rfl, _⟩ | ⟨g', rfl, h1, h2, _⟩
  · simp [blk] at hg
  · simp [blk] at hg
    subst hg
    exact ⟨h1, h2⟩
theorem Ow.rd (h : Ow w base e A n c xs) : Rd w w.heap.size A n xs := by
  refine ⟨h.len, fun j hj => ?_⟩
  rcases h.form with ⟨rfl, rfl, _⟩ | ⟨g, rfl, _, hlt, _⟩
  · omega
  · have hc := h.cells (g := g) rfl j (xs[j]'(by rw [h.len]; exact hj)) (List.getElem?_eq_getElem _)
    rw [Addr.add_mid] at hc
    exact ⟨g, 0, rfl, hlt, by rw [hc, List.getElem?_eq_getElem]⟩
theorem Ow.chg {R : Nat → Prop} (h : Ow w base e A n c xs) (hk : Chg R w w') (hn : ∀ g, blk A = some g → ¬ R g) : Ow w' base e A n c xs := by
  refine ⟨h.1, ?_⟩
  rcases h.2 with h2 | ⟨g, cap, cur, hv, hb, hh, r⟩
  · exact .inl h2
  · refine .inr ⟨g, cap, cur, hv, hb, ?_, r⟩
    injection hv with h1
    rw [hk.block g (lt_of_block hh) (hn g (by rw [h1]; rfl))]
    exact hh
theorem Ow.below (h : Ow w base e A n c xs) (hk : Below w.heap.size w w') : Ow w' base e A n c xs :=
  h.chg (R := fun _ => False) ⟨hk.os, hk.tape, hk.output, hk.size, fun k hl _ => hk.block k hl⟩ (fun _ _ h => h)
theorem Ow.alloc (h : Ow w base e A n c xs) (o : Obj) : Ow (w.alloc o) base e A n c xs := World.ownsRow.alloc h o
theorem Ow.drew (h : Ow w base e A n c xs) : Ow w.drew base e A n c xs := h
theorem Ow.base_le {base' : Nat} (h : Ow w base e A n c xs) (hb : ∀ g, blk A = some g → base' ≤ g) : Ow w base' e A n c xs := by
  refine ⟨h.1, ?_⟩
  rcases h.2 with h2 | ⟨g, cap, cur, hv, _, r⟩
  · exact .inl h2
  · injection hv with h1 h2 h3
    exact .inr ⟨g, cap, cur, by rw [h1, h3], hb g (by rw [h1]; rfl), r⟩
theorem Ow.set {g : Nat} (h : Ow w base e (some ⟨g, 0, none⟩) n c xs) (j : Nat) (u : Value) : Ow (w.setCell ⟨g, j, none⟩ u) base e (some ⟨g, 0, none⟩) n c (xs.set j u) := (World.ownsRow.stored h j u).1
theorem Ow.free {g : Nat} (h : Ow w base e (some ⟨g, 0, none⟩) n c xs) (j : Nat) : w.frozen? ⟨g, j, none⟩ = false := World.ownsRow.frozenAt h j
theorem Ow.lit (w : World) (cs : Array Value) (hb : base ≤ w.heap.size) (hm : cs.size ≤ maxLen) : Ow (w.alloc (.cells cs e)) base e (some ⟨w.heap.size, 0, none⟩) cs.size cs.size cs.toList :=
  World.ownsRow_lit w cs cs.size hb hm (by omega)
theorem Ow.ne {g : Nat} {t : TypeId} {cs : Array Value} (h : Ow w base e A n c xs) (hk : Blk w g t cs) (hne : e ≠ t) : blk A ≠ some g := by
  intro hg
  rcases h.2 with ⟨hv, _⟩ | ⟨g', cap, cur, hv, _, hh, _⟩
  · injection hv with h1
    rw [h1] at hg
    simp [blk] at hg
  · injection hv with h1
    rw [h1] at hg
    have : g' = g := by simpa [blk] using hg
    subst this
    exact Blk.same (w := w) hh hk hne rfl
theorem Ow.ne_ow {base' n' c' : Nat} {e' : TypeId} {A' : Option Addr} {xs' : List Value} (h : Ow w base e A n c xs) (h' : Ow w base' e' A' n' c' xs') (hne : e ≠ e') : ∀ g, blk A = some g → blk A' ≠ some g := by
  intro g hg
  rcases h.2 with ⟨hv, _⟩ | ⟨g', cap, cur, hv, _, hh, _⟩
  · injection hv with h1
    rw [h1] at hg
    simp [blk] at hg
  · injection hv with h1
    rw [h1] at hg
    have : g' = g := by simpa [blk] using hg
    subst this
    exact h'.ne (t := e) (cs := cur) hh (Ne.symm hne)
end
theorem chg_of_grown {w w' : World} {row : Option Nat} (h : w.grownBy w' row) : Chg (fun k => row = some k) w w' :=
  ⟨h.os, h.tape, h.output, h.size, fun k hk hn => h.block k hk fun e => hn e.symm⟩
section
variable {P : Program}
theorem run_append_rd (w : World) {t e : TypeId} {z : Value} {bytes : Nat} (E : Elem1 P t e z bytes) (ty : TypeId) {base n c : Nat} {A : Option Addr} {xs : List Value} (h : Ow w base e A n c xs)
    {B m c2 : Nat} {A2 : Option Addr} {news : List Value} (hr : Rd w B A2 m news) (h1 : ∀ u ∈ news, u.oneCell' = true) (h63 : n + m ≤ maxLen) (hbytes : (n + m) * bytes ≤ 140737488355328) (hbase : base ≤ w.heap.size) :
    ∃ A' c' w', (Builtin.append_ #[t, t] ty #[.slice A n c, .slice A2 m c2]).run P w = .ok (.slice A' (n + m) c') w' ∧ Ow w' base e A' (n + m) c' (xs ++ news) ∧ Chg (fun k => blk A = some k) w w' ∧
      (blk A' = blk A ∨ blk A' = some w.heap.size) := by
  obtain ⟨i, hi, hz, hs, hb⟩ := info_parts E.info
  rcases A2 with _ | ad
  · have hm : m = 0 := by
      rcases Nat.eq_zero_or_pos m with h0 | h0
      · exact h0
      · obtain ⟨_, _, h', _⟩ := hr.2 0 h0
        cases h'
    subst hm
    have hn : news = [] := List.eq_nil_of_length_eq_zero hr.1
    subst hn
    refine ⟨A, c, w, ?_, by simpa using h, Chg.refl _ _, .inl rfl⟩
    rcases h.2 with ⟨hv, h0⟩ | ⟨g, cap, cur, hv, _, _, hnc, _⟩
    · injection hv with e1 e2 e3
      rw [e1, e3, h0]
      simp [Builtin.append_, run_underlying E.under, sizeOf, typeInfo, hi, Builtin.lenOf, Builtin.firstCells]
    · injection hv with e1 e2 e3
      subst e3
      rw [e1]
      simp [Builtin.append_, run_underlying E.under, sizeOf, typeInfo, hi, Builtin.lenOf, Builtin.firstCells, hnc, storeCells]
  · have hcells : ∀ j u, news[j]? = some u → w.cell? (ad.add j) = some u := by
      intro j u hu
      have hj : j < m := by rw [← hr.1]; exact (List.getElem?_eq_some_iff.1 hu).1
      obtain ⟨g, o, ha, _, hc⟩ := hr.2 j hj
      injection ha with ha
      subst ha
      rw [Addr.add_mid, hc, hu]
    obtain ⟨v', w', hrun, h2, h3, _, h5⟩ := run_append_own_at (P := P) w base t ty e i z 1 bytes E.under hi hz hs hb E.one (by omega) (.slice A n c) n xs h ad m c2 news (by rw [hr.1]; omega) hcells h1 h63 hbytes hbase
    rw [ownBlock_slice] at h3 h5
    rcases h2.2 with ⟨hv, h0⟩ | ⟨g, cap, cur, hv, r⟩
    · rw [hv] at hrun h2 h5
      refine ⟨none, 0, w', by rw [hrun, h0], ?_, chg_of_grown h3, by simpa [Value.ownBlock, blk] using h5⟩
      unfold Ow
      rw [h0] at h2 ⊢
      exact h2
    · rw [hv] at hrun h2 h5
      exact ⟨_, cap, w', hrun, h2, chg_of_grown h3, by rwa [ownBlock_slice] at h5⟩
theorem wpList_append_rd {ops : Array Oper} {rest : List Oper} {o : Oper} {a : Act} {Q : Exit → Act → World → Prop} (w : World) (hgd : o.guard = none) (s x : Operand) {t e : TypeId}
    (ho : o.op = .call { callee := .builtin .append, args := #[s, x], argTypes := #[t, t] }) {z : Value} {bytes : Nat} (E : Elem1 P t e z bytes)
    {base n c : Nat} {A : Option Addr} {xs : List Value} (hs : a.eval s = .slice A n c) (h : Ow w base e A n c xs)
    {B m c2 : Nat} {A2 : Option Addr} {news : List Value} (hx : a.eval x = .slice A2 m c2) (hr : Rd w B A2 m news) (h1 : ∀ u ∈ news, u.oneCell' = true)
    (h63 : n + m ≤ maxLen) (hbytes : (n + m) * bytes ≤ 140737488355328) (hbase : base ≤ w.heap.size)
    (hk : ∀ A' c' w', Ow w' base e A' (n + m) c' (xs ++ news) → Chg (fun k => blk A = some k) w w' → (blk A' = blk A ∨ blk A' = some w.heap.size) → wpList P ops Q rest (a.put o.dst (.slice A' (n + m) c')) w') :
    wpList P ops Q (o :: rest) a w :=
  wpList_plain hgd fun _ hK => by
    obtain ⟨A', c', w', hrun, h2, h3, h4⟩ := run_append_rd (P := P) w E o.type (c2 := c2) h hr h1 h63 hbytes hbase
    unfold Oper.wp execOp
    simp only [ho, resolve, invoke, builtin, Sem.run_bind, Sem.run_pure, Result.andThen_ok, List.map_toArray, List.map_cons, List.map_nil, hs, hx, hrun]
    exact hK _ _ (hk A' c' w' h2 h3 h4)
theorem wpList_append_one {ops : Array Oper} {rest : List Oper} {o : Oper} {a : Act} {Q : Exit → Act → World → Prop} (w : World) (hgd : o.guard = none) (s x : Operand) {t e : TypeId}
    (ho : o.op = .call { callee := .builtin .append, args := #[s, x], argTypes := #[t, t] }) {z : Value} {bytes : Nat} (E : Elem1 P t e z bytes)
    {base n c : Nat} {A : Option Addr} {xs : List Value} (hs : a.eval s = .slice A n c) (h : Ow w base e A n c xs) (u : Value) (te : TypeId) (fr : Nat × Nat) (hx : a.eval x = .slice (some ⟨w.heap.size, 0, none⟩) 1 1) (h1 : u.oneCell' = true)
    (h63 : n + 1 ≤ maxLen) (hbytes : (n + 1) * bytes ≤ 140737488355328) (hbase : base ≤ w.heap.size)
    (hk : ∀ A' c' w', Ow w' base e A' (n + 1) c' (xs ++ [u]) → Chg (fun k => blk A = some k) w w' → (blk A' = blk A ∨ ∃ k, w.heap.size ≤ k ∧ blk A' = some k) → wpList P ops Q rest (a.put o.dst (.slice A' (n + 1) c')) w') :
    wpList P ops Q (o :: rest) a (w.alloc (.cells #[u] te fr)) := by
  refine wpList_append_rd (w.alloc (.cells #[u] te fr)) hgd s x ho E hs (h.alloc _) hx (Rd.new w #[u] te fr) (by simpa using h1) h63 hbytes (by simp; omega) ?_
  intro A' c' w' h2 h3 h4
  refine hk A' c' w' h2 (((Chg.refl _ w).alloc _).trans h3 (fun _ _ h => h)) ?_
  rcases h4 with h4 | h4
  · exact .inl h4
  · exact .inr ⟨_, by simp, h4⟩
end
end Go.Proofs.YtaapjampmnanmaaGreat
