/- Layer 12 (dir): entries in memory, which of them may be, and the two walks that tell it. There is no condition but where the slice lies. Layer 12 (dir): the walks that find an entry. There is no condition but where the slice lies. Layer 12 (dir): entries put as bytes: numbers as bytes (wire), the closure that appends one, and Put. There is no condition but where the slice lies. Layer 12 (dir): a slice of entries that a call makes for itself: append of one, a store into one's field. There is no condition. -/
import Derived.Test.YtaapjampmnanmaaMem
import Derived.BigQuiet
import Derived.BigRegion
import Derived.Deep.Cut
import Derived.Laws.ResultCell
import Derived.Laws.Rows
import Derived.Laws.Tables
import Derived.Deep.AppendLies
import Derived.Deep.RegionLaw
import Derived.RegionTactic
namespace Go.Proofs.Ytaapjampmnanmaa
open Go.RowKit

/-- An entry: number, place, length, run. -/
structure Ent where
  id : Nat
  off : Nat
  len : Nat
  run : Nat
deriving DecidableEq
def qv (x : Nat) : Value := .int .u64 (x : Int)
def Ent.cells (x : Ent) : Array Value := #[.int .u64 (x.id : Int), .int .u64 (x.off : Int), .int .u64 (x.len : Int), .int .u64 (x.run : Int)]
def Ent.big (x : Ent) : Prop := x.id ≤ 18446744073709551615 ∧ x.off ≤ 18446744073709551615 ∧ x.len ≤ 18446744073709551615 ∧ x.run ≤ 18446744073709551615
/-- A slice of entries that lies below B. -/
def RdE (w : World) (B : Nat) (A : Option Addr) (es : List Ent) : Prop :=
  ∀ j (hj : j < es.length), ∃ b o, A = some ⟨b, o, none⟩ ∧ b < B ∧ w.cell? ⟨b, o + j * 4, none⟩ = some (.int .u64 (es[j].id : Int)) ∧ w.cell? ⟨b, o + j * 4 + 1, none⟩ = some (.int .u64 (es[j].off : Int)) ∧ w.cell? ⟨b, o + j * 4 + 2, none⟩ = some (.int .u64 (es[j].len : Int)) ∧ w.cell? ⟨b, o + j * 4 + 3, none⟩ = some (.int .u64 (es[j].run : Int))
theorem RdE.below {w w' : World} {B : Nat} {A : Option Addr} {es : List Ent} (h : RdE w B A es) (hb : Below B w w') : RdE w' B A es := by
  intro j hj
  obtain ⟨b, o, h1, h2, h3, h4, h5, h6⟩ := h j hj
  exact ⟨b, o, h1, h2, by rw [hb.cell (p := ⟨_, _, none⟩) h2]; exact h3, by rw [hb.cell (p := ⟨_, _, none⟩) h2]; exact h4, by rw [hb.cell (p := ⟨_, _, none⟩) h2]; exact h5, by rw [hb.cell (p := ⟨_, _, none⟩) h2]; exact h6⟩
theorem RdE.mono {w : World} {B B' : Nat} {A : Option Addr} {es : List Ent} (h : RdE w B A es) (hb : B ≤ B') : RdE w B' A es := by
  intro j hj
  obtain ⟨b, o, h1, h2, h3⟩ := h j hj
  exact ⟨b, o, h1, by omega, h3⟩

def Ent.ok (x : Ent) : Prop := x.id < 4611686018427387904 ∧ x.run < 4294967296 ∧ 1 ≤ x.len ∧ x.len ≤ 4194304 ∧ x.off ≤ 4194304
def Ent.next (p x : Ent) : Prop := p.id + max p.run 1 ≤ x.id
/-- These entries may be. -/
def RightE (es : List Ent) : Prop := 1 ≤ es.length ∧ es.length ≤ 65536 ∧ (∀ j (h : j < es.length), es[j].ok) ∧ ∀ j (h : j + 1 < es.length), es[j].next es[j + 1]

/-- How far the entries were found right. -/
def RightTo (es : List Ent) (k : Nat) : Prop := (∀ j (h : j < es.length), j < k → es[j].ok) ∧ ∀ j (h : j + 1 < es.length), j + 1 < k → es[j].next es[j + 1]
theorem RightTo.zero (es : List Ent) : RightTo es 0 := ⟨fun _ _ h => absurd h (Nat.not_lt_zero _), fun _ _ h => absurd h (Nat.not_lt_zero _)⟩
theorem RightTo.succ {es : List Ent} {k : Nat} (h : RightTo es k) (hk : k < es.length) (h1 : es[k].ok) (h2 : ∀ q (hq : k = q + 1), (es[q]'(by omega)).next es[k]) : RightTo es (k + 1) := by
  constructor
  · intro j hj hjk
    by_cases e : j = k
    · subst e; exact h1
    · exact h.1 j hj (by omega)
  · intro j hj hjk
    by_cases e : j + 1 = k
    · subst e; exact h2 j rfl
    · exact h.2 j hj (by omega)
theorem RightTo.done {es : List Ent} (h : RightTo es es.length) (h1 : 1 ≤ es.length) (h2 : es.length ≤ 65536) : RightE es := ⟨h1, h2, fun j hj => h.1 j hj hj, fun j hj => h.2 j hj hj⟩

end Go.Proofs.Ytaapjampmnanmaa

namespace Go.Proofs.Ytaapjampmnanmaa
open Go.RowKit

def Ent.zero : Ent := ⟨0, 0, 0, 0⟩
end Go.Proofs.Ytaapjampmnanmaa

namespace Go.Proofs.Ytaapjampmnanmaa
open Go.RowKit

structure Sm (V k : Nat) : Prop where
  h : V ≤ 18446744073709551615 / 128 ^ k

/-- The variable at block g holds the call's own bytes. -/
def BoxB (B : Nat) (w : World) (g : Nat) (bs : List UInt8) : Prop := ∃ A c, Blk w g 40 #[.slice A bs.length c] ∧ Ow w B 5 A bs.length c (bs.map bv) ∧ B ≤ g ∧ B ≤ w.heap.size
theorem BoxB.below {B g : Nat} {w w' : World} {bs : List UInt8} (h : BoxB B w g bs) (hb : Below w.heap.size w w') : BoxB B w' g bs := by
  obtain ⟨A, c, hk, ho, h1, h2⟩ := h
  exact ⟨A, c, hk.below hb hk.lt, ho.below hb, h1, Nat.le_trans h2 hb.size⟩

def ent (es : List Ent) (j : Nat) : Ent := es.getD j ⟨0, 0, 0, 0⟩
theorem Sm.of {v : Nat} (h : v ≤ 4611686018427387904) : Sm v 0 := ⟨by simp; omega⟩

end Go.Proofs.Ytaapjampmnanmaa

namespace Go.Proofs.Ytaapjampmnanmaa
open Go.RowKit

/-- The slice value '.slice A es.length c' is the call's own and holds these entries. -/
def OwE (w : World) (base : Nat) (A : Option Addr) (c : Nat) (es : List Ent) : Prop :=
  ∃ xs, w.ownsRow base 57 4 (.slice A es.length c) es.length xs ∧ ∀ j (h : j < es.length), xs[j * 4]? = some (qv es[j].id) ∧ xs[j * 4 + 1]? = some (qv es[j].off) ∧ xs[j * 4 + 2]? = some (qv es[j].len) ∧ xs[j * 4 + 3]? = some (qv es[j].run)

section
variable {w w' : World} {base c : Nat} {A : Option Addr} {es : List Ent}
theorem OwE.nil (w : World) (base : Nat) : OwE w base none 0 [] := ⟨[], World.ownsRow_nil w base _ 4, fun _ h => absurd h (Nat.not_lt_zero _)⟩
theorem OwE.form (h : OwE w base A c es) : (A = none ∧ es = [] ∧ c = 0) ∨ ∃ g, A = some ⟨g, 0, none⟩ ∧ base ≤ g ∧ g < w.heap.size := by
  obtain ⟨xs, h, _⟩ := h
  rcases h.2 with ⟨hv, h0⟩ | ⟨g, cap, cur, hv, hg, hh, _⟩
  · injection hv with h1 h2 h3
    exact .inl ⟨h1, List.eq_nil_of_length_eq_zero h0, h3⟩
  · injection hv with h1 h2 h3
    exact .inr ⟨g, h1, hg, lt_of_block hh⟩
theorem OwE.pos (h : OwE w base A c es) (hn : 0 < es.length) : ∃ g, A = some ⟨g, 0, none⟩ ∧ base ≤ g ∧ g < w.heap.size := by
  rcases h.form with ⟨_, h0, _⟩ | h
  · simp [h0] at hn
  · exact h
theorem OwE.blk_lt (h : OwE w base A c es) : ∀ g, blk A = some g → base ≤ g ∧ g < w.heap.size := by
  intro g hg
  rcases h.form with ⟨rfl, _⟩ | ⟨g', rfl, h1, h2⟩
  · simp [blk] at hg
  · simp [blk] at hg
    subst hg
    exact ⟨h1, h2⟩
theorem OwE.chg {R : Nat → Prop} (h : OwE w base A c es) (hk : Chg R w w') (hn : ∀ g, blk A = some g → ¬ R g) : OwE w' base A c es := by
  obtain ⟨xs, h, hx⟩ := h
  refine ⟨xs, ⟨h.1, ?_⟩, hx⟩
  rcases h.2 with h2 | ⟨g, cap, cur, hv, hb, hh, r⟩
  · exact .inl h2
  · refine .inr ⟨g, cap, cur, hv, hb, ?_, r⟩
    injection hv with h1
    rw [hk.block g (lt_of_block hh) (hn g (by rw [h1]; rfl))]
    exact hh
theorem OwE.below (h : OwE w base A c es) (hk : Below w.heap.size w w') : OwE w' base A c es :=
  h.chg (R := fun _ => False) ⟨hk.os, hk.tape, hk.output, hk.size, fun k hl _ => hk.block k hl⟩ (fun _ _ h => h)
theorem OwE.ne (h : OwE w base A c es) {g : Nat} {t : TypeId} {cs : Array Value} (hk : Blk w g t cs) (hne : 57 ≠ t) : blk A ≠ some g := by
  obtain ⟨xs, h, _⟩ := h
  intro hg
  rcases h.2 with ⟨hv, _⟩ | ⟨g', cap, cur, hv, _, hh, _⟩
  · injection hv with h1
    rw [h1] at hg
    simp [blk] at hg
  · injection hv with h1
    rw [h1] at hg
    have : g' = g := by simpa [blk] using hg
    subst this
    exact Blk.same (w := w) hh hk hne rfl
theorem OwE.ne_ow (h : OwE w base A c es) {base' n' c' : Nat} {e' : TypeId} {A' : Option Addr} {xs' : List Value} (h' : Ow w base' e' A' n' c' xs') (hne : 57 ≠ e') : ∀ g, blk A = some g → blk A' ≠ some g := by
  obtain ⟨xs, h, _⟩ := h
  intro g hg
  rcases h.2 with ⟨hv, _⟩ | ⟨g', cap, cur, hv, _, hh, _⟩
  · injection hv with h1
    rw [h1] at hg
    simp [blk] at hg
  · injection hv with h1
    rw [h1] at hg
    have : g' = g := by simpa [blk] using hg
    subst this
    exact h'.ne (t := 57) (cs := cur) hh (Ne.symm hne)
theorem OwE.rd (h : OwE w base A c es) : RdE w w.heap.size A es := by
  intro j hj
  obtain ⟨g, rfl, h1, h2⟩ := h.pos (by omega)
  obtain ⟨xs, h, hx⟩ := h
  obtain ⟨x0, x1, x2, x3⟩ := hx j hj
  refine ⟨g, 0, rfl, h2, ?_, ?_, ?_, ?_⟩
  · have := h.cells (g := g) rfl _ _ x0
    rwa [Addr.add_mid] at this
  · have := h.cells (g := g) rfl _ _ x1
    rwa [Addr.add_mid] at this
  · have := h.cells (g := g) rfl _ _ x2
    rwa [Addr.add_mid] at this
  · have := h.cells (g := g) rfl _ _ x3
    rwa [Addr.add_mid] at this
theorem OwE.free {g : Nat} (h : OwE w base (some ⟨g, 0, none⟩) c es) (i : Nat) : w.frozen? ⟨g, i, none⟩ = false := by
  obtain ⟨xs, h, _⟩ := h
  exact h.frozenAt i
/-- A store into an entry: the entry that then stands there. -/
theorem OwE.put {g : Nat} (h : OwE w base (some ⟨g, 0, none⟩) c es) (j : Nat) (hj : j < es.length) (f : Nat) (hf : f < 4) (x : Nat) (y : Ent)
    (hy : (f = 0 ∧ y = { es[j] with id := x }) ∨ (f = 1 ∧ y = { es[j] with off := x }) ∨ (f = 2 ∧ y = { es[j] with len := x }) ∨ (f = 3 ∧ y = { es[j] with run := x })) :
    OwE (w.setCell ⟨g, j * 4 + f, none⟩ (qv x)) base (some ⟨g, 0, none⟩) c (es.set j y) := by
  obtain ⟨xs, h, hx⟩ := h
  have hlen : xs.length = es.length * 4 := h.1
  refine ⟨xs.set (j * 4 + f) (qv x), by rw [List.length_set]; exact (h.stored _ _).1, ?_⟩
  intro i hi
  rw [List.length_set] at hi
  obtain ⟨x0, x1, x2, x3⟩ := hx i hi
  by_cases e : j = i
  · subst e
    rw [List.getElem_set_self]
    rcases hy with ⟨rfl, rfl⟩ | ⟨rfl, rfl⟩ | ⟨rfl, rfl⟩ | ⟨rfl, rfl⟩
    · exact ⟨by rw [Nat.add_zero, List.getElem?_set_self (by omega)], by rw [List.getElem?_set_ne (by omega), x1], by rw [List.getElem?_set_ne (by omega), x2], by rw [List.getElem?_set_ne (by omega), x3]⟩
    · exact ⟨by rw [List.getElem?_set_ne (by omega), x0], by rw [List.getElem?_set_self (by omega)], by rw [List.getElem?_set_ne (by omega), x2], by rw [List.getElem?_set_ne (by omega), x3]⟩
    · exact ⟨by rw [List.getElem?_set_ne (by omega), x0], by rw [List.getElem?_set_ne (by omega), x1], by rw [List.getElem?_set_self (by omega)], by rw [List.getElem?_set_ne (by omega), x3]⟩
    · exact ⟨by rw [List.getElem?_set_ne (by omega), x0], by rw [List.getElem?_set_ne (by omega), x1], by rw [List.getElem?_set_ne (by omega), x2], by rw [List.getElem?_set_self (by omega)]⟩
  · rw [List.getElem_set_ne e]
    exact ⟨by rw [List.getElem?_set_ne (by omega), x0], by rw [List.getElem?_set_ne (by omega), x1], by rw [List.getElem?_set_ne (by omega), x2], by rw [List.getElem?_set_ne (by omega), x3]⟩
end

theorem info_entry : (Try.prog.info? 57).map (fun i => (i.zero, i.size, i.bytes)) = some (some (.agg #[.int .u64 0, .int .u64 0, .int .u64 0, .int .u64 0]), 4, 32) := by kernel_rfl

/-- append of one entry, laid into a block of its own first: what runs. -/
theorem run_append_ent (w : World) (ty : TypeId) {base c : Nat} {A : Option Addr} {es : List Ent} (h : OwE w base A c es) (x : Ent) (fr : Nat × Nat) (h63 : es.length ≤ 1048576) (hbase : base ≤ w.heap.size) :
    ∃ A' c' w', (Builtin.append_ #[23, 23] ty #[.slice A es.length c, .slice (some ⟨w.heap.size, 0, none⟩) 1 1]).run Try.prog (w.alloc (.cells x.cells 57 fr)) = .ok (.slice A' (es ++ [x]).length c') w' ∧ OwE w' base A' c' (es ++ [x]) ∧ Chg (fun k => blk A = some k) w w' ∧
      (blk A' = blk A ∨ ∃ k, w.heap.size ≤ k ∧ blk A' = some k) := by
  obtain ⟨i, hi, hz, hs, hb⟩ := info_parts info_entry
  obtain ⟨xs, h, hx⟩ := h
  have hlen : xs.length = es.length * 4 := h.1
  obtain ⟨v', w', hrun, h2, h3, _, h5⟩ := run_append_own_at (P := Try.prog) (w.alloc (.cells x.cells 57 fr)) base 23 ty 57 i _ 4 32 Try.underlying23 hi hz hs hb rfl (by omega) (.slice A es.length c) es.length xs (h.alloc _) ⟨w.heap.size, 0, none⟩ 1 1 x.cells.toList rfl
    (by
      intro j u hu
      rw [Addr.add_mid, cell_of_row _ _ _ x.cells 57 fr (heap_alloc_new w _)]
      simpa using hu)
    (by
      intro u hu
      simp [Ent.cells] at hu
      rcases hu with rfl | rfl | rfl | rfl <;> rfl) (by simp only [maxLen]; omega) (by omega) (by simp; omega)
  rw [ownBlock_slice] at h3 h5
  have hent : ∀ j (hj : j < (es ++ [x]).length), (xs ++ x.cells.toList)[j * 4]? = some (qv (es ++ [x])[j].id) ∧ (xs ++ x.cells.toList)[j * 4 + 1]? = some (qv (es ++ [x])[j].off) ∧ (xs ++ x.cells.toList)[j * 4 + 2]? = some (qv (es ++ [x])[j].len) ∧ (xs ++ x.cells.toList)[j * 4 + 3]? = some (qv (es ++ [x])[j].run) := by
    intro j hj
    rw [List.length_append, List.length_singleton] at hj
    by_cases e : j < es.length
    · obtain ⟨x0, x1, x2, x3⟩ := hx j e
      rw [List.getElem_append_left e]
      exact ⟨by rw [List.getElem?_append_left (by omega), x0], by rw [List.getElem?_append_left (by omega), x1], by rw [List.getElem?_append_left (by omega), x2], by rw [List.getElem?_append_left (by omega), x3]⟩
    · obtain rfl : j = es.length := by omega
      rw [List.getElem_concat_length rfl]
      exact ⟨by rw [List.getElem?_append_right (by omega), show es.length * 4 - xs.length = 0 from by omega]; rfl, by rw [List.getElem?_append_right (by omega), show es.length * 4 + 1 - xs.length = 1 from by omega]; rfl, by rw [List.getElem?_append_right (by omega), show es.length * 4 + 2 - xs.length = 2 from by omega]; rfl, by rw [List.getElem?_append_right (by omega), show es.length * 4 + 3 - xs.length = 3 from by omega]; rfl⟩
  have hnl : (es ++ [x]).length = es.length + 1 := by simp
  have hc : Chg (fun k => blk A = some k) w w' := ((Chg.refl _ w).alloc _).trans (chg_of_grown h3) (fun _ _ h => h)
  rcases h2.2 with ⟨hv, h0⟩ | ⟨g, cap, cur, hv, r⟩
  · omega
  · rw [hv] at hrun h2 h5
    refine ⟨_, cap, w', by rw [hnl]; exact hrun, ⟨_, by rw [hnl]; exact h2, hent⟩, hc, ?_⟩
    rw [ownBlock_slice] at h5
    rcases h5 with h5 | h5
    · exact .inl h5
    · exact .inr ⟨_, by simp, h5⟩

theorem wpList_append_ent {ops : Array Oper} {rest : List Oper} {o : Oper} {a : Act} {Q : Exit → Act → World → Prop} (w : World) (hgd : o.guard = none) (s y : Operand)
    (ho : o.op = .call { callee := .builtin .append, args := #[s, y], argTypes := #[23, 23] })
    {base c : Nat} {A : Option Addr} {es : List Ent} (hs : a.eval s = .slice A es.length c) (h : OwE w base A c es) (x : Ent) (fr : Nat × Nat) (hx : a.eval y = .slice (some ⟨w.heap.size, 0, none⟩) 1 1)
    (h63 : es.length ≤ 1048576) (hbase : base ≤ w.heap.size)
    (hk : ∀ A' c' w', OwE w' base A' c' (es ++ [x]) → Chg (fun k => blk A = some k) w w' → (blk A' = blk A ∨ ∃ k, w.heap.size ≤ k ∧ blk A' = some k) → wpList Try.prog ops Q rest (a.put o.dst (.slice A' (es ++ [x]).length c')) w') :
    wpList Try.prog ops Q (o :: rest) a (w.alloc (.cells #[.int .u64 (x.id : Int), .int .u64 (x.off : Int), .int .u64 (x.len : Int), .int .u64 (x.run : Int)] 57 fr)) :=
  wpList_plain hgd fun _ hK => by
    obtain ⟨A', c', w', hrun, h2, h3, h4⟩ := run_append_ent w o.type h x fr h63 hbase
    unfold Ent.cells at hrun
    unfold Oper.wp execOp
    simp only [ho, resolve, invoke, builtin, Sem.run_bind, Sem.run_pure, Result.andThen_ok, List.map_toArray, List.map_cons, List.map_nil, hs, hx, hrun]
    exact hK _ _ (hk A' c' w' h2 h3 h4)

end Go.Proofs.Ytaapjampmnanmaa
