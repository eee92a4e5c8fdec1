/- Plain facts on memory that the walks of this seat share: a block known whole, a slice that reads as a list, bytes as cells. There is no condition. -/
import Derived.Test.YtaapjampmnanmaaGreatProg
import Derived.WalkKit
import Derived.WalkSpells
import Derived.WalkLawsBesides
import Derived.BigQuiet
import Derived.Deep.MidRow
namespace Go.Proofs.YtaapjampmnanmaaGreat
open Go.RowKit
theorem hide {p : Prop} (h : p) : Hid p := h
def Blk (w : World) (g : Nat) (t : TypeId) (cs : Array Value) : Prop := w.heap[g]? = some (.cells cs t (0, 0))
section
variable {w w' : World} {g : Nat} {t : TypeId} {cs : Array Value}
theorem Blk.lt (h : Blk w g t cs) : g < w.heap.size := (Array.getElem?_eq_some_iff.1 h).1
theorem Blk.eq (h : Blk w g t cs) : w.heap[g]? = some (.cells cs t (0, 0)) := h
theorem Blk.cell (h : Blk w g t cs) (i : Nat) : w.cell? ⟨g, i, none⟩ = cs[i]? := cell_of_row w g i cs t (0, 0) h
theorem Blk.free (h : Blk w g t cs) (i : Nat) : w.frozen? ⟨g, i, none⟩ = false := by unfold Blk at h; simp [World.frozen?, h]
theorem Blk.new (w : World) (t : TypeId) (cs : Array Value) : Blk (w.alloc (.cells cs t)) w.heap.size t cs := heap_alloc_new w _
theorem Blk.drew (h : Blk w g t cs) : Blk w.drew g t cs := h
theorem Blk.drewN (h : Blk w g t cs) (n : Nat) : Blk (w.drewN n) g t cs := h
theorem Blk.alloc (h : Blk w g t cs) (o : Obj) : Blk (w.alloc o) g t cs := (Below.heap_alloc w o g h.lt).trans h
theorem Blk.set (h : Blk w g t cs) (i : Nat) (u : Value) : Blk (w.setCell ⟨g, i, none⟩ u) g t (cs.setIfInBounds i u) := heap_setCell_same w g i cs t u h
theorem Blk.far (h : Blk w g t cs) {p : Addr} (hp : g ≠ p.block) (u : Value) : Blk (w.setCell p u) g t cs := (Below.heap_setCell w p u g hp).trans h
theorem Blk.row (h : Blk w g t cs) (cs' : Array Value) : Blk (w.setRow g cs') g t cs' := setRow_heap w g cs cs' t (0, 0) h
theorem Blk.below {B : Nat} (h : Blk w g t cs) (hb : Below B w w') (hg : g < B) : Blk w' g t cs := (hb.block g hg).trans h
theorem Blk.same (h : Blk w g t cs) {g' : Nat} {t' : TypeId} {cs' : Array Value} (h' : Blk w g' t' cs') (e : t ≠ t') : g ≠ g' := by
  rintro rfl
  unfold Blk at h h'
  rw [h] at h'
  injection h' with h'
  injection h' with _ ht
  exact e ht
end
theorem below_row {B g : Nat} {a w : World} (h : Below B a w) (hg : B ≤ g) (cs : Array Value) : Below B a (w.setRow g cs) :=
  h.trans ⟨rfl, rfl, rfl, by simp, fun k hk => setRow_other w g k cs (by omega)⟩
def Rd (w : World) (B : Nat) (A : Option Addr) (n : Nat) (xs : List Value) : Prop :=
  xs.length = n ∧ ∀ j, j < n → ∃ b o, A = some ⟨b, o, none⟩ ∧ b < B ∧ w.cell? ⟨b, o + j, none⟩ = xs[j]?
section
variable {w w' : World} {B B' n : Nat} {A : Option Addr} {xs : List Value}
theorem Rd.nil (w : World) (B : Nat) (A : Option Addr) : Rd w B A 0 [] := ⟨rfl, fun _ h => absurd h (Nat.not_lt_zero _)⟩
theorem Rd.keep (h : Rd w B A n xs) (hk : ∀ b o, b < B → w'.cell? ⟨b, o, none⟩ = w.cell? ⟨b, o, none⟩) : Rd w' B A n xs :=
  ⟨h.1, fun j hj => by
    obtain ⟨b, o, e, hb, hc⟩ := h.2 j hj
    exact ⟨b, o, e, hb, (hk b _ hb).trans hc⟩⟩
theorem Rd.below (h : Rd w B A n xs) (hb : Below B w w') : Rd w' B A n xs := h.keep fun _ _ hl => hb.cell (p := ⟨_, _, none⟩) hl
theorem Rd.mono (h : Rd w B A n xs) (hB : B ≤ B') : Rd w B' A n xs :=
  ⟨h.1, fun j hj => by
    obtain ⟨b, o, e, hb, hc⟩ := h.2 j hj
    exact ⟨b, o, e, by omega, hc⟩⟩
theorem Rd.at {j : Nat} (h : Rd w B A n xs) (hj : j < n) : ∃ b o, A = some ⟨b, o, none⟩ ∧ b < B ∧ w.cell? ⟨b, o + j, none⟩ = some (xs[j]'(by rw [h.1]; exact hj)) := by
  obtain ⟨b, o, e, hb, hc⟩ := h.2 j hj
  exact ⟨b, o, e, hb, by rw [hc, List.getElem?_eq_getElem]⟩
end
theorem Rd.new (w : World) (cs : Array Value) (t : TypeId) (fr : Nat × Nat) : Rd (w.alloc (.cells cs t fr)) (w.heap.size + 1) (some ⟨w.heap.size, 0, none⟩) cs.size cs.toList :=
  ⟨by simp, fun j _ => ⟨w.heap.size, 0, rfl, by omega, by rw [cell_of_row _ _ _ cs t fr (heap_alloc_new w _)]; simp⟩⟩
theorem Rd.alloc {w : World} {B n : Nat} {A : Option Addr} {xs : List Value} (h : Rd w B A n xs) (hB : B ≤ w.heap.size) (o : Obj) : Rd (w.alloc o) B A n xs :=
  h.keep fun b o' hb => World.cell?_alloc_lt w o ⟨b, o', none⟩ (by show b < _; omega)
def bv (x : UInt8) : Value := .int .u8 (x.toNat : Int)
theorem Rd.byte {w : World} {B n : Nat} {A : Option Addr} {bs : List UInt8} (h : Rd w B A n (bs.map bv)) {j : Nat} (hj : j < n) :
    ∃ b o, A = some ⟨b, o, none⟩ ∧ b < B ∧ w.cell? ⟨b, o + j, none⟩ = some (.int .u8 ((bs[j]'(by have := h.1; simp at this; omega)).toNat : Int)) := by
  obtain ⟨b, o, e, hb, hc⟩ := h.at hj
  exact ⟨b, o, e, hb, by rw [hc]; simp [bv]⟩
theorem Rd.len {w : World} {B n : Nat} {A : Option Addr} {α : Type} {f : α → Value} {bs : List α} (h : Rd w B A n (bs.map f)) : bs.length = n := by
  have := h.1
  simpa using this
theorem toNat_le (x : UInt8) : x.toNat ≤ 255 := by have := x.toNat_lt; omega
theorem take_snoc {α : Type} (l : List α) (k : Nat) (h : k < l.length) : l.take (k + 1) = l.take k ++ [l[k]] := List.take_succ_eq_append_getElem h
theorem ret_int {k : IntKind} {a b : Int} (h : a = b) : Ending.returned (.int k a) = .returned (.int k b) := by rw [h]
theorem int_eq {k : IntKind} {a b : Int} (h : a = b) : Value.int k a = .int k b := by rw [h]
/-! ### A region that draws its order, whose operations and callees write nothing that was there -/
def Grw (w w' : World) : Prop := Below w.heap.size w w'
theorem Grw.out {w w' : World} (h : Grw w w') : Below w.heap.size w w' := h
theorem grw_all {w : World} {p : Prop} : (∀ w', Grw w w' → p) ↔ p := ⟨fun h => h w (Below.refl _ _), fun h _ _ => h⟩
theorem grw_step {P : Program} {f : FuncId} {args : Array Value} {w w' : World} {v : Value} (hw : Grw w w')
    (h : Calls P f args w' fun e w'' => e = .returned v ∧ Below w'.heap.size w' w'') : Calls P f args w' fun e w'' => e = .returned v ∧ Grw w w'' :=
  h.mono fun _ _ ⟨he, hb⟩ => ⟨he, hw.out.trans (hb.mono hw.out.size)⟩
theorem grw_same {P : Program} {f : FuncId} {args : Array Value} {w w' : World} {v : Value} (hw : Grw w w')
    (h : Calls P f args w' fun e w'' => e = .returned v ∧ w' = w'') : Calls P f args w' fun e w'' => e = .returned v ∧ Grw w w'' :=
  h.mono fun _ _ ⟨he, hb⟩ => ⟨he, by rw [← hb]; exact hw⟩
theorem quiet_left {P : Program} {f : FuncId} {args : Array Value} {w : World} {n : Nat} {v : Value}
    (h : Calls P f args (w.drewN n) fun e w' => e = .returned v ∧ w.drewN n = w') : Calls P f args (w.drewN n) fun e w'' => e = .returned v ∧ ∃ m, w'' = w.drewN m :=
  h.mono fun _ _ ⟨he, hm⟩ => ⟨he, n, hm.symm⟩
theorem quiet_left2 {P : Program} {f : FuncId} {args : Array Value} {w : World} {a n : Nat} {v : Value}
    (h : Calls P f args (w.drewN (a + n)) fun e w' => e = .returned v ∧ w.drewN (a + n) = w') : Calls P f args (w.drewN (a + n)) fun e w'' => e = .returned v ∧ ∃ m, w'' = w.drewN (a + m) :=
  h.mono fun _ _ ⟨he, hm⟩ => ⟨he, n, hm.symm⟩
section
variable {P : Program}
theorem wp_region_grw {id : Nat} {Q : Exit → Act → World → Prop} {a : Act} {w : World} {l : List Oper} (hm : P.follows .mixedOrders = true) (hB : Region.lexB .any l.toArray = true)
    (h : wpQuiet P l.toArray (Grw w) (fun a' => ∀ w', Grw w w' → Q .normal a' w') l a) : (Code.region id l.toArray true).wp P Q a w :=
  wp_region_quiet (C := Grw w) hm hB ⟨rfl, rfl, rfl, Nat.le_refl _, fun _ _ => rfl⟩ (by simpa using h)
theorem quiet_load_cell {o : Oper} {a : Act} {K : Act → Prop} {w : World} (ty : TypeId) (x : Operand) (ho : o.op = .load ty x) (b off : Nat) (v : Value) (hx : a.eval x = .pointer (some ⟨b, off, none⟩))
    (d : TypeDesc) (hu : P.underlying ty = some d) (hd : d.isRow = false) (hc : w.cell? ⟨b, off, none⟩ = some v) (h : K (a.put o.dst v)) : o.quiet P a (Grw w) K :=
  ⟨v, fun w' hw' => by
    have hc' : w'.cell? ⟨b, off, none⟩ = some v := (hw'.out.cell (p := ⟨b, off, none⟩) (World.block_lt_of_cell? w _ hc)).trans hc
    have hagg : (isAgg ty).run P w' = .ok false w' := by
      unfold isAgg
      rw [Sem.run_bind, run_underlying hu w']
      cases d <;> simp_all
    unfold Oper.quietAt execOp
    simp only [ho, hx, Instr.loadAt, Instr.sureAddr, Sem.run_bind, Sem.run_pure, Result.andThen_ok, loadVar, hagg, Bool.false_eq_true, if_false, run_load, hc']
    exact ⟨rfl, rfl⟩, h⟩
end
end Go.Proofs.YtaapjampmnanmaaGreat
