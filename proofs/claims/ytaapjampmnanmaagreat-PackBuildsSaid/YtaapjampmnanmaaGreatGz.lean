/- The plain law of layer 6 (gzip): what bytes hold, as frames. There is no condition. Layer 6 (gzip): a member in memory, and its way on: skip. The condition: where the bytes lie. Layer 6 (gzip): the parts of a header: extra, text, sum. The condition: where the bytes lie. Layer 6 (gzip): the header's own sum. The condition: where the bytes lie. Layer 6 (gzip): the header. The condition: where the bytes lie. Layer 6 (gzip): the whole header. The condition: where the bytes lie. Layer 6 (gzip): a number as four bytes; two slices' bytes compared. The conditions: where the bytes lie. Layer 6 (gzip): what a member holds, and its sums. The condition: where the bytes lie. Layer 4 (inflate): no more bytes than asked for. There is no condition. Layer 6 (gzip): what a member holds, where it can be unpacked. The condition: where the bytes lie. Layer 6 (gzip): what a member holds, whole. -/
import Derived.Test.YtaapjampmnanmaaGreatCrcX
import Derived.Test.YtaapjampmnanmaaGreatInfY
import Derived.Test.YtaapjampmnanmaaGreatDefX
import Derived.StillTailTactics
import Derived.Shelf.Bytes.SlIndexAt
import Derived.Deep.DeepCutAuto
import Derived.Deep.CutBlock
import Derived.Test.YtaapjampmnanmaaGreatInfX
import Derived.Test.YtaapjampmnanmaaGreatAppendMake
import Derived.Test.YtaapjampmnanmaaGreatDefR
import Derived.Deep.LoopGhost
import Derived.Deep.RegionWith
import Derived.Deep.RegionHeld3
namespace Go.Proofs.YtaapjampmnanmaaGreat
set_option linter.unusedVariables false

def Gz.bind {α β : Type} (x : Sum Nat α) (f : α → Sum Nat β) : Sum Nat β := match x with | .inl e => .inl e | .inr a => f a
def Gz.byte (bs : List UInt8) (i : Nat) : Nat := (bs.getD i 0).toNat
def Gz.skip (bs : List UInt8) (k p : Nat) : Sum Nat Nat := if p + k ≤ bs.length then .inr (p + k) else .inl 2
def Gz.extra (bs : List UInt8) (p : Nat) : Sum Nat Nat := Gz.bind (Gz.skip bs 2 p) fun q => Gz.skip bs (Gz.byte bs p + 256 * Gz.byte bs (p + 1)) q
def Gz.text (bs : List UInt8) (p : Nat) : Sum Nat Nat := match (bs.drop p).findIdx? (· == 0) with | none => .inl 2 | some i => .inr (p + (i + 1))
def Gz.sum (bs : List UInt8) (p : Nat) : Sum Nat Nat := Gz.bind (Gz.skip bs 2 p) fun q => if Gz.byte bs p + 256 * Gz.byte bs (p + 1) = Crc.sum (bs.take p) % 65536 then .inr q else .inl 4
def Gz.part (c : Bool) (f : Nat → Sum Nat Nat) (s : Sum Nat Nat) : Sum Nat Nat := if c then Gz.bind s f else s
def Gz.parts (bs : List UInt8) (f : Nat) (s : Sum Nat Nat) : Sum Nat Nat :=
  Gz.part (f.testBit 1) (Gz.sum bs) (Gz.part (f.testBit 4) (Gz.text bs) (Gz.part (f.testBit 3) (Gz.text bs) (Gz.part (f.testBit 2) (Gz.extra bs) s)))
/-- A header: the place behind it. -/
def Gz.head (bs : List UInt8) : Sum Nat Nat :=
  Gz.bind (Gz.skip bs 10 0) fun p => if Gz.byte bs 0 = 31 ∧ Gz.byte bs 1 = 139 ∧ Gz.byte bs 2 = 8 ∧ Gz.byte bs 3 < 32 then Gz.parts bs (Gz.byte bs 3) (.inr p) else .inl 3
def Gz.le (n : Nat) : List UInt8 := [UInt8.ofNat (n % 256), UInt8.ofNat (n / 256 % 256), UInt8.ofNat (n / 65536 % 256), UInt8.ofNat (n / 16777216 % 256)]
/-- What is packed, and the place behind the sums. -/
def Gz.body (F most : Nat) (bs : List UInt8) (p : Nat) : Sum Nat (List UInt8 × Nat) :=
  Gz.bind (Inf.data (Bit.bitsOf (bs.drop p)) most F) fun (o, u) =>
  Gz.bind (Gz.skip bs 8 (p + u)) fun q => if (bs.drop (p + u)).take 8 = Gz.le (Crc.sum o) ++ Gz.le o.length then .inr (o, q) else .inl 4
def Gz.member (F most : Nat) (bs : List UInt8) : Sum Nat (List UInt8 × Nat) := Gz.bind (Gz.head bs) fun p => Gz.body F most bs p
def Gz.all (F most : Nat) : Nat → List UInt8 → List UInt8 → Sum Nat (List UInt8)
  | 0, out, bs => .inl 3
  | f + 1, out, bs => Gz.bind (Gz.member F (most - out.length) bs) fun (o, q) => if bs.drop q = [] then .inr (out ++ o) else Gz.all F most f (out ++ o) (bs.drop q)
def Gz.wrap (bs : List UInt8) : List UInt8 := [31, 139, 8, 0, 0, 0, 0, 0, 0, 255] ++ Def.outB false bs ++ Gz.le (Crc.sum bs) ++ Gz.le bs.length
def Gz.is (bs : List UInt8) : Bool := decide (2 ≤ bs.length) && (Gz.byte bs 0 == 31 && Gz.byte bs 1 == 139)

end Go.Proofs.YtaapjampmnanmaaGreat

namespace Go.Proofs.YtaapjampmnanmaaGreat
open Go.RowKit Go.Shelf
set_option linter.unusedVariables false

/-- Nothing that was there is changed but block g. -/
def KG (g : Nat) (W W' : World) : Prop := Chg (fun i => i = g) W W'
theorem KG.refl (g : Nat) (W : World) : KG g W W := Chg.refl _ _
theorem KG.trans {g : Nat} {W W' W'' : World} (h : KG g W W') (k : KG g W' W'') : KG g W W'' := Chg.trans h k (fun _ _ h => h)
theorem KG.drewN {g : Nat} {W W' : World} (h : KG g W W') (n : Nat) : KG g W (W'.drewN n) := Chg.drewN h n
theorem KG.setCell {g : Nat} {W W' : World} (h : KG g W W') {i : Nat} (v : Value) : KG g W (W'.setCell ⟨g, i, none⟩ v) := Chg.setCell h (p := ⟨g, i, none⟩) (.inr rfl) v
theorem KG.below {g B : Nat} {W W' : World} (h : KG g W W') (hB : B ≤ g) (hW : B ≤ W.heap.size) : Below B W W' := Chg.to_below h hW (fun i hi => by rw [hi]; exact hB)
/-- A member in block g: its bytes, and the place or the error. -/
def MAt (B : Nat) (W : World) (g : Nat) (A : Option Addr) (n c : Nat) (s : Sum Nat Nat) : Prop :=
  B ≤ g ∧ match s with
  | .inl e => 1 ≤ e ∧ True ∧ ∃ p, p ≤ n ∧ Blk W g 143 #[.slice A n c, .int .i64 (p : Nat), .int .i64 (e : Nat)]
  | .inr p => p ≤ n ∧ Blk W g 143 #[.slice A n c, .int .i64 (p : Nat), .int .i64 0]

end Go.Proofs.YtaapjampmnanmaaGreat

namespace Go.Proofs.YtaapjampmnanmaaGreat
open Go.RowKit Go.Shelf
set_option linter.unusedVariables false

theorem Rd.gz {W : World} {B p k : Nat} {A : Option Addr} {bs : List UInt8} (h : Rd W B A k (((bs.drop p).take k).map bv)) (i : Nat) (hi : i < k) : ∃ b o, A = some ⟨b, o, none⟩ ∧ b < B ∧ W.cell? ⟨b, o + i, none⟩ = some (.int .u8 (Gz.byte bs (p + i) : Nat)) := by
  obtain ⟨b, o, hA, hb, hc⟩ := h.byte (j := i) hi
  refine ⟨b, o, hA, hb, ?_⟩
  rw [hc]
  have hl := h.len
  rw [List.length_take, List.length_drop] at hl
  congr 3
  unfold Gz.byte
  rw [List.getElem_take, List.getElem_drop, List.getD_eq_getElem?_getD, List.getElem?_eq_getElem (by omega)]
  rfl
theorem Rd.rest {W : World} {B n : Nat} {A : Option Addr} {bs : List UInt8} (h : Rd W B A n (bs.map bv)) (p : Nat) (hp : p ≤ n) : Rd W B (A.map fun x => x.add p) (n - p) ((bs.drop p).map bv) := by
  have h1 := h.sub p (n - p) (by omega)
  have hl : bs.length = n := h.len
  rwa [← List.map_drop, List.take_of_length_le (by rw [List.length_map, List.length_drop]; omega)] at h1
theorem MAt.drewN {B : Nat} {W : World} {g : Nat} {A : Option Addr} {n c : Nat} {s : Sum Nat Nat} (h : MAt B W g A n c s) (k : Nat) : MAt B (W.drewN k) g A n c s := by
  cases s with
  | inl e => exact ⟨h.1, h.2.1, h.2.2.1, h.2.2.2.choose, h.2.2.2.choose_spec.1, h.2.2.2.choose_spec.2.drewN k⟩
  | inr p => exact ⟨h.1, h.2.1, h.2.2.drewN k⟩

end Go.Proofs.YtaapjampmnanmaaGreat

namespace Go.Proofs.YtaapjampmnanmaaGreat
open Go.RowKit Go.Shelf
set_option linter.unusedVariables false

theorem MAt.below {B : Nat} {W W' : World} {g : Nat} {A : Option Addr} {n c : Nat} {s : Sum Nat Nat} (h : MAt B W g A n c s) (hb : Below W.heap.size W W') : MAt B W' g A n c s := by
  cases s with
  | inl e => exact ⟨h.1, h.2.1, h.2.2.1, h.2.2.2.choose, h.2.2.2.choose_spec.1, h.2.2.2.choose_spec.2.below hb h.2.2.2.choose_spec.2.lt⟩
  | inr p => exact ⟨h.1, h.2.1, h.2.2.below hb h.2.2.lt⟩
theorem MAt.some {B : Nat} {W : World} {g : Nat} {A : Option Addr} {n c : Nat} {s : Sum Nat Nat} (h : MAt B W g A n c s) : ∃ (p : Nat) (E : Int), p ≤ n ∧ Blk W g 143 #[.slice A n c, .int .i64 (p : Nat), .int .i64 E] ∧ (∀ q, s = .inr q → p = q) := by
  cases s with
  | inl e => exact ⟨_, _, h.2.2.2.choose_spec.1, h.2.2.2.choose_spec.2, fun q h => by cases h⟩
  | inr p => exact ⟨p, 0, h.2.1, h.2.2, fun q h => by injection h⟩
theorem MAt.lt {B : Nat} {W : World} {g : Nat} {A : Option Addr} {n c : Nat} {s : Sum Nat Nat} (h : MAt B W g A n c s) : B ≤ W.heap.size := by
  obtain ⟨p, E, _, hb, _⟩ := h.some
  have := hb.lt
  have := h.1
  omega
end Go.Proofs.YtaapjampmnanmaaGreat

namespace Go.Proofs.YtaapjampmnanmaaGreat
open Go.RowKit Go.Shelf
set_option linter.unusedVariables false
set_option linter.unusedSimpArgs false

theorem flags : ∀ f < 256, (bits .and .u8 (f : Nat) 224 != 0) = !decide (f < 32) := by decide +kernel

/-- The header's first bytes, in a block of their own; the flags are x. -/
def HAt (B : Nat) (W : World) (gh : Nat) (x : Nat) : Prop := ∃ A2 c2 b o, Blk W gh 22 #[.slice A2 10 c2] ∧ A2 = some ⟨b, o, none⟩ ∧ b < B ∧ B ≤ gh ∧ W.cell? ⟨b, o + 3, none⟩ = some (.int .u8 (x : Nat))

end Go.Proofs.YtaapjampmnanmaaGreat

namespace Go.Proofs.YtaapjampmnanmaaGreat
open Go.RowKit Go.Shelf
set_option linter.unusedVariables false
set_option linter.unusedSimpArgs false

theorem HAt.kg {B g gh x : Nat} {W W' : World} (h : HAt B W gh x) (hk : KG g W W') (hg : B ≤ g) (hne : gh ≠ g) : HAt B W' gh x := by
  obtain ⟨A2, c2, b, o, h1, h2, h3, h4, h5⟩ := h
  exact ⟨A2, c2, b, o, Blk.chg h1 hk hne, h2, h3, h4, Chg.cell hk h5 (by show b ≠ g; omega)⟩
end Go.Proofs.YtaapjampmnanmaaGreat

namespace Go.Proofs.YtaapjampmnanmaaGreat
open Go.RowKit Go.Shelf
set_option linter.unusedVariables false
set_option linter.unusedSimpArgs false

set_option maxHeartbeats 1000000 in
theorem low4_any (A : Option Addr) (n c v B : Nat) (xs : List UInt8) (W : World) (ho : Ow W B 5 A n c (xs.map bv)) (hB : B ≤ W.heap.size) (hn : n ≤ 1000000000) (hv : v ≤ 4294967295) :
    Calls Tryz.prog 105 #[.slice A n c, .int .u32 (v : Nat)] W fun e w' => ∃ A' c', e = .returned (.slice A' (n + 4) c') ∧ Ow w' B 5 A' (n + 4) c' ((xs ++ Gz.le v).map bv) ∧ Chg (fun k => blk A = some k) W w' := by
  have hle := hide (show (Gz.le v).map bv = [.int .u8 ((v : Int) % 256), .int .u8 ((v : Int) / 256 % 256), .int .u8 ((v : Int) / 65536 % 256), .int .u8 ((v : Int) / 16777216)] from by
    simp only [Gz.le, List.map_cons, List.map_nil, bv, UInt8.toNat_ofNat']
    simp
    omega)
  go_enter Tryz.func105, Tryz.ntmps105
  go_wp2_with (at_builtin; refine wpList_append_rd (W.alloc (.cells #[.int .u8 ((v : Int) % 256), .int .u8 ((v : Int) / 256 % 256), .int .u8 ((v : Int) / 65536 % 256), .int .u8 ((v : Int) / 16777216)] 5)) rfl (.tmp 5) (.tmp 17) rfl elem_byte (m := 4) rfl (ho.alloc _) rfl (Rd.new W _ _ _) (by intro u hu; simp at hu; rcases hu with rfl | rfl | rfl | rfl <;> rfl) (by simp only [maxLen]; omega) (by omega) (by simp; omega) ?_; intro A3 c3 w3 ho3 hg3 _; have ho3 := hide ho3; have hg3 := hide hg3)
  go_ret
  exact ⟨_, _, rfl, by rw [hle.out]; exact ho3.out, Chg.trans ((Chg.refl _ W).alloc _) hg3.out (fun _ _ h => h)⟩

end Go.Proofs.YtaapjampmnanmaaGreat

namespace Go.Proofs.YtaapjampmnanmaaGreat
open Go.RowKit Go.Shelf
set_option linter.unusedVariables false
set_option linter.unusedSimpArgs false

end Go.Proofs.YtaapjampmnanmaaGreat

namespace Go.Proofs.YtaapjampmnanmaaGreat
set_option linter.unusedVariables false

/-- What has no more bytes than most has none more afterwards. -/
def Inf.Top {α : Type} (most : Nat) (p : Inf.M α) : Prop := ∀ a o x a' o', o.length ≤ most → p a o = .inr (x, a', o') → o'.length ≤ most
theorem Inf.Top.ret {α : Type} (most : Nat) (x : α) : Inf.Top most (Inf.ret x) := fun a o x' a' o' ho h => by cases h; exact ho
theorem Inf.Top.err {α : Type} (most e : Nat) : Inf.Top most (Inf.err e : Inf.M α) := fun a o x a' o' ho h => by cases h
theorem Inf.Top.bind {α β : Type} {most : Nat} {p : Inf.M α} {f : α → Inf.M β} (hp : Inf.Top most p) (hf : ∀ x, Inf.Top most (f x)) : Inf.Top most (Inf.bind p f) := fun a o x a' o' ho h => by
  cases hr : p a o with
  | inl e' =>
    rw [Inf.bind_err hr] at h
    cases h
  | inr r =>
    obtain ⟨y, a1, o1⟩ := r
    rw [Inf.bind_ok hr] at h
    exact hf y a1 o1 x a' o' (hp a o y a1 o1 ho hr) h
theorem Inf.Top.ite {α : Type} {most : Nat} {c : Prop} [Decidable c] {p q : Inf.M α} (hp : Inf.Top most p) (hq : Inf.Top most q) : Inf.Top most (if c then p else q) := by
  by_cases h : c
  · rwa [if_pos h]
  · rwa [if_neg h]
section
variable (l : List Bool) (most : Nat)
theorem Inf.Top.bits (n : Nat) : Inf.Top most (Inf.bits l n) := fun a o x a' o' ho h => by
  unfold Inf.bits at h
  split at h
  · cases h; exact ho
  · cases h
theorem Inf.Top.align : Inf.Top most Inf.align := fun a o x a' o' ho h => by cases h; exact ho
theorem Inf.Top.sym (ls : List Nat) : Inf.Top most (Inf.sym l ls) := fun a o x a' o' ho h => by
  unfold Inf.sym at h
  split at h
  · cases h; exact ho
  · cases h
theorem Inf.Top.put (c : UInt8) : Inf.Top most (Inf.put most c) := fun a o x a' o' ho h => by
  unfold Inf.put at h
  split at h
  · cases h
  · cases h
    rw [List.length_append, List.length_singleton]
    omega
theorem Inf.Top.raw (n : Nat) : Inf.Top most (Inf.raw l most n) := by
  induction n with
  | zero => exact Inf.Top.ret most ()
  | succ n ih => exact (Inf.Top.bits l most 8).bind fun c => (Inf.Top.put most _).bind fun _ => ih
theorem Inf.Top.stored : Inf.Top most (Inf.stored l most) := (Inf.Top.align most).bind fun _ => (Inf.Top.bits l most 16).bind fun n => (Inf.Top.bits l most 16).bind fun m => Inf.Top.ite (Inf.Top.raw l most n) (Inf.Top.err most 3)
theorem Inf.Top.back (d n : Nat) : Inf.Top most (Inf.back most d n) := by
  induction n with
  | zero => exact Inf.Top.ret most ()
  | succ n ih => exact fun a o x a' o' ho h => ((Inf.Top.put most (o.getD (o.length - d) 0)).bind fun _ => ih) a o x a' o' ho h
theorem Inf.Top.reach (d n : Nat) : Inf.Top most (Inf.reach most d n) := fun a o x a' o' ho h => by
  unfold Inf.reach at h
  split at h
  · cases h
  · exact Inf.Top.back most d n a o x a' o' ho h
theorem Inf.Top.copied (far : List Nat) (s : Nat) : Inf.Top most (Inf.copied l most far s) :=
  Inf.Top.ite (Inf.Top.err most 3) ((Inf.Top.bits l most _).bind fun _ => (Inf.Top.sym l most far).bind fun t => Inf.Top.ite (Inf.Top.err most 3) ((Inf.Top.bits l most _).bind fun _ => Inf.Top.reach most _ _))
theorem Inf.Top.symbols (near far : List Nat) (f : Nat) : Inf.Top most (Inf.symbols l most near far f) := by
  induction f with
  | zero => exact Inf.Top.err most 3
  | succ f ih => exact (Inf.Top.sym l most near).bind fun s => Inf.Top.ite ((Inf.Top.put most _).bind fun _ => ih) (Inf.Top.ite (Inf.Top.ret most ()) ((Inf.Top.copied l most far s).bind fun _ => ih))
theorem Inf.Top.often (acc : List Nat) (s : Nat) : Inf.Top most (Inf.often l acc s) :=
  Inf.Top.ite (Inf.Top.ite (Inf.Top.err most 3) ((Inf.Top.bits l most 2).bind fun _ => Inf.Top.ret most _)) (Inf.Top.ite ((Inf.Top.bits l most 3).bind fun _ => Inf.Top.ret most _) (Inf.Top.ite ((Inf.Top.bits l most 7).bind fun _ => Inf.Top.ret most _) (Inf.Top.ret most _)))
theorem Inf.Top.lens (ls : List Nat) (many f : Nat) : ∀ acc, Inf.Top most (Inf.lens l ls many f acc) := by
  induction f with
  | zero => intro acc; exact Inf.Top.err most 3
  | succ f ih => intro acc; exact Inf.Top.ite (Inf.Top.ret most acc) ((Inf.Top.sym l most ls).bind fun s => (Inf.Top.often l most acc s).bind fun nv => Inf.Top.ite (Inf.Top.err most 3) (ih _))
theorem Inf.Top.need (ls : List Nat) (short : Bool) : Inf.Top most (Inf.need ls short) := fun a o x a' o' ho h => by
  unfold Inf.need at h
  split at h
  · cases h; exact ho
  · cases h
theorem Inf.Top.three (n : Nat) : ∀ i acc, Inf.Top most (Inf.three l n i acc) := by
  induction n with
  | zero => intro i acc; exact Inf.Top.ret most acc
  | succ n ih => intro i acc; exact (Inf.Top.bits l most 3).bind fun v => ih _ _
theorem Inf.Top.dynamic : Inf.Top most (Inf.dynamic l) :=
  (Inf.Top.bits l most 5).bind fun a => (Inf.Top.bits l most 5).bind fun b => Inf.Top.ite (Inf.Top.err most 3) ((Inf.Top.bits l most 4).bind fun m => (Inf.Top.three l most _ _ _).bind fun c =>
    (Inf.Top.need most c false).bind fun _ => (Inf.Top.lens l most c _ _ _).bind fun ls => Inf.Top.ite (Inf.Top.err most 3) ((Inf.Top.need most _ false).bind fun _ => (Inf.Top.need most _ true).bind fun _ => Inf.Top.ret most _))
theorem Inf.Top.block (F : Nat) : Inf.Top most (Inf.block l most F) :=
  (Inf.Top.bits l most 1).bind fun fin => (Inf.Top.bits l most 2).bind fun k => Inf.Top.ite ((Inf.Top.stored l most).bind fun _ => Inf.Top.ret most _)
    (Inf.Top.ite ((Inf.Top.symbols l most _ _ F).bind fun _ => Inf.Top.ret most _) (Inf.Top.ite ((Inf.Top.dynamic l most).bind fun c => (Inf.Top.symbols l most _ _ F).bind fun _ => Inf.Top.ret most _) (Inf.Top.err most 3)))
theorem Inf.Top.blocks (F f : Nat) : Inf.Top most (Inf.blocks l most F f) := by
  induction f with
  | zero => exact Inf.Top.err most 3
  | succ f ih => exact (Inf.Top.block l most F).bind fun fin => Inf.Top.ite (Inf.Top.ret most ()) ih
end
end Go.Proofs.YtaapjampmnanmaaGreat

namespace Go.Proofs.YtaapjampmnanmaaGreat
open Go.RowKit Go.Shelf
set_option linter.unusedVariables false
set_option linter.unusedSimpArgs false

end Go.Proofs.YtaapjampmnanmaaGreat

namespace Go.Proofs.YtaapjampmnanmaaGreat
open Go.RowKit Go.Shelf
set_option linter.unusedVariables false

end Go.Proofs.YtaapjampmnanmaaGreat

namespace Go.Proofs.YtaapjampmnanmaaGreat
open Go.RowKit Go.Shelf
set_option linter.unusedVariables false
set_option linter.unusedSimpArgs false

theorem Ow.cut0 {w : World} {base n c : Nat} {e : TypeId} {A : Option Addr} {xs : List Value} (h : Ow w base e A n c xs) (hn : 0 < n) : Ow w base e A 0 c [] := by
  refine ⟨rfl, ?_⟩
  rcases h.2 with ⟨_, h0⟩ | ⟨g, cap, cur, hv, hb, hh, h1, h2, h3, _⟩
  · omega
  · injection hv with e1 e2 e3
    exact .inr ⟨g, cap, cur, by rw [e1, e3], hb, hh, by omega, h2, h3, by simp⟩

theorem zeros_byte (k : Nat) : ∀ u ∈ (Builtin.zeroCells (Value.int .u8 0).cells k).toList, u.oneCell' = true := by
  intro u hu
  simp only [Builtin.zeroCells, Array.toList_map, List.mem_map, Value.cells] at hu
  obtain ⟨i, _, rfl⟩ := hu
  simp [Nat.mod_one]
  rfl
set_option maxRecDepth 100000 in
set_option maxHeartbeats 1000000 in
theorem grow_any (k : Nat) (w : World) (hk : 0 < k) (hk2 : k ≤ 1000000000) :
    Calls Tryz.prog 81 #[.slice none 0 0, .int .i64 (k : Nat)] w fun e w' => ∃ A c, e = .returned (.slice A 0 c) ∧ Ow w' w.heap.size 5 A 0 c [] ∧ Below w.heap.size w w' := by
  have hkI : (0 : Int) < (k : Int) := by omega
  have hkw : IntKind.i64.wrap (k : Int) = (k : Int) := by rw [IntKind.wrap_i64]; omega
  have hng : decide ((k : Int) < 0) = false := by simp
  go_enter Tryz.func81, Tryz.ntmps81
  go_wp2_with (at_builtin; go_loud (refine wpList_append_zeros w rfl (.tmp 20) (.tmp 21) rfl elem_byte Tryz.underlying3 rfl (Ow.nil w w.heap.size _) .i64 k rfl (zeros_byte k) (by simp only [maxLen]; omega) (by omega) (Nat.le_refl _) ?_); intro A3 c3 w3 ho3 hg3; rw [Nat.zero_add] at ho3 ⊢; have ho3 := hide ho3; have hg3 := hide hg3)
  go_ret
  exact ⟨A3, c3, rfl, ho3.out.cut0 hk, hg3.out.to_below (Nat.le_refl _) (fun i hi => by simp [blk] at hi)⟩

theorem one_bv2 (bs : List UInt8) : ∀ u ∈ bs.map bv, u.oneCell' = true := by
  intro u hu
  obtain ⟨b, _, rfl⟩ := List.mem_map.mp hu
  rfl

set_option maxRecDepth 100000 in
set_option maxHeartbeats 2000000 in
theorem concat_any (g B n1 c1 n2 c2 : Nat) (A1 A2 : Option Addr) (xs ys : List UInt8) (w : World) (hk : Blk w g 22 #[.slice A1 n1 c1, .slice A2 n2 c2]) (hr1 : Rd w B A1 n1 (xs.map bv)) (hr2 : Rd w B A2 n2 (ys.map bv)) (hB : B ≤ w.heap.size) (h1 : 0 < n1) (hn1 : n1 ≤ 100000000) (hn2 : n2 ≤ 800000000) :
    Calls Tryz.prog 43 #[.slice (some ⟨g, 0, none⟩) 2 2] w fun e w' => ∃ A c, e = .returned (.slice A (n1 + n2) c) ∧ Ow w' w.heap.size 5 A (n1 + n2) c ((xs ++ ys).map bv) ∧ Below w.heap.size w w' := by
  have hg := hide (grow_any (n1 + n2) w (by omega) (by omega))
  have d0 := hk.cell 0
  have d1 := hk.cell 1
  simp only [List.getElem?_toArray, List.getElem?_cons_succ, List.getElem?_cons_zero] at d0 d1
  have hw1 : IntKind.i64.wrap (n1 : Int) = (n1 : Int) := by rw [IntKind.wrap_i64]; omega
  have hw2 : IntKind.i64.wrap ((n1 : Int) + (n2 : Int)) = ((n1 + n2 : Nat) : Int) := by rw [IntKind.wrap_i64]; omega
  have hs1 : decide ((n1 : Int) < 0) = false := by simp
  have hs2 : decide (((n1 + n2 : Nat) : Int) < 0) = false := by simp; omega
  replace hr1 := hide hr1
  replace hr2 := hide hr2
  replace hk := hide hk
  go_enter Tryz.func43, Tryz.ntmps43
  go_wp2
  refine wp_loop_rounds 3 ?_
  rw [rounds_succ]
  go_wp2
  rw [rounds_succ]
  go_wp2
  rw [rounds_succ]
  go_wp2_with fail
  refine hg.out.mono ?_
  rintro e w1 ⟨A3, c3, rfl, o3, b3⟩
  have k1 := hk.out.below b3 hk.out.lt
  have e0 := k1.cell 0
  have e1 := k1.cell 1
  simp only [List.getElem?_toArray, List.getElem?_cons_succ, List.getElem?_cons_zero] at e0 e1
  have q1 := hide (hr1.out.below (b3.mono hB))
  have q2 := hide (fun W (h : Below w.heap.size w W) => hr2.out.below (h.mono hB))
  have hBw1 := hide b3.size
  have o3 := hide o3
  have b3 := hide b3
  clear k1 hg d0 d1 hs1 hs2 hw1 hw2
  go_wp2
  refine wp_loop_rounds 3 ?_
  rw [rounds_succ]
  go_wp2_with (at_builtin; go_loud (refine wpList_append_rd w1 rfl (.tmp 31) (.tmp 32) rfl elem_byte rfl o3.out rfl q1.out (one_bv2 xs) (by simp only [maxLen]; omega) (by omega) hBw1.out ?_); intro A4 c4 w4 ho4 hc4 hn4; have b4 := hide (b3.out.trans (hc4.to_below hBw1.out (fun i hi => (o3.out.blk_lt i hi).1))); rw [Nat.zero_add, List.nil_append] at ho4; have ho4 := hide ho4; clear hc4 hn4)
  have e4 := hide (q2.out w4 b4.out)
  have hBw4 := hide b4.out.size
  clear e0 e1 b3 o3
  have e1 := (hk.out.below b4.out hk.out.lt).cell 1
  simp only [List.getElem?_toArray, List.getElem?_cons_succ, List.getElem?_cons_zero] at e1
  rw [rounds_succ]
  go_wp2_with (at_builtin; go_loud (refine wpList_append_rd w4 rfl (.tmp 31) (.tmp 32) rfl elem_byte rfl ho4.out rfl e4.out (one_bv2 ys) (by simp only [maxLen]; omega) (by omega) hBw4.out ?_); intro A5 c5 w5 ho5 hc5 hn5; have b5 := hide (b4.out.trans (hc5.to_below hBw4.out (fun i hi => (ho4.out.blk_lt i hi).1))); have ho5 := hide ho5; clear hc5 hn5)
  rw [rounds_succ]
  go_wp2
  go_ret
  exact ⟨A5, c5, rfl, by rw [List.map_append]; exact ho5.out, b5.out⟩

end Go.Proofs.YtaapjampmnanmaaGreat

namespace Go.Proofs.YtaapjampmnanmaaGreat
set_option linter.unusedVariables false
set_option linter.unusedSimpArgs false

theorem Gz.le_len (v : Nat) : (Gz.le v).length = 4 := rfl
theorem Gz.wrap_len (bs : List UInt8) : (Gz.wrap bs).length = 18 + (Def.outB false bs).length := by
  simp only [Gz.wrap, List.length_append, Gz.le_len, List.length_cons, List.length_nil]
  omega
theorem Gz.out_big (bs : List UInt8) (h : bs.length ≤ 1048576) : (Def.outB false bs).length ≤ 10000000 := by
  rw [show (Def.outB false bs).length = Bit.size (Def.outL false bs).length from Bit.pack_length _]
  have key : (Def.outL false bs).length ≤ 70000000 := by
    have h1 := Def.toksB_len (Def.parse bs)
    have h2 := Def.toks_len bs bs.length 0
    rw [show Def.toks bs bs.length 0 = Def.parse bs from rfl] at h2
    have h3 : (Def.litB 256).length ≤ 60 := by
      have h1 := (fixL_le 256).1
      rw [Def.litB, word_len]
      omega
    show (Def.fixB bs).length ≤ _
    simp only [Def.fixB, List.length_append, List.length_cons, List.length_nil]
    omega
  unfold Bit.size
  omega
theorem Gz.out_len (pl : Bool) (bs : List UInt8) (h : bs.length ≤ 4000) : (Def.outB pl bs).length ≤ 40000 := by
  rw [show (Def.outB pl bs).length = Bit.size (Def.outL pl bs).length from Bit.pack_length _]
  have key : (Def.outL pl bs).length ≤ 300000 := by
    cases pl with
    | false =>
      have h1 := Def.toksB_len (Def.parse bs)
      have h2 := Def.toks_len bs bs.length 0
      rw [show Def.toks bs bs.length 0 = Def.parse bs from rfl] at h2
      have h3 : (Def.litB 256).length ≤ 60 := by
        have h1 := (fixL_le 256).1
        rw [Def.litB, word_len]
        omega
      show (Def.fixB bs).length ≤ _
      simp only [Def.fixB, List.length_append, List.length_cons, List.length_nil]
      omega
    | true =>
      show (Def.stoB bs.length bs).length ≤ _
      have := Def.stoB_len bs.length bs
      omega
  unfold Bit.size
  omega

end Go.Proofs.YtaapjampmnanmaaGreat

namespace Go.Proofs.YtaapjampmnanmaaGreat
open Go.RowKit Go.Shelf
set_option linter.unusedVariables false
set_option linter.unusedSimpArgs false

def UnPost (w : World) (r : Sum Nat (List UInt8)) (e : Ending) (w' : World) : Prop :=
  Below w.heap.size w w' ∧
  ((∃ er, r = .inl er ∧ 1 ≤ er ∧ e = .returned (.tuple #[.slice none 0 0, .int .i64 (er : Int)])) ∨
   (∃ o A c, r = .inr o ∧ e = .returned (.tuple #[.slice A o.length c, .int .i64 0]) ∧ Ow w' w.heap.size 5 A o.length c (o.map bv)))

/-- A round of Unwrap: what is left, and what was found. -/
def UnRel (w : World) (n most F gk : Nat) (R : Sum Nat (List UInt8)) (s0 s6 s7 : Value) (wr : World) : Prop :=
  ∃ (A0 : Option Addr) (n0 c0 : Nat) (A6 : Option Addr) (n6 c6 : Nat) (bs0 out : List UInt8) (first : Bool), s0 = .slice A0 n0 c0 ∧ s6 = .slice A6 n6 c6 ∧ s7 = .bool first ∧ Hid (n0 ≤ c0) ∧ Hid (n0 ≤ n) ∧ Hid (n0 < gk) ∧ Hid (out.length = n6) ∧ Hid (n6 ≤ most) ∧ Hid (Rd wr w.heap.size A0 n0 (bs0.map bv)) ∧ Hid (Ow wr w.heap.size 5 A6 n6 c6 (out.map bv)) ∧ Hid (Below w.heap.size w wr) ∧ ((first || decide (0 < (n0 : Int))) = true ∧ Hid (Gz.all F most gk out bs0 = R) ∨ first = false ∧ n0 = 0 ∧ Hid (R = .inr out))
theorem UnRel.next {w wr : World} {n most F g n0 n6 m3 q3 n' c' c8 : Nat} {R : Sum Nat (List UInt8)} {A' A8 : Option Addr} {bs0 out o3 : List UInt8} (hn' : n' = n0 - q3) (hc : n' ≤ c') (hn : n0 ≤ n) (hg : n0 < g + 1) (h8 : 8 ≤ q3) (hq : q3 ≤ n0) (hl : bs0.length = n0) (ho : out.length = n6) (ho3 : o3.length = m3) (hm : n6 + m3 ≤ most)
    (hr : Rd wr w.heap.size A' n' ((bs0.drop q3).map bv)) (h6 : Ow wr w.heap.size 5 A8 (n6 + m3) c8 (out.map bv ++ o3.map bv)) (hb : Below w.heap.size w wr) (hR : (if bs0.drop q3 = [] then .inr (out ++ o3) else Gz.all F most g (out ++ o3) (bs0.drop q3)) = R) :
    UnRel w n most F g R (.slice A' n' c') (.slice A8 (n6 + m3) c8) (.bool false) wr := by
  have hd : bs0.drop q3 = [] ↔ n' = 0 := by
    rw [← List.length_eq_zero_iff, List.length_drop, hl, hn']
  refine ⟨A', n', c', A8, n6 + m3, c8, bs0.drop q3, out ++ o3, false, rfl, rfl, rfl, hc, hide (by omega), hide (by omega), hide (by rw [List.length_append, ho, ho3]), hm, hr, hide (by rw [List.map_append]; exact h6), hb, ?_⟩
  by_cases h0 : n' = 0
  · rw [if_pos (hd.2 h0)] at hR
    exact .inr ⟨rfl, h0, hR.symm⟩
  · rw [if_neg (fun h => h0 (hd.1 h))] at hR
    exact .inl ⟨by simp; omega, hR⟩

end Go.Proofs.YtaapjampmnanmaaGreat

namespace Go.Proofs.YtaapjampmnanmaaGreat
open Go.RowKit Go.Shelf
set_option linter.unusedVariables false
set_option linter.unusedSimpArgs false

def Gz.hd : List UInt8 := [31, 139, 8, 0, 0, 0, 0, 0, 0, 255]
set_option maxRecDepth 100000 in
set_option maxHeartbeats 2000000 in
theorem wrap_any (A : Option Addr) (n c : Nat) (bs : List UInt8) (w : World) (hr : Rd w w.heap.size A n (bs.map bv)) (hc : n ≤ c) (hn : n ≤ 1048576) :
    Calls Tryz.prog 80 #[.slice A n c] w fun e w' => ∃ A' c', e = .returned (.tuple #[.slice A' (Gz.wrap bs).length c', .int .i64 0]) ∧ Ow w' w.heap.size 5 A' (Gz.wrap bs).length c' ((Gz.wrap bs).map bv) ∧ Below w.heap.size w w' := by
  have hl : bs.length = n := hr.len
  have hd := hide (ddata_any A n c bs false w hr hc (by omega))
  have hDl := Gz.out_big bs (by omega)
  have hlen := Gz.wrap_len bs
  obtain ⟨m, hm⟩ : ∃ m, (Def.outB false bs).length = m := ⟨_, rfl⟩
  rw [hm] at hd hDl hlen
  obtain ⟨D, hD⟩ : ∃ D, Def.outB false bs = D := ⟨_, rfl⟩
  rw [hD] at hd
  have hres := hide (show Gz.wrap bs = Gz.hd ++ D ++ Gz.le (Crc.sum bs) ++ Gz.le n from by rw [← hD, ← hl]; rfl)
  rw [hlen, show 18 + m = 10 + m + 4 + 4 from by omega]
  generalize Gz.wrap bs = WR at *
  obtain ⟨Sm, hSm⟩ : ∃ Sm, Crc.sum bs = Sm := ⟨_, rfl⟩
  have hSl := Crc.sum_lt bs
  have hof := hide (fun W (h : Below w.heap.size w W) => of_any A n c bs W w.heap.size (hr.below h) h.size (by omega))
  rw [hSm] at hSl hof hres
  have hnu : IntKind.u32.wrap (n : Int) = (n : Int) := by rw [IntKind.wrap_u32]; omega
  replace hr := hide hr
  go_enter Tryz.func80, Tryz.ntmps80
  go_wp2_with fail
  refine hd.out.mono ?_
  rintro e w1 ⟨A1, c1, rfl, o1, b1⟩
  have o1 := hide o1
  have b1 := hide b1
  obtain ⟨g2, hg2⟩ : ∃ k, w1.heap.size = k := ⟨_, rfl⟩
  obtain ⟨w2, hw2⟩ : ∃ W, w1.alloc (.cells #[.int .u8 31, .int .u8 139, .int .u8 8, .int .u8 0, .int .u8 0, .int .u8 0, .int .u8 0, .int .u8 0, .int .u8 0, .int .u8 255] 5) = W := ⟨_, rfl⟩
  obtain ⟨g3, hg3⟩ : ∃ k, w2.heap.size = k := ⟨_, rfl⟩
  obtain ⟨w3, hw3⟩ : ∃ W, w2.alloc (.cells #[.slice (some ⟨g2, 0, none⟩) 10 10, .slice A1 m c1] 22) = W := ⟨_, rfl⟩
  have s2 : w2.heap.size = g2 + 1 := by rw [← hw2, ← hg2]; simp
  have h2 := hide (show Rd w2 w2.heap.size (some ⟨g2, 0, none⟩) 10 (Gz.hd.map bv) from by rw [s2, ← hw2, ← hg2]; exact Rd.new w1 #[.int .u8 31, .int .u8 139, .int .u8 8, .int .u8 0, .int .u8 0, .int .u8 0, .int .u8 0, .int .u8 0, .int .u8 0, .int .u8 255] _ _)
  have o2 := hide (show Ow w2 w.heap.size 5 A1 m c1 (D.map bv) from by rw [← hw2]; exact o1.out.alloc _)
  have k3 := hide (show Blk w3 g3 22 #[.slice (some ⟨g2, 0, none⟩) 10 10, .slice A1 m c1] from by rw [← hw3, ← hg3]; exact Blk.new w2 _ _)
  have b3 := hide (show Below w.heap.size w w3 from by rw [← hw3, ← hw2]; exact (b1.out.alloc b1.out.size _).alloc (by have := b1.out.size; simp; omega) _)
  have h3 := hide (show Rd w3 w2.heap.size (some ⟨g2, 0, none⟩) 10 (Gz.hd.map bv) from by rw [← hw3]; exact h2.out.alloc (Nat.le_refl _) _)
  have o3 := hide (show Rd w3 w2.heap.size A1 m (D.map bv) from by rw [← hw3]; exact o2.out.rd.alloc (Nat.le_refl _) _)
  have hcat := hide (show Calls Tryz.prog 43 #[.slice (some ⟨g3, 0, none⟩) 2 2] w3 fun e w' => ∃ A c, e = .returned (.slice A (10 + m) c) ∧ Ow w' w.heap.size 5 A (10 + m) c ((Gz.hd ++ D).map bv) ∧ Below w.heap.size w w' from (concat_any g3 w2.heap.size 10 10 m c1 (some ⟨g2, 0, none⟩) A1 Gz.hd D w3 k3.out h3.out o3.out (by rw [← hw3]; simp) (by decide) (by decide) (by omega)).mono (by
    rintro e w' ⟨A4, c4, rfl, o4, b4⟩
    exact ⟨A4, c4, rfl, o4.base_le (fun k hk => Nat.le_trans b3.out.size (o4.blk_lt k hk).1), b3.out.trans (b4.mono b3.out.size)⟩))
  have hl1 := hide (fun (A4 : Option Addr) (c4 : Nat) (W : World) (h : Ow W w.heap.size 5 A4 (10 + m) c4 ((Gz.hd ++ D).map bv)) (hb : Below w.heap.size w W) => low4_any A4 (10 + m) c4 Sm w.heap.size (Gz.hd ++ D) W h hb.size (by omega) (by omega))
  have hl2 := hide (fun (A4 : Option Addr) (c4 : Nat) (W : World) (h : Ow W w.heap.size 5 A4 (10 + m + 4) c4 ((Gz.hd ++ D ++ Gz.le Sm).map bv)) (hb : Below w.heap.size w W) => low4_any A4 (10 + m + 4) c4 n w.heap.size (Gz.hd ++ D ++ Gz.le Sm) W h hb.size (by omega) (by omega))
  clear h2 o2 h3 o3 k3 o1
  go_wp2_with (first
    | (go_at_call 43; (with_reducible refine (hcat.out).mono ?_); rintro e w4 ⟨A4, c4, rfl, o4, b4⟩; have hof := hide (hof.out w4 b4); have o4 := hide o4; have b4 := hide b4)
    | (go_at_call 106; (with_reducible refine (hof.out).mono ?_); rintro e w5 ⟨rfl, b5⟩; have hl1 := hide (hl1.out A4 c4 w5 (o4.out.below b5) (b4.out.trans (b5.mono b4.out.size))); have b5 := hide (b4.out.trans (b5.mono b4.out.size)))
    | (go_at_call 105; (with_reducible refine (hl1.out).mono ?_); rintro e w6 ⟨A6, c6, rfl, o6, k6⟩; have b6 := b5.out.trans (k6.to_below b5.out.size (fun i hi => by have := (o4.out.blk_lt i hi).1; exact this)); have hl2 := hide (hl2.out A6 c6 w6 o6 b6); have b6 := hide b6; have o6 := hide o6; clear k6)
    | (go_at_call 105; (with_reducible refine (hl2.out).mono ?_); rintro e w7 ⟨A7, c7, rfl, o7, k7⟩; have b7 := b6.out.trans (k7.to_below b6.out.size (fun i hi => by have := (o6.out.blk_lt i hi).1; exact this)); have b7 := hide b7; have o7 := hide o7; clear k7))
  go_ret2
  exact ⟨A7, c7, rfl, by rw [hres.out]; exact o7.out, b7.out⟩

end Go.Proofs.YtaapjampmnanmaaGreat

namespace Go.Proofs.YtaapjampmnanmaaGreat
open Go.RowKit Go.Shelf
set_option linter.unusedVariables false
set_option linter.unusedSimpArgs false

end Go.Proofs.YtaapjampmnanmaaGreat

namespace Go.Proofs.YtaapjampmnanmaaGreat
open Go.RowKit Go.Shelf
set_option linter.unusedVariables false
set_option linter.unusedSimpArgs false

def Gz.leN : Nat → Nat → List UInt8
  | 0, _ => []
  | k + 1, v => UInt8.ofNat (v % 256) :: Gz.leN k (v / 256)
theorem Gz.leN_four (v : Nat) : Gz.leN 4 v = Gz.le v := by
  simp only [Gz.leN, Gz.le, Nat.div_div_eq_div_mul]
set_option maxRecDepth 100000 in
set_option maxHeartbeats 1000000 in
theorem rlow_any (v k : Nat) (w : World) (hv : v ≤ 4294967295) (hk : k ≤ 4) :
    Calls Tryz.prog 93 #[.int .u32 (v : Nat), .int .i64 (k : Nat)] w fun e w' => ∃ A c, e = .returned (.slice A k c) ∧ Ow w' w.heap.size 5 A k c ((Gz.leN k v).map bv) ∧ Below w.heap.size w w' := by
  go_enter Tryz.func93, Tryz.ntmps93
  go_wp2
  go_loopw [0, 5, 6] (fun s0 s5 s6 wr => ∃ (j V : Nat) (A : Option Addr) (c : Nat) (xs : List UInt8), j ≤ k ∧ V ≤ 4294967295 ∧ s6 = .int .i64 (j : Int) ∧ s0 = .int .u32 (V : Int) ∧ s5 = .slice A j c ∧ Hid (xs ++ Gz.leN (k - j) V = Gz.leN k v) ∧ Hid (Ow wr w.heap.size 5 A j c (xs.map bv)) ∧ Hid (Below w.heap.size w wr)) (fun _ _ i _ => k - (intOf i).toNat)
  case atStart => exact ⟨0, v, none, 0, [], Nat.zero_le _, hv, rfl, rfl, rfl, hide rfl, hide (Ow.nil _ _ _), hide (Below.refl _ _)⟩
  case round =>
    obtain ⟨j, V, A, c, xs, hj, hV, rfl, rfl, rfl, hx, ho, hb⟩ := hrel
    by_cases hlt : j < k
    · have hB := hide hb.out.size
      have hq : IntKind.i64.wrap ((j : Int) + 1) = (j : Int) + 1 := by rw [IntKind.wrap_i64]; omega
      have hbv := hide (show bv (UInt8.ofNat (V % 256)) = .int .u8 ((V : Int) % 256) from by simp only [bv, UInt8.toNat_ofNat']; congr 1; omega)
      go_wp2_with (at_builtin; go_loud (refine wpList_append_one wr rfl (.tmp 12) (.tmp 16) rfl elem_byte rfl ho.out (.int .u8 ((V : Int) % 256)) 5 _ rfl rfl (by simp only [maxLen]; omega) (by omega) hB.out ?_); intro A8 c8 w8 o8 k8 n8; have b8 := hide (hb.out.trans (k8.to_below hB.out (fun i hi => (ho.out.blk_lt i hi).1))); have o8 := hide o8; clear k8 n8)
      go_roundw
      case rel =>
        refine ⟨j + 1, V / 256, A8, c8, xs ++ [UInt8.ofNat (V % 256)], by omega, by omega, by simp, by simp, rfl, ?_, ?_, b8⟩
        · rw [← hx.out, show k - j = k - (j + 1) + 1 from by omega, Gz.leN, List.append_assoc]
          exact hide rfl
        · rw [List.map_append, List.map_cons, List.map_nil, hbv.out]
          exact o8
      all_goals (simp [intOf]; omega)
    · obtain rfl : j = k := by omega
      go_wp2
      go_ret
      have hx := hx.out
      rw [Nat.sub_self, Gz.leN, List.append_nil] at hx
      exact ⟨A, c, rfl, by rw [← hx]; exact ho.out, hb.out⟩

end Go.Proofs.YtaapjampmnanmaaGreat

namespace Go.Proofs.YtaapjampmnanmaaGreat
open Go.RowKit Go.Shelf
set_option linter.unusedVariables false
set_option linter.unusedSimpArgs false

theorem rlow4 (v : Nat) (w : World) (hv : v ≤ 4294967295) :
    Calls Tryz.prog 93 #[.int .u32 (v : Nat), .int .i64 4] w fun e w' => ∃ A c, e = .returned (.slice A 4 c) ∧ Ow w' w.heap.size 5 A 4 c ((Gz.le v).map bv) ∧ Below w.heap.size w w' := by
  rw [← Gz.leN_four]
  exact rlow_any v 4 w hv (by decide)

set_option maxRecDepth 100000 in
set_option maxHeartbeats 2000000 in
theorem rwrap_own (A : Option Addr) (n c : Nat) (bs : List UInt8) (w : World) (hr : Rd w w.heap.size A n (bs.map bv)) (hc : n ≤ c) (hn : n ≤ 1048576) :
    Calls Tryz.prog 84 #[.slice A n c] w fun e w' => ∃ A' m c', e = .returned (.slice A' m c') ∧ Ow w' w.heap.size 5 A' m c' ((Gz.wrap bs).map bv) ∧ Below w.heap.size w w' := by
  have hl : bs.length = n := hr.len
  have hDl := Gz.out_big bs (by omega)
  obtain ⟨g1, hg1⟩ : ∃ k, w.heap.size = k := ⟨_, rfl⟩
  obtain ⟨w1, hw1⟩ : ∃ W, w.alloc (.cells #[.int .u8 31, .int .u8 139, .int .u8 8, .int .u8 0, .int .u8 0, .int .u8 0, .int .u8 0, .int .u8 0, .int .u8 0, .int .u8 255] 5) = W := ⟨_, rfl⟩
  have o1 := hide (show Ow w1 g1 5 (some ⟨g1, 0, none⟩) 10 10 (Gz.hd.map bv) from by rw [← hw1, ← hg1]; exact Ow.lit w #[.int .u8 31, .int .u8 139, .int .u8 8, .int .u8 0, .int .u8 0, .int .u8 0, .int .u8 0, .int .u8 0, .int .u8 0, .int .u8 255] (Nat.le_refl _) (by decide))
  have b1 := hide (show Below g1 w w1 from by rw [← hw1, ← hg1]; exact (Below.refl _ w).alloc (Nat.le_refl _) _)
  have hs1 := hide (show g1 ≤ w1.heap.size from by rw [← hg1]; exact b1.out.size)
  have hd := hide (rdata_fix A n c bs w1 (by rw [hg1] at hr; exact (hr.below b1.out).mono hs1.out) hc hn)
  obtain ⟨D, hD⟩ : ∃ D, Def.outB false bs = D := ⟨_, rfl⟩
  rw [hD] at hd hDl
  have hres := hide (show Gz.wrap bs = Gz.hd ++ D ++ Gz.le (Crc.sum bs) ++ Gz.le n from by rw [← hD, ← hl]; rfl)
  generalize Gz.wrap bs = WR at *
  obtain ⟨Sm, hSm⟩ : ∃ Sm, Crc.sum bs = Sm := ⟨_, rfl⟩
  have hSl := Crc.sum_lt bs
  have hof := hide (fun W (h : Below g1 w W) => refof_any A n c bs W g1 (by rw [hg1] at hr; exact hr.below h) (by omega))
  rw [hSm] at hSl hof hres
  have hnu : IntKind.u32.wrap (n : Int) = (n : Int) := by rw [IntKind.wrap_u32]; omega
  have hl1 := hide (fun W => rlow4 Sm W (by omega))
  have hl2 := hide (fun W => rlow4 n W (by omega))
  replace hr := hide hr
  rw [hg1]
  go_enter Tryz.func84, Tryz.ntmps84
  go_wp2_with fail
  refine hd.out.mono ?_
  rintro e w2 ⟨A2, m, c2, rfl, r2, b2⟩
  have hm : m ≤ 10000000 := by have h := r2.len; omega
  have o2 := hide (o1.out.below b2)
  have r2 := hide r2
  have b2 := hide (b1.out.trans (b2.mono hs1.out))
  have hs2 := hide (show g1 ≤ w2.heap.size from by rw [← hg1]; exact b2.out.size)
  have q1 := hide (show 10 + m ≤ maxLen from by simp only [maxLen]; omega)
  have q2 := hide (show 10 + m + 4 ≤ maxLen from by simp only [maxLen]; omega)
  have q3 := hide (show 10 + m + 4 + 4 ≤ maxLen from by simp only [maxLen]; omega)
  have p1 := hide (show (10 + m) * 1 ≤ 140737488355328 from by omega)
  have p2 := hide (show (10 + m + 4) * 1 ≤ 140737488355328 from by omega)
  have p3 := hide (show (10 + m + 4 + 4) * 1 ≤ 140737488355328 from by omega)
  clear o1
  go_wp2_with (first
    | (at_builtin; refine wpList_append_rd w2 rfl (.tmp 4) (.tmp 6) rfl elem_byte rfl o2.out rfl r2.out (one_bv2 D) q1.out p1.out hs2.out ?_; intro A3 c3 w3 o3 k3 n3; have b3 := hide (b2.out.trans (k3.to_below hs2.out (fun i hi => (o2.out.blk_lt i hi).1))); have hof := hide (hof.out w3 b3.out); have hl1 := hide (hl1.out w3); have o3 := hide o3; clear k3 n3)
    | (go_at_call 94; (with_reducible refine (hof.out).mono ?_); rintro e w' ⟨rfl, rfl⟩)
    | (go_at_call 93; (with_reducible refine (hl1.out).mono ?_); rintro e w4 ⟨A4, c4, rfl, o4, b4⟩; have o3 := hide (o3.out.below b4); have hs3 := hide (show g1 ≤ w3.heap.size from by rw [← hg1]; exact b3.out.size); have b4 := hide (b3.out.trans (b4.mono hs3.out)); have hs4 := hide (show g1 ≤ w4.heap.size from by rw [← hg1]; exact b4.out.size); have r4 := hide o4.rd; clear o4)
    | (at_builtin; refine wpList_append_rd w4 rfl (.tmp 8) (.tmp 11) rfl elem_byte rfl o3.out rfl r4.out (one_bv2 _) q2.out p2.out hs4.out ?_; intro A5 c5 w5 o5 k5 n5; have b5 := hide (b4.out.trans (k5.to_below hs4.out (fun i hi => (o3.out.blk_lt i hi).1))); have hl2 := hide (hl2.out w5); have hs5 := hide (show g1 ≤ w5.heap.size from by rw [← hg1]; exact b5.out.size); have o5 := hide o5; clear k5 n5)
    | (go_at_call 93; (with_reducible refine (hl2.out).mono ?_); rintro e w6 ⟨A6, c6, rfl, o6, b6⟩; have o5 := hide (o5.out.below b6); have b6 := hide (b5.out.trans (b6.mono hs5.out)); have hs6 := hide (show g1 ≤ w6.heap.size from by rw [← hg1]; exact b6.out.size); have r6 := hide o6.rd; clear o6)
    | (at_builtin; refine wpList_append_rd w6 rfl (.tmp 12) (.tmp 16) rfl elem_byte rfl o5.out rfl r6.out (one_bv2 _) q3.out p3.out hs6.out ?_; intro A7 c7 w7 o7 k7 n7; have b7 := hide (b6.out.trans (k7.to_below hs6.out (fun i hi => (o5.out.blk_lt i hi).1))); have o7 := hide o7; clear k7 n7))
  go_ret
  exact ⟨A7, _, c7, rfl, by rw [hres.out, List.map_append, List.map_append, List.map_append]; exact o7.out, b7.out⟩
theorem rwrap_any (A : Option Addr) (n c : Nat) (bs : List UInt8) (w : World) (hr : Rd w w.heap.size A n (bs.map bv)) (hc : n ≤ c) (hn : n ≤ 1048576) :
    Calls Tryz.prog 84 #[.slice A n c] w fun e w' => ∃ A' m c', e = .returned (.slice A' m c') ∧ Rd w' w'.heap.size A' m ((Gz.wrap bs).map bv) ∧ Below w.heap.size w w' :=
  (rwrap_own A n c bs w hr hc hn).mono fun e w' ⟨A', m, c', h1, h2, h3⟩ => ⟨A', m, c', h1, h2.rd, h3⟩

end Go.Proofs.YtaapjampmnanmaaGreat

namespace Go.Proofs.YtaapjampmnanmaaGreat
open Go.RowKit Go.Shelf
set_option linter.unusedVariables false
set_option linter.unusedSimpArgs false

theorem gz_toList_loop (bs : ByteArray) : ∀ (n i : Nat) (r : List UInt8), bs.size - i = n → ByteArray.toList.loop bs i r = r.reverse ++ bs.data.toList.drop i := by
  have hsz : bs.size = bs.data.toList.length := rfl
  intro n
  induction n with
  | zero =>
    intro i r h
    unfold ByteArray.toList.loop
    rw [if_neg (by omega)]
    rw [List.drop_eq_nil_of_le (by omega), List.append_nil]
  | succ n ih =>
    intro i r h
    unfold ByteArray.toList.loop
    rw [if_pos (by omega), ih (i+1) _ (by omega)]
    have hi : i < bs.data.toList.length := by omega
    rw [List.drop_eq_getElem_cons hi, List.reverse_cons, List.append_assoc]
    have hg : bs.get! i = bs.data.toList[i] := by
      show bs.data[i]! = _
      rw [getElem!_pos bs.data i (by simpa using hi)]
      simp
    rw [hg]
    rfl
theorem gz_toList (bs : ByteArray) : bs.toList = bs.data.toList := by
  unfold ByteArray.toList
  rw [gz_toList_loop bs _ 0 [] rfl]
  rfl
theorem gtake {P : Program} {ops : Array Oper} {md : Region.Mode} {Q : Exit → Act → World → Prop} {S : World → Prop} {i d : Nat} {oi : Oper} {v : Value} {fuel : Nat} {listed : Array Bool} {a : Act} {w : World} (hi : ops[i]? = some oi) (hd : oi.dst = some d)
    (hs : Region.noSelect ops = true) (hf : Region.free md ops listed i = true) (hr : (Region.ready md ops listed).contains i = true)
    (hQ : ∀ c a w, Q (.panic c) (a.put (some d) v) w → Q (.panic c) a w) (hy : YieldsIf P ops S oi v a) (hS : S w)
    (h : wpAnyH P md ops Q S fuel (listed.setIfInBounds i true) (a.put (some d) v) w) : wpAnyH P md ops Q S (fuel + 1) listed a w :=
  wpAnyH_take hi hs hf hr (by rw [hd]; exact hQ) hy hS (by rw [hd]; exact h)
section
variable {P : Program} {ops : Array Oper} {md : Region.Mode} {Q : Exit → Act → World → Prop} {S S' : World → Prop}
end
theorem UnPost.ok {w w' : World} {o : List UInt8} {e : Ending} (h : UnPost w (.inr o) e w') (k : Nat) (hk : o.length = k) : ∃ A c, e = .returned (.tuple #[.slice A k c, .int .i64 0]) ∧ Ow w' w.heap.size 5 A k c (o.map bv) ∧ Below w.heap.size w w' := by
  obtain ⟨b, ⟨er, h4, _⟩ | ⟨o4, A4, c4, h4, rfl, o4⟩⟩ := h
  · cases h4
  · cases h4
    rw [hk] at o4 ⊢
    exact ⟨A4, c4, rfl, o4, b⟩
end Go.Proofs.YtaapjampmnanmaaGreat
