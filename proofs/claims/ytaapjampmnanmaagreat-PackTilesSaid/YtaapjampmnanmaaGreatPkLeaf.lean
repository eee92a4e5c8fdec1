/- Layer 14 (pack): entries in parts (Leaves of the reference). The conditions: where the entries lie; at most 65536 of them. -/
import Derived.Test.YtaapjampmnanmaaGreatPkRow
import Derived.Test.YtaapjampmnanmaaGreatDirX
import Derived.Deep.LoopGhost
namespace Go.Proofs.YtaapjampmnanmaaGreat
open Go.RowKit
set_option linter.unusedVariables false
set_option linter.unusedSimpArgs false
def chk (n : Nat) : Nat → List Ent → List (List Ent)
  | 0, _ => []
  | f + 1, l => if l = [] then [] else l.take n :: chk n f (l.drop n)
theorem chk_nil (n f : Nat) : chk n f [] = [] := by cases f <;> rfl
def chks (n : Int) (l : List Ent) : List (List Ent) := chk (if n < 1 then l.length else n.toNat) l.length l
structure Sl where
  A : Option Addr
  n : Nat
  c : Nat
def Sl.val (s : Sl) : Value := .slice s.A s.n s.c
def RdC (w : World) (B : Nat) (vs : List Sl) (cs : List (List Ent)) : Prop := vs.length = cs.length ∧ ∀ (j : Nat) (h1 : j < vs.length) (h2 : j < cs.length), vs[j].n = cs[j].length ∧ RdE w B vs[j].A cs[j]
theorem RdC.below {w w' : World} {B : Nat} {vs : List Sl} {cs : List (List Ent)} (h : RdC w B vs cs) (hb : Below B w w') : RdC w' B vs cs := ⟨h.1, fun j h1 h2 => ⟨(h.2 j h1 h2).1, (h.2 j h1 h2).2.below hb⟩⟩
theorem RdE.take {w : World} {B : Nat} {A : Option Addr} {es : List Ent} (h : RdE w B A es) (n : Nat) : RdE w B A (es.take n) := by
  intro j hj
  have hj' : j < es.length := by rw [List.length_take] at hj; omega
  obtain ⟨b, o, h1, h2, h3, h4, h5, h6⟩ := h j hj'
  rw [List.getElem_take]
  exact ⟨b, o, h1, h2, h3, h4, h5, h6⟩
theorem RdE.drop {w : World} {B : Nat} {A : Option Addr} {es : List Ent} (h : RdE w B A es) (n : Nat) : RdE w B (A.map fun x => x.add (n * 4)) (es.drop n) := by
  intro j hj
  have hj' : n + j < es.length := by rw [List.length_drop] at hj; omega
  obtain ⟨b, o, h1, h2, h3, h4, h5, h6⟩ := h (n + j) hj'
  rw [List.getElem_drop]
  refine ⟨b, o + n * 4, by rw [h1]; simp [Addr.add], h2, ?_, ?_, ?_, ?_⟩
  · rw [show o + n * 4 + j * 4 = o + (n + j) * 4 by omega]; exact h3
  · rw [show o + n * 4 + j * 4 + 1 = o + (n + j) * 4 + 1 by omega]; exact h4
  · rw [show o + n * 4 + j * 4 + 2 = o + (n + j) * 4 + 2 by omega]; exact h5
  · rw [show o + n * 4 + j * 4 + 3 = o + (n + j) * 4 + 3 by omega]; exact h6
theorem elem_part : ElemR Tryz.prog 94 48 (.slice none 0 0) 1 24 := ⟨Tryz.underlying94, by kernel_rfl, rfl, by omega, by omega⟩
end Go.Proofs.YtaapjampmnanmaaGreat
