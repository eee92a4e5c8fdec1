/- Layer 6 (gzip), the document's answer: zero and head, walked. The conditions: where the bytes lie, and how many they are. Layer 6 (gzip), the document's answer: Unwrap, walked. The conditions: where the bytes lie, and how many they are. -/
import Derived.Test.YtaapjampmnanmaaGz
import Derived.Deep.DeepCutAuto
import Derived.Test.YtaapjampmnanmaaRI2
namespace Go.Proofs.Ytaapjampmnanmaa
open Go.RowKit Go.Shelf
set_option linter.unusedVariables false
set_option linter.unusedSimpArgs false

def Gz.textI (s : Sum Nat Nat) : Int := match s with | .inl _ => -1 | .inr q => (q : Int)
theorem Gz.text_le {bs : List UInt8} {i q : Nat} (h : Gz.text bs i = .inr q) : q ≤ bs.length := by
  unfold Gz.text at h
  split at h
  · cases h
  · rename_i k hf
    cases h
    have h1 := (List.findIdx?_eq_some_iff_getElem.1 hf).1
    rw [List.length_drop] at h1
    omega
theorem Gz.text_err {bs : List UInt8} {i e : Nat} (h : Gz.text bs i = .inl e) : e = 2 := by
  unfold Gz.text at h
  split at h
  · cases h; rfl
  · cases h
theorem Gz.two (bs : List UInt8) (q v : Nat) (h : q + 2 ≤ bs.length) : (Gz.leN 2 v = (bs.drop q).take 2) ↔ Gz.byte bs q + 256 * Gz.byte bs (q + 1) = v % 65536 := by
  have h1 : (bs.drop q).take 2 = [bs[q]'(by omega), bs[q + 1]'(by omega)] := by
    rw [List.drop_eq_getElem_cons (by omega), List.take_succ_cons, List.drop_eq_getElem_cons (by omega), List.take_succ_cons, List.take_zero]
  have e0 : Gz.byte bs q = (bs[q]'(by omega)).toNat := by unfold Gz.byte; rw [List.getD_eq_getElem?_getD, List.getElem?_eq_getElem (by omega)]; rfl
  have e1 : Gz.byte bs (q + 1) = (bs[q + 1]'(by omega)).toNat := by unfold Gz.byte; rw [List.getD_eq_getElem?_getD, List.getElem?_eq_getElem (by omega)]; rfl
  rw [h1, e0, e1]
  have l0 := (bs[q]'(by omega)).toNat_lt
  have l1 := (bs[q + 1]'(by omega)).toNat_lt
  simp only [Gz.leN, List.cons.injEq, and_true, ← UInt8.toNat_inj, UInt8.toNat_ofNat']
  omega
/-- What the document's head leaves. -/
def RHead (w : World) (n : Nat) (r : Sum Nat Nat) (x : Ending) (w' : World) : Prop :=
  Below w.heap.size w w' ∧ ((∃ er, r = .inl er ∧ 1 ≤ er ∧ x = .returned (.tuple #[.int .i64 0, .int .i64 (er : Int)])) ∨ (∃ q, r = .inr q ∧ 10 ≤ n ∧ q ≤ n ∧ x = .returned (.tuple #[.int .i64 (q : Int), .int .i64 0])))
/-- A place on the way through a head: found, or too short. -/
def RAt (n : Nat) (s : Sum Nat Nat) (v : Value) : Prop := (s = .inl 2 ∧ v = .int .i64 (-1)) ∨ ∃ q : Nat, s = .inr q ∧ q ≤ n ∧ v = .int .i64 (q : Int)
theorem RAt.text {n p : Nat} {bs : List UInt8} (hl : bs.length = n) : RAt n (Gz.text bs p) (.int .i64 (Gz.textI (Gz.text bs p))) := by
  cases h : Gz.text bs p with
  | inl e => exact .inl ⟨by rw [Gz.text_err h], rfl⟩
  | inr q => exact .inr ⟨q, rfl, by have := Gz.text_le h; omega, rfl⟩
theorem RHead.bad {w W : World} {n : Nat} {r : Sum Nat Nat} (er : Nat) (h : r = .inl er) (h1 : 1 ≤ er) {E : Int} (hE : (er : Int) = E) (hb : Below w.heap.size w W) : RHead w n r (.returned (.tuple #[.int .i64 0, .int .i64 E])) W := ⟨hb, .inl ⟨er, h, h1, by rw [hE]⟩⟩

end Go.Proofs.Ytaapjampmnanmaa

namespace Go.Proofs.Ytaapjampmnanmaa
open Go.RowKit Go.Shelf
set_option linter.unusedVariables false
set_option linter.unusedSimpArgs false

end Go.Proofs.Ytaapjampmnanmaa
