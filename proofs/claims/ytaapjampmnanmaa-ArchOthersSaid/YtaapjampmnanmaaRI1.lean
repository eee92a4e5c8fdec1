/- Layer 4 (inflate), the document's answer: fail, bits, symbol and put, walked, by a state as a value. The conditions: where the bits and the bytes lie. Layer 4 (inflate), the document's answer: symbol and put, walked, by a state as a value. The conditions: where the bits and the bytes lie. Layer 4 (inflate), the document's answer: a state in memory and as a value; the contracts of fail, bits, symbol and put once more. The conditions: where things lie. Layer 4 (inflate), the document's answer: stored, walked. The conditions: where things lie. Layer 4 (inflate), the document's answer: copied, walked. The conditions: where things lie. Layer 4 (inflate), the document's answer: symbols, walked. The conditions: where things lie. -/
import Derived.Test.YtaapjampmnanmaaHuffX
import Derived.Test.YtaapjampmnanmaaInfX
import Derived.Test.YtaapjampmnanmaaGz
import Derived.Deep.LoopGhost
import Derived.StillTailTactics
namespace Go.Proofs.Ytaapjampmnanmaa
open Go.RowKit Go.Shelf
set_option linter.unusedVariables false
set_option linter.unusedSimpArgs false

/-- What the document's bits and symbol do with the place and the error; and what they tell. -/
def RI.bits (l : List Bool) (k a e : Nat) : Nat × Nat × Nat := if e = 0 then (if a + k ≤ l.length then (a + k, 0, Bit.num ((l.drop a).take k)) else (a, 2, 0)) else (a, e, 0)
def RI.sym (l : List Bool) (ls : List Nat) (a e : Nat) : Nat × Nat × Nat := if e = 0 then (match Huf.dec ls (l.drop a) 15 0 0 with | (m, x, 0) => (a + x, 0, m) | (_, _, e + 1) => (a, e + 1, 0)) else (a, e, 0)
end Go.Proofs.Ytaapjampmnanmaa

namespace Go.Proofs.Ytaapjampmnanmaa
open Go.RowKit Go.Shelf
set_option linter.unusedVariables false
set_option linter.unusedSimpArgs false

/-- What the document's put does with the bytes and the error. -/
def RI.put (most : Nat) (c : UInt8) (o : List UInt8) (e : Nat) : List UInt8 × Nat := if e = 0 then (if most ≤ o.length then (o, 5) else (o ++ [c], 0)) else (o, e)
end Go.Proofs.Ytaapjampmnanmaa

namespace Go.Proofs.Ytaapjampmnanmaa
open Go.RowKit Go.Shelf
set_option linter.unusedVariables false
set_option linter.unusedSimpArgs false

/-- A state: where its bits and its bytes lie. -/
structure RSt (W : World) (B : Nat) (l : List Bool) (most a : Nat) (o : List UInt8) (e : Nat) (Al : Option Addr) (n cl : Nat) (Ao : Option Addr) (m co : Nat) : Prop where
  ha : a ≤ n
  hm : o.length = m
  hmm : m ≤ most
  he : e ≤ 7
  hB : B ≤ W.heap.size
  hc : n ≤ cl
  hn : n ≤ 1048576
  hmost : most ≤ 1048576
  rd : Rd W B Al n (l.map Value.bool)
  ow : Ow W B 5 Ao m co (o.map bv)

section
variable {w W W' : World} {B G R : Nat} {l : List Bool} {most a : Nat} {o : List UInt8} {e : Nat} {Al : Option Addr} {n cl : Nat} {Ao : Option Addr} {m co : Nat} {c0 c1 c2 c3 c4 : Value}
theorem RSt.len (h : RSt W B l most a o e Al n cl Ao m co) : l.length = n := h.rd.len
theorem RSt.below (h : RSt W B l most a o e Al n cl Ao m co) (hb : Below W.heap.size W W') : RSt W' B l most a o e Al n cl Ao m co :=
  ⟨h.ha, h.hm, h.hmm, h.he, Nat.le_trans h.hB hb.size, h.hc, h.hn, h.hmost, h.rd.below (hb.mono h.hB), h.ow.below hb⟩
theorem RSt.at' (h : RSt W B l most a o e Al n cl Ao m co) {a' e' : Nat} (ha : a' ≤ n) (he : e' ≤ 7) : RSt W B l most a' o e' Al n cl Ao m co :=
  ⟨ha, h.hm, h.hmm, he, h.hB, h.hc, h.hn, h.hmost, h.rd, h.ow⟩
/-- The state is what was read. -/
def RI.is (r : Inf.R Unit) (a : Nat) (o : List UInt8) (e : Nat) : Prop := match r with | .inl er => e = er ∧ er ≠ 0 | .inr (_, a', o') => e = 0 ∧ a = a' ∧ o = o'

end

end Go.Proofs.Ytaapjampmnanmaa

namespace Go.Proofs.Ytaapjampmnanmaa
open Go.RowKit Go.Shelf
set_option linter.unusedVariables false
set_option linter.unusedSimpArgs false

end Go.Proofs.Ytaapjampmnanmaa

namespace Go.Proofs.Ytaapjampmnanmaa
open Go.RowKit Go.Shelf
set_option linter.unusedVariables false
set_option linter.unusedSimpArgs false

theorem BookV.below {B : Nat} {w w' : World} {ls : List Nat} {cs : Array Value} (h : BookV B w ls cs) (hb : Below w.heap.size w w') : BookV B w' ls cs := by
  obtain ⟨Ao, co, h1, h2⟩ := h
  exact ⟨Ao, co, h1, fun s hs => (h2 s hs).below hb⟩
theorem BookV.size {B : Nat} {w : World} {ls : List Nat} {cs : Array Value} (h : BookV B w ls cs) : cs.size = 32 := by obtain ⟨Ao, co, h1, _⟩ := h; exact h1.size
/-- What a state holds that was read on: the monad's next step. -/
theorem RI.bits_step {α : Type} {l : List Bool} {k a a1 e1 y : Nat} {o : List UInt8} (h : RI.bits l k a 0 = (a1, e1, y)) (f : Nat → Inf.M α) : (e1 = 0 → Inf.bind (Inf.bits l k) f a o = f y a1 o) ∧ (e1 ≠ 0 → Inf.bind (Inf.bits l k) f a o = .inl e1 ∧ y = 0) := by
  unfold RI.bits at h
  rw [if_pos rfl] at h
  split at h
  · rename_i hb
    cases h
    exact ⟨fun _ => Inf.bind_ok (show Inf.bits l k a o = .inr (_, _, o) from if_pos hb), fun h => absurd rfl h⟩
  · rename_i hb
    cases h
    exact ⟨fun h => (by cases h), fun _ => ⟨Inf.bind_err (show Inf.bits l k a o = .inl 2 from if_neg hb), rfl⟩⟩
theorem RI.bits_off {l : List Bool} {k a e a1 e1 y : Nat} (h : RI.bits l k a e = (a1, e1, y)) (he : e ≠ 0) : e1 = e ∧ a1 = a ∧ y = 0 := by
  unfold RI.bits at h
  rw [if_neg he] at h
  cases h
  exact ⟨rfl, rfl, rfl⟩
theorem RI.put_step {α : Type} {most a e1 : Nat} {c : UInt8} {o o1 : List UInt8} (h : RI.put most c o 0 = (o1, e1)) (f : Unit → Inf.M α) : (e1 = 0 → Inf.bind (Inf.put most c) f a o = f () a o1 ∧ o1 = o ++ [c]) ∧ (e1 ≠ 0 → Inf.bind (Inf.put most c) f a o = .inl e1) := by
  unfold RI.put at h
  rw [if_pos rfl] at h
  split at h
  · rename_i hf
    cases h
    exact ⟨fun h => (by cases h), fun _ => Inf.bind_err (show Inf.put most _ _ o = .inl 5 from if_pos hf)⟩
  · rename_i hf
    cases h
    exact ⟨fun _ => ⟨Inf.bind_ok (show Inf.put most _ _ o = .inr ((), _, _) from if_neg hf), rfl⟩, fun h => absurd rfl h⟩

theorem RI.sym_lt {l : List Bool} {ls : List Nat} {a e a1 e1 y : Nat} (h : RI.sym l ls a e = (a1, e1, y)) : y ≤ ls.length := by
  unfold RI.sym at h
  split at h
  · split at h
    · rename_i m x hd
      cases h
      have := Huf.dec_sym ls (l.drop a) 15 0 0
      rw [hd] at this
      exact this
    · cases h; exact Nat.zero_le _
  · cases h; exact Nat.zero_le _
end Go.Proofs.Ytaapjampmnanmaa

namespace Go.Proofs.Ytaapjampmnanmaa
open Go.RowKit Go.Shelf
set_option linter.unusedVariables false
set_option linter.unusedSimpArgs false

end Go.Proofs.Ytaapjampmnanmaa
