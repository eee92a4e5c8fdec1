/- Layers 4 and 5: what is packed is unpacked. The plain law. The condition: the bytes are not too many. Layer 4 (inflate): the unpacker's codes: given, fixed, and told. The conditions: where things lie. Layer 4 (inflate): the codes that a block tells. The conditions: where things lie. Layer 4 (inflate): a block. The conditions: where things lie. Layer 4 (inflate): Data, walked. The conditions: where the bytes lie, and how many they are. Layer 4 (inflate): the law's own code and live. There is no condition. The laws InflateBehind and InflateShort: the walks. There is no condition. -/
import Derived.Test.YtaapjampmnanmaaGreatInfX
import Derived.Test.YtaapjampmnanmaaGreatDefX
import Derived.Deep.RegionWith
import Derived.Deep.DeepCutAuto
import Derived.Deep.CutBlock
import Derived.Deep.RegionHeld3
import Derived.Recover
import Derived.RegionTactic
import Derived.Laws.BytesArg
namespace Go.Proofs.YtaapjampmnanmaaGreat
set_option linter.unusedVariables false

/-! ### Reading a stream that is known from a place on -/
/-! ### The fixed codes -/
/-! ### A copy -/
theorem Inf.put_ok {most a : Nat} {o : List UInt8} (c : UInt8) (h : o.length < most) : Inf.put most c a o = .inr ((), a, o ++ [c]) := if_neg (by omega)
/-! ### A block by the fixed codes -/
/-! ### A block as it is -/
end Go.Proofs.YtaapjampmnanmaaGreat

namespace Go.Proofs.YtaapjampmnanmaaGreat
open Go.RowKit
set_option linter.unusedVariables false

theorem Ow.type {w : World} {base n c k : Nat} {e t : TypeId} {A : Option Addr} {xs : List Value} {cs : Array Value} {fz : Nat × Nat} (h : Ow w base e A n c xs) (hk : blk A = some k) (hx : w.heap[k]? = some (.cells cs t fz)) : e = t := by
  rcases h.2 with ⟨hv, _⟩ | ⟨g', cap, cur, hv, _, hh, _⟩
  · injection hv with e1
    rw [e1] at hk
    simp [blk] at hk
  · injection hv with e1
    rw [e1] at hk
    have : g' = k := by simpa [blk] using hk
    subst this
    rw [hh] at hx
    injection hx with hx
    injection hx
theorem KeepU.past {R : Nat → Prop} {w a b : World} (h : KeepU w a) (hc : Chg R a b) (hR : ∀ k, R k → w.heap.size ≤ k) : KeepU w b := by
  refine ⟨Nat.le_trans h.1 hc.size, fun k cs t fz x h1 h2 h3 => ?_⟩
  have hk := lt_of_block x
  exact (hc.block k (Nat.lt_of_lt_of_le hk h.1) (fun hr => by have := hR k hr; omega)).trans (h.2 k cs t fz x h1 h2 h3)

section
variable {B gu gr most a : Nat} {bs o : List UInt8} {w : World}
end

end Go.Proofs.YtaapjampmnanmaaGreat

namespace Go.Proofs.YtaapjampmnanmaaGreat
open Go.RowKit
set_option linter.unusedVariables false

theorem Rd.blk {w : World} {g : Nat} {t : TypeId} {xs : List Value} (h : Blk w g t xs.toArray) : Rd w w.heap.size (some ⟨g, 0, none⟩) xs.length xs :=
  ⟨rfl, fun j _ => ⟨g, 0, rfl, h.lt, by rw [h.cell, Nat.zero_add, List.getElem?_toArray]⟩⟩
/-- A part of a slice of integers. -/
theorem Rd.part {w : World} {B n : Nat} {A : Option Addr} {xs : List Nat} (h : Rd w B A n (xs.map jv)) (k : Nat) (hk : k ≤ n) : Rd w B A k ((xs.take k).map jv) := by
  have := h.sub 0 k (by omega)
  rw [List.drop_zero, ← List.map_take] at this
  cases A with
  | none => exact this
  | some a => exact this
theorem Rd.past {w : World} {B n : Nat} {A : Option Addr} {xs : List Nat} (h : Rd w B A n (xs.map jv)) (k : Nat) (hk : k ≤ n) : Rd w B (A.map fun x => x.add k) (n - k) ((xs.drop k).map jv) := by
  have := h.sub k (n - k) (by omega)
  rw [← List.map_drop, List.take_of_length_le (by rw [List.length_map, List.length_drop]; have := h.1; rw [List.length_map] at this; omega)] at this
  exact this

section
variable {B gu gr most a : Nat} {bs o : List UInt8} {w : World}
end

end Go.Proofs.YtaapjampmnanmaaGreat

namespace Go.Proofs.YtaapjampmnanmaaGreat
open Go.RowKit
set_option linter.unusedVariables false

theorem Rd.upto {w : World} {B n : Nat} {A : Option Addr} {bs : List UInt8} (h : Rd w B A n (bs.map bv)) (k : Nat) (hk : k ≤ n) : Rd w B A k ((bs.take k).map bv) := by
  have := h.sub 0 k (by omega)
  rw [List.drop_zero, ← List.map_take] at this
  cases A with
  | none => exact this
  | some a => exact this
end Go.Proofs.YtaapjampmnanmaaGreat
