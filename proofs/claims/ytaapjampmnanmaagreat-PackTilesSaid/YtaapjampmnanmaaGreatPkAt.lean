/- Layer 14 (pack): one content, one part, out of the slices that hold them. There is no condition. -/
import Derived.Test.YtaapjampmnanmaaGreatPkEnd
import Derived.Test.YtaapjampmnanmaaGreatPkItem
import Derived.Test.YtaapjampmnanmaaGreatPkLeaf
namespace Go.Proofs.YtaapjampmnanmaaGreat
open Go.RowKit
set_option linter.unusedVariables false
theorem RdIm.mono {w : World} {B B' : Nat} {A : Option Addr} {l : List Im} (h : RdIm w B A l) (hb : B ≤ B') : RdIm w B' A l := by
  intro j hj
  obtain ⟨b, o, h1, h2, r⟩ := h j hj
  exact ⟨b, o, h1, Nat.lt_of_lt_of_le h2 hb, r⟩
theorem RdE.up {w : World} {B B' : Nat} {A : Option Addr} {es : List Ent} (h : RdE w B A es) (hb : B ≤ B') : RdE w B' A es := by
  intro j hj
  obtain ⟨b, o, h1, h2, r⟩ := h j hj
  exact ⟨b, o, h1, Nat.lt_of_lt_of_le h2 hb, r⟩
theorem byts_at {W : World} {G c : Nat} {A : Option Addr} {vs : List Sl} {cs : List (List UInt8)} (hr : OwR W G 22 1 A vs.length c (vs.map fun s => [Sl.val s])) (hb : Byts W G vs cs) (hG : G ≤ W.heap.size) (k : Nat) (hk : k < vs.length) (hkc : k < cs.length) :
    ∃ g va m vc, A = some ⟨g, 0, none⟩ ∧ W.cell? ⟨g, k, none⟩ = some (.slice va m vc) ∧ Rd W W.heap.size va m (cs[k].map bv) := by
  obtain ⟨g, v, hA, hv, hc, _⟩ := hr.cells k hk 0 (by omega)
  rw [Nat.mul_one, Nat.add_zero] at hc
  rw [List.getElem_map] at hv
  cases hv
  exact ⟨g, vs[k].A, vs[k].n, vs[k].c, hA, hc, (hb.2 k hk hkc).rd hG⟩
theorem parts_at {W : World} {G B c : Nat} {A : Option Addr} {vs : List Sl} {cs : List (List Ent)} (hr : OwR W G 48 1 A vs.length c (vs.map fun s => [Sl.val s])) (hb : RdC W B vs cs) (k : Nat) (hk : k < vs.length) (hkc : k < cs.length) :
    ∃ g va vc, A = some ⟨g, 0, none⟩ ∧ W.cell? ⟨g, k, none⟩ = some (.slice va cs[k].length vc) ∧ RdE W B va cs[k] := by
  obtain ⟨g, v, hA, hv, hc, _⟩ := hr.cells k hk 0 (by omega)
  rw [Nat.mul_one, Nat.add_zero] at hc
  rw [List.getElem_map] at hv
  cases hv
  obtain ⟨h1, h2⟩ := hb.2 k hk hkc
  refine ⟨g, vs[k].A, vs[k].c, hA, ?_, h2⟩
  rw [hc, ← h1]
  rfl
end Go.Proofs.YtaapjampmnanmaaGreat
