/- Layer 13 (arch): a number of bytes, the lowest first, as the document reads it. The conditions: where the slice lies; the place lies in it. Layer 13 (arch): parse's small functions: a word, half a word, a pair, a point. The conditions: where parse's variables lie. A region that draws its order: all operations but a forced tail yield one value in every world of a class. There is no condition. -/
import Derived.Test.YtaapjampmnanmaaGreatArchK
import Derived.Laws.Bits64b
import Derived.Deep.RegionWith
import Derived.Test.YtaapjampmnanmaaGreatBase
import Derived.StillTail
import Derived.BigQuiet
namespace Go.Proofs.YtaapjampmnanmaaGreat
open Go.RowKit

/-- The number of k bytes from a place on, the lowest first. -/
def num (bs : List UInt8) (p : Nat) : Nat → Nat
  | 0 => 0
  | k + 1 => (bs.getD p 0).toNat + 256 * num bs (p + 1) k
theorem num_lt (bs : List UInt8) (p k : Nat) : num bs p k < 256 ^ k := by
  induction k generalizing p with
  | zero => simp [num]
  | succ k ih =>
    have h1 := ih (p + 1)
    have h2 := toNat_le (bs.getD p 0)
    rw [num, Nat.pow_succ]
    omega
end Go.Proofs.YtaapjampmnanmaaGreat

namespace Go.Proofs.YtaapjampmnanmaaGreat
open Go.RowKit

/-- parse's variables: the bytes, the function that reads a number. -/
structure Ps (w : World) (B gb gn : Nat) (A : Option Addr) (c : Nat) (bs : List UInt8) : Prop where
  kb : Blk w gb 22 #[.slice A bs.length c]
  kn : Blk w gn 102 #[.func (.func 52) #[] #[.pointer (some ⟨gb, 0, none⟩)]]
  rd : Rd w B A bs.length (bs.map bv)
theorem Ps.alloc {w : World} {B gb gn : Nat} {A : Option Addr} {c : Nat} {bs : List UInt8} (h : Ps w B gb gn A c bs) (hB : B ≤ w.heap.size) (o : Obj) : Ps (w.alloc o) B gb gn A c bs := ⟨h.kb.alloc o, h.kn.alloc o, h.rd.alloc hB o⟩
end Go.Proofs.YtaapjampmnanmaaGreat
