/- Layer 13 (arch): which tile an archive tells of a place, and that bytes elsewhere have no influence: plain law. There is no condition. -/
import Derived.Test.YtaapjampmnanmaaGreatArchUn
namespace Go.Proofs.YtaapjampmnanmaaGreat
open Go.RowKit Go.Shelf
set_option linter.unusedVariables false
set_option linter.unusedSimpArgs false
def TileR (bs : List UInt8) (h : Hd) (ok : Bool) (id : Nat) (r : List UInt8 × Bool × Nat) : Prop :=
  (ok = false → r = ([], false, 0)) ∧ (ok = true → ∃ f, DownR bs h.inn h.l0 h.l1 id 4 h.r0 h.r1 f ∧ (f.2.1 = false → r = ([], false, f.2.2)) ∧
    (f.2.1 = true → (¬ Within f.1.off f.1.len h.d1 → r = ([], false, 8)) ∧ (Within f.1.off f.1.len h.d1 →
      (∀ e, Ar.unpack bs ((h.d0 + f.1.off) % 18446744073709551616) f.1.len h.out = .inl e → r = ([], false, e)) ∧
      (∀ d, Ar.unpack bs ((h.d0 + f.1.off) % 18446744073709551616) f.1.len h.out = .inr d → r = (d, true, 0)))))
end Go.Proofs.YtaapjampmnanmaaGreat
