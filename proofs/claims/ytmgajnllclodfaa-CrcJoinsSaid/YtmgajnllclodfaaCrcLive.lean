/- The walk of layer 2's example: the check sum of nine given bytes. There is no condition. -/
import Derived.Test.YtmgajnllclodfaaCrc
import Derived.Lib.SlBytesConst
namespace Go.Proofs.Ytmgajnllclodfaa
open Go.RowKit

def Crc.lit9 : List UInt8 := [49, 50, 51, 52, 53, 54, 55, 56, 57]
theorem Crc.lit9_sum : Crc.sum Crc.lit9 = 3421780262 := by decide +kernel

set_option maxRecDepth 100000 in
set_option maxHeartbeats 400000 in
theorem crclive_any (w : World) :
    Calls Try.prog 12 #[] w fun e w' => e = .returned (.bool true) ∧ Below w.heap.size w w' := by
  have hs := hide Crc.lit9_sum
  have kc := fun (w : World) (C : Array Value) (n c : Nat) => Lib.run_convert_bytes_const (P := Try.prog) w 22 5 C n c Try.underlying22 Try.underlying5
  go_enter Try.func12, Try.ntmps12
  go_wp2_with (go_at_call 14; refine (of_any (some ⟨w.heap.size, 0, none⟩) 9 9 Crc.lit9 _ (w.heap.size + 1) (Rd.new w _ _ _) (by simp) (by omega)).mono ?_; rintro e w1 ⟨rfl, hb1⟩)
  go_ret
  exact ⟨by rw [hs.out]; rfl, ((Below.refl _ _).alloc (Nat.le_refl _) _).trans (hb1.mono (by simp))⟩

end Go.Proofs.Ytmgajnllclodfaa
