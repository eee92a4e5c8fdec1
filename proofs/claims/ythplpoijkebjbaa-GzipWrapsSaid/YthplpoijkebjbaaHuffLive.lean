/- The example of layer 3's laws (live), and the errors' numbers. There is no condition. -/
import Derived.Test.YthplpoijkebjbaaHuffNew
namespace Go.Proofs.Ythplpoijkebjbaa
open Go.RowKit

def ls4 : List Nat := [2, 1, 3, 3]
theorem ls4_fits : Huf.fits ls4 false := .inl (by decide)
theorem ls4_of0 : Huf.bits ls4 16 0 = 2 := by decide
theorem ls4_of3 : Huf.bits ls4 16 3 = 7 := by decide

theorem live_of0 (g : Nat) (w : World) (B : Nat) (h : CodeAt B w g ls4) : Calls Try.prog 105 #[.pointer (some ⟨g, 0, none⟩), .int .i64 0] w fun e w' => e = .returned (.tuple #[.int .u32 2, .int .i64 2]) ∧ ∃ k, w' = w.drewN k := of_in g ls4 0 w B h (by decide) (by decide)
theorem live_of3 (g : Nat) (w : World) (B : Nat) (h : CodeAt B w g ls4) : Calls Try.prog 105 #[.pointer (some ⟨g, 0, none⟩), .int .i64 3] w fun e w' => e = .returned (.tuple #[.int .u32 7, .int .i64 3]) ∧ ∃ k, w' = w.drewN k := of_in g ls4 3 w B h (by decide) (by decide)

end Go.Proofs.Ythplpoijkebjbaa
