/- Layer 4 (inflate): the law's own code and live. There is no condition. -/
import Derived.Test.YthplpoijkebjbaaInfData
import Derived.Laws.BytesArg
namespace Go.Proofs.Ythplpoijkebjbaa
open Go.RowKit
set_option linter.unusedVariables false

set_option maxRecDepth 100000 in
theorem Inf.live_eq : Inf.data (Bit.bitsOf [0x4b, 0x4c, 0x4a, 0x06, 0x00]) 100 41 = .inr ([97, 98, 99], 5) := by decide +kernel
/-- Data's contract, its integers given as the code has them. -/
theorem idata_at (A : Option Addr) (c n : Nat) (bs : List UInt8) (most F : Nat) (mi : Int) (w : World) (hmi : (most : Int) = mi) (hr : Rd w w.heap.size A n (bs.map bv)) (hl : n ≤ 1048576) (hm : most ≤ 1048576) (hF : 8 * n < F) :
    Calls Try.prog 28 #[.slice A n c, .int .i64 mi] w (InfPost w (Inf.data (Bit.bitsOf bs) most F)) := by
  obtain rfl : bs.length = n := hr.len
  subst hmi
  exact idata_any A c bs most F w hr hl hm hF
end Go.Proofs.Ythplpoijkebjbaa
