/- Layer 5 (deflate): the law's own code and live. There is no condition. -/
import Derived.Test.YthplpoijkebjbaaDefData
import Derived.Laws.BytesArg
import Derived.Lib.SlBytesConst
namespace Go.Proofs.Ythplpoijkebjbaa
open Go.RowKit

set_option maxRecDepth 100000 in
theorem Def.live_eq : Def.outB false [97, 98, 99] = [0x4b, 0x4c, 0x4a, 0x06, 0x00] := by decide +kernel
end Go.Proofs.Ythplpoijkebjbaa
