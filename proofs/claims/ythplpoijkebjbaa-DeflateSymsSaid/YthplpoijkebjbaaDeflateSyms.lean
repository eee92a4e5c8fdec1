/- The law DeflateSyms: a walk. There is no condition. -/
import Derived.Test.YthplpoijkebjbaaDefLive
import Derived.Test.YthplpoijkebjbaaDefSym
namespace Go.Proofs.Ythplpoijkebjbaa
open Go.RowKit

set_option maxRecDepth 100000 in
set_option maxHeartbeats 2000000 in
theorem deflatesyms_walk (n : Int) (w : World) :
    Calls Try.prog 4 #[.int .i64 n] w fun e w' => e = .returned (.bool true) ∧ Below w.heap.size w w' := by
  have h1 := hide (sym_any n w)
  have h2 := hide (rsym_any n w)
  have h3 := hide (far_any n w)
  have h4 := hide (rfar_any n w)
  generalize (Def.symV n).1 = a1 at *
  generalize (Def.symV n).2.1 = a2 at *
  generalize (Def.symV n).2.2 = a3 at *
  generalize (Def.farV n).1 = b1 at *
  generalize (Def.farV n).2.1 = b2 at *
  generalize (Def.farV n).2.2 = b3 at *
  have hlive := hide (d5live_any w)
  go_enter Try.func4, Try.ntmps4
  go_wp2_with (first
    | (go_at_call 19; (with_reducible refine h1.out.mono ?_); rintro e w1 ⟨rfl, rfl⟩)
    | (go_at_call 20; (with_reducible refine h2.out.mono ?_); rintro e w1 ⟨rfl, rfl⟩)
    | (go_at_call 21; (with_reducible refine h3.out.mono ?_); rintro e w1 ⟨rfl, rfl⟩)
    | (go_at_call 22; (with_reducible refine h4.out.mono ?_); rintro e w1 ⟨rfl, rfl⟩)
    | (go_at_call 15; (with_reducible refine hlive.out.mono ?_); rintro e w5 ⟨rfl, hb⟩; have hb := hide hb))
  go_ret
  exact ⟨rfl, hb.out⟩

end Go.Proofs.Ythplpoijkebjbaa
