/- The law BitioNils: a walk. There is no condition. -/
import Derived.Test.YtceafmiieaeodaaBitLive
namespace Go.Proofs.Ytceafmiieaeodaa
open Go.RowKit

set_option maxHeartbeats 1000000 in
theorem bitionils_walk (d : Int) (v : Nat) (n : Int) (w : World) :
    Calls Try.prog 7 #[.agg #[.int .i64 d, .int .u32 (v : Int), .int .i64 n]] w fun e w' => e = .returned (.bool true) ∧ Below w.heap.size w w' := by
  have hlive := hide (fun W => bitlive_any W)
  go_enter Try.func7, Try.ntmps7
  go_wp2_with (first
    | (go_at_call 31; (with_reducible refine (rbits_nil _ _).mono ?_); rintro e w' ⟨rfl, rfl⟩)
    | (go_at_call 25; (with_reducible refine (wbits_nil _ _ _).mono ?_); rintro e w' ⟨rfl, rfl⟩)
    | (go_at_call 22; (with_reducible refine (wturned_nil _ _ _).mono ?_); rintro e w' ⟨rfl, rfl⟩)
    | (go_at_call 34; (with_reducible refine (ralign_nil _).mono ?_); rintro e w' ⟨rfl, rfl⟩)
    | (go_at_call 32; (with_reducible refine (rleft_nil _).mono ?_); rintro e w' ⟨rfl, rfl⟩)
    | (go_at_call 36; (with_reducible refine (rat_nil _).mono ?_); rintro e w' ⟨rfl, rfl⟩)
    | (go_at_call 21; (with_reducible refine (walign_nil _).mono ?_); rintro e w' ⟨rfl, rfl⟩)
    | (go_at_call 27; (with_reducible refine (wlen_nil _).mono ?_); rintro e w' ⟨rfl, rfl⟩)
    | (go_at_call 28; (with_reducible refine (wbytes_nil _).mono ?_); rintro e w' ⟨rfl, rfl⟩)
    | (go_at_call 26; (with_reducible refine (bcode_any _ _).mono ?_); rintro e w' ⟨rfl, rfl⟩)
    | (go_at_call 19; (with_reducible refine (hlive.out _).mono ?_); rintro e w5 ⟨rfl, hb5⟩))
  go_ret
  exact ⟨rfl, ((Below.refl _ w).alloc (Nat.le_refl _) _).trans (hb5.mono (by simp))⟩

end Go.Proofs.Ytceafmiieaeodaa
