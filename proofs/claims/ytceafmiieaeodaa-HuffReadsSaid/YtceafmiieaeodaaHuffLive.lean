/- The example of layer 3's laws (live), and the errors' numbers. There is no condition. -/
import Derived.Test.YtceafmiieaeodaaHuffNew
namespace Go.Proofs.Ytceafmiieaeodaa
open Go.RowKit

theorem hcode_any (n : Int) (w : World) : Calls Try.prog 16 #[.int .i64 n] w fun e w' => e = .returned (.int .i64 n) ∧ w = w' := by
  go_enter Try.func16, Try.ntmps16
  go_wp2
  go_ret
  exact ⟨rfl, rfl⟩

def ls4 : List Nat := [2, 1, 3, 3]
theorem ls4_fits : Huf.fits ls4 false := .inl (by decide)
theorem ls4_of0 : Huf.bits ls4 16 0 = 2 := by decide
theorem ls4_of3 : Huf.bits ls4 16 3 = 7 := by decide

theorem live_of0 (g : Nat) (w : World) (B : Nat) (h : CodeAt B w g ls4) : Calls Try.prog 17 #[.pointer (some ⟨g, 0, none⟩), .int .i64 0] w fun e w' => e = .returned (.tuple #[.int .u32 2, .int .i64 2]) ∧ ∃ k, w' = w.drewN k := of_in g ls4 0 w B h (by decide) (by decide)
theorem live_of3 (g : Nat) (w : World) (B : Nat) (h : CodeAt B w g ls4) : Calls Try.prog 17 #[.pointer (some ⟨g, 0, none⟩), .int .i64 3] w fun e w' => e = .returned (.tuple #[.int .u32 7, .int .i64 3]) ∧ ∃ k, w' = w.drewN k := of_in g ls4 3 w B h (by decide) (by decide)

set_option maxHeartbeats 400000 in
theorem hufflive_any (w : World) : Calls Try.prog 11 #[] w fun e w' => e = .returned (.bool true) ∧ Below w.heap.size w w' := by
  have hrd : Rd (w.alloc (.cells #[.int .i64 2, .int .i64 1, .int .i64 3, .int .i64 3] 3)) (w.heap.size + 1) (some ⟨w.heap.size, 0, none⟩) 4 ((nz ls4).map iv) := Rd.new w #[.int .i64 2, .int .i64 1, .int .i64 3, .int .i64 3] 3 (0, 0)
  have hnew := new_ok (some ⟨w.heap.size, 0, none⟩) 4 4 ls4 false _ _ hrd (by simp) (by decide) (by decide) ls4_fits
  have hba := (Below.refl w.heap.size w).alloc (Nat.le_refl _) (.cells #[.int .i64 2, .int .i64 1, .int .i64 3, .int .i64 3] 3)
  have hsz : (w.alloc (.cells #[.int .i64 2, .int .i64 1, .int .i64 3, .int .i64 3] 3)).heap.size = w.heap.size + 1 := by simp
  rw [hsz] at hnew
  have hnew := hide hnew
  have hba := hide hba
  clear hrd hsz
  have hB : ∃ B, w.heap.size = B := ⟨_, rfl⟩
  obtain ⟨B, hB⟩ := hB
  rw [hB] at hnew hba ⊢
  go_enter Try.func11, Try.ntmps11
  go_wp2_with (first
    | (go_at_call 14; (with_reducible refine hnew.out.mono ?_); rintro e w1 ⟨g, rfl, h1, hb1⟩; have h1 := hide h1; have hb1 := hide (hba.out.trans (hb1.mono (Nat.le_succ _))); have ho0 := hide (live_of0 g w1 _ h1.out); have hs1 := hide (show B ≤ w1.heap.size from by obtain ⟨_, _, _, _, _, _, hc⟩ := h1.out; have := hc.hB; omega))
    | (go_at_call 17; (with_reducible refine ho0.out.mono ?_); rintro e w2 ⟨rfl, k2, rfl⟩; have h2 := hide (h1.out.below (below_drewN (Below.refl _ w1) k2)); have ho3 := hide (live_of3 g _ _ h2.out); clear ho0)
    | (go_at_call 17; (with_reducible refine ho3.out.mono ?_); rintro e w3 ⟨rfl, k3, rfl⟩)
    | (go_at_call 16; (with_reducible refine (hcode_any _ _).mono ?_); rintro e w' ⟨rfl, rfl⟩))
  go_ret
  refine ⟨?_, below_drewN hb1.out (k2 + k3)⟩
  simp

end Go.Proofs.Ytceafmiieaeodaa
