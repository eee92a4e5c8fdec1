/- Layer 4 (inflate): the law's own code and live. There is no condition. -/
import Derived.Test.YthplpoijkebjbaaInfData
import Derived.Laws.BytesArg
namespace Go.Proofs.Ythplpoijkebjbaa
open Go.RowKit
set_option linter.unusedVariables false

set_option maxRecDepth 100000 in
theorem Inf.live_eq : Inf.data (Bit.bitsOf [0x4b, 0x4c, 0x4a, 0x06, 0x00]) 100 41 = .inr ([97, 98, 99], 5) := by decide +kernel
theorem i4code_any (v : Int) (w : World) : Calls Try.prog 29 #[.int .i64 v] w fun e w' => e = .returned (.int .i64 v) ∧ w = w' := by
  go_enter Try.func29, Try.ntmps29
  go_wp2
  go_ret
  exact ⟨rfl, rfl⟩
/-- Data's contract, its integers given as the code has them. -/
theorem idata_at (A : Option Addr) (c n : Nat) (bs : List UInt8) (most F : Nat) (mi : Int) (w : World) (hmi : (most : Int) = mi) (hr : Rd w w.heap.size A n (bs.map bv)) (hl : n ≤ 1048576) (hm : most ≤ 1048576) (hF : 8 * n < F) :
    Calls Try.prog 28 #[.slice A n c, .int .i64 mi] w (InfPost w (Inf.data (Bit.bitsOf bs) most F)) := by
  obtain rfl : bs.length = n := hr.len
  subst hmi
  exact idata_any A c bs most F w hr hl hm hF
theorem idata_live (w : World) : Calls Try.prog 28 #[.slice (some ⟨w.heap.size, 0, none⟩) 5 5, .int .i64 100] (w.alloc (.cells #[.int .u8 75, .int .u8 76, .int .u8 74, .int .u8 6, .int .u8 0] 5)) fun e w' => ∃ A' c', e = .returned (.tuple #[.slice A' 3 c', .int .i64 5, .int .i64 0]) ∧ Rd w' w'.heap.size A' 3 ([(97 : UInt8), 98, 99].map bv) ∧ Below w.heap.size w w' := by
  have hr := Rd.new w #[.int .u8 75, .int .u8 76, .int .u8 74, .int .u8 6, .int .u8 0] 5 (0, 0)
  have h := idata_at (some ⟨w.heap.size, 0, none⟩) 5 5 [0x4b, 0x4c, 0x4a, 0x06, 0x00] 100 41 100 (w.alloc (.cells #[.int .u8 75, .int .u8 76, .int .u8 74, .int .u8 6, .int .u8 0] 5)) rfl (by rw [show (w.alloc (.cells #[.int .u8 75, .int .u8 76, .int .u8 74, .int .u8 6, .int .u8 0] 5)).heap.size = w.heap.size + 1 from by simp]; exact hr) (by decide) (by decide) (by decide)
  rw [Inf.live_eq] at h
  refine h.mono ?_
  rintro e w' ⟨hb, ⟨er, h1, _⟩ | ⟨o, used, A', c', h1, rfl, ho⟩⟩
  · cases h1
  · cases h1
    have hb0 : Below w.heap.size w (w.alloc (.cells #[.int .u8 75, .int .u8 76, .int .u8 74, .int .u8 6, .int .u8 0] 5)) := (Below.refl _ w).alloc (Nat.le_refl _) _
    exact ⟨A', c', rfl, ho.rd, hb0.trans (hb.mono hb0.size)⟩

set_option maxRecDepth 100000 in
set_option maxHeartbeats 400000 in
theorem i4live_any (w : World) : Calls Try.prog 27 #[] w fun e w' => e = .returned (.bool true) ∧ Below w.heap.size w w' := by
  have hd := hide (idata_live w)
  have hc := hide (fun (v : Int) W => i4code_any v W)
  obtain ⟨w2, hw2⟩ : ∃ W, w.alloc (.cells #[.int .u8 75, .int .u8 76, .int .u8 74, .int .u8 6, .int .u8 0] 5) = W := ⟨_, rfl⟩
  rw [hw2] at hd
  generalize hB : w.heap.size = B at *
  go_enter Try.func27, Try.ntmps27
  go_wp2_with (first
    | (go_at_call 28; (with_reducible refine hd.out.mono ?_); rintro e w1 ⟨A1, c1, rfl, h1, hb1⟩; have ks := str_of_rd h1 c1; have hb1 := hide hb1; clear h1)
    | (go_at_call 29; (with_reducible refine (hc.out _ _).mono ?_); rintro e w' ⟨rfl, rfl⟩))
  go_ret
  exact ⟨rfl, hb1.out⟩

end Go.Proofs.Ythplpoijkebjbaa
