/- Layer 5 (deflate): the law's own code and live. There is no condition. -/
import Derived.Test.YthplpoijkebjbaaDefData
import Derived.Laws.BytesArg
import Derived.Lib.SlBytesConst
namespace Go.Proofs.Ythplpoijkebjbaa
open Go.RowKit

set_option maxRecDepth 100000 in
theorem Def.live_eq : Def.outB false [97, 98, 99] = [0x4b, 0x4c, 0x4a, 0x06, 0x00] := by decide +kernel
theorem d5code_any (v : Int) (w : World) : Calls Try.prog 17 #[.int .i64 v] w fun e w' => e = .returned (.int .i64 v) ∧ w = w' := by
  go_enter Try.func17, Try.ntmps17
  go_wp2
  go_ret
  exact ⟨rfl, rfl⟩
theorem ddata_abc (w : World) : Calls Try.prog 16 #[.slice (some ⟨w.heap.size, 0, none⟩) 3 3, .bool false] (w.alloc (.cells #[.int .u8 97, .int .u8 98, .int .u8 99] 5 (3, 4))) fun e w' => ∃ A' c', e = .returned (.tuple #[.slice A' 5 c', .int .i64 0]) ∧ Rd w' w'.heap.size A' 5 ([(0x4b : UInt8), 0x4c, 0x4a, 0x06, 0x00].map bv) ∧ Below w.heap.size w w' := by
  have hr := Rd.new w #[.int .u8 97, .int .u8 98, .int .u8 99] 5 (3, 4)
  have h := ddata_any (some ⟨w.heap.size, 0, none⟩) 3 3 [97, 98, 99] false (w.alloc (.cells #[.int .u8 97, .int .u8 98, .int .u8 99] 5 (3, 4))) (by rw [show (w.alloc (.cells #[.int .u8 97, .int .u8 98, .int .u8 99] 5 (3, 4))).heap.size = w.heap.size + 1 from by simp]; exact hr) (by decide) (by decide)
  rw [Def.live_eq] at h
  refine h.mono ?_
  rintro e w' ⟨A', c', rfl, ho, hb⟩
  have hb0 : Below w.heap.size w (w.alloc (.cells #[.int .u8 97, .int .u8 98, .int .u8 99] 5 (3, 4))) := (Below.refl _ w).alloc (Nat.le_refl _) _
  exact ⟨A', c', rfl, ho.rd, hb0.trans (hb.mono hb0.size)⟩

set_option maxRecDepth 100000 in
set_option maxHeartbeats 400000 in
theorem d5live_any (w : World) : Calls Try.prog 15 #[] w fun e w' => e = .returned (.bool true) ∧ Below w.heap.size w w' := by
  have hd := hide (ddata_abc w)
  have hc := hide (fun (v : Int) W => d5code_any v W)
  have hcv : (convert 22 22 (.slice (some ⟨w.heap.size, 0, none⟩) 3 3)).run Try.prog (w.alloc (.cells #[.int .u8 97, .int .u8 98, .int .u8 99] 5)) = .ok (.slice (some ⟨w.heap.size, 0, none⟩) 3 3) (w.alloc (.cells #[.int .u8 97, .int .u8 98, .int .u8 99] 5 (3, 4))) := Go.Lib.run_convert_bytes_const w _ _ #[.int .u8 97, .int .u8 98, .int .u8 99] 3 3 Try.underlying22 Try.underlying5
  obtain ⟨w2, hw2⟩ : ∃ W, w.alloc (.cells #[.int .u8 97, .int .u8 98, .int .u8 99] 5 (3, 4)) = W := ⟨_, rfl⟩
  rw [hw2] at hcv hd
  generalize hB : w.heap.size = B at *
  go_enter Try.func15, Try.ntmps15
  go_wp2_with (first
    | (go_at_call 16; (with_reducible refine hd.out.mono ?_); rintro e w1 ⟨A1, c1, rfl, h1, hb1⟩; have ks := str_of_rd h1 c1; have hb1 := hide hb1; clear h1)
    | (go_at_call 17; (with_reducible refine (hc.out _ _).mono ?_); rintro e w' ⟨rfl, rfl⟩))
  go_ret
  exact ⟨rfl, hb1.out⟩

end Go.Proofs.Ythplpoijkebjbaa
