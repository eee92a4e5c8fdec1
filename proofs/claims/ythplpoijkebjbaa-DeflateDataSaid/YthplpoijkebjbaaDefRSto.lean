/- Layer 5 (deflate), the document's Data: the stored form. The conditions: where the bytes lie, and how many they are. -/
import Derived.Test.YthplpoijkebjbaaDefCode
namespace Go.Proofs.Ythplpoijkebjbaa
open Go.RowKit Go.Shelf
set_option linter.unusedVariables false

attribute [local go_sem] Oper.semAt_some

theorem outB_sto (bs : List UInt8) (h : bs.length ≤ 65535) : Def.outB true bs = Def.hdY 1 bs.length ++ bs := by
  rw [outB_stored]
  cases hf : bs.length with
  | zero => rw [Def.stoY, hf]
  | succ f => rw [Def.stoY, if_pos h, hf]

set_option maxRecDepth 100000 in
set_option maxHeartbeats 2000000 in
theorem rdata_sto (A : Option Addr) (n c : Nat) (bs : List UInt8) (w : World) (hr : Rd w w.heap.size A n (bs.map bv)) (hc : n ≤ c) (hn : n ≤ 400) :
    Calls Try.prog 18 #[.slice A n c, .bool true] w fun e w' => ∃ A' c', e = .returned (.slice A' (5 + n) c') ∧ Rd w' w'.heap.size A' (5 + n) ((Def.outB true bs).map bv) ∧ Below w.heap.size w w' := by
  have hl : bs.length = n := hr.len
  have hr := hide hr
  have hnI : (n : Int) ≤ 400 := by omega
  have hout := hide (show (Def.outB true bs).map bv = (Def.hdY 1 n).map bv ++ bs.map bv from by rw [outB_sto bs (by omega), List.map_append, hl])
  obtain ⟨x1, hx1⟩ : ∃ x : Int, (n : Int) % 256 = x := ⟨_, rfl⟩
  obtain ⟨x2, hx2⟩ : ∃ x : Int, (n : Int) / 256 = x := ⟨_, rfl⟩
  have hb1 : 0 ≤ x1 ∧ x1 ≤ 255 := by omega
  have hb2 : 0 ≤ x2 ∧ x2 ≤ 255 := by omega
  have hhd := hide (show (Def.hdY 1 n).map bv = [.int .u8 1, .int .u8 x1, .int .u8 x2, .int .u8 (255 - x1), .int .u8 (255 - x2)] from by
    simp only [Def.hdY, List.map_cons, List.map_nil, bv, UInt8.toNat_ofNat']
    simp
    omega)
  go_enter Try.func18, Try.ntmps18
  go_wp2
  go_loopw [0, 5] (fun s0 s5 wr => s0 = .slice A n c ∧ s5 = .slice none 0 0 ∧ wr = w) (fun _ _ _ => 0)
  case atStart => exact ⟨rfl, rfl, rfl⟩
  case round =>
    obtain ⟨rfl, rfl, hww⟩ := hrel
    subst wr
    go_wp2_with (first
      | (at_builtin; refine wpList_append_rd (w.alloc (.cells #[.int .u8 1, .int .u8 x1, .int .u8 x2, .int .u8 (255 - x1), .int .u8 (255 - x2)] 5)) rfl (.tmp 27) (.tmp 43) rfl elem_byte rfl (Ow.nil _ w.heap.size _) rfl (Rd.new w _ _ _) (by intro u hu; simp at hu; rcases hu with rfl | rfl | rfl | rfl | rfl <;> rfl) (by decide) (by decide) (by simp) ?_; intro A3 c3 w3 ho3 hg3 _; have hb3 := hide (show Below w.heap.size w w3 from ((Below.refl _ w).alloc (Nat.le_refl _) _).trans (hg3.to_below (B := w.heap.size) (by simp) (by rintro i hi; cases hi))); have ho3 : Ow w3 w.heap.size 5 A3 5 c3 [.int .u8 1, .int .u8 x1, .int .u8 x2, .int .u8 (255 - x1), .int .u8 (255 - x2)] := ho3; have hr3 := hide (hr.out.below hb3.out); have ho3 := hide ho3; clear hg3)
      | (at_builtin; refine wpList_append_rd w3 rfl (.tmp 45) (.tmp 48) rfl elem_byte rfl ho3.out rfl hr3.out (bv_one _) (by simp only [maxLen]; omega) (by omega) hb3.out.size ?_; intro A4 c4 w4 ho4 hg4 _; have hb4 := hide (hb3.out.trans (hg4.to_below (B := w.heap.size) hb3.out.size (fun i hi => (ho3.out.blk_lt i hi).1))); have ho4 := hide ho4; clear hg4 hr3 hb3 ho3))
    all_goals (
      go_ret
      exact ⟨A4, ⟨c4, rfl⟩, by rw [hout.out, hhd.out]; exact ho4.out.rd, hb4.out⟩)

end Go.Proofs.Ythplpoijkebjbaa
