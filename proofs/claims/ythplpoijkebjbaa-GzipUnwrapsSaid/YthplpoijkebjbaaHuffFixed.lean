/- The law HuffFixed: a walk. There is no condition. -/
import Derived.Test.YthplpoijkebjbaaHuffNew
import Derived.Test.YthplpoijkebjbaaBitLive
namespace Go.Proofs.Ythplpoijkebjbaa
open Go.RowKit

def fixL (i : Nat) : Nat := if i < 144 ∨ 280 ≤ i then 8 else if i < 256 then 9 else 7
def lsF : List Nat := (List.range 288).map fixL
theorem lsF_fits : Huf.fits lsF false := .inl (by decide +kernel)
theorem lsF_len : lsF.length = 288 := by decide +kernel
theorem lsF_le : ∀ x ∈ lsF, x ≤ 15 := by decide +kernel

theorem range_snoc (f : Nat → Value) (k : Nat) : (List.range k).map f ++ [f k] = (List.range (k + 1)).map f := by rw [List.range_succ, List.map_append]; rfl

set_option maxRecDepth 100000 in
set_option maxHeartbeats 1000000 in
theorem fixed_any (w : World) : Calls Try.prog 72 #[] w fun e w' => ∃ A1 c1 A2 c2, e = .returned (.tuple #[.slice A1 288 c1, .slice A2 30 c2]) ∧
    Ow w' w.heap.size 3 A1 288 c1 ((List.range 288).map fun i => jv (fixL i)) ∧ Ow w' w.heap.size 3 A2 30 c2 ((List.range 30).map fun _ => jv 5) ∧ Below w.heap.size w w' := by
  go_enter Try.func72, Try.ntmps72
  go_wp2
  go_loopw [0, 3] (fun s i wr => ∃ k : Nat, ∃ A c, k ≤ 288 ∧ i = .int .i64 k ∧ s = .slice A k c ∧ Hid (Ow wr w.heap.size 3 A k c ((List.range k).map fun i => jv (fixL i))) ∧ Hid (Below w.heap.size w wr)) (fun _ i _ => 288 - (intOf i).toNat)
  case atStart => exact ⟨0, none, 0, by omega, rfl, rfl, Ow.nil _ _ _, Below.refl _ _⟩
  case round =>
    obtain ⟨k, A, c, hk, rfl, rfl, ho, hb⟩ := hrel
    by_cases hlt : k < 288
    · have hkI : (k : Int) ≤ 287 := by omega
      have hsn := hide (range_snoc (fun i => jv (fixL i)) k)
      by_cases h8 : k < 144 ∨ 280 ≤ k
      · have hf : fixL k = 8 := if_pos h8
        rw [hf] at hsn
        have hd : k < 144 ∨ (144 ≤ k ∧ 280 ≤ k) := by omega
        have hd : (k : Int) ≤ 143 ∨ ((144 : Int) ≤ k ∧ (280 : Int) ≤ k) := by omega
        replace hlt := hide hlt
        clear h8 hf hk
        rcases hd with hd | ⟨hd1, hd⟩
        all_goals
          go_wp2_with (at_builtin; refine wpList_append_one wr rfl (.tmp 16) (.tmp 17) rfl elem_int rfl ho.out (jv 8) 3 _ rfl rfl (by simp only [maxLen]; omega) (by omega) hb.out.size ?_; intro A3 c3 w3 ho3 hg3 hn3; have hb3 := hide (hb.out.trans (hg3.to_below (B := w.heap.size) hb.out.size (fun i hi => (ho.out.blk_lt i hi).1))); have ho3 := hide ho3; clear hg3 hn3)
          go_roundw
          case rel => exact ⟨k + 1, A3, c3, by have := hlt.out; omega, by go_num, rfl, by rw [← hsn.out]; exact ho3, hb3⟩
          case measure => simp [intOf] <;> omega
      · by_cases h9 : k < 256
        · have hf : fixL k = 9 := by unfold fixL; rw [if_neg h8, if_pos h9]
          rw [hf] at hsn
          have hd1 : (144 : Int) ≤ k := by omega
          have hd2 : (k : Int) ≤ 255 := by omega
          replace hlt := hide hlt
          clear h8 hf hk h9
          go_wp2_with (at_builtin; refine wpList_append_one wr rfl (.tmp 22) (.tmp 23) rfl elem_int rfl ho.out (jv 9) 3 _ rfl rfl (by simp only [maxLen]; omega) (by omega) hb.out.size ?_; intro A3 c3 w3 ho3 hg3 hn3; have hb3 := hide (hb.out.trans (hg3.to_below (B := w.heap.size) hb.out.size (fun i hi => (ho.out.blk_lt i hi).1))); have ho3 := hide ho3; clear hg3 hn3)
          go_roundw
          case rel => exact ⟨k + 1, A3, c3, by have := hlt.out; omega, by go_num, rfl, by rw [← hsn.out]; exact ho3, hb3⟩
          case measure => simp [intOf] <;> omega
        · have hf : fixL k = 7 := by unfold fixL; rw [if_neg h8, if_neg h9]
          rw [hf] at hsn
          have hd1 : (256 : Int) ≤ k := by omega
          have hd2 : (k : Int) ≤ 279 := by omega
          replace hlt := hide hlt
          clear h8 h9 hf hk
          go_wp2_with (at_builtin; refine wpList_append_one wr rfl (.tmp 6) (.tmp 7) rfl elem_int rfl ho.out (jv 7) 3 _ rfl rfl (by simp only [maxLen]; omega) (by omega) hb.out.size ?_; intro A3 c3 w3 ho3 hg3 hn3; have hb3 := hide (hb.out.trans (hg3.to_below (B := w.heap.size) hb.out.size (fun i hi => (ho.out.blk_lt i hi).1))); have ho3 := hide ho3; clear hg3 hn3)
          go_roundw
          case rel => exact ⟨k + 1, A3, c3, by have := hlt.out; omega, by go_num, rfl, by rw [← hsn.out]; exact ho3, hb3⟩
          case measure => simp [intOf] <;> omega
    · have hk8 : k = 288 := by omega
      have hkI : (288 : Int) ≤ k := by omega
      replace hk8 := hide hk8
      have hz := hide hb.out.size
      obtain ⟨B1, hB1⟩ : ∃ B1, wr.heap.size = B1 := ⟨_, rfl⟩
      have hoB : Hid (∀ W, Below B1 wr W → Ow W w.heap.size 3 A k c ((List.range k).map fun i => jv (fixL i)) ∧ Below w.heap.size w W) := hide (fun W h => by subst hB1; exact ⟨ho.out.below h, hb.out.trans (h.mono hz.out)⟩)
      have hzB : Hid (w.heap.size ≤ B1) := by rw [← hB1]; exact hz
      have hst : Hid (Below B1 wr wr ∧ B1 ≤ wr.heap.size) := hide ⟨Below.refl _ _, by omega⟩
      clear hB1 hz ho hb hk hlt
      go_wp2
      go_loopw [1, 26] (fun s i wx => ∃ k : Nat, ∃ A2 c2, k ≤ 30 ∧ i = .int .i64 k ∧ s = .slice A2 k c2 ∧ Hid (Ow wx B1 3 A2 k c2 ((List.range k).map fun _ => jv 5)) ∧ Hid (Below B1 wr wx ∧ B1 ≤ wx.heap.size)) (fun _ i _ => 30 - (intOf i).toNat)
      case atStart => exact ⟨0, none, 0, by omega, rfl, rfl, Ow.nil _ _ _, hst⟩
      case round =>
        obtain ⟨j, A2, c2, hk, rfl, rfl, ho2, hb2⟩ := hrel
        by_cases hlt : j < 30
        · have hjI : (j : Int) ≤ 29 := by omega
          have hsn := hide (range_snoc (fun _ => jv 5) j)
          go_wp2_with (at_builtin; refine wpList_append_one _ rfl (.tmp 28) (.tmp 29) rfl elem_int rfl ho2.out (jv 5) 3 _ rfl rfl (by simp only [maxLen]; omega) (by omega) hb2.out.2 ?_; intro A3 c3 w3 ho3 hg3 hn3; have hb3 := hide (show _ ∧ _ from ⟨hb2.out.1.trans (hg3.to_below (B := B1) hb2.out.2 (fun i hi => (ho2.out.blk_lt i hi).1)), Nat.le_trans hb2.out.2 hg3.size⟩); have ho3 := hide ho3; clear hg3 hn3)
          go_roundw
          case rel => exact ⟨j + 1, A3, c3, by omega, by go_num, rfl, by rw [← hsn.out]; exact ho3, hb3⟩
          case measure => simp [intOf] <;> omega
        · obtain rfl : j = 30 := by omega
          go_wp2
          go_ret2
          obtain rfl := hk8.out
          exact ⟨A, c, A2, c2, rfl, (hoB.out _ hb2.out.1).1, ho2.out.base_le (fun g hg => Nat.le_trans hzB.out (ho2.out.blk_lt g hg).1), (hoB.out _ hb2.out.1).2⟩

set_option maxRecDepth 100000 in
theorem reffixed_any (k : Nat) (w : World) (hk : k ≤ 287) : Calls Try.prog 47 #[.int .i64 (k : Int)] w fun e w' => e = .returned (.int .i64 (fixL k : Int)) ∧ w = w' := by
  by_cases h1 : k < 144
  · rw [show fixL k = 8 from if_pos (.inl h1)]
    have hI : (k : Int) ≤ 143 := by omega
    clear h1 hk
    go_enter Try.func47, Try.ntmps47
    go_wp2
    go_ret
    exact ⟨rfl, rfl⟩
  · by_cases h2 : 280 ≤ k
    · rw [show fixL k = 8 from if_pos (.inr h2)]
      have hI : (144 : Int) ≤ k := by omega
      have hI2 : (280 : Int) ≤ k := by omega
      clear h1 h2 hk
      go_enter Try.func47, Try.ntmps47
      go_wp2
      go_ret
      exact ⟨rfl, rfl⟩
    · by_cases h3 : k < 256
      · rw [show fixL k = 9 from by unfold fixL; rw [if_neg (by omega), if_pos h3]]
        have hI : (144 : Int) ≤ k := by omega
        have hI2 : (k : Int) ≤ 255 := by omega
        clear h1 h2 h3 hk
        go_enter Try.func47, Try.ntmps47
        go_wp2
        go_ret
        exact ⟨rfl, rfl⟩
      · rw [show fixL k = 7 from by unfold fixL; rw [if_neg (by omega), if_neg h3]]
        have hI : (144 : Int) ≤ k := by omega
        have hI2 : (256 : Int) ≤ k := by omega
        have hI3 : (k : Int) ≤ 279 := by omega
        clear h1 h2 h3 hk
        go_enter Try.func47, Try.ntmps47
        go_wp2
        go_ret
        exact ⟨rfl, rfl⟩

theorem lsF_rd : (List.range 288).map (fun i => jv (fixL i)) = (nz lsF).map iv := by
  unfold nz lsF
  rw [List.map_map, List.map_map]
  rfl

end Go.Proofs.Ythplpoijkebjbaa
