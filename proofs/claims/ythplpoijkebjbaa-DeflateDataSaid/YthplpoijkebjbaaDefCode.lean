/- Layer 5 (deflate), the document's: the bits of a text of digits. The condition: how long the text is. -/
import Derived.Test.YthplpoijkebjbaaDefLive
import Derived.Test.YthplpoijkebjbaaDefPack
import Derived.Test.YthplpoijkebjbaaDefParse
import Derived.Test.YthplpoijkebjbaaHuffRef
import Derived.Test.YthplpoijkebjbaaBitPack
namespace Go.Proofs.Ythplpoijkebjbaa
open Go.RowKit Go.Shelf
set_option linter.unusedVariables false

attribute [local go_sem] Oper.semAt_some

theorem Huf.txt_dig5 (ls : List Nat) (i : Nat) (hi : i < ls.length) (h1 : 1 ≤ ls[i]) (h15 : ls[i] ≤ 15) : Huf.txt ls 16 0 i = Huf.dig (Huf.bits ls 16 i) ls[i] := by
  have hg : ls.getD i 0 = ls[i] := by rw [List.getD_eq_getElem?_getD, List.getElem?_eq_getElem hi]; rfl
  unfold Huf.txt Huf.bits
  rw [hg, if_pos ⟨h1, .inl (by omega)⟩, if_pos ⟨h1, by omega⟩]
theorem Huf.dig_word (y x : Nat) : (Huf.dig y x).map (fun b => b == 49) = Huf.word y x := by
  refine List.ext_getElem? fun j => ?_
  by_cases h : j < x
  · rw [Huf.word_get y x j h, List.getElem?_map, List.getElem?_eq_getElem (by rw [Huf.dig_length]; exact h), Huf.dig_get y x j h]
    simp only [Option.map_some, Option.some.injEq]
    split <;> simp_all
  · rw [List.getElem?_eq_none (by rw [List.length_map, Huf.dig_length]; omega), List.getElem?_eq_none (by rw [Huf.word_length]; omega)]

set_option maxHeartbeats 1000000 in
theorem dcode_any (bs : List UInt8) (n : Nat) (hn : bs.length = n) (w : World) (h : n ≤ 1000) :
    Calls Try.prog 49 #[sv bs] w fun e w' => ∃ A c, e = .returned (.slice A n c) ∧ Ow w' w.heap.size 4 A n c ((bs.map fun b => b == 49).map Value.bool) ∧ Below w.heap.size w w' := by
  unfold sv
  have hsz : (ByteArray.mk bs.toArray).size = n := by rw [← hn]; rfl
  go_enter Try.func49, Try.ntmps49
  go_wp2
  go_loopw [3, 4] (fun s i wr => ∃ k : Nat, ∃ A c, k ≤ n ∧ i = .int .i64 k ∧ s = .slice A k c ∧ Hid (Ow wr w.heap.size 4 A k c (((bs.take k).map fun b => b == 49).map Value.bool)) ∧ Hid (Below w.heap.size w wr)) (fun _ i _ => n - (intOf i).toNat)
  case atStart => exact ⟨0, none, 0, by omega, rfl, rfl, Ow.nil _ _ _, Below.refl _ _⟩
  case round =>
    obtain ⟨k, A, c, hk, rfl, rfl, ho, hb⟩ := hrel
    by_cases hlt : k < n
    · have hs := hide (take_snoc bs k (by omega))
      obtain ⟨x, hx⟩ : ∃ x, bs[k] = x := ⟨_, rfl⟩
      have hks : k < (ByteArray.mk bs.toArray).size := by rw [hsz]; exact hlt
      have hat : (ByteArray.mk bs.toArray)[k]'hks = x := by rw [← hx]; rfl
      rw [hx] at hs
      obtain ⟨tb, htb⟩ : ∃ tb, (x == 49) = tb := ⟨_, rfl⟩
      have htI : ((((ByteArray.mk bs.toArray)[k]'hks).toNat : Int) == 49) = tb := by rw [hat, ← htb]; rw [Bool.eq_iff_iff, beq_iff_eq, beq_iff_eq, ← UInt8.toNat_inj]; simp; omega
      have hs2 : Hid (((bs.take (k + 1)).map fun b => b == 49) = ((bs.take k).map fun b => b == 49) ++ [tb]) := hide (by rw [hs.out, List.map_append, ← htb]; rfl)
      clear hat
      go_wp2_with (at_builtin; refine wpList_append_one wr rfl (.tmp 11) (.tmp 16) rfl elem_bool rfl ho.out (.bool tb) 4 _ rfl rfl (by simp only [maxLen]; omega) (by omega) hb.out.size ?_; intro A3 c3 w3 ho3 hg3 hn3; have hb3 := hide (hb.out.trans (hg3.to_below (B := w.heap.size) hb.out.size (fun i hi => (ho.out.blk_lt i hi).1))); have ho3 := hide ho3; clear hg3 hn3)
      go_roundw
      case rel => exact ⟨k + 1, A3, c3, by omega, by go_num, rfl, (by rw [hs2.out, List.map_append]; exact ho3), hb3⟩
      case measure => simp [intOf] <;> omega
    · obtain rfl : k = n := by omega
      rw [show bs.take k = bs from List.take_of_length_le (by omega)] at ho
      go_wp2
      go_ret
      exact ⟨_, _, rfl, ho.out, hb.out⟩

end Go.Proofs.Ythplpoijkebjbaa
