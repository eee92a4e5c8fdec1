/- Layer 13 (arch): the page's example: too few bytes are no header, and a header has 127 bytes. There is no condition. -/
import Derived.Test.YtaapjampmnanmaaArchHead
import Derived.Test.YtaapjampmnanmaaArchK
import Derived.Deep.RegionHeld3
import Derived.Test.YtaapjampmnanmaaArchRPH
import Derived.Deep.OwnRows
namespace Go.Proofs.Ytaapjampmnanmaa
open Go.RowKit

theorem made_bytes (n : Nat) : (madeCells #[.int .u8 0] n).toList = (List.replicate n (0 : UInt8)).map bv := by
  apply List.ext_getElem
  · simp [size_madeCells]
  · intro i h1 h2
    simp [madeCells, Nat.mod_one, bv]
theorem acode_any (n : Int) (w : World) : Calls Try.prog 15 #[.int .i64 n] w fun e w' => e = .returned (.int .i64 n) ∧ w = w' := by
  go_enter Try.func15, Try.ntmps15
  go_wp2
  go_ret
  exact ⟨rfl, rfl⟩

set_option maxRecDepth 100000 in
set_option maxHeartbeats 4000000 in
theorem archlive_any (w : World) : Calls Try.prog 13 #[] w fun e w' => e = .returned (.bool true) ∧ Below w.heap.size w w' := by
  have hmk : ∀ W : World, (Instr.makeSlice 40 (.int .i64 126) (.int .i64 126)).run Try.prog W = .ok (.slice (some ⟨W.heap.size, 0, none⟩) 126 126) (W.alloc (.cells (madeCells #[.int .u8 0] 126) 5)) := fun W => run_make_row' 40 5 (.int .u8 0) 1 Try.underlying40 (by kernel_rfl) rfl .i64 .i64 126 (by decide) (by decide) W
  obtain ⟨G, hG⟩ : ∃ G, w.heap.size = G := ⟨_, rfl⟩
  obtain ⟨w1, hw1⟩ : ∃ W, w.alloc (.cells (madeCells #[.int .u8 0] 126) 5) = W := ⟨_, rfl⟩
  obtain ⟨bs, hbs⟩ : ∃ bs : List UInt8, List.replicate 126 0 = bs := ⟨_, rfl⟩
  have hlen : bs.length = 126 := by rw [← hbs]; simp
  have hmap : (madeCells #[.int .u8 0] 126).toList = bs.map bv := by rw [← hbs]; exact made_bytes 126
  have hr1 := hide (show Rd w1 (G + 1) (some ⟨G, 0, none⟩) bs.length (bs.map bv) from by
    have h := Rd.new w (madeCells #[.int .u8 0] 126) 5 (0, 0)
    rw [hw1, hG, hmap, size_madeCells] at h
    rw [hlen]
    exact h)
  have hb1 := hide (show Below G w w1 from by rw [← hw1, ← hG]; exact (Below.refl _ w).alloc (Nat.le_refl _) _)
  have hs1 := hide (show w1.heap.size = G + 1 from by rw [← hw1, ← hG]; simp)
  obtain ⟨r, hR⟩ := RightR.ex (headOf bs) bs.length
  have hv : headV bs r = (Hd.zero, 2) := by rw [headV, if_neg (by omega), if_pos (by omega)]
  have hh := hide (show Calls Try.prog 14 #[.slice (some ⟨G, 0, none⟩) 126 126] w1 fun e w' => e = .returned (.tuple #[.agg #[.int .u64 0, .int .u64 0, .int .u64 0, .int .u64 0, .int .u64 0, .int .u64 0, .int .u64 0, .int .u64 0, .int .u64 0, .int .u64 0, .int .u64 0, .bool false, .int .i64 0, .int .i64 0, .int .i64 0, .int .i64 0, .int .i64 0, .int .i64 0, .int .i64 0, .int .i64 0, .int .i64 0, .int .i64 0, .int .i64 0, .int .i64 0], .int .i64 2]) ∧ Below w1.heap.size w1 w' from by
    have h := ahead_any (some ⟨G, 0, none⟩) 126 bs w1 (G + 1) hr1.out (by rw [hs1.out]; omega) (by omega) (by omega) r hR
    rw [hv, hlen] at h
    exact h)
  have hp := hide (show ∀ W, Calls Try.prog 26 #[.agg #[.int .u64 0, .int .u64 0, .int .u64 0, .int .u64 0, .int .u64 0, .int .u64 0, .int .u64 0, .int .u64 0, .int .u64 0, .int .u64 0, .int .u64 0, .bool false, .int .i64 0, .int .i64 0, .int .i64 0, .int .i64 0, .int .i64 0, .int .i64 0, .int .i64 0, .int .i64 0, .int .i64 0, .int .i64 0, .int .i64 0, .int .i64 0]] W fun e w' => ∃ A c, e = .returned (.slice A 127 c) ∧ Ow w' (W.heap.size + 1) 5 A 127 c ((headB Hd.zero).map bv) ∧ Below W.heap.size W w' from fun W => puthead_any Hd.zero ⟨by decide⟩ (by decide) W)
  rw [hG]
  clear hR hv hmap hlen hbs hr1
  go_enter Try.func13, Try.ntmps13
  go_wp2_with (first
    | (go_at_call 14; (with_reducible refine hh.out.mono ?_); rintro e w2 ⟨rfl, hb2⟩; obtain ⟨G2, hG2⟩ : ∃ g, w2.heap.size = g := ⟨_, rfl⟩; obtain ⟨w3, hw3⟩ : ∃ W, w2.alloc (.cells #[.int .u64 0, .int .u64 0, .int .u64 0, .int .u64 0, .int .u64 0, .int .u64 0, .int .u64 0, .int .u64 0, .int .u64 0, .int .u64 0, .int .u64 0, .bool false, .int .i64 0, .int .i64 0, .int .i64 0, .int .i64 0, .int .i64 0, .int .i64 0, .int .i64 0, .int .i64 0, .int .i64 0, .int .i64 0, .int .i64 0, .int .i64 0] 49) = W := ⟨_, rfl⟩; have k3 := hide (show Blk w3 G2 49 #[.int .u64 0, .int .u64 0, .int .u64 0, .int .u64 0, .int .u64 0, .int .u64 0, .int .u64 0, .int .u64 0, .int .u64 0, .int .u64 0, .int .u64 0, .bool false, .int .i64 0, .int .i64 0, .int .i64 0, .int .i64 0, .int .i64 0, .int .i64 0, .int .i64 0, .int .i64 0, .int .i64 0, .int .i64 0, .int .i64 0, .int .i64 0] from by rw [← hw3, ← hG2]; exact Blk.new w2 _ _); have hb3 := hide (show Below G w w3 from by rw [← hw3]; exact (hb1.out.trans (hb2.mono (by have := hs1.out; omega))).alloc (by have := hs1.out; have := hb2.size; omega) _); have hg3 := hide (show G ≤ G2 from by have := hs1.out; have := hb2.size; omega); obtain ⟨w4, hw4⟩ : ∃ W, w3.setRow G2 #[.int .u64 0, .int .u64 0, .int .u64 0, .int .u64 0, .int .u64 0, .int .u64 0, .int .u64 0, .int .u64 0, .int .u64 0, .int .u64 0, .int .u64 0, .bool false, .int .i64 0, .int .i64 0, .int .i64 0, .int .i64 0, .int .i64 0, .int .i64 0, .int .i64 0, .int .i64 0, .int .i64 0, .int .i64 0, .int .i64 0, .int .i64 0] = W := ⟨_, rfl⟩; have hb4 := hide (show Below G w w4 from by rw [← hw4]; exact below_row hb3.out hg3.out _); have hs4 := hide (show G ≤ w4.heap.size from by have := hb4.out.size; omega))
    | ((with_reducible refine wpList_store_row (o := ⟨none, .store 49 (.tmp 1) (.tmp 6), _, _, _, _⟩) rfl 49 (.tmp 1) (.tmp 6) rfl G2 #[.int .u64 0, .int .u64 0, .int .u64 0, .int .u64 0, .int .u64 0, .int .u64 0, .int .u64 0, .int .u64 0, .int .u64 0, .int .u64 0, .int .u64 0, .bool false, .int .i64 0, .int .i64 0, .int .i64 0, .int .i64 0, .int .i64 0, .int .i64 0, .int .i64 0, .int .i64 0, .int .i64 0, .int .i64 0, .int .i64 0, .int .i64 0] rfl rfl 49 _ k3.out.eq z24info rfl z24one ?_); rw [hw4])
    | (go_at_call 15; (with_reducible refine (acode_any _ _).mono ?_); rintro e w' ⟨rfl, rfl⟩)
    | (go_at_call 26; (with_reducible refine (hp.out _).mono ?_); rintro e w5 ⟨A5, c5, rfl, ho5, hb5⟩; have hb6 := hide (hb4.out.trans (hb5.mono hs4.out)); clear ho5 hb5))
  go_ret
  exact ⟨rfl, hb6.out⟩

end Go.Proofs.Ytaapjampmnanmaa
