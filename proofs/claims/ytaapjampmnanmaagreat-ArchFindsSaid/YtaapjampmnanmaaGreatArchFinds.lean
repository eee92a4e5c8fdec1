/- Layer 13 (arch): the entry that a number has in an archive: the law's walk. The conditions: what the arguments are. -/
import Derived.Test.YtaapjampmnanmaaGreatArchRFi
import Derived.Test.YtaapjampmnanmaaGreatArchLive
namespace Go.Proofs.YtaapjampmnanmaaGreat
open Go.RowKit Go.Shelf
set_option linter.unusedVariables false
set_option linter.unusedSimpArgs false

theorem headV_l1 (bs : List UInt8) (r : Int) : (headV bs r).1.l1 ≤ 18446744073709551615 := by
  have h1 : (headOf bs).l1 ≤ 18446744073709551615 := by
    have := num_lt bs 48 8
    show num bs 48 8 ≤ _
    omega
  unfold headV
  split
  · exact Nat.zero_le _
  · split
    · exact Nat.zero_le _
    · split
      · split
        · exact h1
        · exact Nat.zero_le _
      · exact Nat.zero_le _

set_option maxRecDepth 100000 in
set_option maxHeartbeats 4000000 in
theorem archfinds_walk (A : Option Addr) (len c : Nat) (bs : List UInt8) (id : Nat) (w : World) (hr : Rd w w.heap.size A len (bs.map bv)) (hcap : len ≤ c) (hmx : len ≤ maxLen) (hid : id ≤ 18446744073709551615) :
    Calls Tryz.prog 3 #[.slice A len c, .int .u64 (id : Int)] w fun e w' => e = .returned (.bool true) ∧ Below w.heap.size w w' := by
  have hlen := hr.len
  subst hlen
  obtain ⟨G, hG⟩ : ∃ G, w.heap.size = G := ⟨_, rfl⟩
  have hlive := hide (fun W => archlive_any W)
  by_cases hbig : 2000 < bs.length
  · obtain ⟨n, hl⟩ : ∃ n, bs.length = n := ⟨_, rfl⟩
    rw [hl] at hbig hmx ⊢
    rw [hG]
    have hnI : (n : Int) ≤ 9223372036854775807 := by simp only [maxLen] at hmx; omega
    clear hmx hr hcap hid hl
    go_enter Tryz.func3, Tryz.ntmps3
    go_wp2_with (go_at_call 7; (with_reducible refine (hlive.out _).mono ?_); rintro e w20 ⟨rfl, hb20⟩; replace hb20 := hide hb20)
    go_ret
    exact ⟨rfl, hb20.out.mono (by omega)⟩
  · obtain ⟨q, hR⟩ := RightR.ex (headOf bs) bs.length
    have hh := hide (ahead_any A c bs w w.heap.size hr (Nat.le_refl _) hcap (by omega) q hR)
    have hl1 := hide (headV_l1 bs q)
    generalize headV bs q = V at hh hl1
    have hrd := hide (fun W (h : Below G w W) => (show Rd W W.heap.size A bs.length (bs.map bv) from (hr.below (by rw [hG]; exact h)).mono (by have := h.size; omega)))
    obtain ⟨⟨⟨ri, ro, rl, rr⟩, rb, rn⟩, hD⟩ := DownR.ex bs V.1.inn V.1.l0 V.1.l1 id (fun es h => cut_ex es id h) 4 V.1.r0 V.1.r1
    have hnI : (bs.length : Int) ≤ 2000 := by omega
    replace hD := hide hD
    have hc := hide hcap
    have hm := hide (show bs.length ≤ 131072 by omega)
    replace hid := hide hid
    rw [hG]
    clear hR hr hbig hmx hcap
    by_cases he : V.2 = 0
    · rw [he] at hh
      go_enter Tryz.func3, Tryz.ntmps3
      go_wp2_with (first
        | (go_at_call 8; (with_reducible refine hh.out.mono ?_); rintro e w2 ⟨rfl, hb2⟩; obtain ⟨g3, hg3⟩ : ∃ g, w2.heap.size = g := ⟨_, rfl⟩; obtain ⟨w3, hw3⟩ : ∃ W, w2.alloc (.cells #[.int .u64 0, .int .u64 0, .int .u64 0, .int .u64 0, .int .u64 0, .int .u64 0, .int .u64 0, .int .u64 0, .int .u64 0, .int .u64 0, .int .u64 0, .bool false, .int .i64 0, .int .i64 0, .int .i64 0, .int .i64 0, .int .i64 0, .int .i64 0, .int .i64 0, .int .i64 0, .int .i64 0, .int .i64 0, .int .i64 0, .int .i64 0] 30) = W := ⟨_, rfl⟩; have k3 := hide (show Blk w3 g3 30 #[.int .u64 0, .int .u64 0, .int .u64 0, .int .u64 0, .int .u64 0, .int .u64 0, .int .u64 0, .int .u64 0, .int .u64 0, .int .u64 0, .int .u64 0, .bool false, .int .i64 0, .int .i64 0, .int .i64 0, .int .i64 0, .int .i64 0, .int .i64 0, .int .i64 0, .int .i64 0, .int .i64 0, .int .i64 0, .int .i64 0, .int .i64 0] from by rw [← hw3, ← hg3]; exact Blk.new w2 _ _); have hs3 := hide (show w3.heap.size = g3 + 1 from by rw [← hw3, ← hg3]; simp); have hGg := hide (show G ≤ g3 from by have := hb2.size; omega); have b3 := hide (show Below G w w3 from by rw [← hw3]; exact (hb2.mono (by omega)).alloc (by have := hb2.size; omega) _); clear hb2; obtain ⟨w4, hw4⟩ : ∃ W, w3.setRow g3 V.1.cells = W := ⟨_, rfl⟩; have k4 := hide (show Blk w4 g3 30 V.1.cells from by rw [← hw4]; exact k3.out.row _); have b4 := hide (show Below G w w4 from by rw [← hw4]; exact below_row b3.out hGg.out _); have hs4 := hide (show w4.heap.size = g3 + 1 from by rw [← hw4]; simpa using hs3.out))
        | ((with_reducible refine wpList_store_row (o := ⟨none, .store 30 (.tmp 5) (.tmp 20), _, _, _, _⟩) rfl 30 (.tmp 5) (.tmp 20) rfl g3 V.1.cells rfl rfl 30 _ k3.out.eq (info_hd V.1) (z24hd V.1) V.1.one ?_); rw [hw4])
        | (go_at_call 9; (with_reducible refine (acode_any _ _).mono ?_); rintro e w' ⟨rfl, rfl⟩)
        | (with_reducible refine wpList_load_row (o := ⟨some 28, .load 30 (.tmp 5), _, _, _, _⟩) rfl 30 (.tmp 5) rfl g3 rfl 30 V.1.cells (0, 0) _ k4.out.eq Tryz.underlying30 rfl (info_hd V.1) ?_)
        | (with_reducible refine wpList_load_row (o := ⟨some 36, .load 30 (.tmp 5), _, _, _, _⟩) rfl 30 (.tmp 5) rfl g3 rfl 30 V.1.cells (0, 0) _ kh7.out.eq Tryz.underlying30 rfl (info_hd V.1) ?_)
        | (go_at_call 10; (with_reducible refine (afind_any A c bs V.1 id w4 (hrd.out w4 b4.out) hc.out (by have := hm.out; omega) hid.out hl1.out ((⟨ri, ro, rl, rr⟩ : Ent), rb, rn) hD.out).mono ?_); rintro e w5 ⟨he, hb⟩; obtain rfl : e = .returned (.tuple #[.agg #[.int .u64 (ri : Int), .int .u64 (ro : Int), .int .u64 (rl : Int), .int .u64 (rr : Int)], .bool rb, .int .i64 (rn : Int)]) := he; obtain ⟨g6, hg6⟩ : ∃ g, w5.heap.size = g := ⟨_, rfl⟩; obtain ⟨w6, hw6⟩ : ∃ W, w5.alloc (.cells #[.int .u64 0, .int .u64 0, .int .u64 0, .int .u64 0] 36) = W := ⟨_, rfl⟩; have k6 := hide (show Blk w6 g6 36 #[.int .u64 0, .int .u64 0, .int .u64 0, .int .u64 0] from by rw [← hw6, ← hg6]; exact Blk.new w5 _ _); have s6 := hide (show w6.heap.size = g6 + 1 from by rw [← hw6, ← hg6]; simp); have t6 := hide (show w4.heap.size ≤ g6 from by have := hb.size; omega); have p5 := hide (show Below w4.heap.size w4 w6 from by rw [← hw6]; exact hb.alloc hb.size _); clear hb; obtain ⟨w7, hw7⟩ : ∃ W, w6.setRow g6 #[.int .u64 (ri : Int), .int .u64 (ro : Int), .int .u64 (rl : Int), .int .u64 (rr : Int)] = W := ⟨_, rfl⟩; have k7 := hide (show Blk w7 g6 36 #[.int .u64 (ri : Int), .int .u64 (ro : Int), .int .u64 (rl : Int), .int .u64 (rr : Int)] from by rw [← hw7]; exact k6.out.row _); have p7 := hide (show Below w4.heap.size w4 w7 from by rw [← hw7]; exact below_row p5.out t6.out _); have s7 := hide (show w7.heap.size = g6 + 1 from by rw [← hw7]; simpa using s6.out); have b7 := hide (show Below G w w7 from b4.out.trans (p7.out.mono (by have := hs4.out; have := hGg.out; omega))); have kh7 := hide (k4.out.below p7.out k4.out.lt))
        | ((with_reducible refine wpList_store_row (o := ⟨none, .store 36 (.tmp 7) (.tmp 31), _, _, _, _⟩) rfl 36 (.tmp 7) (.tmp 31) rfl g6 #[.int .u64 (ri : Int), .int .u64 (ro : Int), .int .u64 (rl : Int), .int .u64 (rr : Int)] rfl rfl 36 _ k6.out.eq (info_ent _ _ _ _) rfl (ent_one _ _ _ _) ?_); rw [hw7])
        | (go_at_call 11; (with_reducible refine (arfind_any A c bs V.1 id w7 (hrd.out w7 b7.out) hc.out hm.out hid.out hl1.out ((⟨ri, ro, rl, rr⟩ : Ent), rb, rn) hD.out).mono ?_); rintro e w8 ⟨he, hb⟩; obtain rfl : e = .returned (.tuple #[.agg #[.int .u64 (ri : Int), .int .u64 (ro : Int), .int .u64 (rl : Int), .int .u64 (rr : Int)], .bool rb, .int .i64 (rn : Int)]) := he; obtain ⟨g9, hg9⟩ : ∃ g, w8.heap.size = g := ⟨_, rfl⟩; obtain ⟨w9, hw9⟩ : ∃ W, w8.alloc (.cells #[.int .u64 0, .int .u64 0, .int .u64 0, .int .u64 0] 36) = W := ⟨_, rfl⟩; have k9 := hide (show Blk w9 g9 36 #[.int .u64 0, .int .u64 0, .int .u64 0, .int .u64 0] from by rw [← hw9, ← hg9]; exact Blk.new w8 _ _); have s9 := hide (show w9.heap.size = g9 + 1 from by rw [← hw9, ← hg9]; simp); have t9 := hide (show w7.heap.size ≤ g9 from by have := hb.size; omega); have p8 := hide (show Below w7.heap.size w7 w9 from by rw [← hw9]; exact hb.alloc hb.size _); clear hb; obtain ⟨w10, hw10⟩ : ∃ W, w9.setRow g9 #[.int .u64 (ri : Int), .int .u64 (ro : Int), .int .u64 (rl : Int), .int .u64 (rr : Int)] = W := ⟨_, rfl⟩; have k10 := hide (show Blk w10 g9 36 #[.int .u64 (ri : Int), .int .u64 (ro : Int), .int .u64 (rl : Int), .int .u64 (rr : Int)] from by rw [← hw10]; exact k9.out.row _); have p10 := hide (show Below w7.heap.size w7 w10 from by rw [← hw10]; exact below_row p8.out t9.out _); have s10 := hide (show w10.heap.size = g9 + 1 from by rw [← hw10]; simpa using s9.out); have b10 := hide (show Below G w w10 from b7.out.trans (p10.out.mono (by have := s7.out; have := t6.out; have := hs4.out; have := hGg.out; omega))); have kx10 := hide (k7.out.below p10.out k7.out.lt))
        | ((with_reducible refine wpList_store_row (o := ⟨none, .store 36 (.tmp 10) (.tmp 39), _, _, _, _⟩) rfl 36 (.tmp 10) (.tmp 39) rfl g9 #[.int .u64 (ri : Int), .int .u64 (ro : Int), .int .u64 (rl : Int), .int .u64 (rr : Int)] rfl rfl 36 _ k9.out.eq (info_ent _ _ _ _) rfl (ent_one _ _ _ _) ?_); rw [hw10])
        | (with_reducible refine wpList_load_row (o := ⟨some 42, .load 36 (.tmp 7), _, _, _, _⟩) rfl 36 (.tmp 7) rfl g6 rfl 36 #[.int .u64 (ri : Int), .int .u64 (ro : Int), .int .u64 (rl : Int), .int .u64 (rr : Int)] (0, 0) _ kx10.out.eq Tryz.underlying36 rfl (info_ent _ _ _ _) ?_)
        | (with_reducible refine wpList_load_row (o := ⟨some 43, .load 36 (.tmp 10), _, _, _, _⟩) rfl 36 (.tmp 10) rfl g9 rfl 36 #[.int .u64 (ri : Int), .int .u64 (ro : Int), .int .u64 (rl : Int), .int .u64 (rr : Int)] (0, 0) _ k10.out.eq Tryz.underlying36 rfl (info_ent _ _ _ _) ?_)
        | (go_at_call 7; (with_reducible refine (hlive.out _).mono ?_); rintro e w20 ⟨rfl, hb20⟩; replace hb20 := hide hb20))
      go_ret
      exact ⟨by simp, b10.out.trans (hb20.out.mono (by have := b10.out.size; omega))⟩
    · replace he := hide he
      obtain ⟨E, hE⟩ : ∃ E, V.2 = E := ⟨_, rfl⟩
      rw [hE] at hh he
      have hne : (E != 0) = true := by simp; exact he.out
      go_enter Tryz.func3, Tryz.ntmps3
      go_wp2_with (first
        | (go_at_call 8; (with_reducible refine hh.out.mono ?_); rintro e w2 ⟨rfl, hb2⟩; obtain ⟨g3, hg3⟩ : ∃ g, w2.heap.size = g := ⟨_, rfl⟩; obtain ⟨w3, hw3⟩ : ∃ W, w2.alloc (.cells #[.int .u64 0, .int .u64 0, .int .u64 0, .int .u64 0, .int .u64 0, .int .u64 0, .int .u64 0, .int .u64 0, .int .u64 0, .int .u64 0, .int .u64 0, .bool false, .int .i64 0, .int .i64 0, .int .i64 0, .int .i64 0, .int .i64 0, .int .i64 0, .int .i64 0, .int .i64 0, .int .i64 0, .int .i64 0, .int .i64 0, .int .i64 0] 30) = W := ⟨_, rfl⟩; have k3 := hide (show Blk w3 g3 30 #[.int .u64 0, .int .u64 0, .int .u64 0, .int .u64 0, .int .u64 0, .int .u64 0, .int .u64 0, .int .u64 0, .int .u64 0, .int .u64 0, .int .u64 0, .bool false, .int .i64 0, .int .i64 0, .int .i64 0, .int .i64 0, .int .i64 0, .int .i64 0, .int .i64 0, .int .i64 0, .int .i64 0, .int .i64 0, .int .i64 0, .int .i64 0] from by rw [← hw3, ← hg3]; exact Blk.new w2 _ _); have hs3 := hide (show w3.heap.size = g3 + 1 from by rw [← hw3, ← hg3]; simp); have hGg := hide (show G ≤ g3 from by have := hb2.size; omega); have b3 := hide (show Below G w w3 from by rw [← hw3]; exact (hb2.mono (by omega)).alloc (by have := hb2.size; omega) _); clear hb2; obtain ⟨w4, hw4⟩ : ∃ W, w3.setRow g3 V.1.cells = W := ⟨_, rfl⟩; have k4 := hide (show Blk w4 g3 30 V.1.cells from by rw [← hw4]; exact k3.out.row _); have b4 := hide (show Below G w w4 from by rw [← hw4]; exact below_row b3.out hGg.out _); have hs4 := hide (show w4.heap.size = g3 + 1 from by rw [← hw4]; simpa using hs3.out))
        | ((with_reducible refine wpList_store_row (o := ⟨none, .store 30 (.tmp 5) (.tmp 20), _, _, _, _⟩) rfl 30 (.tmp 5) (.tmp 20) rfl g3 V.1.cells rfl rfl 30 _ k3.out.eq (info_hd V.1) (z24hd V.1) V.1.one ?_); rw [hw4])
        | (go_at_call 9; (with_reducible refine (acode_any _ _).mono ?_); rintro e w' ⟨rfl, rfl⟩)
        | (go_at_call 7; (with_reducible refine (hlive.out _).mono ?_); rintro e w20 ⟨rfl, hb20⟩; replace hb20 := hide hb20))
      go_ret
      exact ⟨rfl, b4.out.trans (hb20.out.mono (by have := b4.out.size; omega))⟩

end Go.Proofs.YtaapjampmnanmaaGreat
