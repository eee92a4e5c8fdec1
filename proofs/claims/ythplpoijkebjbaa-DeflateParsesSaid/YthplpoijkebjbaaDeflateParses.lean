/- The law DeflateParses: a walk. There is no condition. -/
import Derived.Test.YthplpoijkebjbaaDefParse
import Derived.Test.YthplpoijkebjbaaDefLive
namespace Go.Proofs.Ythplpoijkebjbaa
open Go.RowKit
set_option linter.unusedVariables false

set_option maxRecDepth 100000 in
set_option maxHeartbeats 8000000 in
theorem deflateparses_walk (A : Option Addr) (n c : Nat) (bs : List UInt8) (z : Int) (w : World) (hr : Rd w w.heap.size A n (bs.map bv)) (hn : n ≤ maxLen) :
    Calls Try.prog 7 #[.slice A n c, .int .i64 z] w fun e w' => e = .returned (.bool true) ∧ Below w.heap.size w w' := by
  unfold maxLen at hn
  have hlive := hide (fun W => d5live_any W)
  have hnI : (n : Int) ≤ 9223372036854775807 := by omega
  by_cases hbig : 400 < n
  · have t1 : (401 : Int) ≤ (n : Int) := by omega
    clear hr hbig hn
    go_enter Try.func7, Try.ntmps7
    go_wp2_with fail
    refine (hlive.out _).mono ?_
    rintro e w5 ⟨rfl, hb5⟩
    have hb5 := hide hb5
    go_wp2
    go_ret
    exact ⟨rfl, hb5.out⟩
  · have t1 : (n : Int) ≤ 400 := by omega
    have t1n : n ≤ 400 := by omega
    obtain rfl : bs.length = n := hr.len
    have hp1 := hide (dparse_any A c bs w hr (by omega))
    have hp2 := hide (fun W (hb : Below w.heap.size w W) => rparse_any A c bs W ((hr.below hb).mono hb.size) (by omega))
    have hf1 := hide (fun W (hb : Below w.heap.size w W) => find_any A c bs z W w.heap.size (hr.below hb) hb.size (by omega))
    have hf2 := hide (fun W (hb : Below w.heap.size w W) => rfind_any A c bs z W w.heap.size (hr.below hb) hb.size (by omega))
    generalize (Def.findV bs z).1 = v1 at *
    generalize (Def.findV bs z).2 = v2 at *
    have hTl := Def.toks_len bs bs.length 0
    rw [show Def.toks bs bs.length 0 = Def.parse bs from rfl] at hTl
    generalize Def.parse bs = ts at *
    generalize bs.length = L at *
    obtain ⟨T, hT⟩ : ∃ T, ts.length = T := ⟨_, rfl⟩
    rw [hT] at hp1 hp2 hTl
    have hT4 : T ≤ 400 := by omega
    clear hTl
    replace hT := hide hT
    clear hr hbig hn
    go_enter Try.func7, Try.ntmps7
    go_wp2_with fail
    refine hp1.out.mono ?_
    rintro e w1 ⟨A1, c1, rfl, o1, b1⟩
    have hp3 := hide (hp2.out w1 b1)
    have o1 := hide o1
    have b1 := hide b1
    clear hp1 hp2
    go_wp2_with fail
    refine hp3.out.mono ?_
    rintro e w2 ⟨A2, c2, rfl, o2, b2⟩
    have o12 := hide (o1.out.below b2)
    have o2 := hide o2
    have b2 := hide (b1.out.trans (b2.mono b1.out.size))
    clear o1 b1 hp3
    go_wp2
    go_loopw [7] (fun s7 wr => ∃ i : Nat, i ≤ T ∧ s7 = .int .i64 (i : Int) ∧ Hid (OwM wr w.heap.size 38 A1 T c1 ts) ∧ Hid (OwM wr w1.heap.size 45 A2 T c2 ts) ∧ Hid (Below w.heap.size w wr)) (fun s7 _ => T - (intOf s7).toNat)
    case atStart => exact ⟨0, Nat.zero_le _, rfl, o12, o2, b2⟩
    case round =>
      clear o12 o2 b2
      obtain ⟨i, hi, rfl, o1, o2, b⟩ := hrel
      by_cases hlt : i < T
      · have hiI : (i : Int) < (T : Int) := by omega
        have hi0 : (0 : Int) ≤ (i : Int) := by omega
        obtain ⟨g1, rfl, x1, y1⟩ := o1.out.cells i hlt
        obtain ⟨g2, rfl, x2, y2⟩ := o2.out.cells i hlt
        generalize (ts[i]'(by rw [o1.out.1]; exact hlt)).1 = q1 at *
        generalize (ts[i]'(by rw [o1.out.1]; exact hlt)).2 = q2 at *
        have hq1 : ((q1 : Int) != (q1 : Int)) = false := by simp
        go_wp2
        go_quiet (fail)
        go_wp2
        go_roundw
        case rel => exact ⟨i + 1, by omega, by go_num, hide (o1.out.below (below_drewN (Below.refl _ wr) _)), hide (o2.out.below (below_drewN (Below.refl _ wr) _)), hide (below_drewN b.out _)⟩
        case measure => simp [intOf] <;> omega
      · obtain rfl : i = T := by omega
        have hq1 := hide (hf1.out wr b.out)
        clear hf1 o1 o2
        go_wp2_with fail
        refine hq1.out.mono ?_
        rintro e w5 ⟨rfl, hb5⟩
        have hq2 := hide (hf2.out w5 (b.out.trans (hb5.mono b.out.size)))
        have b5 := hide (b.out.trans (hb5.mono b.out.size))
        clear hf2 hq1 b hb5
        go_wp2_with fail
        refine hq2.out.mono ?_
        rintro e w6 ⟨rfl, hb6⟩
        have b6 := hide (b5.out.trans (hb6.mono b5.out.size))
        clear hq2 b5 hb6
        obtain ⟨S, hS⟩ : ∃ S, w6.heap.size = S := ⟨_, rfl⟩
        obtain ⟨w7, hw7⟩ : ∃ W, w6.alloc (.cells #[.int .i64 0, .int .i64 0] 38) = W := ⟨_, rfl⟩
        have s7 : w7.heap.size = S + 1 := by rw [← hw7, ← hS]; simp
        obtain ⟨w8, hw8⟩ : ∃ W, w7.alloc (.cells #[.int .i64 0, .int .i64 0] 45) = W := ⟨_, rfl⟩
        have k8 : Blk w8 S 38 #[.int .i64 0, .int .i64 0] := by rw [← hw8, ← hw7, ← hS]; exact (Blk.new w6 _ _).alloc _
        have j8 : Blk w8 (S + 1) 45 #[.int .i64 0, .int .i64 0] := by rw [← hw8, ← s7]; exact Blk.new w7 _ _
        obtain ⟨w9, hw9⟩ : ∃ W, (w8.setCell ⟨S, 0, none⟩ (.int .i64 (v1 : Int))).setCell ⟨S, 1, none⟩ (.int .i64 (v2 : Int)) = W := ⟨_, rfl⟩
        have k9 : Blk w9 S 38 #[.int .i64 (v1 : Int), .int .i64 (v2 : Int)] := by rw [← hw9]; exact (k8.set 0 _).set 1 _
        have j9 : Blk w9 (S + 1) 45 #[.int .i64 0, .int .i64 0] := by rw [← hw9]; exact (j8.far (by simp) _).far (by simp) _
        obtain ⟨w10, hw10⟩ : ∃ W, (w9.setCell ⟨S + 1, 0, none⟩ (.int .i64 (v1 : Int))).setCell ⟨S + 1, 1, none⟩ (.int .i64 (v2 : Int)) = W := ⟨_, rfl⟩
        have k10 : Blk w10 S 38 #[.int .i64 (v1 : Int), .int .i64 (v2 : Int)] := by rw [← hw10]; exact (k9.far (by simp) _).far (by simp) _
        have j10 : Blk w10 (S + 1) 45 #[.int .i64 (v1 : Int), .int .i64 (v2 : Int)] := by rw [← hw10]; exact (j9.set 0 _).set 1 _
        have x80 : w8.cell? ⟨S, 0, none⟩ = some (.int .i64 0) := k8.cell 0
        have x81 : w8.cell? ⟨S, 1, none⟩ = some (.int .i64 0) := k8.cell 1
        have f80 : w8.frozen? ⟨S, 0, none⟩ = false := k8.free 0
        have f81 : w8.frozen? ⟨S, 1, none⟩ = false := k8.free 1
        have x90 : w9.cell? ⟨S + 1, 0, none⟩ = some (.int .i64 0) := j9.cell 0
        have x91 : w9.cell? ⟨S + 1, 1, none⟩ = some (.int .i64 0) := j9.cell 1
        have f90 : w9.frozen? ⟨S + 1, 0, none⟩ = false := j9.free 0
        have f91 : w9.frozen? ⟨S + 1, 1, none⟩ = false := j9.free 1
        have y0 : w10.cell? ⟨S, 0, none⟩ = some (.int .i64 (v1 : Int)) := k10.cell 0
        have y1 : w10.cell? ⟨S, 1, none⟩ = some (.int .i64 (v2 : Int)) := k10.cell 1
        have y2 : w10.cell? ⟨S + 1, 0, none⟩ = some (.int .i64 (v1 : Int)) := j10.cell 0
        have y3 : w10.cell? ⟨S + 1, 1, none⟩ = some (.int .i64 (v2 : Int)) := j10.cell 1
        have b10 := hide (show Below w.heap.size w w10 from by
          have h6 := b6.out
          have h7 : Below w6.heap.size w6 w10 := by
            rw [← hw10, ← hw9, ← hw8, ← hw7]
            exact ((((((Below.refl _ w6).alloc (Nat.le_refl _) _).alloc (by simp) _).setCell (by simp; omega) _).setCell (by simp; omega) _).setCell (by simp; omega) _).setCell (by simp; omega) _
          exact h6.trans (h7.mono h6.size))
        clear k8 j8 k9 j9 k10 j10 b6
        go_wp2_with (go_at_call 15; (with_reducible refine (hlive.out _).mono ?_); rintro e w11 ⟨rfl, hb11⟩; have hb11 := hide hb11)
        go_ret
        exact ⟨rfl, b10.out.trans (hb11.out.mono b10.out.size)⟩

end Go.Proofs.Ythplpoijkebjbaa
