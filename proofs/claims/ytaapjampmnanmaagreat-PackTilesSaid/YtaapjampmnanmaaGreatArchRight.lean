/- Layer 13 (arch): Right of any header: a walk. There is no condition but the numbers' bounds. -/
import Derived.Test.YtaapjampmnanmaaGreatArchK
namespace Go.Proofs.YtaapjampmnanmaaGreat
open Go.RowKit
set_option maxRecDepth 100000 in
set_option maxHeartbeats 4000000 in
theorem right_any (h : Hd) (n : Int) (w : World) (hn : n ≤ 9223372036854775807) (r : Int) (hR : RightR h n r) :
    Calls Tryz.prog 28 #[.agg h.cells, .int .i64 n] w fun e w' => e = .returned (.int .i64 r) ∧ Below w.heap.size w w' := by
  obtain ⟨uA, hA⟩ := ex_v (FormA h)
  obtain ⟨uB, hB⟩ := ex_v (FormB h)
  obtain ⟨uC, hC⟩ := ex_v (FormC h)
  obtain ⟨uD, hD⟩ := ex_v (FormD h n)
  obtain ⟨R1, R2, R3, R4, R5⟩ := hR
  obtain ⟨r0, r1, m0, m1, l0, l1, d0, d1, c0, c1, c2, cl, inn, out, kind, minz, maxz, minx, miny, maxx, maxy, cx, cy, at'⟩ := h
  unfold FormA FormB FormC FormD at *
  simp only at hA hB hC hD R1 R2 R3 R4 R5
  unfold Hd.cells
  simp only
  replace R1 := hide R1
  replace R2 := hide R2
  replace R3 := hide R3
  replace R4 := hide R4
  replace R5 := hide R5
  replace hA := hide hA
  replace hB := hide hB
  replace hC := hide hC
  replace hD := hide hD
  replace hn := hide hn
  have hpk := hide (fun z v hv W => pack_v z W v hv)
  have hzm := hide (fun z v hv W => zoom_v z W v hv)
  have hsp := hide (fun x y v hv W => spot_any x y W v hv)
  obtain ⟨B, hB0⟩ : ∃ B, w.heap.size = B := ⟨_, rfl⟩
  obtain ⟨w1, hw1⟩ : ∃ W, w.alloc (.cells #[.int .u64 (r0 : Int), .int .u64 (r1 : Int), .int .u64 (m0 : Int), .int .u64 (m1 : Int), .int .u64 (l0 : Int), .int .u64 (l1 : Int), .int .u64 (d0 : Int), .int .u64 (d1 : Int), .int .u64 (c0 : Int), .int .u64 (c1 : Int), .int .u64 (c2 : Int), .bool cl, .int .i64 inn, .int .i64 out, .int .i64 kind, .int .i64 minz, .int .i64 maxz, .int .i64 minx, .int .i64 miny, .int .i64 maxx, .int .i64 maxy, .int .i64 cx, .int .i64 cy, .int .i64 at'] 30) = W := ⟨_, rfl⟩
  have hk1 : Blk w1 B 30 #[.int .u64 (r0 : Int), .int .u64 (r1 : Int), .int .u64 (m0 : Int), .int .u64 (m1 : Int), .int .u64 (l0 : Int), .int .u64 (l1 : Int), .int .u64 (d0 : Int), .int .u64 (d1 : Int), .int .u64 (c0 : Int), .int .u64 (c1 : Int), .int .u64 (c2 : Int), .bool cl, .int .i64 inn, .int .i64 out, .int .i64 kind, .int .i64 minz, .int .i64 maxz, .int .i64 minx, .int .i64 miny, .int .i64 maxx, .int .i64 maxy, .int .i64 cx, .int .i64 cy, .int .i64 at'] := by rw [← hw1, ← hB0]; exact Blk.new w _ _
  have hb1 : Below B w w1 := by rw [← hw1, ← hB0]; exact (Below.refl _ w).alloc (Nat.le_refl _) _
  have e12 : w1.cell? ⟨B, 12, none⟩ = some (.int .i64 inn) := hk1.cell 12
  have e13 : w1.cell? ⟨B, 13, none⟩ = some (.int .i64 out) := hk1.cell 13
  have e14 : w1.cell? ⟨B, 14, none⟩ = some (.int .i64 kind) := hk1.cell 14
  have e15 : w1.cell? ⟨B, 15, none⟩ = some (.int .i64 minz) := hk1.cell 15
  have e16 : w1.cell? ⟨B, 16, none⟩ = some (.int .i64 maxz) := hk1.cell 16
  have e23 : w1.cell? ⟨B, 23, none⟩ = some (.int .i64 at') := hk1.cell 23
  have h6 := hide (fun W (hk : Blk W B 30 #[.int .u64 (r0 : Int), .int .u64 (r1 : Int), .int .u64 (m0 : Int), .int .u64 (m1 : Int), .int .u64 (l0 : Int), .int .u64 (l1 : Int), .int .u64 (d0 : Int), .int .u64 (d1 : Int), .int .u64 (c0 : Int), .int .u64 (c1 : Int), .int .u64 (c2 : Int), .bool cl, .int .i64 inn, .int .i64 out, .int .i64 kind, .int .i64 minz, .int .i64 maxz, .int .i64 minx, .int .i64 miny, .int .i64 maxx, .int .i64 maxy, .int .i64 cx, .int .i64 cy, .int .i64 at']) => (⟨hk.cell 17, hk.cell 18, hk.cell 19, hk.cell 20, hk.cell 21, hk.cell 22⟩ : W.cell? ⟨B, 17, none⟩ = some (.int .i64 minx) ∧ W.cell? ⟨B, 18, none⟩ = some (.int .i64 miny) ∧ W.cell? ⟨B, 19, none⟩ = some (.int .i64 maxx) ∧ W.cell? ⟨B, 20, none⟩ = some (.int .i64 maxy) ∧ W.cell? ⟨B, 21, none⟩ = some (.int .i64 cx) ∧ W.cell? ⟨B, 22, none⟩ = some (.int .i64 cy)))
  rw [hB0]
  replace hk1 := hide hk1
  replace hb1 := hide hb1
  go_enter Tryz.func28, Tryz.ntmps28
  go_upto_region 3 with fail
  replace hw1 := hide hw1
  replace hB0 := hide hB0
  go_cut [9] (fun s9 wx => s9 = .bool (!uA) ∧ wx = w1)
  case first =>
    obtain ⟨p1, hp1⟩ := ex_v (Pack inn)
    obtain ⟨p2, hp2⟩ := ex_v (Pack out)
    obtain ⟨p3, hp3⟩ := ex_v (kind = 1)
    have e := and3 hA.out hp1 hp2 hp3
    have q1 := hide (fun W => pack_v inn W p1 hp1)
    have q2 := hide (fun W => pack_v out W p2 hp2)
    subst e
    clear hp1 hp2
    cases p1 with
    | false =>
      go_wp2_with (go_at_call 58; (with_reducible refine (q1.out _).mono ?_); rintro e w' ⟨rfl, rfl⟩)
      go_meet
      exact ⟨rfl, rfl⟩
    | true =>
      cases p2 with
      | false =>
        go_wp2_with (first | (go_at_call 58; (with_reducible refine (q1.out _).mono ?_); rintro e w' ⟨rfl, rfl⟩) | (go_at_call 58; (with_reducible refine (q2.out _).mono ?_); rintro e w' ⟨rfl, rfl⟩))
        go_meet
        exact ⟨rfl, rfl⟩
      | true =>
        cases p3 with
        | false =>
          have hkk : (kind == 1) = false := by
            have h : kind ≠ 1 := fun h => absurd (hp3.1 h) (by decide)
            simp [h]
          clear hp3
          go_wp2_with (first | (go_at_call 58; (with_reducible refine (q1.out _).mono ?_); rintro e w' ⟨rfl, rfl⟩) | (go_at_call 58; (with_reducible refine (q2.out _).mono ?_); rintro e w' ⟨rfl, rfl⟩))
          go_meet
          exact ⟨by simp [bne, hkk], rfl⟩
        | true =>
          have hkk : (kind == 1) = true := by
            have h : kind = 1 := hp3.2 rfl
            simp [h]
          clear hp3
          go_wp2_with (first | (go_at_call 58; (with_reducible refine (q1.out _).mono ?_); rintro e w' ⟨rfl, rfl⟩) | (go_at_call 58; (with_reducible refine (q2.out _).mono ?_); rintro e w' ⟨rfl, rfl⟩))
          go_meet
          exact ⟨by simp [bne, hkk], rfl⟩
  case rest =>
    obtain ⟨rfl, rfl⟩ := hcut
    cases uA with
    | false =>
      obtain rfl : r = 3 := R1.out (fun h => absurd (hA.out.1 h) (by decide))
      go_wp2
      go_ret
      exact ⟨rfl, hb1.out⟩
    | true =>
      simp only [Bool.not_true]
      have hA' := hA.out.2 rfl
      replace R2 := hide (R2.out hA')
      replace R3 := hide (R3.out hA')
      replace R4 := hide (R4.out hA')
      replace R5 := hide (R5.out hA')
      clear R1 hA hA' hpk e12 e13 e14
      go_upto_region 5 with fail
      go_cut [27] (fun s27 wx => s27 = .bool (!uB) ∧ wx = wc)
      case first =>
        obtain ⟨p1, hp1⟩ := ex_v (Zoom minz)
        obtain ⟨p2, hp2⟩ := ex_v (Zoom maxz)
        obtain ⟨p3, hp3⟩ := ex_v (Zoom at')
        obtain ⟨p4, hp4⟩ := ex_v (minz ≤ maxz)
        have e := and4 hB.out hp1 hp2 hp3 hp4
        have q1 := hide (fun W => zoom_v minz W p1 hp1)
        have q2 := hide (fun W => zoom_v maxz W p2 hp2)
        have q3 := hide (fun W => zoom_v at' W p3 hp3)
        subst e
        clear hp1 hp2 hp3
        cases p1 with
        | false =>
          go_wp2_with (go_at_call 57; (with_reducible refine (q1.out _).mono ?_); rintro e w' ⟨rfl, rfl⟩)
          go_meet
          exact ⟨rfl, rfl⟩
        | true =>
          cases p2 with
          | false =>
            go_wp2_with (first | (go_at_call 57; (with_reducible refine (q1.out _).mono ?_); rintro e w' ⟨rfl, rfl⟩) | (go_at_call 57; (with_reducible refine (q2.out _).mono ?_); rintro e w' ⟨rfl, rfl⟩))
            go_meet
            exact ⟨rfl, rfl⟩
          | true =>
            cases p3 with
            | false =>
              go_wp2_with (first | (go_at_call 57; (with_reducible refine (q1.out _).mono ?_); rintro e w' ⟨rfl, rfl⟩) | (go_at_call 57; (with_reducible refine (q2.out _).mono ?_); rintro e w' ⟨rfl, rfl⟩) | (go_at_call 57; (with_reducible refine (q3.out _).mono ?_); rintro e w' ⟨rfl, rfl⟩))
              go_meet
              exact ⟨rfl, rfl⟩
            | true =>
              cases p4 with
              | false =>
                have hlt : maxz < minz := by
                  have h : ¬ minz ≤ maxz := fun h => absurd (hp4.1 h) (by decide)
                  omega
                clear hp4
                go_wp2_with (first | (go_at_call 57; (with_reducible refine (q1.out _).mono ?_); rintro e w' ⟨rfl, rfl⟩) | (go_at_call 57; (with_reducible refine (q2.out _).mono ?_); rintro e w' ⟨rfl, rfl⟩) | (go_at_call 57; (with_reducible refine (q3.out _).mono ?_); rintro e w' ⟨rfl, rfl⟩))
                go_meet
                exact ⟨by first | rfl | (simp; done) | (simp; omega), rfl⟩
              | true =>
                have hle : minz ≤ maxz := hp4.2 rfl
                clear hp4
                go_wp2_with (first | (go_at_call 57; (with_reducible refine (q1.out _).mono ?_); rintro e w' ⟨rfl, rfl⟩) | (go_at_call 57; (with_reducible refine (q2.out _).mono ?_); rintro e w' ⟨rfl, rfl⟩) | (go_at_call 57; (with_reducible refine (q3.out _).mono ?_); rintro e w' ⟨rfl, rfl⟩))
                go_meet
                exact ⟨by first | rfl | (simp; done) | (simp; omega), rfl⟩
      case rest =>
        obtain ⟨rfl, rfl⟩ := hcut
        cases uB with
        | false =>
          obtain rfl : r = 3 := R2.out (fun h => absurd (hB.out.1 h) (by decide))
          go_wp2
          go_ret
          exact ⟨rfl, hb1.out⟩
        | true =>
          simp only [Bool.not_true]
          have hB' := hB.out.2 rfl
          replace R3 := hide (R3.out hB')
          replace R4 := hide (R4.out hB')
          replace R5 := hide (R5.out hB')
          clear R2 hB hB' hzm e15 e16 e23
          go_upto_region 7 with fail
          obtain ⟨f10, f11, f12, f13, f14, f15⟩ := h6.out _ hk1.out
          go_cut [54] (fun s54 wx => s54 = .bool (!uC) ∧ Hid (Blk wx B 30 #[.int .u64 (r0 : Int), .int .u64 (r1 : Int), .int .u64 (m0 : Int), .int .u64 (m1 : Int), .int .u64 (l0 : Int), .int .u64 (l1 : Int), .int .u64 (d0 : Int), .int .u64 (d1 : Int), .int .u64 (c0 : Int), .int .u64 (c1 : Int), .int .u64 (c2 : Int), .bool cl, .int .i64 inn, .int .i64 out, .int .i64 kind, .int .i64 minz, .int .i64 maxz, .int .i64 minx, .int .i64 miny, .int .i64 maxx, .int .i64 maxy, .int .i64 cx, .int .i64 cy, .int .i64 at']) ∧ Hid (Below B w wx))
          case first =>
            obtain ⟨p1, hp1⟩ := ex_v (Spot minx miny)
            obtain ⟨p2, hp2⟩ := ex_v (Spot maxx maxy)
            obtain ⟨p3, hp3⟩ := ex_v (Spot cx cy)
            obtain ⟨p4, hp4⟩ := ex_v (minx ≤ maxx)
            obtain ⟨p5, hp5⟩ := ex_v (miny ≤ maxy)
            have e := and5 hC.out hp1 hp2 hp3 hp4 hp5
            have q1 := hide (fun W => spot_any minx miny W p1 hp1)
            have q2 := hide (fun W => spot_any maxx maxy W p2 hp2)
            have q3 := hide (fun W => spot_any cx cy W p3 hp3)
            subst e
            clear hp1 hp2 hp3
            cases p1 with
            | false =>
              go_wp2_with (first | (go_at_call 59; (with_reducible refine (q1.out _).mono ?_); rintro e w2 ⟨rfl, hx2⟩; have hk2 := hide (hk1.out.below hx2 hk1.out.lt); have hb2 := hide (hb1.out.trans (hx2.mono (Nat.le_of_lt hk1.out.lt))); obtain ⟨f20, f21, f22, f23, f24, f25⟩ := h6.out _ hk2.out; clear hx2))
              go_meet
              exact ⟨by first | rfl | (simp; done) | (simp; omega), hk2, hb2⟩
            | true =>
              cases p2 with
              | false =>
                go_wp2_with (first | (go_at_call 59; (with_reducible refine (q1.out _).mono ?_); rintro e w2 ⟨rfl, hx2⟩; have hk2 := hide (hk1.out.below hx2 hk1.out.lt); have hb2 := hide (hb1.out.trans (hx2.mono (Nat.le_of_lt hk1.out.lt))); obtain ⟨f20, f21, f22, f23, f24, f25⟩ := h6.out _ hk2.out; clear hx2) | (go_at_call 59; (with_reducible refine (q2.out _).mono ?_); rintro e w3 ⟨rfl, hx3⟩; have hk3 := hide (hk2.out.below hx3 hk2.out.lt); have hb3 := hide (hb2.out.trans (hx3.mono (Nat.le_of_lt hk2.out.lt))); obtain ⟨f30, f31, f32, f33, f34, f35⟩ := h6.out _ hk3.out; clear hx3))
                go_meet
                exact ⟨by first | rfl | (simp; done) | (simp; omega), hk3, hb3⟩
              | true =>
                cases p3 with
                | false =>
                  go_wp2_with (first | (go_at_call 59; (with_reducible refine (q1.out _).mono ?_); rintro e w2 ⟨rfl, hx2⟩; have hk2 := hide (hk1.out.below hx2 hk1.out.lt); have hb2 := hide (hb1.out.trans (hx2.mono (Nat.le_of_lt hk1.out.lt))); obtain ⟨f20, f21, f22, f23, f24, f25⟩ := h6.out _ hk2.out; clear hx2) | (go_at_call 59; (with_reducible refine (q2.out _).mono ?_); rintro e w3 ⟨rfl, hx3⟩; have hk3 := hide (hk2.out.below hx3 hk2.out.lt); have hb3 := hide (hb2.out.trans (hx3.mono (Nat.le_of_lt hk2.out.lt))); obtain ⟨f30, f31, f32, f33, f34, f35⟩ := h6.out _ hk3.out; clear hx3) | (go_at_call 59; (with_reducible refine (q3.out _).mono ?_); rintro e w4 ⟨rfl, hx4⟩; have hk4 := hide (hk3.out.below hx4 hk3.out.lt); have hb4 := hide (hb3.out.trans (hx4.mono (Nat.le_of_lt hk3.out.lt))); obtain ⟨f40, f41, f42, f43, f44, f45⟩ := h6.out _ hk4.out; clear hx4))
                  go_meet
                  exact ⟨by first | rfl | (simp; done) | (simp; omega), hk4, hb4⟩
                | true =>
                  cases p4 with
                  | false =>
                    have hlt : maxx < minx := by
                      have h : ¬ minx ≤ maxx := fun h => absurd (hp4.1 h) (by decide)
                      omega
                    clear hp4 hp5
                    go_wp2_with (first | (go_at_call 59; (with_reducible refine (q1.out _).mono ?_); rintro e w2 ⟨rfl, hx2⟩; have hk2 := hide (hk1.out.below hx2 hk1.out.lt); have hb2 := hide (hb1.out.trans (hx2.mono (Nat.le_of_lt hk1.out.lt))); obtain ⟨f20, f21, f22, f23, f24, f25⟩ := h6.out _ hk2.out; clear hx2) | (go_at_call 59; (with_reducible refine (q2.out _).mono ?_); rintro e w3 ⟨rfl, hx3⟩; have hk3 := hide (hk2.out.below hx3 hk2.out.lt); have hb3 := hide (hb2.out.trans (hx3.mono (Nat.le_of_lt hk2.out.lt))); obtain ⟨f30, f31, f32, f33, f34, f35⟩ := h6.out _ hk3.out; clear hx3) | (go_at_call 59; (with_reducible refine (q3.out _).mono ?_); rintro e w4 ⟨rfl, hx4⟩; have hk4 := hide (hk3.out.below hx4 hk3.out.lt); have hb4 := hide (hb3.out.trans (hx4.mono (Nat.le_of_lt hk3.out.lt))); obtain ⟨f40, f41, f42, f43, f44, f45⟩ := h6.out _ hk4.out; clear hx4))
                    go_meet
                    exact ⟨by first | rfl | (simp; done) | (simp; omega), hk4, hb4⟩
                  | true =>
                    have hle : minx ≤ maxx := hp4.2 rfl
                    cases p5 with
                    | false =>
                      have hlt : maxy < miny := by
                        have h : ¬ miny ≤ maxy := fun h => absurd (hp5.1 h) (by decide)
                        omega
                      clear hp4 hp5
                      go_wp2_with (first | (go_at_call 59; (with_reducible refine (q1.out _).mono ?_); rintro e w2 ⟨rfl, hx2⟩; have hk2 := hide (hk1.out.below hx2 hk1.out.lt); have hb2 := hide (hb1.out.trans (hx2.mono (Nat.le_of_lt hk1.out.lt))); obtain ⟨f20, f21, f22, f23, f24, f25⟩ := h6.out _ hk2.out; clear hx2) | (go_at_call 59; (with_reducible refine (q2.out _).mono ?_); rintro e w3 ⟨rfl, hx3⟩; have hk3 := hide (hk2.out.below hx3 hk2.out.lt); have hb3 := hide (hb2.out.trans (hx3.mono (Nat.le_of_lt hk2.out.lt))); obtain ⟨f30, f31, f32, f33, f34, f35⟩ := h6.out _ hk3.out; clear hx3) | (go_at_call 59; (with_reducible refine (q3.out _).mono ?_); rintro e w4 ⟨rfl, hx4⟩; have hk4 := hide (hk3.out.below hx4 hk3.out.lt); have hb4 := hide (hb3.out.trans (hx4.mono (Nat.le_of_lt hk3.out.lt))); obtain ⟨f40, f41, f42, f43, f44, f45⟩ := h6.out _ hk4.out; clear hx4))
                      go_meet
                      exact ⟨by first | rfl | (simp; done) | (simp; omega), hk4, hb4⟩
                    | true =>
                      have hle2 : miny ≤ maxy := hp5.2 rfl
                      clear hp4 hp5
                      go_wp2_with (first | (go_at_call 59; (with_reducible refine (q1.out _).mono ?_); rintro e w2 ⟨rfl, hx2⟩; have hk2 := hide (hk1.out.below hx2 hk1.out.lt); have hb2 := hide (hb1.out.trans (hx2.mono (Nat.le_of_lt hk1.out.lt))); obtain ⟨f20, f21, f22, f23, f24, f25⟩ := h6.out _ hk2.out; clear hx2) | (go_at_call 59; (with_reducible refine (q2.out _).mono ?_); rintro e w3 ⟨rfl, hx3⟩; have hk3 := hide (hk2.out.below hx3 hk2.out.lt); have hb3 := hide (hb2.out.trans (hx3.mono (Nat.le_of_lt hk2.out.lt))); obtain ⟨f30, f31, f32, f33, f34, f35⟩ := h6.out _ hk3.out; clear hx3) | (go_at_call 59; (with_reducible refine (q3.out _).mono ?_); rintro e w4 ⟨rfl, hx4⟩; have hk4 := hide (hk3.out.below hx4 hk3.out.lt); have hb4 := hide (hb3.out.trans (hx4.mono (Nat.le_of_lt hk3.out.lt))); obtain ⟨f40, f41, f42, f43, f44, f45⟩ := h6.out _ hk4.out; clear hx4))
                      go_meet
                      exact ⟨by first | rfl | (simp; done) | (simp; omega), hk4, hb4⟩
          case rest =>
            obtain ⟨rfl, hk, hb⟩ := hcut
            clear f10 f11 f12 f13 f14 f15 hk1 hb1 hw1 h6 hsp
            cases uC with
            | false =>
              obtain rfl : r = 3 := R3.out (fun h => absurd (hC.out.1 h) (by decide))
              go_wp2
              go_ret
              exact ⟨rfl, hb.out⟩
            | true =>
              simp only [Bool.not_true]
              have hC' := hC.out.2 rfl
              replace R4 := hide (R4.out hC')
              replace R5 := hide (R5.out hC')
              clear R3 hC hC'
              have g0 : wc.cell? ⟨B, 0, none⟩ = some (.int .u64 (r0 : Int)) := hk.out.cell 0
              have g1 : wc.cell? ⟨B, 1, none⟩ = some (.int .u64 (r1 : Int)) := hk.out.cell 1
              have g2 : wc.cell? ⟨B, 2, none⟩ = some (.int .u64 (m0 : Int)) := hk.out.cell 2
              have g3 : wc.cell? ⟨B, 3, none⟩ = some (.int .u64 (m1 : Int)) := hk.out.cell 3
              have g4 : wc.cell? ⟨B, 4, none⟩ = some (.int .u64 (l0 : Int)) := hk.out.cell 4
              have g5 : wc.cell? ⟨B, 5, none⟩ = some (.int .u64 (l1 : Int)) := hk.out.cell 5
              have g6 : wc.cell? ⟨B, 6, none⟩ = some (.int .u64 (d0 : Int)) := hk.out.cell 6
              have g7 : wc.cell? ⟨B, 7, none⟩ = some (.int .u64 (d1 : Int)) := hk.out.cell 7
              obtain ⟨N, hN⟩ : ∃ N, n.toNat = N := ⟨_, rfl⟩
              have hmax : (if n < 0 then (0 : Int) else n) = (N : Int) := by split <;> omega
              have hNb : N ≤ 9223372036854775807 := by have := hn.out; omega
              have hNW : IntKind.u64.wrap (N : Int) = (N : Int) := by rw [IntKind.wrap_u64]; omega
              rw [hN] at hD R4 R5
              obtain ⟨p1, hp1⟩ := ex_v (Within r0 r1 N)
              obtain ⟨p2, hp2⟩ := ex_v (Within m0 m1 N)
              obtain ⟨p3, hp3⟩ := ex_v (Within l0 l1 N)
              obtain ⟨p4, hp4⟩ := ex_v (Within d0 d1 N)
              have q1 := hide (fun W => within_v r0 r1 N W (by omega) p1 hp1)
              have q2 := hide (fun W => within_v m0 m1 N W (by omega) p2 hp2)
              have q3 := hide (fun W => within_v l0 l1 N W (by omega) p3 hp3)
              have q4 := hide (fun W => within_v d0 d1 N W (by omega) p4 hp4)
              have x1 := hide (fun h : p1 = false => R4.out (fun hh => absurd (hp1.1 hh.1) (by rw [h]; decide)))
              have x2 := hide (fun h : p2 = false => R4.out (fun hh => absurd (hp2.1 hh.2.1) (by rw [h]; decide)))
              have x3 := hide (fun h : p3 = false => R4.out (fun hh => absurd (hp3.1 hh.2.2.1) (by rw [h]; decide)))
              have x4 := hide (fun h : p4 = false => R4.out (fun hh => absurd (hp4.1 hh.2.2.2) (by rw [h]; decide)))
              have x5 := hide (fun (a1 : p1 = true) (a2 : p2 = true) (a3 : p3 = true) (a4 : p4 = true) => R5.out ⟨hp1.2 a1, hp2.2 a2, hp3.2 a3, hp4.2 a4⟩)
              obtain ⟨S, hS⟩ : ∃ S, wc.heap.size = S := ⟨_, rfl⟩
              obtain ⟨w5, hw5⟩ : ∃ W, wc.alloc (.cells #[.int .u64 (r0 : Int), .int .u64 (r1 : Int), .int .u64 (m0 : Int), .int .u64 (m1 : Int), .int .u64 (l0 : Int), .int .u64 (l1 : Int), .int .u64 (d0 : Int), .int .u64 (d1 : Int)] 25) = W := ⟨_, rfl⟩
              have hkS : Blk w5 S 25 #[.int .u64 (r0 : Int), .int .u64 (r1 : Int), .int .u64 (m0 : Int), .int .u64 (m1 : Int), .int .u64 (l0 : Int), .int .u64 (l1 : Int), .int .u64 (d0 : Int), .int .u64 (d1 : Int)] := by rw [← hw5, ← hS]; exact Blk.new wc _ _
              have hb5 : Below B w w5 := by rw [← hw5]; exact hb.out.alloc (Nat.le_of_lt hk.out.lt) _
              have hBS : B < S := by rw [← hS]; exact hk.out.lt
              clear hp1 hp2 hp3 hp4 R4 R5 hD hN hn hk
              replace hkS := hide hkS
              replace hb5 := hide hb5
              replace hBS := hide hBS
              go_wp2
              go_loopw [99] (fun s99 wr => ∃ k : Nat, k ≤ 4 ∧ s99 = .int .i64 (k : Int) ∧ Hid ((1 ≤ k → p1 = true) ∧ (2 ≤ k → p2 = true) ∧ (3 ≤ k → p3 = true) ∧ (4 ≤ k → p4 = true)) ∧ Hid (Blk wr S 25 #[.int .u64 (r0 : Int), .int .u64 (r1 : Int), .int .u64 (m0 : Int), .int .u64 (m1 : Int), .int .u64 (l0 : Int), .int .u64 (l1 : Int), .int .u64 (d0 : Int), .int .u64 (d1 : Int)]) ∧ Hid (Below B w wr)) (fun s99 _ => 4 - (intOf s99).toNat)
              case atStart => exact ⟨0, by omega, rfl, hide ⟨fun h => absurd h (by decide), fun h => absurd h (by decide), fun h => absurd h (by decide), fun h => absurd h (by decide)⟩, hkS, hb5⟩
              case round =>
                obtain ⟨k, hk4, rfl, hps, hkr, hbr⟩ := hrel
                have hSr := hide hkr.out.lt
                rcases (show k = 0 ∨ k = 1 ∨ k = 2 ∨ k = 3 ∨ k = 4 by omega) with rfl | rfl | rfl | rfl | rfl
                · have y0 : wr.cell? ⟨S, 0, none⟩ = some (.int .u64 (r0 : Int)) := hkr.out.cell 0
                  have y1 : wr.cell? ⟨S, 1, none⟩ = some (.int .u64 (r1 : Int)) := hkr.out.cell 1
                  cases p1 with
                  | false =>
                    obtain rfl : r = 8 := x1.out rfl
                    go_wp2_with (go_at_call 30; (with_reducible refine (q1.out _).mono ?_); rintro e w' ⟨rfl, rfl⟩)
                    go_ret
                    exact ⟨rfl, hbr.out.alloc (by have := hBS.out; have := hSr.out; omega) _⟩
                  | true =>
                    have hps2 : Hid ((1 ≤ 1 → true = true) ∧ (2 ≤ 1 → p2 = true) ∧ (3 ≤ 1 → p3 = true) ∧ (4 ≤ 1 → p4 = true)) := hide ⟨fun _ => rfl, fun h => absurd h (by decide), fun h => absurd h (by decide), fun h => absurd h (by decide)⟩
                    go_wp2_with (go_at_call 30; (with_reducible refine (q1.out _).mono ?_); rintro e w' ⟨rfl, rfl⟩)
                    go_roundw
                    case rel => exact ⟨1, by omega, by go_num, hps2, hide (hkr.out.alloc _), hide (hbr.out.alloc (by have := hBS.out; have := hSr.out; omega) _)⟩
                    case measure => simp [intOf] <;> omega
                · have y0 : wr.cell? ⟨S, 2, none⟩ = some (.int .u64 (m0 : Int)) := hkr.out.cell 2
                  have y1 : wr.cell? ⟨S, 3, none⟩ = some (.int .u64 (m1 : Int)) := hkr.out.cell 3
                  cases p2 with
                  | false =>
                    obtain rfl : r = 8 := x2.out rfl
                    go_wp2_with (go_at_call 30; (with_reducible refine (q2.out _).mono ?_); rintro e w' ⟨rfl, rfl⟩)
                    go_ret
                    exact ⟨rfl, hbr.out.alloc (by have := hBS.out; have := hSr.out; omega) _⟩
                  | true =>
                    have hps2 : Hid ((1 ≤ 2 → p1 = true) ∧ (2 ≤ 2 → true = true) ∧ (3 ≤ 2 → p3 = true) ∧ (4 ≤ 2 → p4 = true)) := hide ⟨fun _ => hps.out.1 (by decide), fun _ => rfl, fun h => absurd h (by decide), fun h => absurd h (by decide)⟩
                    go_wp2_with (go_at_call 30; (with_reducible refine (q2.out _).mono ?_); rintro e w' ⟨rfl, rfl⟩)
                    go_roundw
                    case rel => exact ⟨2, by omega, by go_num, hps2, hide (hkr.out.alloc _), hide (hbr.out.alloc (by have := hBS.out; have := hSr.out; omega) _)⟩
                    case measure => simp [intOf] <;> omega
                · have y0 : wr.cell? ⟨S, 4, none⟩ = some (.int .u64 (l0 : Int)) := hkr.out.cell 4
                  have y1 : wr.cell? ⟨S, 5, none⟩ = some (.int .u64 (l1 : Int)) := hkr.out.cell 5
                  cases p3 with
                  | false =>
                    obtain rfl : r = 8 := x3.out rfl
                    go_wp2_with (go_at_call 30; (with_reducible refine (q3.out _).mono ?_); rintro e w' ⟨rfl, rfl⟩)
                    go_ret
                    exact ⟨rfl, hbr.out.alloc (by have := hBS.out; have := hSr.out; omega) _⟩
                  | true =>
                    have hps2 : Hid ((1 ≤ 3 → p1 = true) ∧ (2 ≤ 3 → p2 = true) ∧ (3 ≤ 3 → true = true) ∧ (4 ≤ 3 → p4 = true)) := hide ⟨fun _ => hps.out.1 (by decide), fun _ => hps.out.2.1 (by decide), fun _ => rfl, fun h => absurd h (by decide)⟩
                    go_wp2_with (go_at_call 30; (with_reducible refine (q3.out _).mono ?_); rintro e w' ⟨rfl, rfl⟩)
                    go_roundw
                    case rel => exact ⟨3, by omega, by go_num, hps2, hide (hkr.out.alloc _), hide (hbr.out.alloc (by have := hBS.out; have := hSr.out; omega) _)⟩
                    case measure => simp [intOf] <;> omega
                · have y0 : wr.cell? ⟨S, 6, none⟩ = some (.int .u64 (d0 : Int)) := hkr.out.cell 6
                  have y1 : wr.cell? ⟨S, 7, none⟩ = some (.int .u64 (d1 : Int)) := hkr.out.cell 7
                  cases p4 with
                  | false =>
                    obtain rfl : r = 8 := x4.out rfl
                    go_wp2_with (go_at_call 30; (with_reducible refine (q4.out _).mono ?_); rintro e w' ⟨rfl, rfl⟩)
                    go_ret
                    exact ⟨rfl, hbr.out.alloc (by have := hBS.out; have := hSr.out; omega) _⟩
                  | true =>
                    have hps2 : Hid ((1 ≤ 4 → p1 = true) ∧ (2 ≤ 4 → p2 = true) ∧ (3 ≤ 4 → p3 = true) ∧ (4 ≤ 4 → true = true)) := hide ⟨fun _ => hps.out.1 (by decide), fun _ => hps.out.2.1 (by decide), fun _ => hps.out.2.2.1 (by decide), fun _ => rfl⟩
                    go_wp2_with (go_at_call 30; (with_reducible refine (q4.out _).mono ?_); rintro e w' ⟨rfl, rfl⟩)
                    go_roundw
                    case rel => exact ⟨4, by omega, by go_num, hps2, hide (hkr.out.alloc _), hide (hbr.out.alloc (by have := hBS.out; have := hSr.out; omega) _)⟩
                    case measure => simp [intOf] <;> omega
                · obtain rfl : r = 0 := x5.out (hps.out.1 (by decide)) (hps.out.2.1 (by decide)) (hps.out.2.2.1 (by decide)) (hps.out.2.2.2 (by decide))
                  go_wp2
                  go_ret
                  exact ⟨rfl, hbr.out⟩
end Go.Proofs.YtaapjampmnanmaaGreat
