/- Layer 13 (arch): the document's Right of any header: a walk. There is no condition but the numbers' bounds. -/
import Derived.Test.YtaapjampmnanmaaGreatArchK
namespace Go.Proofs.YtaapjampmnanmaaGreat
open Go.RowKit

set_option maxRecDepth 100000 in
set_option maxHeartbeats 4000000 in
theorem rright_any (h : Hd) (n : Int) (w : World) (hn : n ≤ 9223372036854775807) (r : Int) (hR : RightR h n r) :
    Calls Tryz.prog 49 #[.agg h.cells, .int .i64 n] w fun e w' => e = .returned (.int .i64 r) ∧ Below w.heap.size w w' := by
  obtain ⟨uA, hA⟩ := ex_v (FormA h)
  obtain ⟨uB, hB⟩ := ex_v (FormB h)
  obtain ⟨uC, hC⟩ := ex_v (FormC h)
  obtain ⟨uD, hD⟩ := ex_v (FormD h n)
  obtain ⟨R1, R2, R3, R4, R5⟩ := hR
  obtain ⟨r0, r1, m0, m1, l0, l1, d0, d1, c0, c1, c2, cl, inn, out, kind, minz, maxz, minx, miny, maxx, maxy, cx, cy, at'⟩ := h
  unfold FormA FormB FormC FormD at *
  simp only at hA hB hC hD R1 R2 R3 R4 R5
  unfold Hd.cells
  simp only
  have hA5 : (1 ≤ inn ∧ inn ≤ 2 ∧ 1 ≤ out ∧ out ≤ 2 ∧ kind = 1) ↔ uA = true := by
    rw [← hA]
    unfold Pack
    constructor <;> intro h <;> omega
  have hB5 : (0 ≤ minz ∧ minz ≤ maxz ∧ maxz ≤ 30 ∧ 0 ≤ at' ∧ at' ≤ 30) ↔ uB = true := by
    rw [← hB]
    unfold Zoom
    constructor <;> intro h <;> omega
  replace R1 := hide R1
  replace R2 := hide R2
  replace R3 := hide R3
  replace R4 := hide R4
  replace R5 := hide R5
  replace hA := hide hA
  replace hB := hide hB
  replace hC := hide hC
  replace hD := hide hD
  replace hA5 := hide hA5
  replace hB5 := hide hB5
  replace hn := hide hn
  obtain ⟨B, hB0⟩ : ∃ B, w.heap.size = B := ⟨_, rfl⟩
  obtain ⟨w1, hw1⟩ : ∃ W, w.alloc (.cells #[.int .u64 (r0 : Int), .int .u64 (r1 : Int), .int .u64 (m0 : Int), .int .u64 (m1 : Int), .int .u64 (l0 : Int), .int .u64 (l1 : Int), .int .u64 (d0 : Int), .int .u64 (d1 : Int), .int .u64 (c0 : Int), .int .u64 (c1 : Int), .int .u64 (c2 : Int), .bool cl, .int .i64 inn, .int .i64 out, .int .i64 kind, .int .i64 minz, .int .i64 maxz, .int .i64 minx, .int .i64 miny, .int .i64 maxx, .int .i64 maxy, .int .i64 cx, .int .i64 cy, .int .i64 at'] 30) = W := ⟨_, rfl⟩
  have hk1 : Blk w1 B 30 #[.int .u64 (r0 : Int), .int .u64 (r1 : Int), .int .u64 (m0 : Int), .int .u64 (m1 : Int), .int .u64 (l0 : Int), .int .u64 (l1 : Int), .int .u64 (d0 : Int), .int .u64 (d1 : Int), .int .u64 (c0 : Int), .int .u64 (c1 : Int), .int .u64 (c2 : Int), .bool cl, .int .i64 inn, .int .i64 out, .int .i64 kind, .int .i64 minz, .int .i64 maxz, .int .i64 minx, .int .i64 miny, .int .i64 maxx, .int .i64 maxy, .int .i64 cx, .int .i64 cy, .int .i64 at'] := by rw [← hw1, ← hB0]; exact Blk.new w _ _
  have hb1 : Below B w w1 := by rw [← hw1, ← hB0]; exact (Below.refl _ w).alloc (Nat.le_refl _) _
  have e12 : w1.cell? ⟨B, 12, none⟩ = some (.int .i64 inn) := hk1.cell 12
  have e13 : w1.cell? ⟨B, 13, none⟩ = some (.int .i64 out) := hk1.cell 13
  have e14 : w1.cell? ⟨B, 14, none⟩ = some (.int .i64 kind) := hk1.cell 14
  have e15 : w1.cell? ⟨B, 15, none⟩ = some (.int .i64 minz) := hk1.cell 15
  have e16 : w1.cell? ⟨B, 16, none⟩ = some (.int .i64 maxz) := hk1.cell 16
  have e23 : w1.cell? ⟨B, 23, none⟩ = some (.int .i64 at') := hk1.cell 23
  have h6 := hide (fun W (hk : Blk W B 30 #[.int .u64 (r0 : Int), .int .u64 (r1 : Int), .int .u64 (m0 : Int), .int .u64 (m1 : Int), .int .u64 (l0 : Int), .int .u64 (l1 : Int), .int .u64 (d0 : Int), .int .u64 (d1 : Int), .int .u64 (c0 : Int), .int .u64 (c1 : Int), .int .u64 (c2 : Int), .bool cl, .int .i64 inn, .int .i64 out, .int .i64 kind, .int .i64 minz, .int .i64 maxz, .int .i64 minx, .int .i64 miny, .int .i64 maxx, .int .i64 maxy, .int .i64 cx, .int .i64 cy, .int .i64 at']) => (⟨hk.cell 17, hk.cell 18, hk.cell 19, hk.cell 20, hk.cell 21, hk.cell 22⟩ : W.cell? ⟨B, 17, none⟩ = some (.int .i64 minx) ∧ W.cell? ⟨B, 18, none⟩ = some (.int .i64 miny) ∧ W.cell? ⟨B, 19, none⟩ = some (.int .i64 maxx) ∧ W.cell? ⟨B, 20, none⟩ = some (.int .i64 maxy) ∧ W.cell? ⟨B, 21, none⟩ = some (.int .i64 cx) ∧ W.cell? ⟨B, 22, none⟩ = some (.int .i64 cy)))
  rw [hB0]
  replace hk1 := hide hk1
  replace hb1 := hide hb1
  go_enter Tryz.func49, Tryz.ntmps49
  go_upto_region 1 with fail
  replace hw1 := hide hw1
  replace hB0 := hide hB0
  go_cut [28] (fun s28 wx => s28 = .bool (!uA) ∧ wx = w1)
  case first =>
    obtain ⟨p1, hp1⟩ := ex_v (1 ≤ inn)
    obtain ⟨p2, hp2⟩ := ex_v (inn ≤ 2)
    obtain ⟨p3, hp3⟩ := ex_v (1 ≤ out)
    obtain ⟨p4, hp4⟩ := ex_v (out ≤ 2)
    obtain ⟨p5, hp5⟩ := ex_v (kind = 1)
    have e := and5 hA5.out hp1 hp2 hp3 hp4 hp5
    subst e
    cases p1 with
    | false =>
      have hf1 : inn < 1 := by
        have h : ¬ (1 ≤ inn) := fun h => absurd (hp1.1 h) (by decide)
        first | omega | simp [h]
      clear hp1 hp2 hp3 hp4 hp5
      go_wp2
      go_meet
      exact ⟨by first | rfl | (simp; done) | (simp; omega) | (simp [bne, hkk]; done) | (simp [bne, hkk]; omega), rfl⟩
    | true =>
      have ht1 : 1 ≤ inn := by
        have h : 1 ≤ inn := hp1.2 rfl
        first | omega | simp [h]
      clear hp1
      cases p2 with
      | false =>
        have hf2 : 2 < inn := by
          have h : ¬ (inn ≤ 2) := fun h => absurd (hp2.1 h) (by decide)
          first | omega | simp [h]
        clear hp2 hp3 hp4 hp5
        go_wp2
        go_meet
        exact ⟨by first | rfl | (simp; done) | (simp; omega) | (simp [bne, hkk]; done) | (simp [bne, hkk]; omega), rfl⟩
      | true =>
        have ht2 : inn ≤ 2 := by
          have h : inn ≤ 2 := hp2.2 rfl
          first | omega | simp [h]
        clear hp2
        cases p3 with
        | false =>
          have hf3 : out < 1 := by
            have h : ¬ (1 ≤ out) := fun h => absurd (hp3.1 h) (by decide)
            first | omega | simp [h]
          clear hp3 hp4 hp5
          go_wp2
          go_meet
          exact ⟨by first | rfl | (simp; done) | (simp; omega) | (simp [bne, hkk]; done) | (simp [bne, hkk]; omega), rfl⟩
        | true =>
          have ht3 : 1 ≤ out := by
            have h : 1 ≤ out := hp3.2 rfl
            first | omega | simp [h]
          clear hp3
          cases p4 with
          | false =>
            have hf4 : 2 < out := by
              have h : ¬ (out ≤ 2) := fun h => absurd (hp4.1 h) (by decide)
              first | omega | simp [h]
            clear hp4 hp5
            go_wp2
            go_meet
            exact ⟨by first | rfl | (simp; done) | (simp; omega) | (simp [bne, hkk]; done) | (simp [bne, hkk]; omega), rfl⟩
          | true =>
            have ht4 : out ≤ 2 := by
              have h : out ≤ 2 := hp4.2 rfl
              first | omega | simp [h]
            clear hp4
            cases p5 with
            | false =>
              have hf5 : (kind == 1) = false := by
                have h : ¬ (kind = 1) := fun h => absurd (hp5.1 h) (by decide)
                first | omega | simp [h]
              clear hp5
              have hkk := hf5
              go_wp2
              go_meet
              exact ⟨by first | rfl | (simp; done) | (simp; omega) | (simp [bne, hkk]; done) | (simp [bne, hkk]; omega), rfl⟩
            | true =>
              have ht5 : (kind == 1) = true := by
                have h : kind = 1 := hp5.2 rfl
                first | omega | simp [h]
              have hkk := ht5
              clear hp5
              go_wp2
              go_meet
              exact ⟨by first | rfl | (simp; done) | (simp; omega) | (simp [bne, hkk]; done) | (simp [bne, hkk]; omega), rfl⟩
  case rest =>
    obtain ⟨rfl, rfl⟩ := hcut
    cases uA with
    | false =>
      obtain rfl : r = 3 := R1.out (fun h => absurd (hA.out.1 h) (by decide))
      go_wp2
      go_ret
      exact ⟨rfl, hb1.out⟩
    | true =>
      simp only [Bool.not_true]
      have hA' := hA.out.2 rfl
      replace R2 := hide (R2.out hA')
      replace R3 := hide (R3.out hA')
      replace R4 := hide (R4.out hA')
      replace R5 := hide (R5.out hA')
      clear R1 hA hA' hA5 e12 e13 e14
      go_upto_region 3 with fail
      go_cut [53] (fun s53 wx => s53 = .bool (!uB) ∧ wx = wc)
      case first =>
        obtain ⟨p1, hp1⟩ := ex_v (0 ≤ minz)
        obtain ⟨p2, hp2⟩ := ex_v (minz ≤ maxz)
        obtain ⟨p3, hp3⟩ := ex_v (maxz ≤ 30)
        obtain ⟨p4, hp4⟩ := ex_v (0 ≤ at')
        obtain ⟨p5, hp5⟩ := ex_v (at' ≤ 30)
        have e := and5 hB5.out hp1 hp2 hp3 hp4 hp5
        subst e
        cases p1 with
        | false =>
          have hf1 : minz < 0 := by
            have h : ¬ (0 ≤ minz) := fun h => absurd (hp1.1 h) (by decide)
            first | omega | simp [h]
          clear hp1 hp2 hp3 hp4 hp5
          go_wp2
          go_meet
          exact ⟨by first | rfl | (simp; done) | (simp; omega) | (simp [bne, hkk]; done) | (simp [bne, hkk]; omega), rfl⟩
        | true =>
          have ht1 : 0 ≤ minz := by
            have h : 0 ≤ minz := hp1.2 rfl
            first | omega | simp [h]
          clear hp1
          cases p2 with
          | false =>
            have hf2 : maxz < minz := by
              have h : ¬ (minz ≤ maxz) := fun h => absurd (hp2.1 h) (by decide)
              first | omega | simp [h]
            clear hp2 hp3 hp4 hp5
            go_wp2
            go_meet
            exact ⟨by first | rfl | (simp; done) | (simp; omega) | (simp [bne, hkk]; done) | (simp [bne, hkk]; omega), rfl⟩
          | true =>
            have ht2 : minz ≤ maxz := by
              have h : minz ≤ maxz := hp2.2 rfl
              first | omega | simp [h]
            clear hp2
            cases p3 with
            | false =>
              have hf3 : 30 < maxz := by
                have h : ¬ (maxz ≤ 30) := fun h => absurd (hp3.1 h) (by decide)
                first | omega | simp [h]
              clear hp3 hp4 hp5
              go_wp2
              go_meet
              exact ⟨by first | rfl | (simp; done) | (simp; omega) | (simp [bne, hkk]; done) | (simp [bne, hkk]; omega), rfl⟩
            | true =>
              have ht3 : maxz ≤ 30 := by
                have h : maxz ≤ 30 := hp3.2 rfl
                first | omega | simp [h]
              clear hp3
              cases p4 with
              | false =>
                have hf4 : at' < 0 := by
                  have h : ¬ (0 ≤ at') := fun h => absurd (hp4.1 h) (by decide)
                  first | omega | simp [h]
                clear hp4 hp5
                go_wp2
                go_meet
                exact ⟨by first | rfl | (simp; done) | (simp; omega) | (simp [bne, hkk]; done) | (simp [bne, hkk]; omega), rfl⟩
              | true =>
                have ht4 : 0 ≤ at' := by
                  have h : 0 ≤ at' := hp4.2 rfl
                  first | omega | simp [h]
                clear hp4
                cases p5 with
                | false =>
                  have hf5 : 30 < at' := by
                    have h : ¬ (at' ≤ 30) := fun h => absurd (hp5.1 h) (by decide)
                    first | omega | simp [h]
                  clear hp5
                  go_wp2
                  go_meet
                  exact ⟨by first | rfl | (simp; done) | (simp; omega) | (simp [bne, hkk]; done) | (simp [bne, hkk]; omega), rfl⟩
                | true =>
                  have ht5 : at' ≤ 30 := by
                    have h : at' ≤ 30 := hp5.2 rfl
                    first | omega | simp [h]
                  clear hp5
                  go_wp2
                  go_meet
                  exact ⟨by first | rfl | (simp; done) | (simp; omega) | (simp [bne, hkk]; done) | (simp [bne, hkk]; omega), rfl⟩
      case rest =>
        obtain ⟨rfl, rfl⟩ := hcut
        cases uB with
        | false =>
          obtain rfl : r = 3 := R2.out (fun h => absurd (hB.out.1 h) (by decide))
          go_wp2
          go_ret
          exact ⟨rfl, hb1.out⟩
        | true =>
          simp only [Bool.not_true]
          have hB' := hB.out.2 rfl
          replace R3 := hide (R3.out hB')
          replace R4 := hide (R4.out hB')
          replace R5 := hide (R5.out hB')
          clear R2 hB hB' hB5 e15 e16 e23
          go_upto_region 5 with fail
          obtain ⟨f10, f11, f12, f13, f14, f15⟩ := h6.out _ hk1.out
          go_cut [87] (fun s87 wx => s87 = .bool (!uC) ∧ Hid (Blk wx B 30 #[.int .u64 (r0 : Int), .int .u64 (r1 : Int), .int .u64 (m0 : Int), .int .u64 (m1 : Int), .int .u64 (l0 : Int), .int .u64 (l1 : Int), .int .u64 (d0 : Int), .int .u64 (d1 : Int), .int .u64 (c0 : Int), .int .u64 (c1 : Int), .int .u64 (c2 : Int), .bool cl, .int .i64 inn, .int .i64 out, .int .i64 kind, .int .i64 minz, .int .i64 maxz, .int .i64 minx, .int .i64 miny, .int .i64 maxx, .int .i64 maxy, .int .i64 cx, .int .i64 cy, .int .i64 at']) ∧ Hid (Below B w wx))
          case first =>
            obtain ⟨p1, hp1⟩ := ex_v (Spot minx miny)
            obtain ⟨p2, hp2⟩ := ex_v (Spot maxx maxy)
            obtain ⟨p3, hp3⟩ := ex_v (Spot cx cy)
            obtain ⟨p4, hp4⟩ := ex_v (minx ≤ maxx)
            obtain ⟨p5, hp5⟩ := ex_v (miny ≤ maxy)
            have e := and5 hC.out hp1 hp2 hp3 hp4 hp5
            have q1 := hide (fun W => rspot_any minx miny W p1 hp1)
            have q2 := hide (fun W => rspot_any maxx maxy W p2 hp2)
            have q3 := hide (fun W => rspot_any cx cy W p3 hp3)
            subst e
            clear hp1 hp2 hp3
            cases p1 with
            | false =>
              go_wp2_with (first | (go_at_call 86; (with_reducible refine (q1.out _).mono ?_); rintro e w2 ⟨rfl, hx2⟩; have hk2 := hide (hk1.out.below hx2 hk1.out.lt); have hb2 := hide (hb1.out.trans (hx2.mono (Nat.le_of_lt hk1.out.lt))); obtain ⟨f20, f21, f22, f23, f24, f25⟩ := h6.out _ hk2.out; clear hx2))
              go_meet
              exact ⟨by first | rfl | (simp; done) | (simp; omega), hk2, hb2⟩
            | true =>
              cases p2 with
              | false =>
                go_wp2_with (first | (go_at_call 86; (with_reducible refine (q1.out _).mono ?_); rintro e w2 ⟨rfl, hx2⟩; have hk2 := hide (hk1.out.below hx2 hk1.out.lt); have hb2 := hide (hb1.out.trans (hx2.mono (Nat.le_of_lt hk1.out.lt))); obtain ⟨f20, f21, f22, f23, f24, f25⟩ := h6.out _ hk2.out; clear hx2) | (go_at_call 86; (with_reducible refine (q2.out _).mono ?_); rintro e w3 ⟨rfl, hx3⟩; have hk3 := hide (hk2.out.below hx3 hk2.out.lt); have hb3 := hide (hb2.out.trans (hx3.mono (Nat.le_of_lt hk2.out.lt))); obtain ⟨f30, f31, f32, f33, f34, f35⟩ := h6.out _ hk3.out; clear hx3))
                go_meet
                exact ⟨by first | rfl | (simp; done) | (simp; omega), hk3, hb3⟩
              | true =>
                cases p3 with
                | false =>
                  go_wp2_with (first | (go_at_call 86; (with_reducible refine (q1.out _).mono ?_); rintro e w2 ⟨rfl, hx2⟩; have hk2 := hide (hk1.out.below hx2 hk1.out.lt); have hb2 := hide (hb1.out.trans (hx2.mono (Nat.le_of_lt hk1.out.lt))); obtain ⟨f20, f21, f22, f23, f24, f25⟩ := h6.out _ hk2.out; clear hx2) | (go_at_call 86; (with_reducible refine (q2.out _).mono ?_); rintro e w3 ⟨rfl, hx3⟩; have hk3 := hide (hk2.out.below hx3 hk2.out.lt); have hb3 := hide (hb2.out.trans (hx3.mono (Nat.le_of_lt hk2.out.lt))); obtain ⟨f30, f31, f32, f33, f34, f35⟩ := h6.out _ hk3.out; clear hx3) | (go_at_call 86; (with_reducible refine (q3.out _).mono ?_); rintro e w4 ⟨rfl, hx4⟩; have hk4 := hide (hk3.out.below hx4 hk3.out.lt); have hb4 := hide (hb3.out.trans (hx4.mono (Nat.le_of_lt hk3.out.lt))); obtain ⟨f40, f41, f42, f43, f44, f45⟩ := h6.out _ hk4.out; clear hx4))
                  go_meet
                  exact ⟨by first | rfl | (simp; done) | (simp; omega), hk4, hb4⟩
                | true =>
                  cases p4 with
                  | false =>
                    have hlt : maxx < minx := by
                      have h : ¬ minx ≤ maxx := fun h => absurd (hp4.1 h) (by decide)
                      omega
                    clear hp4 hp5
                    go_wp2_with (first | (go_at_call 86; (with_reducible refine (q1.out _).mono ?_); rintro e w2 ⟨rfl, hx2⟩; have hk2 := hide (hk1.out.below hx2 hk1.out.lt); have hb2 := hide (hb1.out.trans (hx2.mono (Nat.le_of_lt hk1.out.lt))); obtain ⟨f20, f21, f22, f23, f24, f25⟩ := h6.out _ hk2.out; clear hx2) | (go_at_call 86; (with_reducible refine (q2.out _).mono ?_); rintro e w3 ⟨rfl, hx3⟩; have hk3 := hide (hk2.out.below hx3 hk2.out.lt); have hb3 := hide (hb2.out.trans (hx3.mono (Nat.le_of_lt hk2.out.lt))); obtain ⟨f30, f31, f32, f33, f34, f35⟩ := h6.out _ hk3.out; clear hx3) | (go_at_call 86; (with_reducible refine (q3.out _).mono ?_); rintro e w4 ⟨rfl, hx4⟩; have hk4 := hide (hk3.out.below hx4 hk3.out.lt); have hb4 := hide (hb3.out.trans (hx4.mono (Nat.le_of_lt hk3.out.lt))); obtain ⟨f40, f41, f42, f43, f44, f45⟩ := h6.out _ hk4.out; clear hx4))
                    go_meet
                    exact ⟨by first | rfl | (simp; done) | (simp; omega), hk4, hb4⟩
                  | true =>
                    have hle : minx ≤ maxx := hp4.2 rfl
                    cases p5 with
                    | false =>
                      have hlt : maxy < miny := by
                        have h : ¬ miny ≤ maxy := fun h => absurd (hp5.1 h) (by decide)
                        omega
                      clear hp4 hp5
                      go_wp2_with (first | (go_at_call 86; (with_reducible refine (q1.out _).mono ?_); rintro e w2 ⟨rfl, hx2⟩; have hk2 := hide (hk1.out.below hx2 hk1.out.lt); have hb2 := hide (hb1.out.trans (hx2.mono (Nat.le_of_lt hk1.out.lt))); obtain ⟨f20, f21, f22, f23, f24, f25⟩ := h6.out _ hk2.out; clear hx2) | (go_at_call 86; (with_reducible refine (q2.out _).mono ?_); rintro e w3 ⟨rfl, hx3⟩; have hk3 := hide (hk2.out.below hx3 hk2.out.lt); have hb3 := hide (hb2.out.trans (hx3.mono (Nat.le_of_lt hk2.out.lt))); obtain ⟨f30, f31, f32, f33, f34, f35⟩ := h6.out _ hk3.out; clear hx3) | (go_at_call 86; (with_reducible refine (q3.out _).mono ?_); rintro e w4 ⟨rfl, hx4⟩; have hk4 := hide (hk3.out.below hx4 hk3.out.lt); have hb4 := hide (hb3.out.trans (hx4.mono (Nat.le_of_lt hk3.out.lt))); obtain ⟨f40, f41, f42, f43, f44, f45⟩ := h6.out _ hk4.out; clear hx4))
                      go_meet
                      exact ⟨by first | rfl | (simp; done) | (simp; omega), hk4, hb4⟩
                    | true =>
                      have hle2 : miny ≤ maxy := hp5.2 rfl
                      clear hp4 hp5
                      go_wp2_with (first | (go_at_call 86; (with_reducible refine (q1.out _).mono ?_); rintro e w2 ⟨rfl, hx2⟩; have hk2 := hide (hk1.out.below hx2 hk1.out.lt); have hb2 := hide (hb1.out.trans (hx2.mono (Nat.le_of_lt hk1.out.lt))); obtain ⟨f20, f21, f22, f23, f24, f25⟩ := h6.out _ hk2.out; clear hx2) | (go_at_call 86; (with_reducible refine (q2.out _).mono ?_); rintro e w3 ⟨rfl, hx3⟩; have hk3 := hide (hk2.out.below hx3 hk2.out.lt); have hb3 := hide (hb2.out.trans (hx3.mono (Nat.le_of_lt hk2.out.lt))); obtain ⟨f30, f31, f32, f33, f34, f35⟩ := h6.out _ hk3.out; clear hx3) | (go_at_call 86; (with_reducible refine (q3.out _).mono ?_); rintro e w4 ⟨rfl, hx4⟩; have hk4 := hide (hk3.out.below hx4 hk3.out.lt); have hb4 := hide (hb3.out.trans (hx4.mono (Nat.le_of_lt hk3.out.lt))); obtain ⟨f40, f41, f42, f43, f44, f45⟩ := h6.out _ hk4.out; clear hx4))
                      go_meet
                      exact ⟨by first | rfl | (simp; done) | (simp; omega), hk4, hb4⟩
          case rest =>
            obtain ⟨rfl, hk, hb⟩ := hcut
            clear f10 f11 f12 f13 f14 f15 hk1 hb1 hw1 h6
            cases uC with
            | false =>
              obtain rfl : r = 3 := R3.out (fun h => absurd (hC.out.1 h) (by decide))
              go_wp2
              go_ret
              exact ⟨rfl, hb.out⟩
            | true =>
              simp only [Bool.not_true]
              have hC' := hC.out.2 rfl
              replace R4 := hide (R4.out hC')
              replace R5 := hide (R5.out hC')
              clear R3 hC hC'
              have g0 : wc.cell? ⟨B, 0, none⟩ = some (.int .u64 (r0 : Int)) := hk.out.cell 0
              have g1 : wc.cell? ⟨B, 1, none⟩ = some (.int .u64 (r1 : Int)) := hk.out.cell 1
              have g2 : wc.cell? ⟨B, 2, none⟩ = some (.int .u64 (m0 : Int)) := hk.out.cell 2
              have g3 : wc.cell? ⟨B, 3, none⟩ = some (.int .u64 (m1 : Int)) := hk.out.cell 3
              have g4 : wc.cell? ⟨B, 4, none⟩ = some (.int .u64 (l0 : Int)) := hk.out.cell 4
              have g5 : wc.cell? ⟨B, 5, none⟩ = some (.int .u64 (l1 : Int)) := hk.out.cell 5
              have g6 : wc.cell? ⟨B, 6, none⟩ = some (.int .u64 (d0 : Int)) := hk.out.cell 6
              have g7 : wc.cell? ⟨B, 7, none⟩ = some (.int .u64 (d1 : Int)) := hk.out.cell 7
              obtain ⟨N, hN⟩ : ∃ N, n.toNat = N := ⟨_, rfl⟩
              have hNb : N ≤ 9223372036854775807 := by have := hn.out; omega
              rw [hN] at hD R4 R5
              obtain ⟨p1, hp1⟩ := ex_v (Within r0 r1 N)
              obtain ⟨p2, hp2⟩ := ex_v (Within m0 m1 N)
              obtain ⟨p3, hp3⟩ := ex_v (Within l0 l1 N)
              obtain ⟨p4, hp4⟩ := ex_v (Within d0 d1 N)
              have q1 := hide (fun W => rwithin_v r0 r1 N W (by omega) p1 hp1)
              have q2 := hide (fun W => rwithin_v m0 m1 N W (by omega) p2 hp2)
              have q3 := hide (fun W => rwithin_v l0 l1 N W (by omega) p3 hp3)
              have q4 := hide (fun W => rwithin_v d0 d1 N W (by omega) p4 hp4)
              have x1 := hide (fun h : p1 = false => R4.out (fun hh => absurd (hp1.1 hh.1) (by rw [h]; decide)))
              have x2 := hide (fun h : p2 = false => R4.out (fun hh => absurd (hp2.1 hh.2.1) (by rw [h]; decide)))
              have x3 := hide (fun h : p3 = false => R4.out (fun hh => absurd (hp3.1 hh.2.2.1) (by rw [h]; decide)))
              have x4 := hide (fun h : p4 = false => R4.out (fun hh => absurd (hp4.1 hh.2.2.2) (by rw [h]; decide)))
              have x5 := hide (fun (a1 : p1 = true) (a2 : p2 = true) (a3 : p3 = true) (a4 : p4 = true) => R5.out ⟨hp1.2 a1, hp2.2 a2, hp3.2 a3, hp4.2 a4⟩)
              clear hp1 hp2 hp3 hp4 R4 R5 hD
              replace hk := hide hk
              go_upto_region 8 with fail
              rcases Int.lt_or_le 0 n with hn0 | hn0
              · have hnN : n = (N : Int) := by omega
                have hnW : IntKind.u64.wrap n = (N : Int) := by rw [IntKind.wrap_u64]; have := hn.out; omega
                have hnM : n % 18446744073709551616 = (N : Int) := by have := hn.out; omega
                replace hnN := hide hnN
                replace hN := hide hN
                cases p1 with
                | false =>
                  obtain rfl : r = 8 := x1.out rfl
                  go_wp2_with (go_at_call 35; (with_reducible refine (q1.out _).mono ?_); rintro e w' ⟨rfl, rfl⟩)
                  go_ret
                  exact ⟨rfl, hb.out⟩
                | true =>
                  cases p2 with
                  | false =>
                    obtain rfl : r = 8 := x2.out rfl
                    go_wp2_with (first | (go_at_call 35; (with_reducible refine (q1.out _).mono ?_); rintro e w' ⟨rfl, rfl⟩) | (go_at_call 35; (with_reducible refine (q2.out _).mono ?_); rintro e w' ⟨rfl, rfl⟩))
                    go_ret
                    exact ⟨rfl, hb.out⟩
                  | true =>
                    cases p3 with
                    | false =>
                      obtain rfl : r = 8 := x3.out rfl
                      go_wp2_with (first | (go_at_call 35; (with_reducible refine (q1.out _).mono ?_); rintro e w' ⟨rfl, rfl⟩) | (go_at_call 35; (with_reducible refine (q2.out _).mono ?_); rintro e w' ⟨rfl, rfl⟩) | (go_at_call 35; (with_reducible refine (q3.out _).mono ?_); rintro e w' ⟨rfl, rfl⟩))
                      go_ret
                      exact ⟨rfl, hb.out⟩
                    | true =>
                      cases p4 with
                      | false =>
                        obtain rfl : r = 8 := x4.out rfl
                        go_wp2_with (first | (go_at_call 35; (with_reducible refine (q1.out _).mono ?_); rintro e w' ⟨rfl, rfl⟩) | (go_at_call 35; (with_reducible refine (q2.out _).mono ?_); rintro e w' ⟨rfl, rfl⟩) | (go_at_call 35; (with_reducible refine (q3.out _).mono ?_); rintro e w' ⟨rfl, rfl⟩) | (go_at_call 35; (with_reducible refine (q4.out _).mono ?_); rintro e w' ⟨rfl, rfl⟩))
                        go_ret
                        exact ⟨rfl, hb.out⟩
                      | true =>
                        obtain rfl : r = 0 := x5.out rfl rfl rfl rfl
                        go_wp2_with (first | (go_at_call 35; (with_reducible refine (q1.out _).mono ?_); rintro e w' ⟨rfl, rfl⟩) | (go_at_call 35; (with_reducible refine (q2.out _).mono ?_); rintro e w' ⟨rfl, rfl⟩) | (go_at_call 35; (with_reducible refine (q3.out _).mono ?_); rintro e w' ⟨rfl, rfl⟩) | (go_at_call 35; (with_reducible refine (q4.out _).mono ?_); rintro e w' ⟨rfl, rfl⟩))
                        go_ret
                        exact ⟨rfl, hb.out⟩
              · obtain rfl : N = 0 := by omega
                replace hN := hide hN
                replace q1 := hide (fun W => show Calls Tryz.prog 35 #[.int .u64 (r0 : Int), .int .u64 (r1 : Int), .int .u64 0] W _ from q1.out W)
                replace q2 := hide (fun W => show Calls Tryz.prog 35 #[.int .u64 (m0 : Int), .int .u64 (m1 : Int), .int .u64 0] W _ from q2.out W)
                replace q3 := hide (fun W => show Calls Tryz.prog 35 #[.int .u64 (l0 : Int), .int .u64 (l1 : Int), .int .u64 0] W _ from q3.out W)
                replace q4 := hide (fun W => show Calls Tryz.prog 35 #[.int .u64 (d0 : Int), .int .u64 (d1 : Int), .int .u64 0] W _ from q4.out W)
                cases p1 with
                | false =>
                  obtain rfl : r = 8 := x1.out rfl
                  go_wp2_with (go_at_call 35; (with_reducible refine (q1.out _).mono ?_); rintro e w' ⟨rfl, rfl⟩)
                  go_ret
                  exact ⟨rfl, hb.out⟩
                | true =>
                  cases p2 with
                  | false =>
                    obtain rfl : r = 8 := x2.out rfl
                    go_wp2_with (first | (go_at_call 35; (with_reducible refine (q1.out _).mono ?_); rintro e w' ⟨rfl, rfl⟩) | (go_at_call 35; (with_reducible refine (q2.out _).mono ?_); rintro e w' ⟨rfl, rfl⟩))
                    go_ret
                    exact ⟨rfl, hb.out⟩
                  | true =>
                    cases p3 with
                    | false =>
                      obtain rfl : r = 8 := x3.out rfl
                      go_wp2_with (first | (go_at_call 35; (with_reducible refine (q1.out _).mono ?_); rintro e w' ⟨rfl, rfl⟩) | (go_at_call 35; (with_reducible refine (q2.out _).mono ?_); rintro e w' ⟨rfl, rfl⟩) | (go_at_call 35; (with_reducible refine (q3.out _).mono ?_); rintro e w' ⟨rfl, rfl⟩))
                      go_ret
                      exact ⟨rfl, hb.out⟩
                    | true =>
                      cases p4 with
                      | false =>
                        obtain rfl : r = 8 := x4.out rfl
                        go_wp2_with (first | (go_at_call 35; (with_reducible refine (q1.out _).mono ?_); rintro e w' ⟨rfl, rfl⟩) | (go_at_call 35; (with_reducible refine (q2.out _).mono ?_); rintro e w' ⟨rfl, rfl⟩) | (go_at_call 35; (with_reducible refine (q3.out _).mono ?_); rintro e w' ⟨rfl, rfl⟩) | (go_at_call 35; (with_reducible refine (q4.out _).mono ?_); rintro e w' ⟨rfl, rfl⟩))
                        go_ret
                        exact ⟨rfl, hb.out⟩
                      | true =>
                        obtain rfl : r = 0 := x5.out rfl rfl rfl rfl
                        go_wp2_with (first | (go_at_call 35; (with_reducible refine (q1.out _).mono ?_); rintro e w' ⟨rfl, rfl⟩) | (go_at_call 35; (with_reducible refine (q2.out _).mono ?_); rintro e w' ⟨rfl, rfl⟩) | (go_at_call 35; (with_reducible refine (q3.out _).mono ?_); rintro e w' ⟨rfl, rfl⟩) | (go_at_call 35; (with_reducible refine (q4.out _).mono ?_); rintro e w' ⟨rfl, rfl⟩))
                        go_ret
                        exact ⟨rfl, hb.out⟩

end Go.Proofs.YtaapjampmnanmaaGreat
