/- The walks of layer 11 (hilb) and of its reference: the place above. -/
import Derived.Test.YtmgajnllclodfaaHilbC
namespace Go.Proofs.Ytmgajnllclodfaa
open Go.RowKit

/-- Two places that were laid, behind a call. -/
theorem box33 {w w1 : World} {t : TypeId} {a b c a' b' c' : Value} (hb : Below ((w.alloc (.cells #[a, b, c] t)).alloc (.cells #[a', b', c'] t)).heap.size ((w.alloc (.cells #[a, b, c] t)).alloc (.cells #[a', b', c'] t)) w1) :
    Blk w1 w.heap.size t #[a, b, c] ∧ Blk w1 (w.heap.size + 1) t #[a', b', c'] ∧ Below w.heap.size w w1 := by
  have hk : Blk w1 w.heap.size t #[a, b, c] := ((Blk.new w t #[a, b, c]).alloc _).below hb (by simp; omega)
  have hk2 : Blk w1 (w.heap.size + 1) t #[a', b', c'] := by
    have := (Blk.new (w.alloc (.cells #[a, b, c] t)) t #[a', b', c']).below hb (by simp)
    simpa using this
  exact ⟨hk, hk2, (((Below.refl _ _).alloc (Nat.le_refl _) _).alloc (by simp) _).trans (hb.mono (by simp; omega))⟩

set_option maxHeartbeats 1000000 in
theorem parent_yes (z x y d : Nat) (w : World) (hz : z ≤ 30) (hx : x < 2 ^ z) (hy : y < 2 ^ z) (hd : d ≤ z) :
    Calls Try.prog 22 #[.agg #[.int .i64 (z : Int), .int .i64 (x : Int), .int .i64 (y : Int)], .int .i64 (d : Int)] w
      fun e w' => e = .returned (.agg #[.int .i64 ((z - d : Nat) : Int), .int .i64 ((x / 2 ^ d : Nat) : Int), .int .i64 ((y / 2 ^ d : Nat) : Int)]) ∧ Below w.heap.size w w' := by
  have hS := pow2_le z hz
  have hx1 : x < 1073741824 := by omega
  have hy1 : y < 1073741824 := by omega
  have hx := hide hx
  have hy := hide hy
  clear hS
  go_enter Try.func22, Try.ntmps22
  go_wp2_with (go_at_call 23; (with_reducible refine (right_yes z x y _ hz hx.out hy.out).mono ?_); rintro e w1 ⟨rfl, hb1⟩; obtain ⟨k1, k2, hb⟩ := box33 hb1; clear hb1; have c0 := k1.cell 0; have c1 := k1.cell 1; have c2 := k1.cell 2; have d0 := k2.cell 0; have d1 := k2.cell 1; have d2 := k2.cell 2; have f0 := k2.free 0; have f1 := k2.free 1; have f2 := k2.free 2; simp only [List.getElem?_toArray, List.getElem?_cons_zero, List.getElem?_cons_succ] at c0 c1 c2 d0 d1 d2)
  go_region
  go_wp2
  have e1 : ((z - d : Nat) : Int) = z - d := by omega
  have e2 : ((x / 2 ^ d : Nat) : Int) = x / 2 ^ d := by push_cast; rfl
  have e3 : ((y / 2 ^ d : Nat) : Int) = y / 2 ^ d := by push_cast; rfl
  refine bodyPost_ret_by (results_cell_row rfl _ _ (w.heap.size + 1) 35 #[.int .i64 (z - d), .int .i64 (x / 2 ^ d), .int .i64 (y / 2 ^ d)] (0, 0) _ rfl (((k2.set 0 _).set 1 _).set 2 _) Try.underlying35 rfl (by kernel_rfl)) rfl ⟨by rw [e1, e2, e3], ?_⟩
  exact (((hb.setCell (by simp) _).setCell (by simp) _).setCell (by simp) _).drew

set_option maxHeartbeats 1000000 in
/-- Without a place, or too many zooms up: the place itself. -/
theorem parent_no (z x y d : Int) (w : World) (h : ¬ IsPl z x y ∨ (IsPl z x y ∧ (d < 0 ∨ (0 ≤ d ∧ z < d)))) :
    Calls Try.prog 22 #[.agg #[.int .i64 z, .int .i64 x, .int .i64 y], .int .i64 d] w
      fun e w' => e = .returned (.agg #[.int .i64 z, .int .i64 x, .int .i64 y]) ∧ Below w.heap.size w w' := by
  rcases h with h | ⟨h, h2⟩
  · have h := hide h
    go_enter Try.func22, Try.ntmps22
    go_wp2_with (go_at_call 23; (with_reducible refine (right_no z x y _ h.out).mono ?_); rintro e w1 ⟨rfl, hb1⟩; obtain ⟨k1, k2, hb⟩ := box33 hb1; clear hb1; have c0 := k1.cell 0; have c1 := k1.cell 1; have c2 := k1.cell 2; have d0 := k2.cell 0; have d1 := k2.cell 1; have d2 := k2.cell 2; have f0 := k2.free 0; have f1 := k2.free 1; have f2 := k2.free 2; simp only [List.getElem?_toArray, List.getElem?_cons_zero, List.getElem?_cons_succ] at c0 c1 c2 d0 d1 d2)
    refine bodyPost_ret_by (results_cell_row rfl _ _ (w.heap.size + 1) 35 #[.int .i64 z, .int .i64 x, .int .i64 y] (0, 0) _ rfl (((k2.set 0 _).set 1 _).set 2 _) Try.underlying35 rfl (by kernel_rfl)) rfl ⟨rfl, ?_⟩
    exact ((hb.setCell (by simp) _).setCell (by simp) _).setCell (by simp) _
  · obtain ⟨a, b, c, rfl, rfl, rfl, ha, hb', hc⟩ := isPl_nat h
    have hb' := hide hb'
    have hc := hide hc
    clear h
    rcases h2 with h2 | ⟨h1, h2⟩
    all_goals
      go_enter Try.func22, Try.ntmps22
      go_wp2_with (go_at_call 23; (with_reducible refine (right_yes a b c _ ha hb'.out hc.out).mono ?_); rintro e w1 ⟨rfl, hb1⟩; obtain ⟨k1, k2, hb⟩ := box33 hb1; clear hb1; have c0 := k1.cell 0; have c1 := k1.cell 1; have c2 := k1.cell 2; have d0 := k2.cell 0; have d1 := k2.cell 1; have d2 := k2.cell 2; have f0 := k2.free 0; have f1 := k2.free 1; have f2 := k2.free 2; simp only [List.getElem?_toArray, List.getElem?_cons_zero, List.getElem?_cons_succ] at c0 c1 c2 d0 d1 d2)
      refine bodyPost_ret_by (results_cell_row rfl _ _ (w.heap.size + 1) 35 #[.int .i64 a, .int .i64 b, .int .i64 c] (0, 0) _ rfl (((k2.set 0 _).set 1 _).set 2 _) Try.underlying35 rfl (by kernel_rfl)) rfl ⟨rfl, ?_⟩
      exact ((hb.setCell (by simp) _).setCell (by simp) _).setCell (by simp) _

set_option maxHeartbeats 1000000 in
theorem refparent_no (z x y d : Int) (w : World) (h : ¬ IsPl z x y ∨ (IsPl z x y ∧ (d < 0 ∨ (0 ≤ d ∧ z < d)))) :
    Calls Try.prog 38 #[.agg #[.int .i64 z, .int .i64 x, .int .i64 y], .int .i64 d] w
      fun e w' => e = .returned (.agg #[.int .i64 z, .int .i64 x, .int .i64 y]) ∧ Below w.heap.size w w' := by
  rcases h with h | ⟨h, h2⟩
  · have h := hide h
    go_enter Try.func38, Try.ntmps38
    go_wp2_with (go_at_call 20; (with_reducible refine (refright_no z x y _ h.out).mono ?_); rintro e w1 ⟨rfl, hb1⟩; obtain ⟨k1, k2, hb⟩ := box33 hb1; clear hb1; have c0 := k1.cell 0; have c1 := k1.cell 1; have c2 := k1.cell 2; have d0 := k2.cell 0; have d1 := k2.cell 1; have d2 := k2.cell 2; have f0 := k2.free 0; have f1 := k2.free 1; have f2 := k2.free 2; simp only [List.getElem?_toArray, List.getElem?_cons_zero, List.getElem?_cons_succ] at c0 c1 c2 d0 d1 d2)
    refine bodyPost_ret_by (results_cell_row rfl _ _ (w.heap.size + 1) 35 #[.int .i64 z, .int .i64 x, .int .i64 y] (0, 0) _ rfl (((k2.set 0 _).set 1 _).set 2 _) Try.underlying35 rfl (by kernel_rfl)) rfl ⟨rfl, ?_⟩
    exact ((hb.setCell (by simp) _).setCell (by simp) _).setCell (by simp) _
  · obtain ⟨a, b, c, rfl, rfl, rfl, ha, hb', hc⟩ := isPl_nat h
    have hb' := hide hb'
    have hc := hide hc
    clear h
    rcases h2 with h2 | ⟨h1, h2⟩
    all_goals
      go_enter Try.func38, Try.ntmps38
      go_wp2_with (go_at_call 20; (with_reducible refine (refright_yes a b c _ ha hb'.out hc.out).mono ?_); rintro e w1 ⟨rfl, hb1⟩; obtain ⟨k1, k2, hb⟩ := box33 hb1; clear hb1; have c0 := k1.cell 0; have c1 := k1.cell 1; have c2 := k1.cell 2; have d0 := k2.cell 0; have d1 := k2.cell 1; have d2 := k2.cell 2; have f0 := k2.free 0; have f1 := k2.free 1; have f2 := k2.free 2; simp only [List.getElem?_toArray, List.getElem?_cons_zero, List.getElem?_cons_succ] at c0 c1 c2 d0 d1 d2)
      refine bodyPost_ret_by (results_cell_row rfl _ _ (w.heap.size + 1) 35 #[.int .i64 a, .int .i64 b, .int .i64 c] (0, 0) _ rfl (((k2.set 0 _).set 1 _).set 2 _) Try.underlying35 rfl (by kernel_rfl)) rfl ⟨rfl, ?_⟩
      exact ((hb.setCell (by simp) _).setCell (by simp) _).setCell (by simp) _

set_option maxHeartbeats 1000000 in
theorem refparent_yes (z x y d : Nat) (w : World) (hz : z ≤ 30) (hx : x < 2 ^ z) (hy : y < 2 ^ z) (hd : d ≤ z) :
    Calls Try.prog 38 #[.agg #[.int .i64 (z : Int), .int .i64 (x : Int), .int .i64 (y : Int)], .int .i64 (d : Int)] w
      fun e w' => e = .returned (.agg #[.int .i64 ((z - d : Nat) : Int), .int .i64 ((x / 2 ^ d : Nat) : Int), .int .i64 ((y / 2 ^ d : Nat) : Int)]) ∧ Below w.heap.size w w' := by
  have hS := pow2_le z hz
  have hx1 : x < 1073741824 := by omega
  have hy1 : y < 1073741824 := by omega
  have hx := hide hx
  have hy := hide hy
  clear hS
  go_enter Try.func38, Try.ntmps38
  go_wp2_with (go_at_call 20; (with_reducible refine (refright_yes z x y _ hz hx.out hy.out).mono ?_); rintro e w1 ⟨rfl, hb1⟩; obtain ⟨k1, k2, hb⟩ := box33 hb1; clear hb1; have c0 := k1.cell 0; have c1 := k1.cell 1; have c2 := k1.cell 2; have d0 := k2.cell 0; have d1 := k2.cell 1; have d2 := k2.cell 2; have f0 := k2.free 0; have f1 := k2.free 1; have f2 := k2.free 2; simp only [List.getElem?_toArray, List.getElem?_cons_zero, List.getElem?_cons_succ] at c0 c1 c2 d0 d1 d2)
  clear c0 c1 c2 d0 d1 d2 f0 f1 f2
  have k1 := hide k1
  have k2 := hide k2
  have hb := hide hb
  go_loopw [5] (fun i wr => ∃ k : Nat, k ≤ d ∧ i = .int .i64 k ∧ Hid (Blk wr w.heap.size 35 #[.int .i64 ((z - k : Nat) : Int), .int .i64 ((x / 2 ^ k : Nat) : Int), .int .i64 ((y / 2 ^ k : Nat) : Int)]) ∧ Hid (Blk wr (w.heap.size + 1) 35 #[.int .i64 0, .int .i64 0, .int .i64 0]) ∧ Hid (Below w.heap.size w wr)) (fun i _ => d - (intOf i).toNat)
  case atStart => exact ⟨0, by omega, rfl, by simpa using k1, k2, hb⟩
  case round =>
    clear k1 k2 hb
    obtain ⟨k, hk, rfl, k1, k2, hb⟩ := hrel
    by_cases hlt : k < d
    · have hu := Nat.div_le_self x (2 ^ k)
      have hv := Nat.div_le_self y (2 ^ k)
      have e1 : Hid (x / 2 ^ (k + 1) = x / 2 ^ k / 2) := by show _ = _; rw [Nat.pow_succ, Nat.div_div_eq_div_mul]
      have e2 : Hid (y / 2 ^ (k + 1) = y / 2 ^ k / 2) := by show _ = _; rw [Nat.pow_succ, Nat.div_div_eq_div_mul]
      generalize x / 2 ^ k = u at *
      generalize y / 2 ^ k = v at *
      obtain ⟨m, hm⟩ : ∃ m, m = z - k := ⟨_, rfl⟩
      have hm1 : z - (k + 1) = m - 1 := by omega
      have hm2 : 1 ≤ m := by omega
      have hm3 : m ≤ 30 := by omega
      rw [← hm] at k1
      have hm1 := hide hm1
      clear hm
      have c0 := k1.out.cell 0
      have c1 := k1.out.cell 1
      have c2 := k1.out.cell 2
      have f0 := k1.out.free 0
      have f1 := k1.out.free 1
      have f2 := k1.out.free 2
      simp only [List.getElem?_toArray, List.getElem?_cons_zero, List.getElem?_cons_succ] at c0 c1 c2
      go_wp2
      go_roundw
      case rel =>
        have e0 : ((m - 1 : Nat) : Int) = m - 1 := by omega
        have e3 : ((u / 2 : Nat) : Int) = u / 2 := by push_cast; rfl
        have e4 : ((v / 2 : Nat) : Int) = v / 2 := by push_cast; rfl
        refine ⟨k + 1, by omega, by go_num, ?_, ((k2.out.far (by simp) _).far (by simp) _).far (by simp) _, ((hb.out.setCell (by simp) _).setCell (by simp) _).setCell (by simp) _⟩
        rw [e1.out, e2.out, hm1.out, e0, e3, e4]
        exact ((k1.out.set 0 _).set 1 _).set 2 _
      case measure => simp [intOf]; omega
    · obtain rfl : k = d := by omega
      have c0 := k1.out.cell 0
      have c1 := k1.out.cell 1
      have c2 := k1.out.cell 2
      have d0 := k2.out.cell 0
      have d1 := k2.out.cell 1
      have d2 := k2.out.cell 2
      have f0 := k2.out.free 0
      have f1 := k2.out.free 1
      have f2 := k2.out.free 2
      simp only [List.getElem?_toArray, List.getElem?_cons_zero, List.getElem?_cons_succ] at c0 c1 c2 d0 d1 d2
      generalize hm : ((z - k : Nat) : Int) = m at *
      generalize hu : ((x / 2 ^ k : Nat) : Int) = u at *
      generalize hv : ((y / 2 ^ k : Nat) : Int) = v at *
      have hm := hide hm
      have hu := hide hu
      have hv := hide hv
      go_wp2
      refine bodyPost_ret_by (results_cell_row rfl _ _ (w.heap.size + 1) 35 #[.int .i64 m, .int .i64 u, .int .i64 v] (0, 0) _ rfl (((k2.out.set 0 _).set 1 _).set 2 _) Try.underlying35 rfl (by kernel_rfl)) rfl ⟨by rw [hm.out, hu.out, hv.out], ?_⟩
      exact ((hb.out.setCell (by simp) _).setCell (by simp) _).setCell (by simp) _

end Go.Proofs.Ytmgajnllclodfaa
