/- The walks of layer 11 (hilb): the place of a number. -/
import Derived.Test.YtmgajnllclodfaaHilbD
import Derived.Laws.ResultCell
import Derived.Deep.LoopGhost
namespace Go.Proofs.Ytmgajnllclodfaa
open Go.RowKit

/-- How many tiles there are: behind a name. -/
def topN : Nat := Hilb.F 31
theorem first31_any (w : World) : Calls Try.prog 25 #[.int .i64 31] w fun e w' => e = .returned (.int .u64 (topN : Int)) ∧ w = w' := first_any 31 31 w (by omega)
theorem results_place {fn : Func} {p u : Tmp} {ty : TypeId} (h : fn.results = #[.cell p ty, .tmp u]) (tmps : Array Value) (w : World) (g : Nat) (t : TypeId) (cs : Array Value) (d : TypeDesc)
    (hp : tmps.getD p undef = .pointer (some ⟨g, 0, none⟩)) (hg : Blk w g t cs) (hu : Try.prog.underlying ty = some d) (hd : d.isRow = true) (hi : (Try.prog.info? ty).map (·.size) = some cs.size) :
    (results fn tmps).run Try.prog w = .ok (.tuple #[.agg cs, tmps.getD u undef]) w := by
  rw [results_cell_tmp h, hp]
  simp only [asAddr, Sem.run_pure, Result.andThen_ok, run_loadVar_row w g t ty cs (0, 0) d hg hu (by cases d <;> simp_all) hi]

set_option maxHeartbeats 1000000 in
theorem of_no (id : Nat) (w : World) (h : topN ≤ id) :
    Calls Try.prog 27 #[.int .u64 (id : Int)] w
      fun e w' => e = .returned (.tuple #[.agg #[.int .i64 0, .int .i64 0, .int .i64 0], .int .i64 8]) ∧ Below w.heap.size w w' := by
  have hk := Blk.new w 35 #[.int .i64 0, .int .i64 0, .int .i64 0]
  go_enter Try.func27, Try.ntmps27
  go_wp2_with (go_at_call 25; (with_reducible refine (first31_any _).mono ?_); rintro e w' ⟨rfl, rfl⟩)
  refine bodyPost_ret_by (results_place rfl _ _ w.heap.size 35 _ _ rfl hk Try.underlying35 rfl (by kernel_rfl)) rfl ⟨rfl, (Below.refl _ _).alloc (Nat.le_refl _) _⟩

/-- The zoom of a number. -/
theorem zoom (id : Nat) (h : id < topN) : ∃ z r, z ≤ 30 ∧ id = Hilb.F z + r ∧ r < 4 ^ z := by
  have hs : ∀ n, n ≤ 31 → id < Hilb.F n → ∃ z r, z ≤ 30 ∧ id = Hilb.F z + r ∧ r < 4 ^ z := by
    intro n
    induction n with
    | zero => intro _ h; exact absurd h (Nat.not_lt_zero _)
    | succ n ih =>
      intro hn hl
      rcases Nat.lt_or_ge id (Hilb.F n) with h1 | h1
      · exact ih (by omega) h1
      · rw [Hilb.F_next] at hl
        exact ⟨n, id - Hilb.F n, by omega, by omega, by omega⟩
  exact hs 31 (by omega) h

theorem u64_and3 (n : Nat) (h : n < 18446744073709551616) : bits .and .u64 (n : Int) 3 = ((n % 4 : Nat) : Int) := by rw [← nat_mask2]; exact u64_and_nat n 3 h (by omega)
theorem rest_digit (r j : Nat) (hr : r < 18446744073709551616) : bits .and .u64 ((r : Int) / 2 ^ (2 * j)) 3 = ((r / 4 ^ j % 4 : Nat) : Int) := by
  have e : (r : Int) / 2 ^ (2 * j) = ((r / 4 ^ j : Nat) : Int) := by
    rw [show (4 : Nat) = 2 ^ 2 from rfl, ← Nat.pow_mul]
    norm_cast
  rw [e, u64_and3]
  exact Nat.lt_of_le_of_lt (Nat.div_le_self _ _) hr
theorem qb_xor (q : Nat) (h : q < 4) : bits .xor .i64 ((q % 2 : Nat) : Int) (Hilb.qa q : Nat) = (Hilb.qb q : Nat) := by
  have hq : q = 0 ∨ q = 1 ∨ q = 2 ∨ q = 3 := by omega
  rcases hq with rfl | rfl | rfl | rfl <;> decide +kernel
theorem prod_le (a s : Nat) (ha : a < 2) (hs : s ≤ 1073741824) : 0 ≤ (a : Int) * (s : Int) ∧ (a : Int) * (s : Int) ≤ 1073741824 := by
  have ha' : a = 0 ∨ a = 1 := by omega
  rcases ha' with rfl | rfl <;> constructor <;> omega

set_option maxHeartbeats 1000000 in
theorem of_yes (z r : Nat) (w : World) (hz : z ≤ 30) (hr : r < 4 ^ z) :
    Calls Try.prog 27 #[.int .u64 ((Hilb.F z + r : Nat) : Int)] w
      fun e w' => e = .returned (.tuple #[.agg #[.int .i64 (z : Int), .int .i64 ((Hilb.unhil z r).1 : Int), .int .i64 ((Hilb.unhil z r).2 : Int)], .int .i64 0]) ∧ Below w.heap.size w w' := by
  have hid : Hilb.F z + r < topN := by
    have h1 : Hilb.F (z + 1) ≤ topN := Hilb.F_mono (by omega)
    rw [Hilb.F_next] at h1
    omega
  have htop : topN ≤ 1537228672809129301 := Hilb.F_lt (Nat.le_refl _)
  have hidb : Hilb.F z + r ≤ 1537228672809129301 := by omega
  clear htop
  have hlow : Hid (∀ k, k ≤ z → Hilb.F k ≤ Hilb.F z + r) := by
    intro k hk
    have := Hilb.F_mono hk
    omega
  have hhigh : Hid (Hilb.F z + r < Hilb.F (z + 1)) := by
    show _ < _
    rw [Hilb.F_next]
    omega
  have hr64 : r < 18446744073709551616 := by omega
  have hrest : Hid (Hilb.F z + r - Hilb.F z = r) := by show _ = _; omega
  have hr := hide hr
  generalize Hilb.F z + r = id at *
  have ht0 : decide (topN ≤ id) = false := by simp; omega
  have hk1 := (Blk.new w 35 #[.int .i64 0, .int .i64 0, .int .i64 0]).alloc (.cells #[.int .i64 0, .int .i64 0, .int .i64 0] 35)
  have hk2 : Blk ((w.alloc (.cells #[.int .i64 0, .int .i64 0, .int .i64 0] 35)).alloc (.cells #[.int .i64 0, .int .i64 0, .int .i64 0] 35)) (w.heap.size + 1) 35 #[.int .i64 0, .int .i64 0, .int .i64 0] := by
    have := Blk.new (w.alloc (.cells #[.int .i64 0, .int .i64 0, .int .i64 0] 35)) 35 #[.int .i64 0, .int .i64 0, .int .i64 0]
    simpa using this
  have hb := ((Below.refl w.heap.size w).alloc (Nat.le_refl _) (.cells #[.int .i64 0, .int .i64 0, .int .i64 0] 35)).alloc (by simp) (.cells #[.int .i64 0, .int .i64 0, .int .i64 0] 35)
  have hk1 := hide hk1
  have hk2 := hide hk2
  have hb := hide hb
  go_enter Try.func27, Try.ntmps27
  go_wp2_with (go_at_call 25; (with_reducible refine (first31_any _).mono ?_); rintro e w' ⟨rfl, rfl⟩)
  go_loopg [16] z (fun gk _ wr => ∃ k : Nat, k ≤ z ∧ gk = z - k ∧ Hid (Blk wr w.heap.size 35 #[.int .i64 0, .int .i64 0, .int .i64 0]) ∧ Hid (Blk wr (w.heap.size + 1) 35 #[.int .i64 (k : Int), .int .i64 0, .int .i64 0]) ∧ Hid (Below w.heap.size w wr))
  case atStart => exact ⟨0, by omega, by omega, hk1, hk2, hb⟩
  case round =>
    clear hk1 hk2 hb
    obtain ⟨k, hk, hgk, hk1, hk2, hb⟩ := hrel
    have c0 := hk2.out.cell 0
    have c1 := hk2.out.cell 1
    have c2 := hk2.out.cell 2
    have f0 := hk2.out.free 0
    have f1 := hk2.out.free 1
    have f2 := hk2.out.free 2
    simp only [List.getElem?_toArray, List.getElem?_cons_zero, List.getElem?_cons_succ] at c0 c1 c2
    have hfa := hide (fun W => first_any ((k : Int) + 1) (k + 1) W (by omega))
    have hgk := hide hgk
    by_cases hlt : k < z
    · have hle := hlow.out (k + 1) (by omega)
      generalize Hilb.F (k + 1) = G at *
      go_wp2_with (go_at_call 25; refine (hfa.out _).mono ?_; rintro e w' ⟨rfl, rfl⟩)
      go_roundg (z - (k + 1))
      case measure => have := hgk.out; omega
      case rel => exact ⟨k + 1, by omega, rfl, hk1.out.far (by simp) _, by have := hk2.out.set 0 (.int .i64 ((k : Int) + 1)); show Blk _ _ _ _; simpa using this, hb.out.setCell (by simp) _⟩
    · obtain rfl : k = z := by omega
      have hgt : ¬ Hilb.F (k + 1) ≤ id := by have := hhigh.out; omega
      have hfz := hide (fun W => firstin_any k W (by omega))
      have hlz := hlow.out k (Nat.le_refl _)
      have hsub : Hid ((id : Int) - (Hilb.F k : Nat) = (r : Int)) := by have := hrest.out; show _ = _; omega
      generalize Hilb.F (k + 1) = G at *
      generalize Hilb.F k = L at *
      go_wp2_with (first
        | (go_at_call 25; (with_reducible refine (hfa.out _).mono ?_); rintro e w' ⟨rfl, rfl⟩)
        | (go_at_call 25; (with_reducible refine (hfz.out _).mono ?_); rintro e w' ⟨rfl, rfl⟩))
      rw [hsub.out]
      clear c0 c1 c2 f0 f1 f2 hfa hfz hgt hlz hgk hlow hhigh hrest
      go_loopw [33] (fun i wr => ∃ j : Nat, j ≤ k ∧ i = .int .i64 j ∧ Hid (Blk wr w.heap.size 35 #[.int .i64 0, .int .i64 0, .int .i64 0]) ∧ Hid (Blk wr (w.heap.size + 1) 35 #[.int .i64 (k : Int), .int .i64 ((Hilb.unhil j r).1 : Int), .int .i64 ((Hilb.unhil j r).2 : Int)]) ∧ Hid (Below w.heap.size w wr)) (fun i _ => k - (intOf i).toNat)
      case atStart => exact ⟨0, by omega, rfl, hk1, hk2, hb⟩
      case round =>
        clear hk1 hk2 hb
        obtain ⟨j, hj, rfl, hk1, hk2, hb⟩ := hrel
        by_cases hjt : j < k
        · have hw := pow2_i64 j (by omega)
          have hle := pow2_le j (by omega)
          have hpos := Hilb.two_pos j
          have hu := Hilb.unhil_lt j r
          have hq : r / 4 ^ j % 4 < 4 := Nat.mod_lt _ (by omega)
          have e1 := rest_digit r j (by omega)
          have hN : Hid (Hilb.unhil (j + 1) r = Hilb.lay (Hilb.unhil j r) (r / 4 ^ j % 4) (2 ^ j)) := rfl
          generalize r / 4 ^ j % 4 = q at *
          generalize Hilb.unhil j r = p at *
          generalize 2 ^ j = s at *
          have e2 : (q : Int) / 2 = (Hilb.qa q : Nat) := by unfold Hilb.qa; omega
          have e3 : bits .and .i64 (q : Int) 1 = ((q % 2 : Nat) : Int) := by rw [← nat_mask1]; exact and_i64 q 1 (by omega) (by omega)
          have e4 : bits .xor .i64 ((q % 2 : Nat) : Int) (Hilb.qa q : Nat) = (Hilb.qb q : Nat) := qb_xor q hq
          have ha := Hilb.qa_lt q hq
          have hbq := Hilb.qb_lt q
          have ht := fun W => turn_any p.1 p.2 (Hilb.qa q) (Hilb.qb q) s W hu.1 hu.2 hle ha hbq
          have hT := Hilb.turn_lt (Hilb.qa q) (Hilb.qb q) hu.1 hu.2
          unfold Hilb.lay at hN
          generalize Hilb.qa q = a at *
          generalize Hilb.qb q = b at *
          generalize Hilb.turn p.1 p.2 a b s = T at *
          have hT1 := hT.1
          have hT2 := hT.2
          have ma := prod_le a s ha hle
          have mb := prod_le b s hbq hle
          generalize q % 2 = m at *
          have ht := hide ht
          have c0 := hk2.out.cell 0
          have c1 := hk2.out.cell 1
          have c2 := hk2.out.cell 2
          have f0 := hk2.out.free 0
          have f1 := hk2.out.free 1
          have f2 := hk2.out.free 2
          simp only [List.getElem?_toArray, List.getElem?_cons_zero, List.getElem?_cons_succ] at c0 c1 c2
          obtain ⟨ma0, ma1⟩ := ma
          obtain ⟨mb0, mb1⟩ := mb
          clear hu hT hid hidb hpos
          go_wp2_with (go_at_call 54; refine (ht.out _).mono ?_; rintro e w' ⟨rfl, rfl⟩)
          go_roundw
          case rel =>
            have e5 : ((T.1 + a * s : Nat) : Int) = T.1 + a * s := by push_cast; rfl
            have e6 : ((T.2 + b * s : Nat) : Int) = T.2 + b * s := by push_cast; rfl
            refine ⟨j + 1, by omega, by go_num, (((hk1.out.far (by simp) _).far (by simp) _).far (by simp) _).far (by simp) _, ?_, (((hb.out.setCell (by simp) _).setCell (by simp) _).setCell (by simp) _).setCell (by simp) _⟩
            rw [hN.out, e5, e6]
            exact (((hk2.out.set 1 _).set 2 _).set 1 _).set 2 _
          case measure => simp [intOf]; omega
        · obtain rfl : j = k := by omega
          have c0 := hk2.out.cell 0
          have c1 := hk2.out.cell 1
          have c2 := hk2.out.cell 2
          have d0 := hk1.out.cell 0
          have d1 := hk1.out.cell 1
          have d2 := hk1.out.cell 2
          have f0 := hk1.out.free 0
          have f1 := hk1.out.free 1
          have f2 := hk1.out.free 2
          simp only [List.getElem?_toArray, List.getElem?_cons_zero, List.getElem?_cons_succ] at c0 c1 c2 d0 d1 d2
          generalize hp1 : ((Hilb.unhil j r).1 : Int) = p1 at *
          generalize hp2 : ((Hilb.unhil j r).2 : Int) = p2 at *
          have hp1 := hide hp1
          have hp2 := hide hp2
          go_wp2
          refine bodyPost_ret_by (results_place rfl _ _ w.heap.size 35 #[.int .i64 j, .int .i64 p1, .int .i64 p2] _ rfl (((hk1.out.set 0 _).set 1 _).set 2 _) Try.underlying35 rfl (by kernel_rfl)) rfl ⟨by rw [hp1.out, hp2.out]; rfl, ((hb.out.setCell (by simp) _).setCell (by simp) _).setCell (by simp) _⟩

end Go.Proofs.Ytmgajnllclodfaa
