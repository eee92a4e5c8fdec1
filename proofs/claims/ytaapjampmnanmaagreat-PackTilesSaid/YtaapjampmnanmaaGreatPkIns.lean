/- Layer 14 (pack): the order of items, and the sort by insertion. The conditions: where the slice lies. -/
import Derived.Test.YtaapjampmnanmaaGreatPkSwap
import Derived.Deep.MidRow
namespace Go.Proofs.YtaapjampmnanmaaGreat
open Go.RowKit
set_option linter.unusedVariables false
set_option linter.unusedSimpArgs false
theorem isnan_any (a : Nat) (w : World) : Calls Tryz.prog 127 #[.int .u64 (a : Int)] w fun e w' => e = .returned (.bool false) ∧ w = w' := by
  go_enter Tryz.func127, Tryz.ntmps127
  go_wp2
  go_ret
  exact ⟨by simp, rfl⟩
def cmpv (a b : Nat) : Int := if a < b then -1 else if b < a then 1 else 0
theorem cmpv_neg (a b : Nat) : cmpv a b < 0 ↔ a < b := by
  unfold cmpv
  split
  · omega
  · split <;> omega
theorem compare_any (a b : Nat) (w : World) : Calls Tryz.prog 97 #[.int .u64 (a : Int), .int .u64 (b : Int)] w fun e w' => e = .returned (.int .i64 (cmpv a b)) ∧ w = w' := by
  unfold cmpv
  rcases Nat.lt_trichotomy a b with h | h | h
  · have hI : (a : Int) < (b : Int) := by omega
    rw [if_pos h]
    go_enter Tryz.func97, Tryz.ntmps97
    go_wp2_with (go_at_call 127; (with_reducible refine (isnan_any _ _).mono ?_); rintro e w' ⟨rfl, rfl⟩)
    go_ret
    exact ⟨rfl, rfl⟩
  · subst h
    rw [if_neg (by omega), if_neg (by omega)]
    go_enter Tryz.func97, Tryz.ntmps97
    go_wp2_with (go_at_call 127; (with_reducible refine (isnan_any _ _).mono ?_); rintro e w' ⟨rfl, rfl⟩)
    go_ret
    exact ⟨rfl, rfl⟩
  · have hI : (b : Int) < (a : Int) := by omega
    rw [if_neg (by omega), if_pos h]
    go_enter Tryz.func97, Tryz.ntmps97
    go_wp2_with (go_at_call 127; (with_reducible refine (isnan_any _ _).mono ?_); rintro e w' ⟨rfl, rfl⟩)
    go_ret
    exact ⟨rfl, rfl⟩
def It.cells (x : It) : Array Value := #[.int .u64 (x.id : Int), .slice x.A x.n x.c]
theorem info_it (x : It) : (Tryz.prog.info? 129).map (·.size) = some [Value.int .u64 (x.id : Int), .slice x.A x.n x.c].length := by kernel_rfl
theorem itcmp_any (x y : It) (w : World) : Calls Tryz.prog 96 #[.agg #[.int .u64 (x.id : Int), .slice x.A x.n x.c], .agg #[.int .u64 (y.id : Int), .slice y.A y.n y.c]] w fun e w' => e = .returned (.int .i64 (cmpv x.id y.id)) ∧ Below w.heap.size w w' := by
  obtain ⟨G, hG⟩ : ∃ G, w.heap.size = G := ⟨_, rfl⟩
  obtain ⟨w1, hw1⟩ : ∃ W, w.alloc (.cells #[.int .u64 (x.id : Int), .slice x.A x.n x.c] 129) = W := ⟨_, rfl⟩
  have hs1 : w1.heap.size = G + 1 := by rw [← hw1, ← hG]; simp
  obtain ⟨w2, hw2⟩ : ∃ W, w1.alloc (.cells #[.int .u64 (y.id : Int), .slice y.A y.n y.c] 129) = W := ⟨_, rfl⟩
  have k2 := hide (show Blk w2 G 129 #[.int .u64 (x.id : Int), .slice x.A x.n x.c] from by rw [← hw2, ← hw1, ← hG]; exact (Blk.new w _ _).alloc _)
  have q2 := hide (show Blk w2 (G + 1) 129 #[.int .u64 (y.id : Int), .slice y.A y.n y.c] from by rw [← hw2, ← hs1]; exact Blk.new w1 _ _)
  have hb2 := hide (show Below G w w2 from by rw [← hw2]; refine Below.alloc ?_ (by rw [hs1]; omega) _; rw [← hw1, ← hG]; exact (Below.refl _ w).alloc (Nat.le_refl _) _)
  have c0 : w2.cell? ⟨G, 0, none⟩ = some (.int .u64 (x.id : Int)) := k2.out.cell 0
  have c1 : w2.cell? ⟨G + 1, 0, none⟩ = some (.int .u64 (y.id : Int)) := q2.out.cell 0
  rw [hG]
  go_enter Tryz.func96, Tryz.ntmps96
  go_wp2_with (go_at_call 97; (with_reducible refine (compare_any _ _ _).mono ?_); rintro e w' ⟨rfl, rfl⟩)
  go_ret
  exact ⟨rfl, hb2.out⟩
theorem Arr.range {w : World} {g n : Nat} {f : Nat → It} (h : Arr w g n f) {i : Nat} (hi : i < n) : w.rangeAt g (i * 2) [.int .u64 ((f i).id : Int), .slice (f i).A (f i).n (f i).c] := by
  obtain ⟨h1, h2, _, _⟩ := h i hi
  intro j v hv
  match j, hv with
  | 0, hv => cases hv; exact h1
  | 1, hv => cases hv; exact h2
theorem Arr.lt {w : World} {g n : Nat} {f : Nat → It} (h : Arr w g n f) {i : Nat} (hi : i < n) : g < w.heap.size := World.block_lt_of_cell? w _ (h i hi).1
theorem quiet_load_it {P : Program} {o : Oper} {a : Act} {K : Act → Prop} {w : World} (ty : TypeId) (x : Operand) (ho : o.op = .load ty x) (b off : Nat) (hx : a.eval x = .pointer (some ⟨b, off, none⟩)) (cs : List Value)
    (d : TypeDesc) (hu : P.underlying ty = some d) (hd : d.isRow = true) (hi : (P.info? ty).map (·.size) = some cs.length) (hc : w.rangeAt b off cs) (hlt : b < w.heap.size) (h : K (a.put o.dst (.agg cs.toArray))) : o.quiet P a (Grw w) K :=
  ⟨.agg cs.toArray, fun w' hw' => by
    have hc' : w'.rangeAt b off cs := fun j v hv => (hw'.out.cell (p := ⟨b, off + j, none⟩) hlt).trans (hc j v hv)
    unfold Oper.quietAt execOp
    simp only [ho, hx, Instr.loadAt, Instr.sureAddr, Sem.run_bind, Sem.run_pure, Result.andThen_ok, run_loadVar_mid w' b off ty cs d hc' hu hd hi]
    exact ⟨rfl, rfl⟩, h⟩
attribute [local go_sem] grw_all
set_option maxRecDepth 100000 in
set_option maxHeartbeats 4000000 in
theorem insertion_any (g n c a b : Nat) (f : Nat → It) (w : World) (h : Arr w g n f) (hn : n ≤ 1048576) (hab : a ≤ b) (hbn : b ≤ n) :
    Calls Tryz.prog 159 #[.slice (some ⟨g, 0, none⟩) n c, .int .i64 (a : Int), .int .i64 (b : Int), cmpF] w fun e w' => e = .returned (.tuple #[]) ∧ ∃ X, Arr w' g n X ∧ St.Rch a b f X ∧ St.Srt It.id a b X ∧ Chg (fun q => q = g) w w' := by
  have hbI : (b : Int) ≤ 1048576 := by omega
  have haI : (a : Int) ≤ (b : Int) := by omega
  have haw : IntKind.i64.wrap ((a : Int) + 1) = (a : Int) + 1 := by rw [IntKind.wrap_i64]; omega
  replace h := hide h
  go_enter Tryz.func159, Tryz.ntmps159
  go_wp2
  go_loopg [8] (b - (a + 1)) (fun gk s8 wr => ∃ i : Nat, s8 = .int .i64 i ∧ gk = b - i ∧ a < i ∧ (i ≤ b ∨ i = a + 1) ∧ Hid (∃ X, Arr wr g n X ∧ St.Rch a b f X ∧ St.Srt It.id a i X) ∧ Hid (Chg (fun q => q = g) w wr))
  case atStart => exact ⟨a + 1, by go_num, rfl, by omega, .inr rfl, hide ⟨f, h.out, .refl f, fun p q h1 h2 h3 => (by obtain rfl : p = q := (by omega); exact Nat.le_refl _)⟩, hide (Chg.refl _ w)⟩
  case round =>
    obtain ⟨i, rfl, hgk, hai, hib, hX, hC⟩ := hrel
    by_cases hlt : i < b
    · obtain ⟨gn, rfl⟩ : ∃ q, gk = q + 1 := ⟨gk - 1, by omega⟩
      obtain ⟨X, hA, hRch, hSrt⟩ := hX.out
      have hltI : (i : Int) < (b : Int) := by omega
      replace hA := hide hA
      replace hRch := hide hRch
      replace hSrt := hide hSrt
      clear hX h
      go_wp2
      go_loopg [9] i (fun jk s9 wj => s9 = .int .i64 jk ∧ a ≤ jk ∧ jk ≤ i ∧ Hid (Arr wj g n (St.mvd X i jk)) ∧ Hid (∀ q, jk ≤ q → q < i → (X i).id < (X q).id) ∧ Hid (Chg (fun q => q = g) w wj))
      case atStart => exact ⟨rfl, by omega, Nat.le_refl _, hide (by rw [St.mvd_zero]; exact hA.out), hide (fun q h1 h2 => by omega), hC⟩
      case round =>
        obtain ⟨rfl, haj, hji, hAj, hgt, hCj⟩ := hrel
        have hglt := hide (show g < wr.heap.size from hAj.out.lt (i := gk) (by omega))
        by_cases hja : a < gk
        · have hjI : (a : Int) < (gk : Int) := by omega
          obtain ⟨q, hq⟩ : ∃ q, q + 1 = gk := ⟨gk - 1, by omega⟩
          have hqI : (gk : Int) - 1 = (q : Int) := by omega
          have hqw : IntKind.i64.wrap (q : Int) = (q : Int) := by rw [IntKind.wrap_i64]; omega
          have hjn : (gk : Int) < (n : Int) := by omega
          have hqn : (q : Int) < (n : Int) := by omega
          have e1 : St.mvd X i gk gk = X i := by unfold St.mvd; rw [if_neg (by omega), if_pos rfl]
          have e2 : St.mvd X i gk q = X q := by unfold St.mvd; rw [if_neg (by omega), if_neg (by omega)]
          have r1 := hAj.out.range (i := gk) (by omega)
          have r2 := hAj.out.range (i := q) (by omega)
          rw [e1] at r1
          rw [e2] at r2
          have hS2 := hide (fun W (hb : Grw wr W) => (show Arr W g n (St.mvd X i gk) from hAj.out.below hb.out hglt.out))
          have hnx := hide (show St.swp (St.mvd X i gk) gk q = St.mvd X i q from by rw [← hq]; exact St.mvd_succ X (by omega))
          have hlow := hide (show (X i).id < (X q).id ↔ cmpv (X i).id (X q).id < 0 from (cmpv_neg _ _).symm)
          have hgtq := hide (show (X i).id < (X q).id → ∀ p, q ≤ p → p < i → (X i).id < (X p).id from fun h p h1 h2 => by
            rcases (show p = q ∨ gk ≤ p by omega) with rfl | h3
            · exact h
            · exact hgt.out p h3 h2)
          have hins := hide (show ¬ (X i).id < (X q).id → St.Srt It.id a (i + 1) (St.mvd X i gk) from fun h => St.Srt.mvd hSrt.out rfl haj hji (.inr (by rw [show gk - 1 = q by omega]; omega)) (by rcases (show gk = i ∨ gk < i by omega) with h | h; exact .inl h; exact .inr (Nat.le_of_lt (hgt.out gk (Nat.le_refl _) h))))
          generalize hx : X i = x at *
          generalize hy : X q = y at *
          replace hx := hide hx
          replace hy := hide hy
          replace e1 := hide e1
          replace e2 := hide e2
          have hcm := hide (fun W => itcmp_any x y W)
          obtain ⟨S, hS⟩ : ∃ S, cmpv x.id y.id = S := ⟨_, rfl⟩
          rw [hS] at hcm hlow
          have hmr := hide (show St.Rch a b f (St.mvd X i gk) from hRch.out.trans (St.mvd_rch X haj hji (by omega)))
          by_cases hlo : S < 0
          · go_upto_region 4 with fail
            refine wp_region_grw (by kernel_rfl) (by kernel_rfl) ?_
            try simp only [Act.put]
            repeat (first
              | go_big_quiet_skip
              | (go_big_quiet_want
                 first
                   | (with_reducible refine quiet_load_it 129 (.tmp 25) (by rfl) g (gk * 2) (by first | rfl | (simp [go_sem]; done)) [.int .u64 (x.id : Int), .slice x.A x.n x.c] _ Tryz.underlying129 rfl (info_it x) (by assumption) hglt.out ?_
                      simp only [Act.put, List.setIfInBounds_toArray, List.set_cons_zero, List.set_cons_succ]
                      go_big_quiet_on)
                   | (with_reducible refine quiet_load_it 129 (.tmp 30) (by rfl) g (q * 2) (by first | rfl | (simp [go_sem]; done)) [.int .u64 (y.id : Int), .slice y.A y.n y.c] _ Tryz.underlying129 rfl (info_it y) (by assumption) hglt.out ?_
                      simp only [Act.put, List.setIfInBounds_toArray, List.set_cons_zero, List.set_cons_succ]
                      go_big_quiet_on)
                   | (go_big_quiet_op
                      go_big_quiet_on)
                   | (go_big_quiet_op
                      apply Exists.intro
                      refine ⟨fun w' hw' => ?_, ?_⟩
                      · (go_at_call 96; exact grw_step hw' (hcm.out w'))
                      go_big_quiet_on)))
            refine wpQuiet_nil ?_
            intro w9 hw9
            go_upto_region 6 with fail
            have hS9 := hide (hS2.out w9 hw9)
            have hC9 := hide (hCj.out.trans (show Chg (fun q => q = g) wr w9 from ⟨hw9.out.os, hw9.out.tape, hw9.out.output, hw9.out.size, fun k hk _ => hw9.out.block k hk⟩) (fun _ _ h => h))
            obtain ⟨x0, x1, x2, x3⟩ := hS9.out gk (by omega)
            obtain ⟨y0, y1, y2, y3⟩ := hS9.out q (by omega)
            have hSw := hide (hS9.out.swap (i := gk) (j := q) (by omega) (by omega))
            rw [hnx.out] at hSw
            have hC2 := hide (chg_swap (i := gk) (j := q) (a := .int .u64 ((St.mvd X i gk q).id : Int)) (b := .slice (St.mvd X i gk q).A (St.mvd X i gk q).n (St.mvd X i gk q).c) (c := .int .u64 ((St.mvd X i gk gk).id : Int)) (d := .slice (St.mvd X i gk gk).A (St.mvd X i gk gk).n (St.mvd X i gk gk).c) hC9.out)
            rw [e1.out] at x0 x1 hSw hC2
            rw [e2.out] at y0 y1 hSw hC2
            clear r1 r2 hcm hS2
            go_region
            go_wp2
            go_roundg q
            case measure => omega
            case rel => exact ⟨rfl, by omega, by omega, hide hSw.out.drew, hide (hgtq.out (hlow.out.2 hlo)), hide hC2.out.drew⟩
          · have hlo2 : 0 ≤ S := by omega
            go_upto_region 4 with fail
            refine wp_region_grw (by kernel_rfl) (by kernel_rfl) ?_
            try simp only [Act.put]
            repeat (first
              | go_big_quiet_skip
              | (go_big_quiet_want
                 first
                   | (with_reducible refine quiet_load_it 129 (.tmp 25) (by rfl) g (gk * 2) (by first | rfl | (simp [go_sem]; done)) [.int .u64 (x.id : Int), .slice x.A x.n x.c] _ Tryz.underlying129 rfl (info_it x) (by assumption) hglt.out ?_
                      simp only [Act.put, List.setIfInBounds_toArray, List.set_cons_zero, List.set_cons_succ]
                      go_big_quiet_on)
                   | (with_reducible refine quiet_load_it 129 (.tmp 30) (by rfl) g (q * 2) (by first | rfl | (simp [go_sem]; done)) [.int .u64 (y.id : Int), .slice y.A y.n y.c] _ Tryz.underlying129 rfl (info_it y) (by assumption) hglt.out ?_
                      simp only [Act.put, List.setIfInBounds_toArray, List.set_cons_zero, List.set_cons_succ]
                      go_big_quiet_on)
                   | (go_big_quiet_op
                      go_big_quiet_on)
                   | (go_big_quiet_op
                      apply Exists.intro
                      refine ⟨fun w' hw' => ?_, ?_⟩
                      · (go_at_call 96; exact grw_step hw' (hcm.out w'))
                      go_big_quiet_on)))
            refine wpQuiet_nil ?_
            intro w9 hw9
            have hC9 := hide (hCj.out.trans (show Chg (fun q => q = g) wr w9 from ⟨hw9.out.os, hw9.out.tape, hw9.out.output, hw9.out.size, fun k hk _ => hw9.out.block k hk⟩) (fun _ _ h => h))
            have hS9 := hide (hS2.out w9 hw9)
            go_wp2
            go_roundg gn
            case measure => omega
            case rel => exact ⟨i + 1, by go_num, by omega, by omega, .inl (by omega), hide ⟨_, hS9.out, hmr.out, hins.out (fun h => by have := hlow.out.1 h; omega)⟩, hC9⟩
        · obtain rfl : gk = a := by omega
          have hdf : decide ((gk : Int) < (gk : Int)) = false := by simp
          have hmr := hide (show St.Rch gk b f (St.mvd X i gk) from hRch.out.trans (St.mvd_rch X haj hji (by omega)))
          have hins := hide (show St.Srt It.id gk (i + 1) (St.mvd X i gk) from St.Srt.mvd hSrt.out rfl haj hji (.inl rfl) (by rcases (show gk = i ∨ gk < i by omega) with h | h; exact .inl h; exact .inr (Nat.le_of_lt (hgt.out gk (Nat.le_refl _) h))))
          go_upto_region 4 with fail
          go_quiet (fail)
          go_wp2
          go_roundg gn
          case measure => omega
          case rel => exact ⟨i + 1, by go_num, by omega, by omega, .inl (by omega), hide ⟨_, hAj.out.drewN _, hmr.out, hins.out⟩, hide (show Chg (fun q => q = g) w (wr.drewN nq) from hCj.out.drewN nq)⟩
    · have hltI : (b : Int) ≤ (i : Int) := by omega
      go_wp2
      go_end0
      obtain ⟨X, hA, hRch, hSrt⟩ := hX.out
      exact ⟨rfl, X, hA, hRch, fun p q h1 h2 h3 => hSrt p q h1 h2 (by omega), hC.out⟩
end Go.Proofs.YtaapjampmnanmaaGreat
