/- Layer 4 (inflate): a block. The conditions: where things lie. -/
import Derived.Test.YthplpoijkebjbaaInfTold
import Derived.Recover
import Derived.RegionTactic
namespace Go.Proofs.Ythplpoijkebjbaa
open Go.RowKit
set_option linter.unusedVariables false

section
variable {B gu gr most a : Nat} {bs o : List UInt8} {w : World}
set_option maxRecDepth 100000 in
set_option maxHeartbeats 8000000 in
theorem ublock (h : UAt B gu gr most bs w a o) (F : Nat) (hF : 8 * bs.length < a + F) (R : Inf.R Bool) (hR : Inf.block (Bit.bitsOf bs) most F a o = R) :
    Calls Try.prog 57 #[.pointer (some ⟨gu, 0, none⟩)] w (UP B gu gr most bs w (fun b : Bool => .bool b) R) := by
  have hu1 := hide (ubits h 1 (by decide))
  have hR1 := hide (show Inf.bind (Inf.bits (Bit.bitsOf bs) 1) _ a o = R from hR)
  have hBs := hide h.size
  have hF := hide hF
  clear h hR
  go_enter Try.func57, Try.ntmps57
  go_wp2_with fail
  refine UP.go hu1.out (fun er w2 e2 b2 k2 => ⟨rfl, .inl ⟨er, hR1.out.symm.trans (Inf.bind_err e2), rfl, b2, k2⟩⟩) ?_
  intro v a2 o2 w2 e2 u2 b2 k2
  have hR2 := (Inf.bind_ok e2).symm.trans hR1.out
  obtain ⟨hv, ha2, _, _⟩ := Inf.bits_is e2
  have hu2 := hide (ubits u2 2 (by decide))
  have b2 := hide b2
  have k2 := hide k2
  have hF2 := hide (show 8 * bs.length < a2 + F from by have := hF.out; omega)
  clear e2 hR1 hu1 u2 ha2 hF
  have hv2 : v = 0 ∨ v = 1 := by omega
  clear hv
  rcases hv2 with rfl | rfl
  all_goals (
    have hR2 := hide hR2
    go_wp2_with fail
    refine UP.go hu2.out (fun er w3 e3 b3 k3 => ⟨rfl, .inl ⟨er, hR2.out.symm.trans (Inf.bind_err e3), rfl, b2.out.trans b3, k2.out.trans k3⟩⟩) ?_
    intro k a3 o3 w3 e3 u3 b3 k3
    have hR3 := (Inf.bind_ok e3).symm.trans hR2.out
    obtain ⟨hk, ha3, _, _⟩ := Inf.bits_is e3
    have b3 := hide (b2.out.trans b3)
    have k3 := hide (k2.out.trans k3)
    have hF3 := hide (show 8 * bs.length < a3 + F from by have := hF2.out; omega)
    clear e3 hR2 hu2 ha3 hF2 b2 k2
    have hk4 : k = 0 ∨ k = 1 ∨ k = 2 ∨ k = 3 := by omega
    clear hk
    rcases hk4 with rfl | rfl | rfl | rfl
    · have hR4 := hide (show Inf.bind (Inf.stored (Bit.bitsOf bs) most) _ a3 o3 = R from by rw [if_pos rfl] at hR3; exact hR3)
      have hst := hide (ustored u3 _ rfl)
      clear hR3 u3 hF3
      go_wp2_with fail
      refine UP.go hst.out (fun er w4 e4 b4 k4 => ⟨rfl, .inl ⟨er, hR4.out.symm.trans (Inf.bind_err e4), rfl, b3.out.trans b4, k3.out.trans k4⟩⟩) ?_
      intro _ a4 o4 w4 e4 u4 b4 k4
      have hR5 := hide ((Inf.bind_ok e4).symm.trans hR4.out)
      have b4 := hide (b3.out.trans b4)
      have k4 := hide (k3.out.trans k4)
      have u4 := hide u4
      clear e4 hR4 hst b3 k3
      go_wp2
      go_ret
      exact .inr ⟨_, a4, o4, hR5.out.symm, rfl, u4.out, b4.out, k4.out⟩
    · have hR4 := hide (show Inf.bind (Inf.symbols (Bit.bitsOf bs) most lsF (List.replicate 32 5) F) _ a3 o3 = R from by rw [if_neg (by decide), if_pos rfl] at hR3; exact hR3)
      have hfx := hide (ufixed w3)
      have hsy := hide (fun (W : World) (hb : Below w3.heap.size w3 W) (g1 g2 B1 B2 : Nat) (h1 : CodeAt B1 W g1 lsF) (h2 : CodeAt B2 W g2 (List.replicate 32 5)) => usymbols (u3.below hb) g1 g2 B1 B2 F lsF (List.replicate 32 5) h1 h2 (by rw [lsF_len]; decide) lsF_sum (by decide) ls5_sum hF3.out _ rfl)
      clear hR3 u3 hF3
      go_wp2_with fail
      refine hfx.out.mono ?_
      rintro e w4 ⟨g1, g2, B1, B2, rfl, hc1, hc2, hb4⟩
      have hs4 := hide (hsy.out w4 hb4 g1 g2 B1 B2 hc1 hc2)
      have b4 := hide (b3.out.trans (hb4.mono (Nat.le_trans hBs.out k3.out.1)))
      have k4 := hide (k3.out.trans (KeepU.below hb4))
      clear hfx hsy hc1 hc2 hb4 b3 k3
      go_wp2_with fail
      refine UP.go hs4.out (fun er w5 e5 b5 k5 => ⟨rfl, .inl ⟨er, hR4.out.symm.trans (Inf.bind_err e5), rfl, b4.out.trans b5, k4.out.trans k5⟩⟩) ?_
      intro _ a5 o5 w5 e5 u5 b5 k5
      have hR5 := hide ((Inf.bind_ok e5).symm.trans hR4.out)
      have b5 := hide (b4.out.trans b5)
      have k5 := hide (k4.out.trans k5)
      have u5 := hide u5
      clear e5 hR4 hs4 b4 k4
      go_wp2
      go_ret
      exact .inr ⟨_, a5, o5, hR5.out.symm, rfl, u5.out, b5.out, k5.out⟩
    · have hR4 := hide (show Inf.bind (Inf.dynamic (Bit.bitsOf bs)) (fun c => Inf.bind (Inf.symbols (Bit.bitsOf bs) most c.1 c.2 F) _) a3 o3 = R from by rw [if_neg (by decide), if_neg (by decide), if_pos rfl] at hR3; exact hR3)
      have hdy := hide (udynamic u3 _ rfl)
      clear hR3 u3
      go_wp2_with fail
      refine UQ.go hdy.out (fun er w4 e4 b4 k4 => ⟨rfl, .inl ⟨er, hR4.out.symm.trans (Inf.bind_err e4), rfl, b3.out.trans b4, k3.out.trans k4⟩⟩) ?_
      rintro ⟨near, far⟩ a4 o4 v4 w4 e4 ⟨g1, g2, B1, B2, rfl, hc1, hc2, hn1, hn2, hs1, hs2⟩ u4 b4 k4
      have hR5 := hide ((Inf.bind_ok e4).symm.trans hR4.out)
      have hs4 := hide (usymbols u4 g1 g2 B1 B2 F near far hc1 hc2 hn1 hs1 hn2 hs2 (by have := Inf.Mono.dynamic.1 _ _ _ _ _ _ e4; have := hF3.out; omega) _ rfl)
      have b4 := hide (b3.out.trans b4)
      have k4 := hide (k3.out.trans k4)
      clear e4 hR4 hdy b3 k3 hF3 hc1 hc2 hn1 hn2 hs1 hs2 u4
      go_wp2_with fail
      refine UP.go hs4.out (fun er w5 e5 b5 k5 => ⟨rfl, .inl ⟨er, hR5.out.symm.trans (Inf.bind_err e5), rfl, b4.out.trans b5, k4.out.trans k5⟩⟩) ?_
      intro _ a5 o5 w5 e5 u5 b5 k5
      have hR6 := hide ((Inf.bind_ok e5).symm.trans hR5.out)
      have b5 := hide (b4.out.trans b5)
      have k5 := hide (k4.out.trans k5)
      have u5 := hide u5
      clear e5 hR5 hs4 b4 k4
      go_wp2
      go_ret
      exact .inr ⟨_, a5, o5, hR6.out.symm, rfl, u5.out, b5.out, k5.out⟩
    · have hR4 := hide (show Sum.inl 3 = R from by rw [if_neg (by decide), if_neg (by decide), if_neg (by decide)] at hR3; exact hR3)
      clear hR3 u3
      go_wp2
      exact ⟨rfl, .inl ⟨3, hR4.out.symm, rfl, b3.out, k3.out⟩⟩)
end

/-! ### What stops a block is caught -/
theorem assert_stop (v : Value) (W : World) : (Instr.typeAssert (.iface 85 v) 20 85 true).run Try.prog W = .ok (.tuple #[v, .bool true]) W := by kernel_rfl
theorem assert_nil (W : World) : (Instr.typeAssert .nilIface 20 85 true).run Try.prog W = .ok (.tuple #[.agg #[.int .i64 0], .bool false]) W := by kernel_rfl
set_option maxRecDepth 100000 in
theorem catch_stop (pa pb pc : Nat) (va vb vc : Value) (er : Nat) (older : List PanicEntry) (w : World) (ha : Blk w pa 22 #[va]) (hb : Blk w pb 3 #[vb]) (hc : Blk w pc 24 #[vc]) :
    CallsD Try.prog 56 #[.pointer (some ⟨pa, 0, none⟩), .pointer (some ⟨pb, 0, none⟩), .pointer (some ⟨pc, 0, none⟩)] (.panicking ({ v := .iface 85 (.agg #[.int .i64 (er : Int)]), recovered := false } :: older)) w fun e u' w' =>
      e = .returned (.tuple #[]) ∧ u' = .panicking ({ v := .iface 85 (.agg #[.int .i64 (er : Int)]), recovered := true } :: older) ∧ Blk w' pa 22 #[.slice none 0 0] ∧ Blk w' pb 3 #[.int .i64 0] ∧ Blk w' pc 24 #[.int .i64 (er : Int)] ∧ Chg (fun k => k = pa ∨ k = pb ∨ k = pc) w w' := by
  refine callsD_of_wpS Try.func56 rfl fun c₀ cs hu => ?_
  simp only [Try.ntmps56, List.size_toArray, List.length_cons, List.length_nil, Nat.reduceAdd, Nat.reduceSub, Array.replicate_succ, Array.replicate_zero, List.push_toArray, List.append_toArray, List.nil_append, List.cons_append]
  apply wpS_seq
  apply wpS_region
  simp [wpOpsS, go_sem, recoverD, hu, assert_stop, Exit.thenS]
  obtain ⟨G, hG⟩ : ∃ G, w.heap.size = G := ⟨_, rfl⟩
  obtain ⟨w1, hw1⟩ : ∃ W, w.alloc (.cells #[.int .i64 (er : Int)] 85) = W := ⟨_, rfl⟩
  have hb1 := hide (show Chg (fun k => k = pa ∨ k = pb ∨ k = pc) w w1 from by rw [← hw1]; exact (Chg.refl _ w).alloc _)
  have ka := hide (show Blk w1 pa 22 #[va] from by rw [← hw1]; exact ha.alloc _)
  have kb := hide (show Blk w1 pb 3 #[vb] from by rw [← hw1]; exact hb.alloc _)
  have kc := hide (show Blk w1 pc 24 #[vc] from by rw [← hw1]; exact hc.alloc _)
  have kg : Blk w1 G 85 #[.int .i64 (er : Int)] := by rw [← hw1, ← hG]; exact Blk.new w _ _
  have g0 := kg.cell 0
  have a0 := ka.out.cell 0
  have b0 := kb.out.cell 0
  have c0 := kc.out.cell 0
  have fa := ka.out.free 0
  have fb := kb.out.free 0
  have fc := kc.out.free 0
  have nab : pa ≠ pb := ha.same hb (by decide)
  have nac : pa ≠ pc := ha.same hc (by decide)
  have nbc : pb ≠ pc := hb.same hc (by decide)
  have nga : G ≠ pa := kg.same ka.out (by decide)
  have ngb : G ≠ pb := kg.same kb.out (by decide)
  have ngc : G ≠ pc := kg.same kc.out (by decide)
  rw [hw1, hG]
  clear hw1 hG kg ha hb hc
  refine wpS_of_wp ?_
  change Code.wp Try.prog _ _ { tmps := #[.pointer (some ⟨pa, 0, none⟩), .pointer (some ⟨pb, 0, none⟩), .pointer (some ⟨pc, 0, none⟩), .pointer (some ⟨G, 0, none⟩), .bool true, .tuple #[.agg #[.int .i64 (er : Int)], .bool true], .iface 85 (.agg #[.int .i64 (er : Int)]), .tuple #[.agg #[.int .i64 (er : Int)], .bool true], .agg #[.int .i64 (er : Int)], .bool true, undef, undef, undef], defers := [] } w1
  go_wp2
  go_region
  have hfin : Blk (((w1.setCell ⟨pa, 0, none⟩ (.slice none 0 0)).setCell ⟨pb, 0, none⟩ (.int .i64 0)).setCell ⟨pc, 0, none⟩ (.int .i64 (er : Int))).drew pa 22 #[.slice none 0 0] ∧ Blk (((w1.setCell ⟨pa, 0, none⟩ (.slice none 0 0)).setCell ⟨pb, 0, none⟩ (.int .i64 0)).setCell ⟨pc, 0, none⟩ (.int .i64 (er : Int))).drew pb 3 #[.int .i64 0] ∧ Blk (((w1.setCell ⟨pa, 0, none⟩ (.slice none 0 0)).setCell ⟨pb, 0, none⟩ (.int .i64 0)).setCell ⟨pc, 0, none⟩ (.int .i64 (er : Int))).drew pc 24 #[.int .i64 (er : Int)] ∧
      Chg (fun k => k = pa ∨ k = pb ∨ k = pc) w (((w1.setCell ⟨pa, 0, none⟩ (.slice none 0 0)).setCell ⟨pb, 0, none⟩ (.int .i64 0)).setCell ⟨pc, 0, none⟩ (.int .i64 (er : Int))).drew :=
    ⟨((ka.out.set 0 _).far nab _).far nac _, ((kb.out.far (Ne.symm nab) _).set 0 _).far nbc _, ((kc.out.far (Ne.symm nac) _).far (Ne.symm nbc) _).set 0 _,
      (((hb1.out.setCell (p := ⟨pa, 0, none⟩) (.inr (.inl rfl)) _).setCell (p := ⟨pb, 0, none⟩) (.inr (.inr (.inl rfl))) _).setCell (p := ⟨pc, 0, none⟩) (.inr (.inr (.inr rfl))) _).drew⟩
  exact ⟨rfl, _, rfl, _, results_none rfl _ _ _, rfl, rfl, hfin⟩
set_option maxRecDepth 100000 in
theorem catch_none (pa pb pc : Nat) (w : World) :
    CallsD Try.prog 56 #[.pointer (some ⟨pa, 0, none⟩), .pointer (some ⟨pb, 0, none⟩), .pointer (some ⟨pc, 0, none⟩)] .returning w fun e u' w' =>
      e = .returned (.tuple #[]) ∧ u' = .returning ∧ Below w.heap.size w w' := by
  refine callsD_of_wpS Try.func56 rfl fun c₀ cs hu => ?_
  simp only [Try.ntmps56, List.size_toArray, List.length_cons, List.length_nil, Nat.reduceAdd, Nat.reduceSub, Array.replicate_succ, Array.replicate_zero, List.push_toArray, List.append_toArray, List.nil_append, List.cons_append]
  apply wpS_seq
  apply wpS_region
  simp [wpOpsS, go_sem, recoverD, hu, assert_nil, Exit.thenS]
  refine wpS_of_wp ?_
  have hb := hide ((Below.refl _ w).alloc (Nat.le_refl _) (.cells #[.int .i64 0] 85))
  go_wp2
  exact ⟨rfl, .returning, by rw [← hu], _, results_none rfl _ _ _, rfl, rfl, hb.out⟩

end Go.Proofs.Ythplpoijkebjbaa
