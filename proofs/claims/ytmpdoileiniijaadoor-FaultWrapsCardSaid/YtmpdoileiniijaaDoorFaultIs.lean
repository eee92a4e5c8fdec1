/- Layer 40 (fault): errors.Is of a number within two slips. There is no condition. -/
import Derived.Test.YtmpdoileiniijaaDoorFaultHit
namespace Go.Proofs.YtmpdoileiniijaaDoor
open Go.RowKit Go.Extern.Stop Go.Stop Go.Extern

theorem no_comparable : (Tryd.prog.info? 26).map (·.comparable) = some true := by kernel_rfl
theorem eql_no (n t : Int) (w : World) : (binOp .eql 24 (.iface 26 (.int .i64 n)) (.iface 26 (.int .i64 t))).run Tryd.prog w = .ok (.bool (n == t)) w := by
  obtain ⟨i, hi, hc⟩ := Option.map_eq_some_iff.1 no_comparable
  have h : ∀ d : Nat, (Op.equalIn (d + 2) 24 (.iface 26 (.int .i64 n)) (.iface 26 (.int .i64 t))).run Tryd.prog w = .ok (n == t) w := fun d => by
    simp [Op.equalIn, run_underlying Tryd.underlying24, run_underlying Tryd.underlying26, typeInfo, hi, hc]
  simp only [binOp]
  simp [Op.equal, Op.maxDepth, h 9998]
theorem eql_other (v : Value) (t : Int) (w : World) : (binOp .eql 24 (.iface 28 v) (.iface 26 (.int .i64 t))).run Tryd.prog w = .ok (.bool false) w :=
  run_eql_iface_types _ _ _ _ Tryd.underlying24 (by decide) w

set_option maxRecDepth 100000 in
set_option maxHeartbeats 4000000 in
theorem is_any (a b : ByteArray) (m n no t : Int) (w : World) :
    Calls Tryd.prog 16 #[.iface 28 (.agg #[.string a, .int .i64 m, .iface 28 (.agg #[.string b, .int .i64 n, .iface 26 (.int .i64 no)])]), .iface 26 (.int .i64 t)] w fun e w' => e = .returned (.bool (no == t)) ∧ Below w.heap.size w w' := by
  have q17 := @run_callFunc_extern Tryd.prog 17 _ ReflectliteType.typeOf Tryd.func17 (by kernel_rfl) (by kernel_rfl) (by kernel_rfl) (by kernel_rfl)
  have q46 := @run_callFunc_extern Tryd.prog 46 _ (ReflectliteType.method (fun t => do Rtype.noPackHeld "Comparable" t; pure (.bool (← typeInfo t).comparable))) Tryd.func46 (by kernel_rfl) (by kernel_rfl) (by kernel_rfl) (by kernel_rfl)
  have mC := method_comparable
  have mU := method_unwrap
  have r8 := typeOf_no
  have r9 := comparable_no
  have s1 := ta_is
  have s2 := ta_unwrap
  have s3 := ta_isno
  have s4 := ta_unwrapno
  have s5 := ta_unwrapsno
  have g1 := eql_no
  have g2 := eql_other
  have hfin := hide (((Below.refl w.heap.size w).alloc (Nat.le_refl _) (.cells #[.string a, .int .i64 m, .iface 28 (.agg #[.string b, .int .i64 n, .iface 26 (.int .i64 no)])] 28)).alloc (by simp) (.cells #[.string b, .int .i64 n, .iface 26 (.int .i64 no)] 28))
  by_cases hnt : no = t
  · subst hnt
    have hb : (no == no) = true := by simp
    go_enter Tryd.func16, Tryd.ntmps16
    go_wp2
    refine wp_loop_rounds 3 ?_
    rw [rounds_succ]
    go_wp2_with (go_at_call 40; refine (unwrap_any _ _ _ _).mono ?_; rintro e w' ⟨rfl, rfl⟩)
    rw [rounds_succ]
    go_wp2_with (go_at_call 40; refine (unwrap_any _ _ _ _).mono ?_; rintro e w' ⟨rfl, rfl⟩)
    rw [rounds_succ]
    go_wp2
    go_ret
    exact ⟨by rw [hb]; rfl, hfin.out⟩
  · have hb : (no == t) = false := by simp [hnt]
    go_enter Tryd.func16, Tryd.ntmps16
    go_wp2
    refine wp_loop_rounds 3 ?_
    rw [rounds_succ]
    go_wp2_with (go_at_call 40; refine (unwrap_any _ _ _ _).mono ?_; rintro e w' ⟨rfl, rfl⟩)
    rw [rounds_succ]
    go_wp2_with (go_at_call 40; refine (unwrap_any _ _ _ _).mono ?_; rintro e w' ⟨rfl, rfl⟩)
    rw [rounds_succ]
    go_wp2
    go_ret
    exact ⟨by rw [hb]; rfl, hfin.out⟩

end Go.Proofs.YtmpdoileiniijaaDoor
