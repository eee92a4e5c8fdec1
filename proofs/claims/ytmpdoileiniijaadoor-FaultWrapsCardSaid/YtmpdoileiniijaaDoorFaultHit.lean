/- Layer 40 (fault): errors.As at its two targets, walked. The condition: what the package errors' variable holds. -/
import Derived.Test.YtmpdoileiniijaaDoorFaultAs
namespace Go.Proofs.YtmpdoileiniijaaDoor
open Go.RowKit Go.Extern.Stop Go.Stop Go.Extern

/-- What the package errors' variable holds. -/
def Et (w : World) : Prop := w.cell? ⟨0, 0, none⟩ = some (.iface 53 (.agg #[.pointer (some ⟨1, 24, none⟩)]))
theorem Et.lt {w : World} (h : Et w) : 0 < w.heap.size := by
  rcases Nat.eq_zero_or_pos w.heap.size with h0 | h'
  · simp [Et, World.cell?, h0] at h
  · exact h'
theorem Et.chg {R : Nat → Prop} {w w' : World} (h : Et w) (hc : Chg R w w') (hn : ¬ R 0) : Et w' := hc.cell h hn

set_option maxRecDepth 100000 in
set_option maxHeartbeats 4000000 in
/-- errors.As of a slip, at a target of its own type. -/
theorem as_slip (g : Nat) (cur : Array Value) (hs : cur.size = 3) (a : ByteArray) (m : Int) (y : Value) (hy : y.oneCell' = true) (w : World) (he : Et w) (ht : Blk w g 28 cur) :
    Calls Tryd.prog 6 #[.iface 28 (.agg #[.string a, .int .i64 m, y]), .iface 30 (.pointer (some ⟨g, 0, none⟩))] w fun e w' => e = .returned (.bool true) ∧ Blk w' g 28 #[.string a, .int .i64 m, y] ∧ Chg (fun k => k = g) w w' := by
  have q12 := @run_callFunc_extern Tryd.prog 12 _ (fun args => ReflectliteValue.unpack (args.getD 0 (.tuple #[]))) Tryd.func12 (by kernel_rfl) (by kernel_rfl) (by kernel_rfl) (by kernel_rfl)
  have q13 := @run_callFunc_extern Tryd.prog 13 _ (ReflectliteValue.methodAny (ReflectliteValue.valueError "reflectlite.Value.Type" 0) (fun t _ _ _ => ReflectliteType.toType t)) Tryd.func13 (by kernel_rfl) (by kernel_rfl) (by kernel_rfl) (by kernel_rfl)
  have q14 := @run_callFunc_extern Tryd.prog 14 _ (ReflectliteValue.method (ReflectliteValue.valueError "reflectlite.Value.IsNil" 0) ReflectliteValue.isNil) Tryd.func14 (by kernel_rfl) (by kernel_rfl) (by kernel_rfl) (by kernel_rfl)
  have q35 := @run_callFunc_extern Tryd.prog 35 _ (ReflectliteType.abiMethod fun t => do pure (.int .u8 (← Rtype.kind t))) Tryd.func35 (by kernel_rfl) (by kernel_rfl) (by kernel_rfl) (by kernel_rfl)
  have q47 := @run_callFunc_extern Tryd.prog 47 _ (ReflectliteType.method ReflectliteType.elem) Tryd.func47 (by kernel_rfl) (by kernel_rfl) (by kernel_rfl) (by kernel_rfl)
  have q48 := @run_callFunc_extern Tryd.prog 48 _ (ReflectliteType.relation "Implements" ReflectliteType.implements_) Tryd.func48 (by kernel_rfl) (by kernel_rfl) (by kernel_rfl) (by kernel_rfl)
  have q17 := @run_callFunc_extern Tryd.prog 17 _ ReflectliteType.typeOf Tryd.func17 (by kernel_rfl) (by kernel_rfl) (by kernel_rfl) (by kernel_rfl)
  have q45 := @run_callFunc_extern Tryd.prog 45 _ (ReflectliteType.relation "AssignableTo" ReflectliteType.assignableTo) Tryd.func45 (by kernel_rfl) (by kernel_rfl) (by kernel_rfl) (by kernel_rfl)
  have q18 := @run_callFunc_extern Tryd.prog 18 _ (ReflectliteValue.method (ReflectliteValue.valueError "reflectlite.Value.Elem" 0) ReflectliteValue.elem) Tryd.func18 (by kernel_rfl) (by kernel_rfl) (by kernel_rfl) (by kernel_rfl)
  have q19 := @run_callFunc_extern Tryd.prog 19 _ ReflectliteValue.set Tryd.func19 (by kernel_rfl) (by kernel_rfl) (by kernel_rfl) (by kernel_rfl)
  have mK := method_kind
  have mE := method_elem
  have mI := method_implements
  have mA := method_assignable
  have r1 := valueOf_tslip
  have r2 := valueOf_slip
  have r3 := type_tslip
  have r4 := kind_tslip
  have r5 := kind_slip
  have r6 := elem_tslip
  have r7 := implements_slip
  have r8 := typeOf_slip
  have r9 := assignable_slip
  -- the worlds
  have hlt := he.lt
  have hgl := ht.lt
  obtain ⟨w1, hw1⟩ : ∃ W, w.alloc (.cells #[.pointer (some ⟨g, 0, none⟩)] 30) = W := ⟨_, rfl⟩
  obtain ⟨w2, hw2⟩ : ∃ W, w1.alloc (.cells #[.pointer (some ⟨1, 30, none⟩), .pointer (some ⟨w.heap.size, 0, none⟩), .int .u64 150] 41) = W := ⟨_, rfl⟩
  obtain ⟨w3, hw3⟩ : ∃ W, w2.alloc (.cells #[.pointer (some ⟨1, 30, none⟩), .pointer (some ⟨w.heap.size, 0, none⟩), .int .u64 150] 41) = W := ⟨_, rfl⟩
  obtain ⟨w4, hw4⟩ : ∃ W, w3.alloc (.cells #[.string a, .int .i64 m, y] 28) = W := ⟨_, rfl⟩
  obtain ⟨w5, hw5⟩ : ∃ W, w4.setRow g #[.string a, .int .i64 m, y] = W := ⟨_, rfl⟩
  have b1 : Blk w1 w.heap.size 30 #[.pointer (some ⟨g, 0, none⟩)] := by rw [← hw1]; exact Blk.new w _ _
  have b2 : Blk w2 w.heap.size 30 #[.pointer (some ⟨g, 0, none⟩)] := by rw [← hw2]; exact b1.alloc _
  have b3 : Blk w3 w.heap.size 30 #[.pointer (some ⟨g, 0, none⟩)] := by rw [← hw3]; exact b2.alloc _
  have n2 := isNil_tslip ⟨w.heap.size, 0, none⟩ ⟨g, 0, none⟩ w2 (b2.cell 0)
  have n3 := elemV_tslip ⟨w.heap.size, 0, none⟩ ⟨g, 0, none⟩ w3 (b3.cell 0)
  have t3 : Blk w3 g 28 cur := by rw [← hw3, ← hw2, ← hw1]; exact ((ht.alloc _).alloc _).alloc _
  have t4 : Blk w4 g 28 cur := by rw [← hw4]; exact t3.alloc _
  have b4 : Blk w4 w3.heap.size 28 #[.string a, .int .i64 m, y] := by rw [← hw4]; exact Blk.new w3 _ _
  have n5 := set_slip g w3.heap.size cur a m y hy w4 b4 t4 hs
  rw [hw5] at n5
  have c2 : Chg (fun k => k = g) w w2 := by rw [← hw2, ← hw1]; exact ((Chg.refl _ w).alloc _).alloc _
  have e2 : w2.cell? ⟨0, 0, none⟩ = some (.iface 53 (.agg #[.pointer (some ⟨1, 24, none⟩)])) := he.chg (R := fun _ => False) (by rw [← hw2, ← hw1]; exact ((Chg.refl _ w).alloc _).alloc _) (fun h => h)
  have hfin := hide (show Blk w5 g 28 #[.string a, .int .i64 m, y] ∧ Chg (fun k => k = g) w w5 from ⟨by rw [← hw5]; exact t4.row _, by rw [← hw5, ← hw4, ← hw3]; exact ((c2.alloc _).alloc _).setRow (.inr rfl) _⟩)
  have v2 : Blk w2 w1.heap.size 41 #[.pointer (some ⟨1, 30, none⟩), .pointer (some ⟨w.heap.size, 0, none⟩), .int .u64 150] := by rw [← hw2]; exact Blk.new w1 _ _
  have v3 : Blk w3 w2.heap.size 41 #[.pointer (some ⟨1, 30, none⟩), .pointer (some ⟨w.heap.size, 0, none⟩), .int .u64 150] := by rw [← hw3]; exact Blk.new w2 _ _
  have d0 : w2.cell? ⟨w1.heap.size, 0, none⟩ = some (.pointer (some ⟨1, 30, none⟩)) := v2.cell 0
  have d1 : w2.cell? ⟨w1.heap.size, 1, none⟩ = some (.pointer (some ⟨w.heap.size, 0, none⟩)) := v2.cell 1
  have d2 : w2.cell? ⟨w1.heap.size, 2, none⟩ = some (.int .u64 150) := v2.cell 2
  have d3 : w3.cell? ⟨w2.heap.size, 0, none⟩ = some (.pointer (some ⟨1, 30, none⟩)) := v3.cell 0
  have d4 : w3.cell? ⟨w2.heap.size, 1, none⟩ = some (.pointer (some ⟨w.heap.size, 0, none⟩)) := v3.cell 1
  have d5 : w3.cell? ⟨w2.heap.size, 2, none⟩ = some (.int .u64 150) := v3.cell 2
  clear c2 b1 b2 b3 b4 t3 t4 v2 v3
  go_enter Tryd.func6, Tryd.ntmps6
  go_wp2
  refine wp_loop_rounds 1 ?_
  rw [rounds_succ]
  go_wp2
  go_ret
  exact ⟨rfl, hfin.out⟩

theorem ta_as (v : Value) (w : World) : (Instr.typeAssert (.iface 28 v) 24 58 true).run Tryd.prog w = .ok (.tuple #[.nilIface, .bool false]) w :=
  run_typeAssert_lacksB Tryd.underlying58 (by kernel_rfl) (by kernel_rfl) v _ w
theorem ta_is (v : Value) (w : World) : (Instr.typeAssert (.iface 28 v) 24 67 true).run Tryd.prog w = .ok (.tuple #[.nilIface, .bool false]) w :=
  run_typeAssert_lacksB Tryd.underlying67 (by kernel_rfl) (by kernel_rfl) v _ w
theorem ta_isno (v : Value) (w : World) : (Instr.typeAssert (.iface 26 v) 24 67 true).run Tryd.prog w = .ok (.tuple #[.nilIface, .bool false]) w :=
  run_typeAssert_lacksB Tryd.underlying67 (by kernel_rfl) (by kernel_rfl) v _ w
theorem ta_unwrap (v : Value) (w : World) : (Instr.typeAssert (.iface 28 v) 24 61 true).run Tryd.prog w = .ok (.tuple #[.iface 28 v, .bool true]) w :=
  run_typeAssert_hasB Tryd.underlying61 (by kernel_rfl) v _ w
theorem ta_unwrapno (v : Value) (w : World) : (Instr.typeAssert (.iface 26 v) 24 61 true).run Tryd.prog w = .ok (.tuple #[.nilIface, .bool false]) w :=
  run_typeAssert_lacksB Tryd.underlying61 (by kernel_rfl) (by kernel_rfl) v _ w
theorem ta_unwrapsno (v : Value) (w : World) : (Instr.typeAssert (.iface 26 v) 24 63 true).run Tryd.prog w = .ok (.tuple #[.nilIface, .bool false]) w :=
  run_typeAssert_lacksB Tryd.underlying63 (by kernel_rfl) (by kernel_rfl) v _ w
theorem unwrap_any (a : ByteArray) (m : Int) (y : Value) (w : World) : Calls Tryd.prog 40 #[.agg #[.string a, .int .i64 m, y]] w fun e w' => e = .returned y ∧ w' = w.alloc (.cells #[.string a, .int .i64 m, y] 28) := by
  go_enter Tryd.func40, Tryd.ntmps40
  go_wp2
  go_ret
  exact ⟨rfl, rfl⟩

set_option maxRecDepth 100000 in
set_option maxHeartbeats 4000000 in
/-- errors.As of a number within two slips, at a target of the number's type. -/
theorem as_no (g : Nat) (cur : Value) (a b : ByteArray) (m n no : Int) (w : World) (he : Et w) (ht : Blk w g 26 #[cur]) :
    Calls Tryd.prog 6 #[.iface 28 (.agg #[.string a, .int .i64 m, .iface 28 (.agg #[.string b, .int .i64 n, .iface 26 (.int .i64 no)])]), .iface 50 (.pointer (some ⟨g, 0, none⟩))] w fun e w' => e = .returned (.bool true) ∧ Blk w' g 26 #[.int .i64 no] ∧ Chg (fun k => k = g) w w' := by
  have q12 := @run_callFunc_extern Tryd.prog 12 _ (fun args => ReflectliteValue.unpack (args.getD 0 (.tuple #[]))) Tryd.func12 (by kernel_rfl) (by kernel_rfl) (by kernel_rfl) (by kernel_rfl)
  have q13 := @run_callFunc_extern Tryd.prog 13 _ (ReflectliteValue.methodAny (ReflectliteValue.valueError "reflectlite.Value.Type" 0) (fun t _ _ _ => ReflectliteType.toType t)) Tryd.func13 (by kernel_rfl) (by kernel_rfl) (by kernel_rfl) (by kernel_rfl)
  have q14 := @run_callFunc_extern Tryd.prog 14 _ (ReflectliteValue.method (ReflectliteValue.valueError "reflectlite.Value.IsNil" 0) ReflectliteValue.isNil) Tryd.func14 (by kernel_rfl) (by kernel_rfl) (by kernel_rfl) (by kernel_rfl)
  have q35 := @run_callFunc_extern Tryd.prog 35 _ (ReflectliteType.abiMethod fun t => do pure (.int .u8 (← Rtype.kind t))) Tryd.func35 (by kernel_rfl) (by kernel_rfl) (by kernel_rfl) (by kernel_rfl)
  have q47 := @run_callFunc_extern Tryd.prog 47 _ (ReflectliteType.method ReflectliteType.elem) Tryd.func47 (by kernel_rfl) (by kernel_rfl) (by kernel_rfl) (by kernel_rfl)
  have q48 := @run_callFunc_extern Tryd.prog 48 _ (ReflectliteType.relation "Implements" ReflectliteType.implements_) Tryd.func48 (by kernel_rfl) (by kernel_rfl) (by kernel_rfl) (by kernel_rfl)
  have q17 := @run_callFunc_extern Tryd.prog 17 _ ReflectliteType.typeOf Tryd.func17 (by kernel_rfl) (by kernel_rfl) (by kernel_rfl) (by kernel_rfl)
  have q45 := @run_callFunc_extern Tryd.prog 45 _ (ReflectliteType.relation "AssignableTo" ReflectliteType.assignableTo) Tryd.func45 (by kernel_rfl) (by kernel_rfl) (by kernel_rfl) (by kernel_rfl)
  have q18 := @run_callFunc_extern Tryd.prog 18 _ (ReflectliteValue.method (ReflectliteValue.valueError "reflectlite.Value.Elem" 0) ReflectliteValue.elem) Tryd.func18 (by kernel_rfl) (by kernel_rfl) (by kernel_rfl) (by kernel_rfl)
  have q19 := @run_callFunc_extern Tryd.prog 19 _ ReflectliteValue.set Tryd.func19 (by kernel_rfl) (by kernel_rfl) (by kernel_rfl) (by kernel_rfl)
  have mK := method_kind
  have mE := method_elem
  have mI := method_implements
  have mA := method_assignable
  have mU := method_unwrap
  have r1 := valueOf_tno
  have r2 := valueOf_no
  have r3 := type_tno
  have r4 := kind_tno
  have r5 := kind_no
  have r6 := elem_tno
  have r7 := implements_no
  have r8 := typeOf_no
  have r8' := typeOf_slip
  have r9 := assignable_no
  have r10 := assignable_not
  have s1 := ta_as
  have s2 := ta_unwrap
  have hlt := he.lt
  have hgl := ht.lt
  obtain ⟨w1, hw1⟩ : ∃ W, w.alloc (.cells #[.pointer (some ⟨g, 0, none⟩)] 50) = W := ⟨_, rfl⟩
  obtain ⟨w2, hw2⟩ : ∃ W, w1.alloc (.cells #[.pointer (some ⟨1, 50, none⟩), .pointer (some ⟨w.heap.size, 0, none⟩), .int .u64 150] 41) = W := ⟨_, rfl⟩
  obtain ⟨w3, hw3⟩ : ∃ W, w2.alloc (.cells #[.pointer (some ⟨1, 50, none⟩), .pointer (some ⟨w.heap.size, 0, none⟩), .int .u64 150] 41) = W := ⟨_, rfl⟩
  obtain ⟨w4, hw4⟩ : ∃ W, w3.alloc (.cells #[.string a, .int .i64 m, .iface 28 (.agg #[.string b, .int .i64 n, .iface 26 (.int .i64 no)])] 28) = W := ⟨_, rfl⟩
  obtain ⟨w5, hw5⟩ : ∃ W, w4.alloc (.cells #[.string b, .int .i64 n, .iface 26 (.int .i64 no)] 28) = W := ⟨_, rfl⟩
  obtain ⟨w6, hw6⟩ : ∃ W, w5.alloc (.cells #[.int .i64 no] 26) = W := ⟨_, rfl⟩
  obtain ⟨w7, hw7⟩ : ∃ W, w6.setCell ⟨g, 0, none⟩ (.int .i64 no) = W := ⟨_, rfl⟩
  have b1 : Blk w1 w.heap.size 50 #[.pointer (some ⟨g, 0, none⟩)] := by rw [← hw1]; exact Blk.new w _ _
  have b2 : Blk w2 w.heap.size 50 #[.pointer (some ⟨g, 0, none⟩)] := by rw [← hw2]; exact b1.alloc _
  have b5 : Blk w5 w.heap.size 50 #[.pointer (some ⟨g, 0, none⟩)] := by rw [← hw5, ← hw4, ← hw3]; exact ((b2.alloc _).alloc _).alloc _
  have n2 := isNil_tno ⟨w.heap.size, 0, none⟩ ⟨g, 0, none⟩ w2 (b2.cell 0)
  have n3 := elemV_tno ⟨w.heap.size, 0, none⟩ ⟨g, 0, none⟩ w5 (b5.cell 0)
  have t6 : Blk w6 g 26 #[cur] := by rw [← hw6, ← hw5, ← hw4, ← hw3, ← hw2, ← hw1]; exact (((((ht.alloc _).alloc _).alloc _).alloc _).alloc _).alloc _
  have b6 : Blk w6 w5.heap.size 26 #[.int .i64 no] := by rw [← hw6]; exact Blk.new w5 _ _
  have n5 := set_no g w5.heap.size cur no w6 b6 t6
  rw [hw7] at n5
  have c2 : Chg (fun k => k = g) w w2 := by rw [← hw2, ← hw1]; exact ((Chg.refl _ w).alloc _).alloc _
  have e2 : w2.cell? ⟨0, 0, none⟩ = some (.iface 53 (.agg #[.pointer (some ⟨1, 24, none⟩)])) := he.chg (R := fun _ => False) (by rw [← hw2, ← hw1]; exact ((Chg.refl _ w).alloc _).alloc _) (fun h => h)
  have hfin := hide (show Blk w7 g 26 #[.int .i64 no] ∧ Chg (fun k => k = g) w w7 from ⟨by rw [← hw7]; exact t6.set 0 _, by rw [← hw7, ← hw6, ← hw5, ← hw4, ← hw3]; exact ((((c2.alloc _).alloc _).alloc _).alloc _).setCell (p := ⟨g, 0, none⟩) (.inr rfl) _⟩)
  have v2 : Blk w2 w1.heap.size 41 #[.pointer (some ⟨1, 50, none⟩), .pointer (some ⟨w.heap.size, 0, none⟩), .int .u64 150] := by rw [← hw2]; exact Blk.new w1 _ _
  have v3 : Blk w3 w2.heap.size 41 #[.pointer (some ⟨1, 50, none⟩), .pointer (some ⟨w.heap.size, 0, none⟩), .int .u64 150] := by rw [← hw3]; exact Blk.new w2 _ _
  have v5 : Blk w5 w2.heap.size 41 #[.pointer (some ⟨1, 50, none⟩), .pointer (some ⟨w.heap.size, 0, none⟩), .int .u64 150] := by rw [← hw5, ← hw4]; exact (v3.alloc _).alloc _
  have d0 : w2.cell? ⟨w1.heap.size, 0, none⟩ = some (.pointer (some ⟨1, 50, none⟩)) := v2.cell 0
  have d1 : w2.cell? ⟨w1.heap.size, 1, none⟩ = some (.pointer (some ⟨w.heap.size, 0, none⟩)) := v2.cell 1
  have d2 : w2.cell? ⟨w1.heap.size, 2, none⟩ = some (.int .u64 150) := v2.cell 2
  have d3 : w5.cell? ⟨w2.heap.size, 0, none⟩ = some (.pointer (some ⟨1, 50, none⟩)) := v5.cell 0
  have d4 : w5.cell? ⟨w2.heap.size, 1, none⟩ = some (.pointer (some ⟨w.heap.size, 0, none⟩)) := v5.cell 1
  have d5 : w5.cell? ⟨w2.heap.size, 2, none⟩ = some (.int .u64 150) := v5.cell 2
  clear c2 b1 b2 b5 b6 t6 v2 v3 v5
  go_enter Tryd.func6, Tryd.ntmps6
  go_wp2
  refine wp_loop_rounds 3 ?_
  rw [rounds_succ]
  go_wp2_with (go_at_call 40; refine (unwrap_any _ _ _ _).mono ?_; rintro e w' ⟨rfl, rfl⟩)
  rw [rounds_succ]
  go_wp2_with (go_at_call 40; refine (unwrap_any _ _ _ _).mono ?_; rintro e w' ⟨rfl, rfl⟩)
  rw [rounds_succ]
  go_wp2
  go_ret
  exact ⟨rfl, hfin.out⟩

end Go.Proofs.YtmpdoileiniijaaDoor
