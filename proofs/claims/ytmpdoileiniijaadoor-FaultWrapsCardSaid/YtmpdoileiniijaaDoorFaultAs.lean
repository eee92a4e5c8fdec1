/- Layer 40 (fault): errors.As at its two targets. The condition: what the package errors' variable holds. -/
import Derived.Test.YtmpdoileiniijaaDoorMem
import Derived.LaidEql
import Derived.Stop.Asserts
import Derived.RowKitTokens
namespace Go.Proofs.YtmpdoileiniijaaDoor
open Go.RowKit Go.Extern.Stop Go.Stop Go.Extern

/-- errors.As(nil, target). -/
theorem as_nil (t : Value) (w : World) : Calls Tryd.prog 6 #[.nilIface, t] w fun e w' => e = .returned (.bool false) ∧ w' = w := by
  go_enter Tryd.func6, Tryd.ntmps6
  go_wp2
  go_ret
  exact ⟨rfl, rfl⟩
theorem ran {α β : Type} {P : Program} {W : World} {m : Sem β} {n : Sem α} {v : α} (hv : n.run P W = .ok v W) (k : α → Sem β) (h : m = (n >>= k)) : m.run P W = (k v).run P W := by
  rw [h, Sem.run_bind, hv]
  rfl
theorem method_kind (h : Value) (w : World) : (Go.method 200 53 (.agg #[h]) "Kind").run Tryd.prog w = .ok (35, h) w := by kernel_rfl
theorem method_elem (h : Value) (w : World) : (Go.method 200 53 (.agg #[h]) "Elem").run Tryd.prog w = .ok (47, .agg #[h]) w := by kernel_rfl
theorem method_implements (h : Value) (w : World) : (Go.method 200 53 (.agg #[h]) "Implements").run Tryd.prog w = .ok (48, .agg #[h]) w := by kernel_rfl
theorem method_assignable (h : Value) (w : World) : (Go.method 200 53 (.agg #[h]) "AssignableTo").run Tryd.prog w = .ok (45, .agg #[h]) w := by kernel_rfl
theorem method_comparable (h : Value) (w : World) : (Go.method 200 53 (.agg #[h]) "Comparable").run Tryd.prog w = .ok (46, .agg #[h]) w := by kernel_rfl
theorem method_unwrap (h : Value) (w : World) : (Go.method 200 28 h "Unwrap").run Tryd.prog w = .ok (40, h) w := by kernel_rfl


/-! ### The target is a variable of type slip -/
theorem valueOf_tslip (t : Addr) (w : World) : (ReflectliteValue.unpack (.iface 30 (.pointer (some t)))).run Tryd.prog w
    = .ok (.agg #[.pointer (some ⟨1, 30, none⟩), .pointer (some ⟨w.heap.size, 0, none⟩), .int .u64 150]) (w.alloc (.cells #[.pointer (some t)] 30)) := by kernel_rfl
theorem valueOf_slip (a : ByteArray) (m : Int) (y : Value) (w : World) : (ReflectliteValue.unpack (.iface 28 (.agg #[.string a, .int .i64 m, y]))).run Tryd.prog w
    = .ok (.agg #[.pointer (some ⟨1, 28, none⟩), .pointer (some ⟨w.heap.size, 0, none⟩), .int .u64 153]) (w.alloc (.cells #[.string a, .int .i64 m, y] 28)) := by kernel_rfl
theorem type_tslip (b : Addr) (w : World) : (ReflectliteValue.methodAny (ReflectliteValue.valueError "reflectlite.Value.Type" 0) (fun t _ _ _ => ReflectliteType.toType t) #[.agg #[.pointer (some ⟨1, 30, none⟩), .pointer (some b), .int .u64 150]]).run Tryd.prog w
    = .ok (.iface 53 (.agg #[.pointer (some ⟨1, 30, none⟩)])) w := by kernel_rfl
theorem kind_tslip (w : World) : ((ReflectliteType.abiMethod fun t => (fun a : Nat => Value.int IntKind.u8 (a : Int)) <$> Rtype.kind t) #[.pointer (some ⟨1, 30, none⟩)]).run Tryd.prog w = .ok (.int .u8 22) w := by kernel_rfl
theorem kind_slip (w : World) : ((ReflectliteType.abiMethod fun t => (fun a : Nat => Value.int IntKind.u8 (a : Int)) <$> Rtype.kind t) #[.pointer (some ⟨1, 28, none⟩)]).run Tryd.prog w = .ok (.int .u8 25) w := by kernel_rfl
theorem parts_tslip (a : Addr) (w : World) : (ReflectliteValue.parts (.agg #[.pointer (some ⟨1, 30, none⟩), .pointer (some a), .int .u64 150])).run Tryd.prog w = .ok (some (30, a, 150)) w := by kernel_rfl
theorem isNil_tslip (a p : Addr) (W : World) (ha : W.cell? a = some (.pointer (some p))) :
    (ReflectliteValue.method (ReflectliteValue.valueError "reflectlite.Value.IsNil" 0) ReflectliteValue.isNil #[.agg #[.pointer (some ⟨1, 30, none⟩), .pointer (some a), .int .u64 150]]).run Tryd.prog W = .ok (.bool false) W := by
  refine (ran (parts_tslip _ _) _ rfl).trans ?_
  simp [ReflectliteValue.isNil, loadVar, isAgg, underlying, Tryd.underlying30, ha, Result.andThen]
theorem elem_tslip (w : World) : (ReflectliteType.method ReflectliteType.elem #[.agg #[.pointer (some ⟨1, 30, none⟩)]]).run Tryd.prog w = .ok (.iface 53 (.agg #[.pointer (some ⟨1, 28, none⟩)])) w := by kernel_rfl
theorem implements_slip (w : World) : (ReflectliteType.relation "Implements" ReflectliteType.implements_ #[.agg #[.pointer (some ⟨1, 28, none⟩)], .iface 53 (.agg #[.pointer (some ⟨1, 24, none⟩)])]).run Tryd.prog w = .ok (.bool true) w := by kernel_rfl
theorem typeOf_slip (v : Value) (w : World) : (ReflectliteType.typeOf #[.iface 28 v]).run Tryd.prog w = .ok (.iface 53 (.agg #[.pointer (some ⟨1, 28, none⟩)])) w := by kernel_rfl
theorem elemOf_tslip (w : World) : (Rtype.elem? 30).run Tryd.prog w = .ok (some 28) w := by kernel_rfl
theorem mk_slip (p : Addr) (w : World) : (ReflectliteValue.mk 28 p ReflectliteValue.flagAddr).run Tryd.prog w = .ok (.agg #[.pointer (some ⟨1, 28, none⟩), .pointer (some p), .int .u64 409]) w := by kernel_rfl
theorem elemV_tslip (a p : Addr) (W : World) (ha : W.cell? a = some (.pointer (some p))) :
    (ReflectliteValue.method (ReflectliteValue.valueError "reflectlite.Value.Elem" 0) ReflectliteValue.elem #[.agg #[.pointer (some ⟨1, 30, none⟩), .pointer (some a), .int .u64 150]]).run Tryd.prog W
      = .ok (.agg #[.pointer (some ⟨1, 28, none⟩), .pointer (some p), .int .u64 409]) W := by
  refine (ran (parts_tslip _ _) _ rfl).trans ?_
  simp [ReflectliteValue.elem, loadVar, isAgg, underlying, Tryd.underlying30, ha, Result.andThen, elemOf_tslip, mk_slip]
theorem parts_slipa (a : Addr) (w : World) : (ReflectliteValue.parts (.agg #[.pointer (some ⟨1, 28, none⟩), .pointer (some a), .int .u64 409])).run Tryd.prog w = .ok (some (28, a, 409)) w := by kernel_rfl
theorem parts_slip (a : Addr) (w : World) : (ReflectliteValue.parts (.agg #[.pointer (some ⟨1, 28, none⟩), .pointer (some a), .int .u64 153])).run Tryd.prog w = .ok (some (28, a, 153)) w := by kernel_rfl
theorem direct_slip (w : World) : (Rtype.directlyAssignable 28 28).run Tryd.prog w = .ok true w := by kernel_rfl
theorem assignable_slip (w : World) : (ReflectliteType.relation "AssignableTo" ReflectliteType.assignableTo #[.agg #[.pointer (some ⟨1, 28, none⟩)], .iface 53 (.agg #[.pointer (some ⟨1, 28, none⟩)])]).run Tryd.prog w = .ok (.bool true) w := by kernel_rfl


/-! ### The target is a variable of type no -/
theorem valueOf_tno (t : Addr) (w : World) : (ReflectliteValue.unpack (.iface 50 (.pointer (some t)))).run Tryd.prog w
    = .ok (.agg #[.pointer (some ⟨1, 50, none⟩), .pointer (some ⟨w.heap.size, 0, none⟩), .int .u64 150]) (w.alloc (.cells #[.pointer (some t)] 50)) := by kernel_rfl
theorem valueOf_no (n : Int) (w : World) : (ReflectliteValue.unpack (.iface 26 (.int .i64 n))).run Tryd.prog w
    = .ok (.agg #[.pointer (some ⟨1, 26, none⟩), .pointer (some ⟨w.heap.size, 0, none⟩), .int .u64 130]) (w.alloc (.cells #[.int .i64 n] 26)) := by kernel_rfl
theorem type_tno (b : Addr) (w : World) : (ReflectliteValue.methodAny (ReflectliteValue.valueError "reflectlite.Value.Type" 0) (fun t _ _ _ => ReflectliteType.toType t) #[.agg #[.pointer (some ⟨1, 50, none⟩), .pointer (some b), .int .u64 150]]).run Tryd.prog w
    = .ok (.iface 53 (.agg #[.pointer (some ⟨1, 50, none⟩)])) w := by kernel_rfl
theorem kind_tno (w : World) : ((ReflectliteType.abiMethod fun t => (fun a : Nat => Value.int IntKind.u8 (a : Int)) <$> Rtype.kind t) #[.pointer (some ⟨1, 50, none⟩)]).run Tryd.prog w = .ok (.int .u8 22) w := by kernel_rfl
theorem kind_no (w : World) : ((ReflectliteType.abiMethod fun t => (fun a : Nat => Value.int IntKind.u8 (a : Int)) <$> Rtype.kind t) #[.pointer (some ⟨1, 26, none⟩)]).run Tryd.prog w = .ok (.int .u8 2) w := by kernel_rfl
theorem parts_tno (a : Addr) (w : World) : (ReflectliteValue.parts (.agg #[.pointer (some ⟨1, 50, none⟩), .pointer (some a), .int .u64 150])).run Tryd.prog w = .ok (some (50, a, 150)) w := by kernel_rfl
theorem isNil_tno (a p : Addr) (W : World) (ha : W.cell? a = some (.pointer (some p))) :
    (ReflectliteValue.method (ReflectliteValue.valueError "reflectlite.Value.IsNil" 0) ReflectliteValue.isNil #[.agg #[.pointer (some ⟨1, 50, none⟩), .pointer (some a), .int .u64 150]]).run Tryd.prog W = .ok (.bool false) W := by
  refine (ran (parts_tno _ _) _ rfl).trans ?_
  simp [ReflectliteValue.isNil, loadVar, isAgg, underlying, Tryd.underlying50, ha, Result.andThen]
theorem elem_tno (w : World) : (ReflectliteType.method ReflectliteType.elem #[.agg #[.pointer (some ⟨1, 50, none⟩)]]).run Tryd.prog w = .ok (.iface 53 (.agg #[.pointer (some ⟨1, 26, none⟩)])) w := by kernel_rfl
theorem implements_no (w : World) : (ReflectliteType.relation "Implements" ReflectliteType.implements_ #[.agg #[.pointer (some ⟨1, 26, none⟩)], .iface 53 (.agg #[.pointer (some ⟨1, 24, none⟩)])]).run Tryd.prog w = .ok (.bool true) w := by kernel_rfl
theorem typeOf_no (v : Value) (w : World) : (ReflectliteType.typeOf #[.iface 26 v]).run Tryd.prog w = .ok (.iface 53 (.agg #[.pointer (some ⟨1, 26, none⟩)])) w := by kernel_rfl
theorem elemOf_tno (w : World) : (Rtype.elem? 50).run Tryd.prog w = .ok (some 26) w := by kernel_rfl
theorem mk_no (p : Addr) (w : World) : (ReflectliteValue.mk 26 p ReflectliteValue.flagAddr).run Tryd.prog w = .ok (.agg #[.pointer (some ⟨1, 26, none⟩), .pointer (some p), .int .u64 386]) w := by kernel_rfl
theorem elemV_tno (a p : Addr) (W : World) (ha : W.cell? a = some (.pointer (some p))) :
    (ReflectliteValue.method (ReflectliteValue.valueError "reflectlite.Value.Elem" 0) ReflectliteValue.elem #[.agg #[.pointer (some ⟨1, 50, none⟩), .pointer (some a), .int .u64 150]]).run Tryd.prog W
      = .ok (.agg #[.pointer (some ⟨1, 26, none⟩), .pointer (some p), .int .u64 386]) W := by
  refine (ran (parts_tno _ _) _ rfl).trans ?_
  simp [ReflectliteValue.elem, loadVar, isAgg, underlying, Tryd.underlying50, ha, Result.andThen, elemOf_tno, mk_no]
theorem parts_noa (a : Addr) (w : World) : (ReflectliteValue.parts (.agg #[.pointer (some ⟨1, 26, none⟩), .pointer (some a), .int .u64 386])).run Tryd.prog w = .ok (some (26, a, 386)) w := by kernel_rfl
theorem parts_no (a : Addr) (w : World) : (ReflectliteValue.parts (.agg #[.pointer (some ⟨1, 26, none⟩), .pointer (some a), .int .u64 130])).run Tryd.prog w = .ok (some (26, a, 130)) w := by kernel_rfl
theorem direct_no (w : World) : (Rtype.directlyAssignable 26 26).run Tryd.prog w = .ok true w := by kernel_rfl
theorem assignable_no (w : World) : (ReflectliteType.relation "AssignableTo" ReflectliteType.assignableTo #[.agg #[.pointer (some ⟨1, 26, none⟩)], .iface 53 (.agg #[.pointer (some ⟨1, 26, none⟩)])]).run Tryd.prog w = .ok (.bool true) w := by kernel_rfl


theorem assignable_not (w : World) : (ReflectliteType.relation "AssignableTo" ReflectliteType.assignableTo #[.agg #[.pointer (some ⟨1, 28, none⟩)], .iface 53 (.agg #[.pointer (some ⟨1, 26, none⟩)])]).run Tryd.prog w = .ok (.bool false) w := by kernel_rfl
theorem comparable_no (w : World) : (ReflectliteType.method (fun t => do Rtype.noPackHeld "Comparable" t; (fun a => Value.bool a.comparable) <$> typeInfo t) #[.agg #[.pointer (some ⟨1, 26, none⟩)]]).run Tryd.prog w = .ok (.bool true) w := by kernel_rfl


/-- (Value).Set at a variable of type no. -/
theorem set_no (g gb : Nat) (u : Value) (n : Int) (W : World) (hb : Blk W gb 26 #[.int .i64 n]) (ht : Blk W g 26 #[u]) :
    (ReflectliteValue.set #[.agg #[.pointer (some ⟨1, 26, none⟩), .pointer (some ⟨g, 0, none⟩), .int .u64 386], .agg #[.pointer (some ⟨1, 26, none⟩), .pointer (some ⟨gb, 0, none⟩), .int .u64 130]]).run Tryd.prog W
      = .ok (.tuple #[]) (W.setCell ⟨g, 0, none⟩ (.int .i64 n)) := by
  have h1 := hb.cell 0
  have h2 := ht.cell 0
  have h3 := ht.free 0
  simp only [List.getElem?_toArray, List.getElem?_cons_zero] at h1 h2
  refine (ran (parts_noa _ _) _ rfl).trans ?_
  refine (ran (parts_no _ _) _ rfl).trans ?_
  simp [ReflectliteValue.flagAddr, loadVar, isAgg, underlying, Tryd.underlying26, h1, Result.andThen, direct_no, storeVar, Value.cells, storeCells, Addr.add]
  rw [run_store Tryd.prog W ⟨g, 0, none⟩ _ _ (by rfl)]
  simp [h2, h3]
/-- (Value).Set at a variable of type slip. -/
theorem set_slip (g gb : Nat) (cur : Array Value) (a : ByteArray) (m : Int) (y : Value) (hy : y.oneCell' = true) (W : World) (hb : Blk W gb 28 #[.string a, .int .i64 m, y]) (ht : Blk W g 28 cur) (hs : cur.size = 3) :
    (ReflectliteValue.set #[.agg #[.pointer (some ⟨1, 28, none⟩), .pointer (some ⟨g, 0, none⟩), .int .u64 409], .agg #[.pointer (some ⟨1, 28, none⟩), .pointer (some ⟨gb, 0, none⟩), .int .u64 153]]).run Tryd.prog W
      = .ok (.tuple #[]) (W.setRow g #[.string a, .int .i64 m, y]) := by
  have h0 : W.cell? ⟨gb, 0, none⟩ = some (.string a) := hb.cell 0
  have h1 : W.cell? ⟨gb, 1, none⟩ = some (.int .i64 m) := hb.cell 1
  have h2 : W.cell? ⟨gb, 2, none⟩ = some y := hb.cell 2
  have hst := run_storeCells_at (P := Tryd.prog) g 0 28 [.string a, .int .i64 m, y] 0 cur W ht (by simp; omega) (by
    intro v hv
    simp at hv
    rcases hv with rfl | rfl | rfl
    · rfl
    · rfl
    · exact hy)
  have hrow : (cur.toList.take (0 + 0) ++ [Value.string a, .int .i64 m, y] ++ cur.toList.drop (0 + 0 + 3)).toArray = #[.string a, .int .i64 m, y] := by
    rw [List.drop_eq_nil_of_le (by simp; omega)]
    simp
  simp only [List.length_cons, List.length_nil] at hst
  rw [hrow] at hst
  refine (ran (parts_slipa _ _) _ rfl).trans ?_
  refine (ran (parts_slip _ _) _ rfl).trans ?_
  simp [ReflectliteValue.flagAddr, loadVar, isAgg, underlying, Tryd.underlying28, Result.andThen, direct_slip, storeVar, Value.cells, loadCells, loadCellsFrom, Addr.add, h0, h1, h2, hst]

end Go.Proofs.YtmpdoileiniijaaDoor
