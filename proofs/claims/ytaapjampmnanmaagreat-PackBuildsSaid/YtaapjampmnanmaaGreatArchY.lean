/- Layer 13 (arch): parse: the header that bytes are. The conditions: where the slice lies; that it is long enough. Layer 13 (arch): the program's Head of any bytes. The conditions: where the slice lies; what Right says of the header. Layer 13 (arch): headers of any bytes, bytes of any header: the law's walk. The conditions: what the arguments are. -/
import Derived.Test.YtaapjampmnanmaaGreatArchX
import Derived.Laws.EntriesVeiled
import Derived.Test.YtaapjampmnanmaaGreatArchRight
import Derived.Test.YtaapjampmnanmaaGreatArchPH
import Derived.Test.YtaapjampmnanmaaGreatArchRRight
import Derived.Deep.RegionHeld3
import Derived.Test.YtaapjampmnanmaaGreatArchRPH
import Derived.Deep.OwnRows
import Derived.Laws.StructEq
namespace Go.Proofs.YtaapjampmnanmaaGreat
open Go.RowKit

/-- A byte as a number. -/
def byt (bs : List UInt8) (p : Nat) : Int := ((bs.getD p 0).toNat : Int)
theorem Rd.byt {w : World} {B : Nat} {A : Option Addr} {bs : List UInt8} (h : Rd w B A bs.length (bs.map bv)) (p : Nat) (hp : p < bs.length) : ∃ b o, A = some ⟨b, o, none⟩ ∧ b < B ∧ w.cell? ⟨b, o + p, none⟩ = some (.int .u8 (byt bs p)) := by
  obtain ⟨b, o, e, hb, hc⟩ := h.byte hp
  exact ⟨b, o, e, hb, by rw [hc, Go.Proofs.YtaapjampmnanmaaGreat.byt, List.getD_eq_getElem?_getD, List.getElem?_eq_getElem hp]; rfl⟩
theorem info24 : (Tryz.prog.info? 30).map (·.size) = some 24 := by kernel_rfl
theorem Ps.below {w w' : World} {B gb gn : Nat} {A : Option Addr} {c : Nat} {bs : List UInt8} (h : Ps w B gb gn A c bs) (hB : B ≤ w.heap.size) (hb : Below w.heap.size w w') : Ps w' B gb gn A c bs :=
  ⟨h.kb.below hb h.kb.lt, h.kn.below hb h.kn.lt, h.rd.below (hb.mono hB)⟩
end Go.Proofs.YtaapjampmnanmaaGreat

namespace Go.Proofs.YtaapjampmnanmaaGreat
open Go.RowKit

theorem Rd.take {w : World} {B n : Nat} {A : Option Addr} {xs : List Value} (h : Rd w B A n xs) (k : Nat) (hk : k ≤ n) : Rd w B A k (xs.take k) :=
  ⟨by rw [List.length_take, h.1]; omega, fun j hj => by
    obtain ⟨b, o, e, hb, hc⟩ := h.2 j (by omega)
    exact ⟨b, o, e, hb, by rw [hc, List.getElem?_take, if_pos hj]⟩⟩
theorem Hd.size (h : Hd) : h.cells.size = 24 := rfl
theorem Hd.one (h : Hd) : h.cells.all (·.oneCell') = true := by simp [Hd.cells, Value.oneCell']
/-- The bytes say that they are an archive. -/
def Magic (bs : List UInt8) : Prop := bs.take 8 = mag ∧ byt bs 96 ≤ 1
instance (bs : List UInt8) : Decidable (Magic bs) := inferInstanceAs (Decidable (_ ∧ _))
theorem z24info : (Tryz.prog.info? 30).map (·.size) = some (#[.int .u64 0, .int .u64 0, .int .u64 0, .int .u64 0, .int .u64 0, .int .u64 0, .int .u64 0, .int .u64 0, .int .u64 0, .int .u64 0, .int .u64 0, .bool false, .int .i64 0, .int .i64 0, .int .i64 0, .int .i64 0, .int .i64 0, .int .i64 0, .int .i64 0, .int .i64 0, .int .i64 0, .int .i64 0, .int .i64 0, .int .i64 0] : Array Value).size := by kernel_rfl
theorem z24one : (#[.int .u64 0, .int .u64 0, .int .u64 0, .int .u64 0, .int .u64 0, .int .u64 0, .int .u64 0, .int .u64 0, .int .u64 0, .int .u64 0, .int .u64 0, .bool false, .int .i64 0, .int .i64 0, .int .i64 0, .int .i64 0, .int .i64 0, .int .i64 0, .int .i64 0, .int .i64 0, .int .i64 0, .int .i64 0, .int .i64 0, .int .i64 0] : Array Value).all (·.oneCell') = true := by simp [Value.oneCell']
theorem z24hd (h : Hd) : (#[.int .u64 0, .int .u64 0, .int .u64 0, .int .u64 0, .int .u64 0, .int .u64 0, .int .u64 0, .int .u64 0, .int .u64 0, .int .u64 0, .int .u64 0, .bool false, .int .i64 0, .int .i64 0, .int .i64 0, .int .i64 0, .int .i64 0, .int .i64 0, .int .i64 0, .int .i64 0, .int .i64 0, .int .i64 0, .int .i64 0, .int .i64 0] : Array Value).size = h.cells.size := rfl
theorem Hd.info (h : Hd) : (Tryz.prog.info? 30).map (·.size) = some h.cells.size := by rw [h.size]; exact info24
end Go.Proofs.YtaapjampmnanmaaGreat

namespace Go.Proofs.YtaapjampmnanmaaGreat
open Go.RowKit

theorem eq_two (a b : Int) (W : World) : (Op.equalIn 9999 25 (.agg #[.int .u64 a, .int .u64 b]) (.agg #[.int .u64 a, .int .u64 b])).run Tryz.prog W = .ok true W := by
  have u3 := Tryz.underlying23
  have a3 := Tryz.isAgg23
  have z3 := Tryz.sizeOf23
  rw [show (9999 : Nat) = 9998 + 1 from rfl, Op.equalIn]
  simp only [Sem.run_bind, run_underlying Tryz.underlying25, Result.andThen_ok]
  simp only [Std.Legacy.Range.forIn_eq_forIn_range', Std.Legacy.Range.size, Nat.sub_zero, Nat.add_sub_cancel, Nat.div_one, List.range'_succ, List.range'_zero, List.forIn_cons, List.forIn_nil]
  go_simp
theorem eq_three (a b c : Int) (W : World) : (Op.equalIn 9999 26 (.agg #[.int .u64 a, .int .u64 b, .int .u64 c]) (.agg #[.int .u64 a, .int .u64 b, .int .u64 c])).run Tryz.prog W = .ok true W := by
  have u3 := Tryz.underlying23
  have a3 := Tryz.isAgg23
  have z3 := Tryz.sizeOf23
  rw [show (9999 : Nat) = 9998 + 1 from rfl, Op.equalIn]
  simp only [Sem.run_bind, run_underlying Tryz.underlying26, Result.andThen_ok]
  simp only [Std.Legacy.Range.forIn_eq_forIn_range', Std.Legacy.Range.size, Nat.sub_zero, Nat.add_sub_cancel, Nat.div_one, List.range'_succ, List.range'_zero, List.forIn_cons, List.forIn_nil]
  go_simp
set_option maxRecDepth 100000 in
set_option maxHeartbeats 4000000 in
theorem eql_hd (X : Hd) {o : Oper} {a : Act} (x y : Operand) (ho : o.op = .binOp .eql 30 x y 30) (hx : a.eval x = .agg X.cells) (hy : a.eval y = .agg X.cells) (W : World) :
    (execOp a.eval o).run Tryz.prog W = .ok (.value (.bool true)) W := by
  have e2 := eq_two
  have e3 := eq_three
  unfold execOp
  simp only [ho, hx, hy]
  clear ho hx hy
  unfold Hd.cells
  cases X
  simp only
  go_simp

section
variable {P : Program} {ops : Array Oper} {md : Region.Mode} {Q : Exit → Act → World → Prop} {S S' : World → Prop}
/-- A condition that says more may be kept instead. -/
theorem wpAnyH_strong (h : ∀ W, S' W → S W) : ∀ (fuel : Nat) (listed : Array Bool) (a : Act) (w : World), wpAnyH P md ops Q S' fuel listed a w → wpAnyH P md ops Q S fuel listed a w
  | 0, _, _, _, hh => hh
  | fuel + 1, _, _, _, hh => ⟨hh.1, fun i hi => wpOp_mono (fun a' w' h' => ⟨h _ h'.1, wpAnyH_strong h fuel _ a' w' h'.2⟩) (hh.2 i hi)⟩
theorem yields_row {o : Oper} {a : Act} (hw : Region.wanted o (yielded ops a.tmps) = true) (ty : TypeId) (x : Operand) (ho : o.op = .load ty x) (g : Nat) (hx : a.eval x = .pointer (some ⟨g, 0, none⟩)) (t : TypeId) (cs : Array Value) (d : TypeDesc)
    (hS : ∀ W, S W → Blk W g t cs) (hu : P.underlying ty = some d) (hd : (match d with | .struct _ | .array _ _ => true | _ => false) = true) (hi : (P.info? ty).map (·.size) = some cs.size) : YieldsIf P ops S o (.agg cs) a :=
  .inl ⟨hw, fun W hW => by
    unfold execOp
    simp only [ho, hx, Instr.loadAt, Instr.sureAddr, Sem.run_bind, Sem.run_pure, Result.andThen_ok, run_loadVar_row W g t ty cs (0, 0) d (hS W hW) hu hd hi]⟩
end

end Go.Proofs.YtaapjampmnanmaaGreat
