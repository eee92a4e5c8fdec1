/- An argument of the laws of layer 1, opened into what the walks ask: a call (a number, an unsigned one, a number; by value). There is no condition. -/
import Derived.Test.YtceafmiieaeodaaOpen
import Derived.Lib.SmallJoins
namespace Go.Proofs.Ytceafmiieaeodaa
open Go.ChangeShapes Go.WideShapes Go.ChangeAt Go.RowKit Go.Joins

theorem cells_act : Try.prog.cellsOf 43 = 3 := by kernel_rfl

theorem open_act {H : Type} {enc : TypeId × Value → H} {w : World} {sp : Nat → Bool} {hd : Bool} {base : Nat} {v : Value} {d : DataW H} {p : List MemPlace}
    (hv : Value.okWide Try.prog w .any base 43 v) (h : DataW.Trod enc Try.prog w 0 sp hd 43 v d p) : ∃ (z : Int) (x : Nat) (y : Int), v = .agg #[.int .i64 z, .int .u32 (x : Int), .int .i64 y] ∧ x < 4294967296 ∧ (Lit.int .i64 y).wf = true := by
  obtain ⟨c0, c1, c2, y0, y1, y2, m, rfl, _, _, hy0, hy1, hy2⟩ := open_agg3 Try.underlying43 (by kernel_rfl) cells_act hv h
  obtain ⟨a, e0, _, _⟩ := DataW.trod_int Try.underlying3 hy0
  obtain ⟨b, e1, _, hb⟩ := DataW.trod_int Try.underlying32 hy1
  obtain ⟨c, e2, _, hc⟩ := DataW.trod_int Try.underlying3 hy2
  simp at e0 e1 e2
  subst e0 e1 e2
  have hb' := wf_u32 (by simpa using hb)
  obtain ⟨x, rfl⟩ := Int.eq_ofNat_of_zero_le hb'.1
  exact ⟨a, x, c, rfl, by omega, by simpa using hc⟩

end Go.Proofs.Ytceafmiieaeodaa
