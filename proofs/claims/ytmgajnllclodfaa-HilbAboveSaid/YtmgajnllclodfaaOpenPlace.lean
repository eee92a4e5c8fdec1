/- An argument of the laws, opened into what the walks ask: a place (three numbers, by value). There is no condition. -/
import Derived.Test.YtmgajnllclodfaaOpen
import Derived.Lib.SmallJoins
namespace Go.Proofs.Ytmgajnllclodfaa
open Go.ChangeShapes Go.WideShapes Go.ChangeAt Go.RowKit Go.Joins

theorem cells_place : Try.prog.cellsOf 35 = 3 := by kernel_rfl

theorem open_place {H : Type} {enc : TypeId × Value → H} {w : World} {sp : Nat → Bool} {hd : Bool} {base : Nat} {v : Value} {d : DataW H} {p : List MemPlace}
    (hv : Value.okWide Try.prog w .any base 35 v) (h : DataW.Trod enc Try.prog w 0 sp hd 35 v d p) : ∃ z x y : Int, v = .agg #[.int .i64 z, .int .i64 x, .int .i64 y] := by
  obtain ⟨c0, c1, c2, y0, y1, y2, m, rfl, _, _, hy0, hy1, hy2⟩ := open_agg3 Try.underlying35 (by kernel_rfl) cells_place hv h
  obtain ⟨a, e0, _, _⟩ := DataW.trod_int Try.underlying3 hy0
  obtain ⟨b, e1, _, _⟩ := DataW.trod_int Try.underlying3 hy1
  obtain ⟨c, e2, _, _⟩ := DataW.trod_int Try.underlying3 hy2
  simp at e0 e1 e2
  subst e0 e1 e2
  exact ⟨a, b, c, rfl⟩

end Go.Proofs.Ytmgajnllclodfaa
