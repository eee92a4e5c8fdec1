/- The walk of the law HilbOf: it returns true for every number. There is no condition. -/
import Derived.Test.YtmgajnllclodfaaHilbE
namespace Go.Proofs.Ytmgajnllclodfaa
open Go.RowKit

theorem id_111 (w : World) : Calls Try.prog 24 #[.agg #[.int .i64 1, .int .i64 1, .int .i64 1]] w fun e w' => e = .returned (.tuple #[.int .u64 3, .int .i64 0]) ∧ Below w.heap.size w w' := by
  have h := id_yes 1 1 1 w (by omega) (by omega) (by omega)
  rw [show Hilb.F 1 + Hilb.hil 1 1 1 = 3 from by decide] at h
  exact h
theorem id_110 (w : World) : Calls Try.prog 24 #[.agg #[.int .i64 1, .int .i64 1, .int .i64 0]] w fun e w' => e = .returned (.tuple #[.int .u64 4, .int .i64 0]) ∧ Below w.heap.size w w' := by
  have h := id_yes 1 1 0 w (by omega) (by omega) (by omega)
  rw [show Hilb.F 1 + Hilb.hil 1 1 0 = 4 from by decide] at h
  exact h

set_option maxHeartbeats 400000 in
theorem hlive_any (w : World) :
    Calls Try.prog 21 #[] w fun e w' => e = .returned (.bool true) ∧ Below w.heap.size w w' := by
  go_enter Try.func21, Try.ntmps21
  go_wp2_with (first
    | (go_at_call 24; (with_reducible refine (id_111 _).mono ?_); rintro e w1 ⟨rfl, hb1⟩)
    | (go_at_call 24; (with_reducible refine (id_110 _).mono ?_); rintro e w2 ⟨rfl, hb2⟩)
    | (go_at_call 26; (with_reducible refine (hcode_any _ _).mono ?_); rintro e w' ⟨rfl, rfl⟩))
  go_ret
  exact ⟨rfl, hb1.trans (hb2.mono hb1.size)⟩

theorem reffirst31_any (w : World) : Calls Try.prog 28 #[.int .i64 31] w fun e w' => e = .returned (.int .u64 (topN : Int)) ∧ w = w' := reffirst_any 31 31 w (by omega)

set_option maxHeartbeats 400000 in
theorem hilbof_walk (id : Nat) (w : World) : Calls Try.prog 6 #[.int .u64 (id : Int)] w fun e w' => e = .returned (.bool true) ∧ Below w.heap.size w w' := by
  rcases Nat.lt_or_ge id topN with h | h
  · obtain ⟨z, r, hz, rfl, hr⟩ := zoom id h
    have hof := hide (fun W => of_yes z r W hz hr)
    obtain ⟨hx, hy⟩ := Hilb.unhil_lt z r
    have hid := fun W => refid_yes z _ _ W hz hx hy
    rw [Hilb.hil_unhil, Nat.mod_eq_of_lt hr] at hid
    have hid := hide hid
    clear hx hy
    generalize (Hilb.unhil z r).1 = X at *
    generalize (Hilb.unhil z r).2 = Y at *
    generalize Hilb.F z + r = n at *
    go_enter Try.func6, Try.ntmps6
    go_wp2_with (first
      | (go_at_call 27; (with_reducible refine (hof.out _).mono ?_); rintro e w1 ⟨rfl, hb1⟩; have hz1 := hb1.size)
      | (go_at_call 28; (with_reducible refine (reffirst31_any _).mono ?_); rintro e w' ⟨rfl, rfl⟩)
      | (go_at_call 29; (with_reducible refine (hid.out _).mono ?_); rintro e w2 ⟨rfl, hb2⟩)
      | (go_at_call 26; (with_reducible refine (hcode_any _ _).mono ?_); rintro e w' ⟨rfl, rfl⟩)
      | (go_at_call 21; (with_reducible refine (hlive_any _).mono ?_); rintro e w3 ⟨rfl, hb3⟩))
    go_ret
    exact ⟨rfl, (((hb1.alloc hz1 _).trans (hb2.mono (by simp; omega))).trans (hb3.mono (by have := hb2.size; simp at this; omega)))⟩
  · have hof := hide (fun W => of_no id W h)
    go_enter Try.func6, Try.ntmps6
    go_wp2_with (first
      | (go_at_call 27; (with_reducible refine (hof.out _).mono ?_); rintro e w1 ⟨rfl, hb1⟩; have hz1 := hb1.size)
      | (go_at_call 28; (with_reducible refine (reffirst31_any _).mono ?_); rintro e w' ⟨rfl, rfl⟩)
      | (go_at_call 26; (with_reducible refine (hcode_any _ _).mono ?_); rintro e w' ⟨rfl, rfl⟩)
      | (go_at_call 21; (with_reducible refine (hlive_any _).mono ?_); rintro e w3 ⟨rfl, hb3⟩))
    go_ret
    exact ⟨rfl, (hb1.alloc hz1 _).trans (hb3.mono (by simp; omega))⟩

end Go.Proofs.Ytmgajnllclodfaa
