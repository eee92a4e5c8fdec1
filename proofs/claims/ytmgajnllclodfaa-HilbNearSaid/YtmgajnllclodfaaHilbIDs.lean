/- The walk of the law HilbIDs: it returns true for every triple of numbers and every number. There is no condition. -/
import Derived.Test.YtmgajnllclodfaaHilbOf
namespace Go.Proofs.Ytmgajnllclodfaa
open Go.RowKit
attribute [local go_sem] grw_all

theorem info_place (a b c : Value) : (Try.prog.info? 35).map (·.size) = some (#[a, b, c] : Array Value).size := by
  have h : (Try.prog.info? 35).map (·.size) = some 3 := by kernel_rfl
  exact h

set_option maxHeartbeats 1000000 in
theorem hilbids_no (z x y d : Int) (w : World) (h : ¬ IsPl z x y) :
    Calls Try.prog 8 #[.agg #[.int .i64 z, .int .i64 x, .int .i64 y], .int .i64 d] w fun e w' => e = .returned (.bool true) ∧ Below w.heap.size w w' := by
  obtain ⟨m, hm⟩ : ∃ m : Nat, min (max d 0) 31 = (m : Int) := ⟨(min (max d 0) 31).toNat, by omega⟩
  have hf := hide (fun W => first_any d m W hm)
  have hrf := hide (fun W => reffirst_any d m W hm)
  have h := hide h
  clear hm
  generalize Hilb.F m = G at *
  go_enter Try.func8, Try.ntmps8
  go_wp2_with (first
    | (go_at_call 24; (with_reducible refine (id_no z x y _ h.out).mono ?_); rintro e w1 ⟨rfl, hb1⟩; obtain ⟨c0, c1, c2, hb⟩ := box3 hb1; have hk := (Blk.new w 35 #[.int .i64 z, .int .i64 x, .int .i64 y]).below hb1 (by simp); clear hb1)
    | (go_at_call 29; (with_reducible refine (refid_no z x y _ h.out).mono ?_); rintro e w2 ⟨rfl, hb2⟩; have hk2 := hk.below hb2 hk.lt; clear hk))
  have hbb := hb.trans (hb2.mono hb.size)
  refine wp_region_grw (by kernel_rfl) (by kernel_rfl) ?_
  repeat (first
    | go_big_quiet_skip
    | (go_big_quiet_want
       first
         | (with_reducible refine quiet_load_row 35 (.tmp 2) rfl w.heap.size rfl 35 #[.int .i64 z, .int .i64 x, .int .i64 y] _ Try.underlying35 rfl (info_place _ _ _) hk2 ?_
            simp only [Act.put, List.setIfInBounds_toArray, List.set_cons_zero, List.set_cons_succ]
            go_big_quiet_on)
         | (go_big_quiet_op
            go_big_quiet_on)
         | (go_big_quiet_op
            apply Exists.intro
            refine ⟨fun w' hw' => ?_, ?_⟩
            · first
                | (go_at_call 23; exact grw_step hw' (right_no z x y w' h.out))
                | (go_at_call 20; exact grw_step hw' (refright_no z x y w' h.out))
                | (go_at_call 26; exact grw_same hw' (hcode_any _ w'))
                | (go_at_call 25; exact grw_same hw' (hf.out w'))
                | (go_at_call 28; exact grw_same hw' (hrf.out w'))
                | (go_at_call 22; exact grw_step hw' (parent_no z x y d w' (.inl h.out)))
                | (go_at_call 38; exact grw_step hw' (refparent_no z x y d w' (.inl h.out)))
            go_big_quiet_on)))
  refine wpQuiet_nil ?_
  intro w9 hb9
  have hb3 := hbb.trans (hb9.out.mono hbb.size)
  go_wp2_with (go_at_call 21; (with_reducible refine (hlive_any _).mono ?_); rintro e w4 ⟨rfl, hb4⟩)
  go_ret
  exact ⟨rfl, hb3.trans (hb4.mono hb3.size)⟩

/-- The place above, by both: the same, whatever d. -/
theorem parents_same (z x y : Nat) (d : Int) (hz : z ≤ 30) (hx : x < 2 ^ z) (hy : y < 2 ^ z) : ∃ a b c : Int,
    (∀ W, Calls Try.prog 22 #[.agg #[.int .i64 (z : Int), .int .i64 (x : Int), .int .i64 (y : Int)], .int .i64 d] W fun e w' => e = .returned (.agg #[.int .i64 a, .int .i64 b, .int .i64 c]) ∧ Below W.heap.size W w') ∧
    (∀ W, Calls Try.prog 38 #[.agg #[.int .i64 (z : Int), .int .i64 (x : Int), .int .i64 (y : Int)], .int .i64 d] W fun e w' => e = .returned (.agg #[.int .i64 a, .int .i64 b, .int .i64 c]) ∧ Below W.heap.size W w') := by
  have hp := isPl_of z x y hz hx hy
  by_cases h : 0 ≤ d ∧ d ≤ z
  · obtain ⟨k, rfl⟩ := Int.eq_ofNat_of_zero_le h.1
    exact ⟨_, _, _, fun W => parent_yes z x y k W hz hx hy (by omega), fun W => refparent_yes z x y k W hz hx hy (by omega)⟩
  · have hno : ¬ IsPl z x y ∨ (IsPl z x y ∧ (d < 0 ∨ (0 ≤ d ∧ (z : Int) < d))) := .inr ⟨hp, by omega⟩
    exact ⟨_, _, _, fun W => parent_no z x y d W hno, fun W => refparent_no z x y d W hno⟩

set_option maxHeartbeats 1000000 in
theorem hilbids_yes (z x y : Nat) (d : Int) (w : World) (hz : z ≤ 30) (hx : x < 2 ^ z) (hy : y < 2 ^ z) :
    Calls Try.prog 8 #[.agg #[.int .i64 (z : Int), .int .i64 (x : Int), .int .i64 (y : Int)], .int .i64 d] w fun e w' => e = .returned (.bool true) ∧ Below w.heap.size w w' := by
  obtain ⟨m, hm⟩ : ∃ m : Nat, min (max d 0) 31 = (m : Int) := ⟨(min (max d 0) 31).toNat, by omega⟩
  have hf := hide (fun W => first_any d m W hm)
  have hrf := hide (fun W => reffirst_any d m W hm)
  obtain ⟨pa, pb, pc, hp, hrp⟩ := parents_same z x y d hz hx hy
  have hp := hide hp
  have hrp := hide hrp
  have hid := hide (fun W => id_yes z x y W hz hx hy)
  have hrid := hide (fun W => refid_yes z x y W hz hx hy)
  have hri := hide (fun W => right_yes z x y W hz hx hy)
  have hrri := hide (fun W => refright_yes z x y W hz hx hy)
  have hof := fun W => of_yes z (Hilb.hil z x y) W hz (Hilb.hil_lt z x y hx hy)
  rw [Hilb.unhil_hil z x y hx hy] at hof
  have hof := hide hof
  clear hm hx hy
  generalize Hilb.F m = G at *
  generalize Hilb.F z + Hilb.hil z x y = n at *
  go_enter Try.func8, Try.ntmps8
  go_wp2_with (first
    | (go_at_call 24; (with_reducible refine (hid.out _).mono ?_); rintro e w1 ⟨rfl, hb1⟩; obtain ⟨c0, c1, c2, hb⟩ := box3 hb1; have hk := (Blk.new w 35 #[.int .i64 z, .int .i64 x, .int .i64 y]).below hb1 (by simp); clear hb1)
    | (go_at_call 29; (with_reducible refine (hrid.out _).mono ?_); rintro e w2 ⟨rfl, hb2⟩; have hk2 := hk.below hb2 hk.lt; clear hk))
  have hbb := hb.trans (hb2.mono hb.size)
  refine wp_region_grw (by kernel_rfl) (by kernel_rfl) ?_
  repeat (first
    | go_big_quiet_skip
    | (go_big_quiet_want
       first
         | (with_reducible refine quiet_load_row 35 (.tmp 2) rfl w.heap.size rfl 35 #[.int .i64 z, .int .i64 x, .int .i64 y] _ Try.underlying35 rfl (info_place _ _ _) hk2 ?_
            simp only [Act.put, List.setIfInBounds_toArray, List.set_cons_zero, List.set_cons_succ]
            go_big_quiet_on)
         | (go_big_quiet_op
            go_big_quiet_on)
         | (go_big_quiet_op
            apply Exists.intro
            refine ⟨fun w' hw' => ?_, ?_⟩
            · first
                | (go_at_call 23; exact grw_step hw' (hri.out w'))
                | (go_at_call 20; exact grw_step hw' (hrri.out w'))
                | (go_at_call 26; exact grw_same hw' (hcode_any _ w'))
                | (go_at_call 25; exact grw_same hw' (hf.out w'))
                | (go_at_call 28; exact grw_same hw' (hrf.out w'))
                | (go_at_call 22; exact grw_step hw' (hp.out w'))
                | (go_at_call 38; exact grw_step hw' (hrp.out w'))
            go_big_quiet_on)))
  refine wpQuiet_nil ?_
  intro w9 hb9
  have hb3 := hbb.trans (hb9.out.mono hbb.size)
  have hk9 := hk2.below hb9.out hk2.lt
  have hz9 := hb3.size
  have hlt9 := hk9.lt
  go_wp2_with (first
    | (go_at_call 27; (with_reducible refine (hof.out _).mono ?_); rintro e w4 ⟨rfl, hb4⟩; have hk4 := hk9.below hb4 hlt9; have hz4 := hb4.size; have d0 := hk4.cell 0; have d1 := hk4.cell 1; have d2 := hk4.cell 2; have hlt4 := hk4.lt; simp only [List.getElem?_toArray, List.getElem?_cons_zero, List.getElem?_cons_succ] at d0 d1 d2)
    | (go_at_call 26; (with_reducible refine (hcode_any _ _).mono ?_); rintro e w' ⟨rfl, rfl⟩)
    | (go_at_call 21; (with_reducible refine (hlive_any _).mono ?_); rintro e w5 ⟨rfl, hb5⟩))
  go_ret
  exact ⟨rfl, (hb3.trans (hb4.mono hz9)).trans (((Below.refl _ w4).alloc (Nat.le_refl _) _).trans (hb5.mono (by simp)) |>.mono (by omega))⟩

theorem hilbids_walk (z x y d : Int) (w : World) :
    Calls Try.prog 8 #[.agg #[.int .i64 z, .int .i64 x, .int .i64 y], .int .i64 d] w fun e w' => e = .returned (.bool true) ∧ Below w.heap.size w w' := by
  by_cases h : IsPl z x y
  · obtain ⟨a, b, c, rfl, rfl, rfl, ha, hb, hc⟩ := isPl_nat h
    exact hilbids_yes a b c d w ha hb hc
  · exact hilbids_no z x y d w h

end Go.Proofs.Ytmgajnllclodfaa
