/- The walk of the law HilbNear: it returns true for every number. There is no condition. -/
import Derived.Test.YtmgajnllclodfaaHilbAbove
namespace Go.Proofs.Ytmgajnllclodfaa
open Go.RowKit
attribute [local go_sem] grw_all

def lowN : Nat := Hilb.F 30
theorem reffirst30_any (w : World) : Calls Try.prog 28 #[.int .i64 30] w fun e w' => e = .returned (.int .u64 (lowN : Int)) ∧ w = w' := reffirst_any 30 30 w (by omega)
theorem zoom30 (id : Nat) (h : id < lowN) : ∃ z r, z ≤ 29 ∧ id = Hilb.F z + r ∧ r < 4 ^ z := by
  have h31 : id < topN := Nat.lt_of_lt_of_le h (Hilb.F_mono (by omega))
  obtain ⟨z, r, hz, rfl, hr⟩ := zoom id h31
  refine ⟨z, r, ?_, rfl, hr⟩
  rcases Nat.lt_or_ge z 30 with h1 | h1
  · omega
  · have : lowN ≤ Hilb.F z := Hilb.F_mono h1
    omega

/-- What stands beside: the next number's place. -/
theorem next_place (z r : Nat) (hz : z ≤ 29) (hr : r < 4 ^ z) : ∃ z2 X2 Y2 : Nat, (∀ W, Calls Try.prog 27 #[.int .u64 (((Hilb.F z + r : Nat) : Int) + 1)] W
      fun e w' => e = .returned (.tuple #[.agg #[.int .i64 (z2 : Int), .int .i64 (X2 : Int), .int .i64 (Y2 : Int)], .int .i64 0]) ∧ Below W.heap.size W w') ∧
    X2 < 1073741824 ∧ Y2 < 1073741824 ∧ z2 ≤ 30 ∧
    ((z2 = z ∧ ∃ dx dy : Int, ((Hilb.unhil z r).1 : Int) - X2 = dx ∧ ((Hilb.unhil z r).2 : Int) - Y2 = dy ∧ ((dx = 0 ∧ dy = -1) ∨ (dx = 0 ∧ dy = 1) ∨ (dx = -1 ∧ dy = 0) ∨ (dx = 1 ∧ dy = 0))) ∨ z2 = z + 1) := by
  by_cases h : r + 1 < 4 ^ z
  · obtain ⟨b1, b2⟩ := Hilb.unhil_lt z (r + 1)
    have hS := pow2_le z (by omega)
    refine ⟨z, (Hilb.unhil z (r + 1)).1, (Hilb.unhil z (r + 1)).2, fun W => ?_, by omega, by omega, by omega, .inl ⟨rfl, _, _, rfl, rfl, ?_⟩⟩
    · have := of_yes z (r + 1) W (by omega) h
      rw [show ((Hilb.F z + (r + 1) : Nat) : Int) = ((Hilb.F z + r : Nat) : Int) + 1 from by omega] at this
      exact this
    · have hn := Hilb.near z r h
      unfold Hilb.Adj at hn
      omega
  · have e : r + 1 = 4 ^ z := by omega
    refine ⟨z + 1, 0, 0, fun W => ?_, by omega, by omega, by omega, .inr rfl⟩
    have := of_yes (z + 1) 0 W (by omega) (Hilb.four_pos _)
    have hs : Hilb.unhil (z + 1) 0 = (0, 0) := by have := Hilb.unhil_start (z + 1) 0; rwa [Nat.zero_mul] at this
    rw [hs, Nat.add_zero, Hilb.F_next, ← e, show ((Hilb.F z + (r + 1) : Nat) : Int) = ((Hilb.F z + r : Nat) : Int) + 1 from by omega] at this
    exact this

/-- The four tiles within. -/
theorem within (z r k : Nat) (hz : z ≤ 29) (hr : r < 4 ^ z) (hk : k < 4) : ∃ X Y : Nat, (∀ W, Calls Try.prog 27 #[.int .u64 (((Hilb.F (z + 1) + 4 * r : Nat) : Int) + k)] W
      fun e w' => e = .returned (.tuple #[.agg #[.int .i64 ((z : Int) + 1), .int .i64 (X : Int), .int .i64 (Y : Int)], .int .i64 0]) ∧ Below W.heap.size W w') ∧
    (∀ W, Calls Try.prog 22 #[.agg #[.int .i64 ((z : Int) + 1), .int .i64 (X : Int), .int .i64 (Y : Int)], .int .i64 1] W
      fun e w' => e = .returned (.agg #[.int .i64 (z : Int), .int .i64 ((Hilb.unhil z r).1 : Int), .int .i64 ((Hilb.unhil z r).2 : Int)]) ∧ Below W.heap.size W w') := by
  have hr4 : 4 * r + k < 4 ^ (z + 1) := by rw [Nat.pow_succ]; omega
  have hup := Hilb.unhil_up z (4 * r + k)
  rw [show (4 * r + k) / 4 = r from by omega] at hup
  obtain ⟨b1, b2⟩ := Hilb.unhil_lt (z + 1) (4 * r + k)
  refine ⟨(Hilb.unhil (z + 1) (4 * r + k)).1, (Hilb.unhil (z + 1) (4 * r + k)).2, fun W => ?_, fun W => ?_⟩
  · have := of_yes (z + 1) (4 * r + k) W (by omega) hr4
    rw [show ((Hilb.F (z + 1) + (4 * r + k) : Nat) : Int) = ((Hilb.F (z + 1) + 4 * r : Nat) : Int) + k from by omega] at this
    exact this
  · have := parent_yes (z + 1) _ _ 1 W (by omega) b1 b2 (by omega)
    rw [hup]
    exact this

theorem hilbnear_out (id : Nat) (w : World) (h : lowN ≤ id) : Calls Try.prog 9 #[.int .u64 (id : Int)] w fun e w' => e = .returned (.bool true) ∧ Below w.heap.size w w' := by
  go_enter Try.func9, Try.ntmps9
  go_wp2_with (first
    | (go_at_call 28; (with_reducible refine (reffirst30_any _).mono ?_); rintro e w' ⟨rfl, rfl⟩)
    | (go_at_call 21; (with_reducible refine (hlive_any _).mono ?_); rintro e w3 ⟨rfl, hb3⟩))
  go_ret
  exact ⟨rfl, hb3⟩

set_option maxHeartbeats 2000000 in
theorem hilbnear_in (z r : Nat) (w : World) (hz : z ≤ 29) (hr : r < 4 ^ z) (hlow : Hilb.F z + r < lowN) : Calls Try.prog 9 #[.int .u64 ((Hilb.F z + r : Nat) : Int)] w fun e w' => e = .returned (.bool true) ∧ Below w.heap.size w w' := by
  have hof := hide (fun W => of_yes z r W (by omega) hr)
  obtain ⟨z2, X2, Y2, hnx, hX2, hY2, hz2, hcase⟩ := next_place z r hz hr
  have hnx := hide hnx
  have hin := hide (fun k hk => within z r k hz hr hk)
  have hF1 := hide (fun W => reffirst_any (z + 1) (z + 1) W (by omega))
  have hF0 := hide (fun W => reffirst_any z z W (by omega))
  obtain ⟨bX, bY⟩ := Hilb.unhil_lt z r
  have hS := pow2_le z (by omega)
  have hbase : Hilb.F (z + 1) + 4 * r ≤ 7686143364045646505 := by
    have h1 := Hilb.F_lt (z := z + 1) (by omega)
    have h2 : Hilb.F (z + 1) ≤ 1537228672809129301 := h1
    have h3 : Hilb.F z + r < Hilb.F (z + 1) := by rw [Hilb.F_next]; omega
    omega
  have hr2 : r ≤ 1537228672809129301 := by
    have h1 := Hilb.F_lt (z := z + 1) (by omega)
    rw [Hilb.F_next] at h1
    omega
  have hFz := Hilb.F_lt (z := z) (by omega)
  have hFz1 := Hilb.F_lt (z := z + 1) (by omega)
  have hX : (Hilb.unhil z r).1 < 1073741824 := by omega
  have hY : (Hilb.unhil z r).2 < 1073741824 := by omega
  clear bX bY hS hr
  generalize (Hilb.unhil z r).1 = X at *
  generalize (Hilb.unhil z r).2 = Y at *
  generalize Hilb.F (z + 1) = F1 at *
  generalize Hilb.F z = F0 at *
  have hsub : Hid (F0 + r - F0 = r) := by show _ = _; omega
  have hle0 : Hid (F0 ≤ F0 + r) := by show _ ≤ _; omega
  have hidb : Hid (F0 + r ≤ 7686143364045646505) := by
    have h1 : Hilb.F 30 ≤ 1537228672809129301 := Hilb.F_lt (by omega)
    have h2 : lowN ≤ 1537228672809129301 := h1
    show _ ≤ _
    omega
  generalize F0 + r = id at *
  have hB := hide hbase
  have hR := hide hr2
  have hF0b := hide hFz
  have hF1b := hide hFz1
  clear hbase hr2 hFz hFz1
  have hw1 : IntKind.u64.wrap ((id : Int) + 1) = (id : Int) + 1 := by rw [IntKind.wrap_u64]; have := hidb.out; omega
  have hw2 : IntKind.u64.wrap ((id : Int) - F0) = (r : Int) := by rw [IntKind.wrap_u64]; have := hidb.out; have := hsub.out; have := hle0.out; omega
  have hw3 : IntKind.u64.wrap (4 * (r : Int)) = 4 * (r : Int) := by rw [IntKind.wrap_u64]; have := hR.out; omega
  have hw4 : IntKind.u64.wrap ((F1 : Int) + 4 * r) = ((F1 + 4 * r : Nat) : Int) := by rw [IntKind.wrap_u64]; have := hB.out; omega
  have hw5 : IntKind.i64.wrap ((z : Int) + 1) = (z : Int) + 1 := IntWalk.i64_in _ ⟨by omega, by omega⟩
  have hw6 : Hid (∀ k : Nat, k < 4 → IntKind.u64.wrap (((F1 + 4 * r : Nat) : Int) + k) = ((F1 + 4 * r : Nat) : Int) + k) := by
    intro k hk
    rw [IntKind.wrap_u64]; have := hB.out; omega
  generalize F1 + 4 * r = base at *
  clear hB hsub hle0 hidb hR hF0b hF1b
  have hcase' : (z = z2 ∧ ∃ dx dy : Int, ((X : Int) - X2 = dx ∧ (Y : Int) - Y2 = dy) ∧ ((dx = 0 ∧ dy = -1) ∨ (dx = 0 ∧ dy = 1) ∨ (dx = -1 ∧ dy = 0) ∨ (dx = 1 ∧ dy = 0))) ∨ z2 = z + 1 := by
    rcases hcase with ⟨h, dx, dy, h1, h2, h3⟩ | h
    · exact .inl ⟨h.symm, dx, dy, ⟨h1, h2⟩, h3⟩
    · exact .inr h
  clear hcase
  rcases hcase' with ⟨rfl, dx, dy, ⟨hdx, hdy⟩, ⟨rfl, rfl⟩ | ⟨rfl, rfl⟩ | ⟨rfl, rfl⟩ | ⟨rfl, rfl⟩⟩ | rfl
  all_goals
    go_enter Try.func9, Try.ntmps9
    go_wp2_with (first
      | (go_at_call 28; (with_reducible refine (reffirst30_any _).mono ?_); rintro e w' ⟨rfl, rfl⟩)
      | (go_at_call 27; (with_reducible refine (hof.out _).mono ?_); rintro e w1 ⟨rfl, hb1⟩; have hz1 := hb1.size)
      | (go_at_call 27; (with_reducible refine (hnx.out _).mono ?_); rintro e w2 ⟨rfl, hb2⟩; have hz2' := hb2.size; have hp2 := (Blk.new w1 35 _).below hb2 (by simp); obtain ⟨c0, c1, c2⟩ := cells3 hp2; have hpl := hp2.lt)
      | (go_at_call 26; (with_reducible refine (hcode_any _ _).mono ?_); rintro e w' ⟨rfl, rfl⟩))
    go_quiet (fail)
    go_wp2
    go_quiet ((first | (go_at_call 28; with_reducible exact quiet_left2 (hF1.out _)) | (go_at_call 28; with_reducible exact quiet_left2 (hF0.out _))))
    go_wp2
    have hp3 := hide (fun o => hp2.alloc o)
    have hb3 := hide (fun o => ((hb1.alloc hz1 (.cells #[.int .i64 z, .int .i64 X, .int .i64 Y] 35)).trans (hb2.mono (by simp; omega))).alloc (by simp at hz2'; omega) o)
    have hz1 := hide hz1
    generalize w1.heap.size = gp at *
    clear hp2 hb1 hb2 c0 c1 c2 hof hnx hF0 hF1 hw1 hw2 hw3 hw4 hw5 hlow
    go_loopw [10] (fun i wr => ∃ k : Nat, k ≤ 4 ∧ i = .int .u64 k ∧ Hid (Blk wr gp 35 #[.int .i64 z, .int .i64 X, .int .i64 Y]) ∧ Hid (Below w.heap.size w wr)) (fun i _ => 4 - (intOf i).toNat)
    case atStart => exact ⟨0, by omega, rfl, ((hp3.out _).drewN _).drewN _, below_drewN (below_drewN (hb3.out _) _) _⟩
    case round =>
      clear hp3 hb3
      obtain ⟨k, hk, rfl, hp3, hb3⟩ := hrel
      by_cases hlt : k < 4
      · obtain ⟨Xk, Yk, hofk, hpark⟩ := hin.out k hlt
        have hofk := hide hofk
        have hpark := hide hpark
        have hwk := hw6.out k hlt
        have hz3 := hb3.out.size
        have hgl := hp3.out.lt
        go_wp2_with (go_at_call 27; (with_reducible refine (hofk.out _).mono ?_); rintro e w4 ⟨rfl, hb4⟩; have hz4 := hb4.size; have hp4 := (hp3.out.below hb4 hgl).alloc (.cells #[.int .i64 ((z : Int) + 1), .int .i64 Xk, .int .i64 Yk] 35); have hc4 := Blk.new w4 35 #[.int .i64 ((z : Int) + 1), .int .i64 Xk, .int .i64 Yk]; have hb5 := (hb3.out.trans (hb4.mono hz3)).alloc (Nat.le_trans hz3 hz4) (.cells #[.int .i64 ((z : Int) + 1), .int .i64 Xk, .int .i64 Yk] 35))
        generalize w4.alloc (.cells #[.int .i64 ((z : Int) + 1), .int .i64 Xk, .int .i64 Yk] 35) = w5 at *
        generalize w4.heap.size = gc at *
        refine wp_region_grw (by kernel_rfl) (by kernel_rfl) ?_
        repeat (first
          | go_big_quiet_skip
          | (go_big_quiet_want
             first
               | (with_reducible refine quiet_load_row 35 (.tmp 11) rfl gc rfl 35 #[.int .i64 ((z : Int) + 1), .int .i64 Xk, .int .i64 Yk] _ Try.underlying35 rfl (info_place _ _ _) hc4 ?_
                  simp only [Act.put, List.setIfInBounds_toArray, List.set_cons_zero, List.set_cons_succ]
                  go_big_quiet_on)
               | (with_reducible refine quiet_load_row 35 (.tmp 3) rfl gp rfl 35 #[.int .i64 z, .int .i64 X, .int .i64 Y] _ Try.underlying35 rfl (info_place _ _ _) hp4 ?_
                  simp only [Act.put, List.setIfInBounds_toArray, List.set_cons_zero, List.set_cons_succ]
                  go_big_quiet_on)
               | (go_big_quiet_op
                  go_big_quiet_on)
               | (go_big_quiet_op
                  apply Exists.intro
                  refine ⟨fun w' hw' => ?_, ?_⟩
                  · first
                      | (go_at_call 26; exact grw_same hw' (hcode_any _ w'))
                      | (go_at_call 22; exact grw_step hw' (hpark.out w'))
                  go_big_quiet_on)))
        refine wpQuiet_nil ?_
        intro w9 hb9
        have hp9 := hide (hp4.below hb9.out hp4.lt)
        have hb6 := hide (hb5.trans (hb9.out.mono hb5.size))
        clear hc4 hp4 hb5 hb9 hp3 hb3 hofk hpark hwk
        go_wp2
        go_roundw
        case rel => exact ⟨k + 1, by omega, by go_num, hp9, hb6⟩
        case measure => simp [intOf]; omega
      · obtain rfl : k = 4 := by omega
        go_wp2_with (go_at_call 21; (with_reducible refine (hlive_any _).mono ?_); rintro e w3 ⟨rfl, hb4⟩)
        go_ret
        exact ⟨rfl, hb3.out.trans (hb4.mono hb3.out.size)⟩

theorem hilbnear_walk (id : Nat) (w : World) : Calls Try.prog 9 #[.int .u64 (id : Int)] w fun e w' => e = .returned (.bool true) ∧ Below w.heap.size w w' := by
  rcases Nat.lt_or_ge id lowN with h | h
  · obtain ⟨z, r, hz, rfl, hr⟩ := zoom30 id h
    exact hilbnear_in z r w hz hr h
  · exact hilbnear_out id w h

end Go.Proofs.Ytmgajnllclodfaa
