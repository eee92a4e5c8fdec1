/- Layer 5 (deflate): the symbols of lengths, and of distances, by the program and by the document. There is no condition. -/
import Derived.Test.YthplpoijkebjbaaInfTab
import Derived.OwnWalk
namespace Go.Proofs.Ythplpoijkebjbaa
open Go.RowKit

/-- The symbol of a length: the symbol, what is over, the extra bits. -/
def Def.symV (n : Int) : Int × Int × Int := if 3 ≤ n ∧ n ≤ 258 then (257 + (Def.top Def.lenB n.toNat 29 : Int), n - (Def.lenB (Def.top Def.lenB n.toNat 29) : Int), (Def.lenX (Def.top Def.lenB n.toNat 29) : Int)) else (0, 0, 0)
def Def.farV (n : Int) : Int × Int × Int := if 1 ≤ n ∧ n ≤ 32768 then (0 + (Def.top Def.dstB n.toNat 30 : Int), n - (Def.dstB (Def.top Def.dstB n.toNat 30) : Int), (Def.dstX (Def.top Def.dstB n.toNat 30) : Int)) else (0, 0, 0)
theorem Def.lenV_in (i : Nat) (hi : i < 29) : Def.lenV (257 + (i : Int)) = ((Def.lenB i : Int), (Def.lenX i : Int)) := by
  unfold Def.lenV
  rw [if_pos (by omega), show (257 + (i : Int) - 257).toNat = i by omega]
theorem Def.dstV_in (i : Nat) (hi : i < 30) : Def.dstV (0 + (i : Int)) = ((Def.dstB i : Int), (Def.dstX i : Int)) := by
  unfold Def.dstV
  rw [if_pos (by omega), show (0 + (i : Int)).toNat = i by omega]

set_option maxRecDepth 100000 in
set_option maxHeartbeats 2000000 in
theorem symbol_len (n : Nat) (w : World) (hl : 3 ≤ n) (hn : n ≤ 32768) :
    Calls Try.prog 52 #[.int .i64 (n : Int), .int .i64 257, .int .i64 285, .func (.func 30) #[] #[]] w fun e w' => e = .returned (.tuple #[.int .i64 (257 + (Def.top Def.lenB n 29 : Int)), .int .i64 ((n : Int) - (Def.lenB (Def.top Def.lenB n 29) : Int)), .int .i64 (Def.lenX (Def.top Def.lenB n 29) : Int)]) ∧ w = w' := by
  have hof := hide (show ∀ i : Nat, i < 29 → Calls Try.prog 30 #[.int .i64 (257 + (i : Int))] w fun e w' => e = .returned (.tuple #[.int .i64 (Def.lenB i : Int), .int .i64 (Def.lenX i : Int)]) ∧ w = w' from fun i hi => by
    have h := length_any (257 + (i : Int)) w (by omega) (by omega)
    rw [Def.lenV_in i hi] at h
    exact h)
  have h0 : Def.lenB 0 ≤ n := by
    have : Def.lenB 0 = 3 := by decide
    omega
  replace h0 := hide h0
  have hnI : (n : Int) ≤ 32768 := by omega
  obtain ⟨T, hT⟩ : ∃ T, Def.top Def.lenB n 29 = T := ⟨_, rfl⟩
  rw [hT]
  go_enter Try.func52, Try.ntmps52
  go_wp2
  go_loopw [11] (fun s11 wr => ∃ (j : Nat) (N : Int), 1 ≤ j ∧ j ≤ 29 ∧ s11 = .int .i64 N ∧ Hid (257 + (j : Int) - 1 = N) ∧ Hid (Def.top Def.lenB n j = T) ∧ Hid (w = wr)) (fun s11 _ => (intOf s11 + 1 - 257).toNat)
  case atStart => exact ⟨29, 285, by omega, by omega, rfl, hide (by decide), hide hT, hide rfl⟩
  case round =>
    obtain ⟨j, N, hj1, hj, rfl, hN, ht, hw⟩ := hrel
    have hw' := hw.out
    subst hw'
    obtain ⟨i, rfl⟩ : ∃ i, j = i + 1 := ⟨j - 1, by omega⟩
    have hN' : 257 + (i : Int) = N := by have := hN.out; omega
    have hge : 257 ≤ N := by omega
    have hle : N ≤ 286 := by omega
    have hq := hide (hof.out i (by omega))
    rw [hN'] at hq
    have htop := ht.out
    rw [Def.top] at htop
    obtain ⟨hb, hx⟩ := Def.len_small i (by omega)
    obtain ⟨b, hbb⟩ : ∃ b, Def.lenB i = b := ⟨_, rfl⟩
    obtain ⟨x, hxx⟩ : ∃ x, Def.lenX i = x := ⟨_, rfl⟩
    rw [hbb, hxx] at hq
    rw [hbb] at htop hb
    replace hN := hide hN'
    clear hN'
    by_cases hc : b ≤ n
    · rw [if_pos hc] at htop
      subst htop
      have hcI : (b : Int) ≤ (n : Int) := by omega
      have hsub : IntKind.i64.wrap ((n : Int) - (b : Int)) = (n : Int) - (b : Int) := by rw [IntKind.wrap_i64]; omega
      replace hbb := hide hbb
      replace hxx := hide hxx
      clear ht hT hc
      go_wp2_with (go_at_call 30; (with_reducible refine hq.out.mono ?_); rintro e w' ⟨rfl, rfl⟩)
      go_ret3
      exact ⟨by rw [hN.out, hbb.out, hxx.out]; rfl, rfl⟩
    · rw [if_neg hc] at htop
      have hcI : (n : Int) < (b : Int) := by omega
      have hi1 : 1 ≤ i := by
        rcases Nat.eq_zero_or_pos i with rfl | h
        · have := h0.out
          omega
        · exact h
      have hsub : IntKind.i64.wrap (N - 1) = N - 1 := by rw [IntKind.wrap_i64]; omega
      replace htop := hide htop
      replace hbb := hide hbb
      replace hxx := hide hxx
      clear ht hT hc
      go_wp2_with (go_at_call 30; (with_reducible refine hq.out.mono ?_); rintro e w' ⟨rfl, rfl⟩)
      go_roundw
      case rel => exact ⟨i, N - 1, hi1, by omega, rfl, hide (by have := hN.out; omega), htop, by first | exact hide rfl | exact hide trivial⟩
      case measure => simp [intOf] <;> omega

set_option maxRecDepth 100000 in
set_option maxHeartbeats 2000000 in
theorem symbol_dst (n : Nat) (w : World) (hl : 1 ≤ n) (hn : n ≤ 32768) :
    Calls Try.prog 52 #[.int .i64 (n : Int), .int .i64 0, .int .i64 29, .func (.func 32) #[] #[]] w fun e w' => e = .returned (.tuple #[.int .i64 (0 + (Def.top Def.dstB n 30 : Int)), .int .i64 ((n : Int) - (Def.dstB (Def.top Def.dstB n 30) : Int)), .int .i64 (Def.dstX (Def.top Def.dstB n 30) : Int)]) ∧ w = w' := by
  have hof := hide (show ∀ i : Nat, i < 30 → Calls Try.prog 32 #[.int .i64 (0 + (i : Int))] w fun e w' => e = .returned (.tuple #[.int .i64 (Def.dstB i : Int), .int .i64 (Def.dstX i : Int)]) ∧ w = w' from fun i hi => by
    have h := distance_any (0 + (i : Int)) w 
    rw [Def.dstV_in i hi] at h
    exact h)
  have h0 : Def.dstB 0 ≤ n := by
    have : Def.dstB 0 = 1 := by decide
    omega
  replace h0 := hide h0
  have hnI : (n : Int) ≤ 32768 := by omega
  obtain ⟨T, hT⟩ : ∃ T, Def.top Def.dstB n 30 = T := ⟨_, rfl⟩
  rw [hT]
  go_enter Try.func52, Try.ntmps52
  go_wp2
  go_loopw [11] (fun s11 wr => ∃ (j : Nat) (N : Int), 1 ≤ j ∧ j ≤ 30 ∧ s11 = .int .i64 N ∧ Hid (0 + (j : Int) - 1 = N) ∧ Hid (Def.top Def.dstB n j = T) ∧ Hid (w = wr)) (fun s11 _ => (intOf s11 + 1 - 0).toNat)
  case atStart => exact ⟨30, 29, by omega, by omega, rfl, hide (by decide), hide hT, hide rfl⟩
  case round =>
    obtain ⟨j, N, hj1, hj, rfl, hN, ht, hw⟩ := hrel
    have hw' := hw.out
    subst hw'
    obtain ⟨i, rfl⟩ : ∃ i, j = i + 1 := ⟨j - 1, by omega⟩
    have hN' : 0 + (i : Int) = N := by have := hN.out; omega
    have hge : 0 ≤ N := by omega
    have hle : N ≤ 30 := by omega
    have hq := hide (hof.out i (by omega))
    rw [hN'] at hq
    have htop := ht.out
    rw [Def.top] at htop
    obtain ⟨hb, hx⟩ := Def.dst_small i (by omega)
    obtain ⟨b, hbb⟩ : ∃ b, Def.dstB i = b := ⟨_, rfl⟩
    obtain ⟨x, hxx⟩ : ∃ x, Def.dstX i = x := ⟨_, rfl⟩
    rw [hbb, hxx] at hq
    rw [hbb] at htop hb
    replace hN := hide hN'
    clear hN'
    by_cases hc : b ≤ n
    · rw [if_pos hc] at htop
      subst htop
      have hcI : (b : Int) ≤ (n : Int) := by omega
      have hsub : IntKind.i64.wrap ((n : Int) - (b : Int)) = (n : Int) - (b : Int) := by rw [IntKind.wrap_i64]; omega
      replace hbb := hide hbb
      replace hxx := hide hxx
      clear ht hT hc
      go_wp2_with (go_at_call 32; (with_reducible refine hq.out.mono ?_); rintro e w' ⟨rfl, rfl⟩)
      go_ret3
      exact ⟨by rw [hN.out, hbb.out, hxx.out]; rfl, rfl⟩
    · rw [if_neg hc] at htop
      have hcI : (n : Int) < (b : Int) := by omega
      have hi1 : 1 ≤ i := by
        rcases Nat.eq_zero_or_pos i with rfl | h
        · have := h0.out
          omega
        · exact h
      have hsub : IntKind.i64.wrap (N - 1) = N - 1 := by rw [IntKind.wrap_i64]; omega
      replace htop := hide htop
      replace hbb := hide hbb
      replace hxx := hide hxx
      clear ht hT hc
      go_wp2_with (go_at_call 32; (with_reducible refine hq.out.mono ?_); rintro e w' ⟨rfl, rfl⟩)
      go_roundw
      case rel => exact ⟨i, N - 1, hi1, by omega, rfl, hide (by have := hN.out; omega), htop, by first | exact hide rfl | exact hide trivial⟩
      case measure => simp [intOf] <;> omega

theorem sym_any (n : Int) (w : World) : Calls Try.prog 19 #[.int .i64 n] w fun e w' => e = .returned (.tuple #[.int .i64 (Def.symV n).1, .int .i64 (Def.symV n).2.1, .int .i64 (Def.symV n).2.2]) ∧ w = w' := by
  by_cases h : 3 ≤ n ∧ n ≤ 258
  · obtain ⟨k, rfl⟩ := Int.eq_ofNat_of_zero_le (show 0 ≤ n by omega)
    have hq := hide (symbol_len k w (by omega) (by omega))
    have hV := hide (show Def.symV (k : Int) = (257 + (Def.top Def.lenB k 29 : Int), (k : Int) - (Def.lenB (Def.top Def.lenB k 29) : Int), (Def.lenX (Def.top Def.lenB k 29) : Int)) from by unfold Def.symV; rw [if_pos h]; rfl)
    obtain ⟨V, hVV⟩ : ∃ V, Def.symV (k : Int) = V := ⟨_, rfl⟩
    rw [hVV] at hV ⊢
    have h1 := h.1
    have h2 := h.2
    clear h hVV
    generalize Def.top Def.lenB k 29 = T at *
    go_enter Try.func19, Try.ntmps19
    go_wp2_with (go_at_call 52; (with_reducible refine hq.out.mono ?_); rintro e w' ⟨rfl, rfl⟩)
    go_ret3
    exact ⟨by rw [hV.out]; first | rfl | (simp only [Int.zero_add]; rfl), rfl⟩
  · have hV := hide (show Def.symV n = (0, 0, 0) from by unfold Def.symV; rw [if_neg h])
    by_cases h1 : n < 3
    · clear h
      go_enter Try.func19, Try.ntmps19
      go_wp2
      go_ret3
      exact ⟨by rw [hV.out]; rfl, rfl⟩
    · have h2 : 3 ≤ n := by omega
      have h3 : 258 < n := by omega
      clear h h1
      go_enter Try.func19, Try.ntmps19
      go_wp2
      go_ret3
      exact ⟨by rw [hV.out]; rfl, rfl⟩

theorem far_any (n : Int) (w : World) : Calls Try.prog 21 #[.int .i64 n] w fun e w' => e = .returned (.tuple #[.int .i64 (Def.farV n).1, .int .i64 (Def.farV n).2.1, .int .i64 (Def.farV n).2.2]) ∧ w = w' := by
  by_cases h : 1 ≤ n ∧ n ≤ 32768
  · obtain ⟨k, rfl⟩ := Int.eq_ofNat_of_zero_le (show 0 ≤ n by omega)
    have hq := hide (symbol_dst k w (by omega) (by omega))
    have hV := hide (show Def.farV (k : Int) = (0 + (Def.top Def.dstB k 30 : Int), (k : Int) - (Def.dstB (Def.top Def.dstB k 30) : Int), (Def.dstX (Def.top Def.dstB k 30) : Int)) from by unfold Def.farV; rw [if_pos h]; rfl)
    obtain ⟨V, hVV⟩ : ∃ V, Def.farV (k : Int) = V := ⟨_, rfl⟩
    rw [hVV] at hV ⊢
    have h1 := h.1
    have h2 := h.2
    clear h hVV
    generalize Def.top Def.dstB k 30 = T at *
    go_enter Try.func21, Try.ntmps21
    go_wp2_with (go_at_call 52; (with_reducible refine hq.out.mono ?_); rintro e w' ⟨rfl, rfl⟩)
    go_ret3
    exact ⟨by rw [hV.out]; first | rfl | (simp only [Int.zero_add]; rfl), rfl⟩
  · have hV := hide (show Def.farV n = (0, 0, 0) from by unfold Def.farV; rw [if_neg h])
    by_cases h1 : n < 1
    · clear h
      go_enter Try.func21, Try.ntmps21
      go_wp2
      go_ret3
      exact ⟨by rw [hV.out]; rfl, rfl⟩
    · have h2 : 1 ≤ n := by omega
      have h3 : 32768 < n := by omega
      clear h h1
      go_enter Try.func21, Try.ntmps21
      go_wp2
      go_ret3
      exact ⟨by rw [hV.out]; rfl, rfl⟩

end Go.Proofs.Ythplpoijkebjbaa
