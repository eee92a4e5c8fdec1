/- Layer 4 (inflate): what each symbol of lengths, and of distances, means, by the program and by the document. There is no condition. -/
import Derived.Test.YthplpoijkebjbaaDefLaw
namespace Go.Proofs.Ythplpoijkebjbaa
open Go.RowKit

/-- What a symbol of lengths means: base and extra bits. -/
def Def.lenV (sym : Int) : Int × Int := if 257 ≤ sym ∧ sym ≤ 285 then ((Def.lenB (sym - 257).toNat : Int), (Def.lenX (sym - 257).toNat : Int)) else (0, 0)
def Def.dstV (sym : Int) : Int × Int := if 0 ≤ sym ∧ sym ≤ 29 then ((Def.dstB sym.toNat : Int), (Def.dstX sym.toNat : Int)) else (0, 0)

set_option maxRecDepth 100000 in
set_option maxHeartbeats 4000000 in
theorem length_any (sym : Int) (w : World) (h1 : -9223372036854775808 ≤ sym) (h2 : sym ≤ 9223372036854775807) :
    Calls Try.prog 30 #[.int .i64 sym] w fun e w' => e = .returned (.tuple #[.int .i64 (Def.lenV sym).1, .int .i64 (Def.lenV sym).2]) ∧ w = w' := by
  by_cases h : 257 ≤ sym ∧ sym ≤ 285
  · clear h1 h2
    rcases (show sym = 257 ∨ sym = 258 ∨ sym = 259 ∨ sym = 260 ∨ sym = 261 ∨ sym = 262 ∨ sym = 263 ∨ sym = 264 ∨ sym = 265 ∨ sym = 266 ∨ sym = 267 ∨ sym = 268 ∨ sym = 269 ∨ sym = 270 ∨ sym = 271 ∨ sym = 272 ∨ sym = 273 ∨ sym = 274 ∨ sym = 275 ∨ sym = 276 ∨ sym = 277 ∨ sym = 278 ∨ sym = 279 ∨ sym = 280 ∨ sym = 281 ∨ sym = 282 ∨ sym = 283 ∨ sym = 284 ∨ sym = 285 by omega) with rfl | rfl | rfl | rfl | rfl | rfl | rfl | rfl | rfl | rfl | rfl | rfl | rfl | rfl | rfl | rfl | rfl | rfl | rfl | rfl | rfl | rfl | rfl | rfl | rfl | rfl | rfl | rfl | rfl <;>
    · clear h
      go_enter Try.func30, Try.ntmps30
      go_wp2
      go_ret2
      exact ⟨rfl, rfl⟩
  · rw [Def.lenV, if_neg h]
    simp only
    by_cases h3 : sym < 257
    · clear h
      go_enter Try.func30, Try.ntmps30
      go_wp2
      go_ret2
      exact ⟨rfl, rfl⟩
    · have h4 : 257 ≤ sym := by omega
      have h5 : 285 < sym := by omega
      clear h h3
      go_enter Try.func30, Try.ntmps30
      go_wp2
      go_ret2
      exact ⟨rfl, rfl⟩

set_option maxRecDepth 100000 in
set_option maxHeartbeats 4000000 in
theorem distance_any (sym : Int) (w : World) :
    Calls Try.prog 32 #[.int .i64 sym] w fun e w' => e = .returned (.tuple #[.int .i64 (Def.dstV sym).1, .int .i64 (Def.dstV sym).2]) ∧ w = w' := by
  by_cases h : 0 ≤ sym ∧ sym ≤ 29
  · rcases (show sym = 0 ∨ sym = 1 ∨ sym = 2 ∨ sym = 3 ∨ sym = 4 ∨ sym = 5 ∨ sym = 6 ∨ sym = 7 ∨ sym = 8 ∨ sym = 9 ∨ sym = 10 ∨ sym = 11 ∨ sym = 12 ∨ sym = 13 ∨ sym = 14 ∨ sym = 15 ∨ sym = 16 ∨ sym = 17 ∨ sym = 18 ∨ sym = 19 ∨ sym = 20 ∨ sym = 21 ∨ sym = 22 ∨ sym = 23 ∨ sym = 24 ∨ sym = 25 ∨ sym = 26 ∨ sym = 27 ∨ sym = 28 ∨ sym = 29 by omega) with rfl | rfl | rfl | rfl | rfl | rfl | rfl | rfl | rfl | rfl | rfl | rfl | rfl | rfl | rfl | rfl | rfl | rfl | rfl | rfl | rfl | rfl | rfl | rfl | rfl | rfl | rfl | rfl | rfl | rfl <;>
    · clear h
      go_enter Try.func32, Try.ntmps32
      go_wp2
      go_ret2
      exact ⟨rfl, rfl⟩
  · rw [Def.dstV, if_neg h]
    simp only
    by_cases h3 : sym < 0
    · clear h
      go_enter Try.func32, Try.ntmps32
      go_wp2
      go_ret2
      exact ⟨rfl, rfl⟩
    · have h4 : 0 ≤ sym := by omega
      have h5 : 30 ≤ sym := by omega
      clear h h3
      go_enter Try.func32, Try.ntmps32
      go_wp2
      go_ret2
      exact ⟨rfl, rfl⟩

theorem power4_any (n : Nat) (w : World) (hn : n ≤ 30) : Calls Try.prog 60 #[.int .i64 (n : Int)] w fun e w' => e = .returned (.int .i64 ((2 ^ n : Nat) : Int)) ∧ w = w' := by
  have hnI : (n : Int) ≤ 30 := by omega
  go_enter Try.func60, Try.ntmps60
  go_wp2
  go_loopw [3, 4] (fun s2 s3 wr => ∃ (i V : Nat), i ≤ n ∧ s2 = .int .i64 (V : Int) ∧ s3 = .int .i64 (i : Int) ∧ Hid (2 ^ i = V) ∧ Hid (w = wr)) (fun _ s3 _ => n - (intOf s3).toNat)
  case atStart => exact ⟨0, 1, by omega, rfl, rfl, hide rfl, hide rfl⟩
  case round =>
    obtain ⟨i, V, hin, rfl, rfl, hV, hw⟩ := hrel
    have hw' := hw.out
    subst hw'
    by_cases hlt : i < n
    · have hiI : (i : Int) < (n : Int) := by omega
      have hVb : V ≤ 1073741824 := by
        rw [← hV.out]
        exact Nat.le_trans (Nat.pow_le_pow_right (by decide) (by omega : i ≤ 30)) (by decide)
      obtain ⟨V2, hV2⟩ : ∃ V2, 2 * V = V2 := ⟨_, rfl⟩
      have e1 : 2 * (V : Int) = (V2 : Int) := by omega
      have e2 : IntKind.i64.wrap (V2 : Int) = (V2 : Int) := by rw [IntKind.wrap_i64]; omega
      have hn2 := hide (show 2 ^ (i + 1) = V2 by rw [Nat.pow_succ, hV.out, ← hV2, Nat.mul_comm])
      clear hVb hV2
      go_wp2
      go_roundw
      case rel => exact ⟨i + 1, V2, by omega, rfl, by go_num, hn2, by first | exact hide rfl | exact hide trivial⟩
      case measure => simp [intOf] <;> omega
    · obtain rfl : i = n := by omega
      go_wp2
      go_ret
      exact ⟨by show Ending.returned (Value.int IntKind.i64 _) = _; rw [← hV.out]; simp, rfl⟩

theorem Def.lenB_succ : ∀ j < 27, Def.lenB (j + 1) = Def.lenB j + 2 ^ Def.lenX j := by decide
theorem Def.lenX_up : ∀ j < 28, Def.lenX j = (if j = 0 then 0 else Def.lenX (j - 1)) + (if 8 ≤ j ∧ (j - 8) % 4 = 0 then 1 else 0) := by decide
theorem Def.dstB_succ : ∀ j < 29, Def.dstB (j + 1) = Def.dstB j + 2 ^ Def.dstX j := by decide
theorem Def.dstX_up : ∀ j < 30, Def.dstX j = (if j = 0 then 0 else Def.dstX (j - 1)) + (if 4 ≤ j ∧ j % 2 = 0 then 1 else 0) := by decide
theorem Def.len_small : ∀ j < 29, Def.lenB j ≤ 300 ∧ Def.lenX j ≤ 10 := by decide
theorem Def.dst_small : ∀ j < 30, Def.dstB j ≤ 40000 ∧ Def.dstX j ≤ 20 := by decide

set_option maxRecDepth 100000 in
set_option maxHeartbeats 4000000 in
theorem rlength_any (sym : Int) (w : World) (h1 : -9223372036854775808 ≤ sym) (h2 : sym ≤ 9223372036854775807) :
    Calls Try.prog 31 #[.int .i64 sym] w fun e w' => e = .returned (.tuple #[.int .i64 (Def.lenV sym).1, .int .i64 (Def.lenV sym).2]) ∧ w = w' := by
  by_cases h285 : sym = 285
  · subst h285
    clear h1 h2
    go_enter Try.func31, Try.ntmps31
    go_wp2
    go_ret2
    exact ⟨rfl, rfl⟩
  have h285' : (sym == 285) = false := by simp [h285]
  have hval := hide (show ∀ j : Nat, j < 28 → sym = 257 + (j : Int) → Def.lenV sym = ((Def.lenB j : Int), (Def.lenX j : Int)) from by
    intro j hj he
    unfold Def.lenV
    rw [if_pos (by omega), he]
    first | rw [show ((257 : Int) + (j : Int) - 257).toNat = j by omega] | rw [show ((257 : Int) + (j : Int)).toNat = j by omega])
  have hout := hide (show (sym < 257 ∨ 257 + 28 ≤ sym) → Def.lenV sym = (0, 0) from by
    intro h
    unfold Def.lenV
    rw [if_neg (by omega)])
  go_enter Try.func31, Try.ntmps31
  go_wp2
  go_loopw [4, 5, 6] (fun sb sx sn wr => ∃ (j VB VX : Nat), j ≤ 28 ∧ sb = .int .i64 (VB : Int) ∧ sx = .int .i64 (VX : Int) ∧ sn = .int .i64 (257 + (j : Int)) ∧ Hid (j < 28 → VB = Def.lenB j) ∧ Hid (VX = if j = 0 then 0 else Def.lenX (j - 1)) ∧ Hid (sym < 257 ∨ 257 + (j : Int) ≤ sym) ∧ Hid (w = wr)) (fun _ _ sn _ => 257 + 28 - (intOf sn).toNat)
  case atStart => exact ⟨0, Def.lenB 0, 0, by omega, rfl, rfl, rfl, hide (fun _ => rfl), hide rfl, hide (by omega), hide rfl⟩
  case round =>
    obtain ⟨j, VB, VX, hj, rfl, rfl, rfl, hB, hX, hs, hw⟩ := hrel
    have hw' := hw.out
    subst hw'
    obtain ⟨N, hN⟩ : ∃ N : Int, 257 + (j : Int) = N := ⟨_, rfl⟩
    rw [hN]
    by_cases hlt : j < 28
    · have hNI : N < 285 := by omega
      have hB1 := hB.out hlt
      obtain ⟨hs1, hs2⟩ := Def.len_small j (by omega)
      have hup := Def.lenX_up j (by omega)
      obtain ⟨Y, hY⟩ : ∃ Y, Def.lenX j = Y := ⟨_, rfl⟩
      rw [hY] at hup hs2
      rw [← hX.out] at hup
      obtain ⟨PW, hPW⟩ : ∃ PW, 2 ^ Y = PW := ⟨_, rfl⟩
      have hPWb : PW ≤ 1048576 := by rw [← hPW]; exact Nat.le_trans (Nat.pow_le_pow_right (by decide) hs2) (by decide)
      have hpow := hide (show Calls Try.prog 60 #[.int .i64 (Y : Int)] w fun e w' => e = .returned (.int .i64 (PW : Int)) ∧ w = w' from by rw [← hPW]; exact power4_any Y w (by omega))
      have hVBb : VB ≤ 40000 := by omega
      have hVXb : VX ≤ 20 := by omega
      obtain ⟨VB2, hVB2⟩ : ∃ V, VB + PW = V := ⟨_, rfl⟩
      have e1 : (VB : Int) + (PW : Int) = (VB2 : Int) := by omega
      have e2 : IntKind.i64.wrap (VB2 : Int) = (VB2 : Int) := by rw [IntKind.wrap_i64]; omega
      have e3 : IntKind.i64.wrap (N + 1) = N + 1 := by rw [IntKind.wrap_i64]; omega
      have hB2 := hide (show j + 1 < 28 → VB2 = Def.lenB (j + 1) from fun hj' => by rw [Def.lenB_succ j (by omega), hY, hPW, ← hB1, hVB2])
      have hX2 := hide (show Y = if j + 1 = 0 then 0 else Def.lenX (j + 1 - 1) from by rw [if_neg (by omega), Nat.add_sub_cancel, hY])
      have hret := hide (show sym = N → Def.lenV sym = ((VB : Int), (Y : Int)) from fun he => by rw [hval.out j hlt (by omega), hB1, hY])
      have hs3 := hide (show sym ≠ N → (sym < 257 ∨ 257 + ((j + 1 : Nat) : Int) ≤ sym) from fun hne => by have := hs.out; omega)
      replace hN := hide hN
      replace hPW := hide hPW
      replace hY := hide hY
      by_cases hc : 8 ≤ j ∧ (j - 8) % 4 = 0
      · obtain ⟨hc1, hc2⟩ := hc
        rw [if_pos ⟨hc1, hc2⟩] at hup
        have t1 : 265 ≤ N := by have := hN.out; omega
        have t2 : IntKind.i64.wrap (N - 265) = N - 265 := by rw [IntKind.wrap_i64]; omega
        have t3 : Int.tmod (N - 265) 4 = 0 := by rw [Int.tmod_eq_emod_of_nonneg (by omega)]; have := hN.out; omega
        have t4 : (N - 265) % 4 = 0 := by have := hN.out; omega
        have e4 : (VX : Int) + 1 = (Y : Int) := by omega
        have e5 : IntKind.i64.wrap (Y : Int) = (Y : Int) := by rw [IntKind.wrap_i64]; omega
        clear hup hs1 hs2 hB1 hVBb hVXb hPWb hVB2 hX hB hs
        by_cases he : N = sym
        · subst he
          go_wp2
          go_ret2
          exact ⟨by first | (rw [hret.out rfl]; rfl) | (rw [hret.out trivial]; rfl), rfl⟩
        · have hne : (N == sym) = false := by simp [he]
          go_wp2_with (go_at_call 60; (with_reducible refine hpow.out.mono ?_); rintro e w' ⟨rfl, rfl⟩)
          go_roundw
          case rel => exact ⟨j + 1, VB2, Y, by omega, rfl, rfl, by first | rfl | (have := hN.out; congr 1; push_cast; omega), hB2, hX2, hide (hs3.out (fun h => he h.symm)), by first | exact hide rfl | exact hide trivial⟩
          case measure => have := hN.out; simp [intOf] <;> omega
      · rw [if_neg hc] at hup
        obtain rfl : VX = Y := by omega
        clear hup hs1 hs2 hB1 hVBb hVXb hPWb hVB2 hX hB hs
        have hcc : (N < 265) ∨ (265 ≤ N ∧ ¬ (N - 265) % 4 = 0) := by have := hN.out; omega
        rcases hcc with t1 | ⟨t1, t2⟩
        · by_cases he : N = sym
          · subst he
            go_wp2
            go_ret2
            exact ⟨by first | (rw [hret.out rfl]; rfl) | (rw [hret.out trivial]; rfl), rfl⟩
          · have hne : (N == sym) = false := by simp [he]
            go_wp2_with (go_at_call 60; (with_reducible refine hpow.out.mono ?_); rintro e w' ⟨rfl, rfl⟩)
            go_roundw
            case rel => exact ⟨j + 1, VB2, VX, by omega, rfl, rfl, by first | rfl | (have := hN.out; congr 1; push_cast; omega), hB2, hX2, hide (hs3.out (fun h => he h.symm)), by first | exact hide rfl | exact hide trivial⟩
            case measure => have := hN.out; simp [intOf] <;> omega
        · have t3 : IntKind.i64.wrap (N - 265) = N - 265 := by rw [IntKind.wrap_i64]; omega
          obtain ⟨M, hM⟩ : ∃ M : Int, (N - 265) % 4 = M := ⟨_, rfl⟩
          have t5 : Int.tmod (N - 265) 4 = M := by rw [Int.tmod_eq_emod_of_nonneg (by omega)]; exact hM
          have t6 : (M == 0) = false := by simp; omega
          by_cases he : N = sym
          · subst he
            go_wp2
            go_ret2
            exact ⟨by first | (rw [hret.out rfl]; rfl) | (rw [hret.out trivial]; rfl), rfl⟩
          · have hne : (N == sym) = false := by simp [he]
            go_wp2_with (go_at_call 60; (with_reducible refine hpow.out.mono ?_); rintro e w' ⟨rfl, rfl⟩)
            go_roundw
            case rel => exact ⟨j + 1, VB2, VX, by omega, rfl, rfl, by first | rfl | (have := hN.out; congr 1; push_cast; omega), hB2, hX2, hide (hs3.out (fun h => he h.symm)), by first | exact hide rfl | exact hide trivial⟩
            case measure => have := hN.out; simp [intOf] <;> omega
    · obtain rfl : j = 28 := by omega
      have hNI : 285 ≤ N := by omega
      have hzz := hout.out (by have := hs.out; omega)
      replace hzz := hide hzz
      clear hN hs hB hX
      go_wp2
      go_ret2
      exact ⟨by rw [hzz.out]; rfl, rfl⟩

set_option maxRecDepth 100000 in
set_option maxHeartbeats 4000000 in
theorem rdistance_any (sym : Int) (w : World) (h1 : -9223372036854775808 ≤ sym) (h2 : sym ≤ 9223372036854775807) :
    Calls Try.prog 33 #[.int .i64 sym] w fun e w' => e = .returned (.tuple #[.int .i64 (Def.dstV sym).1, .int .i64 (Def.dstV sym).2]) ∧ w = w' := by
  have hval := hide (show ∀ j : Nat, j < 30 → sym = 0 + (j : Int) → Def.dstV sym = ((Def.dstB j : Int), (Def.dstX j : Int)) from by
    intro j hj he
    unfold Def.dstV
    rw [if_pos (by omega), he]
    first | rw [show ((0 : Int) + (j : Int) - 0).toNat = j by omega] | rw [show ((0 : Int) + (j : Int)).toNat = j by omega])
  have hout := hide (show (sym < 0 ∨ 0 + 30 ≤ sym) → Def.dstV sym = (0, 0) from by
    intro h
    unfold Def.dstV
    rw [if_neg (by omega)])
  go_enter Try.func33, Try.ntmps33
  go_wp2
  go_loopw [4, 5, 6] (fun sb sx sn wr => ∃ (j VB VX : Nat), j ≤ 30 ∧ sb = .int .i64 (VB : Int) ∧ sx = .int .i64 (VX : Int) ∧ sn = .int .i64 (0 + (j : Int)) ∧ Hid (j < 30 → VB = Def.dstB j) ∧ Hid (VX = if j = 0 then 0 else Def.dstX (j - 1)) ∧ Hid (sym < 0 ∨ 0 + (j : Int) ≤ sym) ∧ Hid (w = wr)) (fun _ _ sn _ => 0 + 30 - (intOf sn).toNat)
  case atStart => exact ⟨0, Def.dstB 0, 0, by omega, rfl, rfl, rfl, hide (fun _ => rfl), hide rfl, hide (by omega), hide rfl⟩
  case round =>
    obtain ⟨j, VB, VX, hj, rfl, rfl, rfl, hB, hX, hs, hw⟩ := hrel
    have hw' := hw.out
    subst hw'
    obtain ⟨N, hN⟩ : ∃ N : Int, 0 + (j : Int) = N := ⟨_, rfl⟩
    rw [hN]
    by_cases hlt : j < 30
    · have hNI : N < 30 := by omega
      have hB1 := hB.out hlt
      obtain ⟨hs1, hs2⟩ := Def.dst_small j (by omega)
      have hup := Def.dstX_up j (by omega)
      obtain ⟨Y, hY⟩ : ∃ Y, Def.dstX j = Y := ⟨_, rfl⟩
      rw [hY] at hup hs2
      rw [← hX.out] at hup
      obtain ⟨PW, hPW⟩ : ∃ PW, 2 ^ Y = PW := ⟨_, rfl⟩
      have hPWb : PW ≤ 1048576 := by rw [← hPW]; exact Nat.le_trans (Nat.pow_le_pow_right (by decide) hs2) (by decide)
      have hpow := hide (show Calls Try.prog 60 #[.int .i64 (Y : Int)] w fun e w' => e = .returned (.int .i64 (PW : Int)) ∧ w = w' from by rw [← hPW]; exact power4_any Y w (by omega))
      have hVBb : VB ≤ 40000 := by omega
      have hVXb : VX ≤ 20 := by omega
      obtain ⟨VB2, hVB2⟩ : ∃ V, VB + PW = V := ⟨_, rfl⟩
      have e1 : (VB : Int) + (PW : Int) = (VB2 : Int) := by omega
      have e2 : IntKind.i64.wrap (VB2 : Int) = (VB2 : Int) := by rw [IntKind.wrap_i64]; omega
      have e3 : IntKind.i64.wrap (N + 1) = N + 1 := by rw [IntKind.wrap_i64]; omega
      have hB2 := hide (show j + 1 < 30 → VB2 = Def.dstB (j + 1) from fun hj' => by rw [Def.dstB_succ j (by omega), hY, hPW, ← hB1, hVB2])
      have hX2 := hide (show Y = if j + 1 = 0 then 0 else Def.dstX (j + 1 - 1) from by rw [if_neg (by omega), Nat.add_sub_cancel, hY])
      have hret := hide (show sym = N → Def.dstV sym = ((VB : Int), (Y : Int)) from fun he => by rw [hval.out j hlt (by omega), hB1, hY])
      have hs3 := hide (show sym ≠ N → (sym < 0 ∨ 0 + ((j + 1 : Nat) : Int) ≤ sym) from fun hne => by have := hs.out; omega)
      replace hN := hide hN
      replace hPW := hide hPW
      replace hY := hide hY
      by_cases hc : 4 ≤ j ∧ j % 2 = 0
      · obtain ⟨hc1, hc2⟩ := hc
        rw [if_pos ⟨hc1, hc2⟩] at hup
        have t1 : 4 ≤ N := by have := hN.out; omega
        have t3 : Int.tmod N 2 = 0 := by rw [Int.tmod_eq_emod_of_nonneg (by omega)]; have := hN.out; omega
        have t4 : N % 2 = 0 := by have := hN.out; omega
        have e4 : (VX : Int) + 1 = (Y : Int) := by omega
        have e5 : IntKind.i64.wrap (Y : Int) = (Y : Int) := by rw [IntKind.wrap_i64]; omega
        clear hup hs1 hs2 hB1 hVBb hVXb hPWb hVB2 hX hB hs
        by_cases he : N = sym
        · subst he
          go_wp2
          go_ret2
          exact ⟨by first | (rw [hret.out rfl]; rfl) | (rw [hret.out trivial]; rfl), rfl⟩
        · have hne : (N == sym) = false := by simp [he]
          go_wp2_with (go_at_call 60; (with_reducible refine hpow.out.mono ?_); rintro e w' ⟨rfl, rfl⟩)
          go_roundw
          case rel => exact ⟨j + 1, VB2, Y, by omega, rfl, rfl, by first | rfl | (have := hN.out; congr 1; push_cast; omega), hB2, hX2, hide (hs3.out (fun h => he h.symm)), by first | exact hide rfl | exact hide trivial⟩
          case measure => have := hN.out; simp [intOf] <;> omega
      · rw [if_neg hc] at hup
        obtain rfl : VX = Y := by omega
        clear hup hs1 hs2 hB1 hVBb hVXb hPWb hVB2 hX hB hs
        have hcc : (N < 4) ∨ (4 ≤ N ∧ ¬ N % 2 = 0) := by have := hN.out; omega
        rcases hcc with t1 | ⟨t1, t2⟩
        · by_cases he : N = sym
          · subst he
            go_wp2
            go_ret2
            exact ⟨by first | (rw [hret.out rfl]; rfl) | (rw [hret.out trivial]; rfl), rfl⟩
          · have hne : (N == sym) = false := by simp [he]
            go_wp2_with (go_at_call 60; (with_reducible refine hpow.out.mono ?_); rintro e w' ⟨rfl, rfl⟩)
            go_roundw
            case rel => exact ⟨j + 1, VB2, VX, by omega, rfl, rfl, by first | rfl | (have := hN.out; congr 1; push_cast; omega), hB2, hX2, hide (hs3.out (fun h => he h.symm)), by first | exact hide rfl | exact hide trivial⟩
            case measure => have := hN.out; simp [intOf] <;> omega
        · skip
          obtain ⟨M, hM⟩ : ∃ M : Int, N % 2 = M := ⟨_, rfl⟩
          have t5 : Int.tmod N 2 = M := by rw [Int.tmod_eq_emod_of_nonneg (by omega)]; exact hM
          have t6 : (M == 0) = false := by simp; omega
          by_cases he : N = sym
          · subst he
            go_wp2
            go_ret2
            exact ⟨by first | (rw [hret.out rfl]; rfl) | (rw [hret.out trivial]; rfl), rfl⟩
          · have hne : (N == sym) = false := by simp [he]
            go_wp2_with (go_at_call 60; (with_reducible refine hpow.out.mono ?_); rintro e w' ⟨rfl, rfl⟩)
            go_roundw
            case rel => exact ⟨j + 1, VB2, VX, by omega, rfl, rfl, by first | rfl | (have := hN.out; congr 1; push_cast; omega), hB2, hX2, hide (hs3.out (fun h => he h.symm)), by first | exact hide rfl | exact hide trivial⟩
            case measure => have := hN.out; simp [intOf] <;> omega
    · obtain rfl : j = 30 := by omega
      have hNI : 30 ≤ N := by omega
      have hzz := hout.out (by have := hs.out; omega)
      replace hzz := hide hzz
      clear hN hs hB hX
      go_wp2
      go_ret2
      exact ⟨by rw [hzz.out]; rfl, rfl⟩

end Go.Proofs.Ythplpoijkebjbaa
