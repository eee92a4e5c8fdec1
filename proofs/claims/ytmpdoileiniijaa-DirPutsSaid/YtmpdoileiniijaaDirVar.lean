/- Layer 7 (wire), as far as directories need it: a number read from bytes, by the program and by the document. The conditions: where the slice lies, and a place within it. -/
import Derived.Test.YtmpdoileiniijaaDirPut
import Derived.Laws.Bits64b
namespace Go.Proofs.Ytmpdoileiniijaa
open Go.RowKit

/-- What a number's bytes say from round i on: the number, the bytes read, the error. -/
def vrS : List UInt8 → Nat → Nat → Nat × Nat × Nat
  | [], i, _ => if 10 ≤ i then (0, 0, 3) else (0, 0, 2)
  | c :: t, i, a => if 10 ≤ i ∨ (i = 9 ∧ 1 < c.toNat) then (0, 0, 3) else if c.toNat < 128 then (a + c.toNat % 128 * 2 ^ (7 * i), i + 1, 0) else vrS t (i + 1) (a + c.toNat % 128 * 2 ^ (7 * i))
def vr (bs : List UInt8) (p : Nat) : Nat × Nat × Nat :=
  ((vrS (bs.drop p) 0 0).1, if (vrS (bs.drop p) 0 0).2.2 = 0 then p + (vrS (bs.drop p) 0 0).2.1 else 0, (vrS (bs.drop p) 0 0).2.2)
theorem vr_eq {bs : List UInt8} {p v n e : Nat} (h : vrS (bs.drop p) 0 0 = (v, n, e)) : vr bs p = (v, if e = 0 then p + n else 0, e) := by simp [vr, h]
theorem vrS_ten (l : List UInt8) (i a : Nat) (h : 10 ≤ i) : vrS l i a = (0, 0, 3) := by
  cases l with
  | nil => rw [vrS, if_pos h]
  | cons c t => rw [vrS, if_pos (.inl h)]
theorem drop_at (bs : List UInt8) (i : Nat) (h : i < bs.length) : bs.drop i = bs[i] :: bs.drop (i + 1) := List.drop_eq_getElem_cons h
theorem or_add (a x m : Nat) (h : a < 2 ^ m) : a ||| (x * 2 ^ m) = a + x * 2 ^ m := by
  rw [Nat.mul_comm x, Nat.or_comm, ← Nat.two_pow_add_eq_or_of_lt h, Nat.add_comm]

theorem grow (k a y : Nat) (hk : k ≤ 9) (hy : y ≤ 127) (h9 : k = 9 → y ≤ 1) (ha : a < 2 ^ (7 * k)) : y * 2 ^ (7 * k) < 18446744073709551616 ∧ a + y * 2 ^ (7 * k) < 18446744073709551616 ∧ a + y * 2 ^ (7 * k) < 2 ^ (7 * (k + 1)) := by
  have hcases : k = 0 ∨ k = 1 ∨ k = 2 ∨ k = 3 ∨ k = 4 ∨ k = 5 ∨ k = 6 ∨ k = 7 ∨ k = 8 ∨ k = 9 := by omega
  rcases hcases with rfl | rfl | rfl | rfl | rfl | rfl | rfl | rfl | rfl | rfl <;> simp at ha h9 ⊢ <;> omega
/-- What one round reckons. -/
theorem round_sum (k a z : Nat) (hk : k ≤ 9) (hz : z ≤ 255) (h9 : k = 9 → z ≤ 1) (ha : a < 2 ^ (7 * k)) :
    ∃ y Y T : Nat, z % 128 = y ∧ y * 2 ^ (7 * k) = Y ∧ a + Y = T ∧ bits .and .u8 (z : Int) 127 = (y : Int) ∧ IntKind.u64.wrap (y : Int) = (y : Int) ∧ IntKind.u64.wrap ((y : Int) * 2 ^ (7 * k)) = (Y : Int) ∧ bits .or .u64 (a : Int) (Y : Int) = (T : Int) ∧ T < 2 ^ (7 * (k + 1)) ∧ T ≤ 18446744073709551615 := by
  obtain ⟨h1, h2, h3⟩ := grow k a (z % 128) hk (by omega) (fun h => by have := h9 h; omega) ha
  refine ⟨z % 128, _, _, rfl, rfl, rfl, ?_, ?_, ?_, ?_, h3, by omega⟩
  · rw [show (127 : Int) = ((127 : Nat) : Int) from rfl, u8_and_nat _ _ (by omega) (by omega), show (127 : Nat) = 2 ^ 7 - 1 from rfl, Nat.and_two_pow_sub_one_eq_mod]
  · rw [IntKind.wrap_u64]; omega
  · rw [IntKind.wrap_u64, show ((z % 128 : Nat) : Int) * 2 ^ (7 * k) = ((z % 128 * 2 ^ (7 * k) : Nat) : Int) from by push_cast; rfl]
    omega
  · rw [bits_or_u64_nat _ _ (by omega) h1, or_add _ _ _ ha]

set_option maxRecDepth 100000 in
set_option maxHeartbeats 1000000 in
theorem varint_any (A : Option Addr) (c : Nat) (bs : List UInt8) (p : Nat) (w : World) (B : Nat) (hr : Rd w B A bs.length (bs.map bv)) (hp : p ≤ bs.length) (hn : bs.length ≤ 1048576) (v nx er : Nat) (hv : vr bs p = (v, nx, er)) :
    Calls Try.prog 40 #[.slice A bs.length c, .int .i64 (p : Int)] w fun e w' => e = .returned (.tuple #[.int .u64 (v : Int), .int .i64 (nx : Int), .int .i64 (er : Int)]) ∧ w = w' := by
  obtain ⟨⟨rv, rn, re⟩, hR⟩ : ∃ R, vrS (bs.drop p) 0 0 = R := ⟨_, rfl⟩
  have hv2 := hide ((vr_eq hR).symm.trans hv)
  replace hR := hide hR
  clear hv
  obtain ⟨n, hl⟩ : ∃ n, bs.length = n := ⟨_, rfl⟩
  rw [hl] at hr ⊢
  replace hr := hide hr
  have hnI : (n : Int) ≤ 1048576 := by omega
  have hpI : (p : Int) ≤ n := by omega
  go_enter Try.func40, Try.ntmps40
  go_wp2
  go_loopw [4, 17] (fun x i wr => ∃ k a : Nat, k ≤ 10 ∧ p + k ≤ n ∧ i = .int .i64 k ∧ x = .int .u64 (a : Int) ∧ Hid (a < 2 ^ (7 * k)) ∧ Hid (vrS (bs.drop (p + k)) k a = (rv, rn, re)) ∧ w = wr) (fun _ i _ => 10 - (intOf i).toNat)
  case atStart => exact ⟨0, 0, by omega, by omega, rfl, rfl, hide (by decide), hR, rfl⟩
  case round =>
    obtain ⟨k, a, hk, hpk, rfl, rfl, ha, hS, rfl⟩ := hrel
    by_cases h10 : k = 10
    · have h := hS.out
      rw [vrS_ten _ _ _ (by omega)] at h
      injection h with h1 h
      injection h with h2 h3
      subst h1 h2 h3 h10
      have h := hv2.out
      simp only [Nat.succ_ne_zero, if_false] at h
      injection h with h1 h
      injection h with h2 h3
      subst h1 h2 h3
      go_wp2
      go_ret3
      exact ⟨rfl, rfl⟩
    · have hkI : (k : Int) ≤ 9 := by omega
      by_cases hend : p + k = n
      · have h := hS.out
        rw [List.drop_eq_nil_of_le (by omega), vrS, if_neg (by omega)] at h
        injection h with h1 h
        injection h with h2 h3
        subst h1 h2 h3
        have h := hv2.out
        simp only [Nat.succ_ne_zero, if_false] at h
        injection h with h1 h
        injection h with h2 h3
        subst h1 h2 h3
        have hge : (n : Int) ≤ (p : Int) + (k : Int) := by omega
        go_wp2
        go_ret3
        exact ⟨rfl, rfl⟩
      · have hpl : p + k < bs.length := by omega
        have hge : (p : Int) + (k : Int) < (n : Int) := by omega
        have hS2 := hS.out
        rw [drop_at bs (p + k) hpl, vrS] at hS2
        obtain ⟨b, o, rfl, _, f0⟩ := hr.out.byte (j := p + k) (by omega)
        obtain ⟨z, hz⟩ : ∃ z, bs[p + k].toNat = z := ⟨_, rfl⟩
        have hz255 : z ≤ 255 := by rw [← hz]; exact toNat_le _
        rw [hz] at hS2 f0
        clear hz
        obtain ⟨s, hs⟩ : ∃ s, p + k = s := ⟨_, rfl⟩
        have hsI : (p : Int) + (k : Int) = (s : Int) := by omega
        have hsn : (s : Int) < (n : Int) := by omega
        have hs1 : p + (k + 1) = s + 1 := by omega
        rw [hs] at hS2 f0
        clear hge
        have hcs : (k = 9 ∧ 1 < z) ∨ (k = 9 ∧ z ≤ 1) ∨ (k ≠ 9 ∧ z < 128) ∨ (k ≠ 9 ∧ 128 ≤ z) := by omega
        rcases hcs with h9 | ⟨h9, hz⟩ | ⟨h9, hz⟩ | ⟨h9, hz⟩
        · have hS2 := hS2
          rw [if_pos (.inr h9)] at hS2
          injection hS2 with h1 h
          injection h with h2 h3
          subst h1 h2 h3
          have h := hv2.out
          simp only [Nat.succ_ne_zero, if_false] at h
          injection h with h1 h
          injection h with h2 h3
          subst h1 h2 h3
          obtain ⟨rfl, hz1⟩ := h9
          have hz1I : (2 : Int) ≤ z := by omega
          clear hz1 hS hz255
          go_wp2
          go_ret3
          exact ⟨rfl, rfl⟩
        · rw [if_neg (by omega), if_pos (by omega)] at hS2
          obtain ⟨y, Y, T, hy, hY, hT, b1, b2, b3, b4, hTb, hT64⟩ := round_sum k a z (by omega) hz255 (by omega) ha.out
          rw [hy, hY, hT] at hS2
          clear hy hY hT hTb hT64
          injection hS2 with h1 h
          injection h with h2 h3
          subst h1 h2 h3
          have h := hv2.out
          simp only [if_true] at h
          injection h with h1 h
          injection h with h2 h3
          subst h1 h2 h3
          have hzI : (z : Int) ≤ 1 := by omega
          have hse : p + (k + 1) = s + 1 := by omega
          have hk9 : ((k : Int) == 9) = true := by simp; omega
          clear hS hz255 h9 hz
          go_wp2
          go_ret3
          exact ⟨by first | rfl | (rw [hse]; rfl), rfl⟩
        · rw [if_neg (by omega), if_pos (by omega)] at hS2
          obtain ⟨y, Y, T, hy, hY, hT, b1, b2, b3, b4, hTb, hT64⟩ := round_sum k a z (by omega) hz255 (by omega) ha.out
          rw [hy, hY, hT] at hS2
          clear hy hY hT hTb hT64
          injection hS2 with h1 h
          injection h with h2 h3
          subst h1 h2 h3
          have h := hv2.out
          simp only [if_true] at h
          injection h with h1 h
          injection h with h2 h3
          subst h1 h2 h3
          have hzI : (z : Int) ≤ 127 := by omega
          have hse : p + (k + 1) = s + 1 := by omega
          have hk9 : ((k : Int) == 9) = false := by simp; omega
          clear hS hz255 h9 hz
          go_wp2
          go_ret3
          exact ⟨by first | rfl | (rw [hse]; rfl), rfl⟩
        · rw [if_neg (by omega), if_neg (by omega)] at hS2
          obtain ⟨y, Y, T, hy, hY, hT, b1, b2, b3, b4, hTb, hT64⟩ := round_sum k a z (by omega) hz255 (by omega) ha.out
          rw [hy, hY, hT, ← hs1] at hS2
          clear hy hY hT
          have hzI : (128 : Int) ≤ z := by omega
          have hk9 : ((k : Int) == 9) = false := by simp; omega
          have hS2 := hide hS2
          have hTb := hide hTb
          clear hS hz255 h9 hz hT64
          go_wp2
          go_roundw
          case rel => exact ⟨k + 1, T, by omega, by omega, by go_num, rfl, hTb, hS2, trivial⟩
          case measure => simp [intOf] <;> omega

set_option maxRecDepth 100000 in
set_option maxHeartbeats 1000000 in
theorem rvarint_any (A : Option Addr) (c : Nat) (bs : List UInt8) (p : Nat) (w : World) (B : Nat) (hr : Rd w B A bs.length (bs.map bv)) (hp : p ≤ bs.length) (hn : bs.length ≤ 1048576) (v nx er : Nat) (hv : vr bs p = (v, nx, er)) :
    Calls Try.prog 42 #[.slice A bs.length c, .int .i64 (p : Int)] w fun e w' => e = .returned (.tuple #[.int .u64 (v : Int), .int .i64 (nx : Int), .int .i64 (er : Int)]) ∧ w = w' := by
  obtain ⟨⟨rv, rn, re⟩, hR⟩ : ∃ R, vrS (bs.drop p) 0 0 = R := ⟨_, rfl⟩
  have hv2 := hide ((vr_eq hR).symm.trans hv)
  replace hR := hide hR
  clear hv
  obtain ⟨n, hl⟩ : ∃ n, bs.length = n := ⟨_, rfl⟩
  rw [hl] at hr ⊢
  replace hr := hide hr
  have hnI : (n : Int) ≤ 1048576 := by omega
  have hpI : (p : Int) ≤ n := by omega
  go_enter Try.func42, Try.ntmps42
  go_wp2
  go_loopw [7, 8, 9] (fun x u i wr => ∃ k a : Nat, (k ≤ 9 → u = .int .u64 ((2 ^ (7 * k) : Nat) : Int)) ∧ k ≤ 10 ∧ p + k ≤ n ∧ i = .int .i64 k ∧ x = .int .u64 (a : Int) ∧ Hid (a < 2 ^ (7 * k)) ∧ Hid (vrS (bs.drop (p + k)) k a = (rv, rn, re)) ∧ w = wr) (fun _ _ i _ => 10 - (intOf i).toNat)
  case atStart => exact ⟨0, 0, fun _ => rfl, by omega, by omega, rfl, rfl, hide (by decide), hR, rfl⟩
  case round =>
    obtain ⟨k, a, hu, hk, hpk, rfl, rfl, ha, hS, rfl⟩ := hrel
    by_cases h10 : k = 10
    · have h := hS.out
      rw [vrS_ten _ _ _ (by omega)] at h
      injection h with h1 h
      injection h with h2 h3
      subst h1 h2 h3 h10
      have h := hv2.out
      simp only [Nat.succ_ne_zero, if_false] at h
      injection h with h1 h
      injection h with h2 h3
      subst h1 h2 h3
      go_wp2
      go_ret3
      exact ⟨rfl, rfl⟩
    · have hkI : (k : Int) ≤ 9 := by omega
      have hu := hide (hu (by omega))
      by_cases hend : p + k = n
      · have h := hS.out
        rw [List.drop_eq_nil_of_le (by omega), vrS, if_neg (by omega)] at h
        injection h with h1 h
        injection h with h2 h3
        subst h1 h2 h3
        have h := hv2.out
        simp only [Nat.succ_ne_zero, if_false] at h
        injection h with h1 h
        injection h with h2 h3
        subst h1 h2 h3
        have hge : (n : Int) ≤ (p : Int) + (k : Int) := by omega
        go_wp2
        go_ret3
        exact ⟨rfl, rfl⟩
      · have hpl : p + k < bs.length := by omega
        have hge : (p : Int) + (k : Int) < (n : Int) := by omega
        have hS2 := hS.out
        rw [drop_at bs (p + k) hpl, vrS] at hS2
        obtain ⟨b, o, rfl, _, f0⟩ := hr.out.byte (j := p + k) (by omega)
        obtain ⟨z, hz⟩ : ∃ z, bs[p + k].toNat = z := ⟨_, rfl⟩
        have hz255 : z ≤ 255 := by rw [← hz]; exact toNat_le _
        rw [hz] at hS2 f0
        clear hz
        obtain ⟨s, hs⟩ : ∃ s, p + k = s := ⟨_, rfl⟩
        have hsI : (p : Int) + (k : Int) = (s : Int) := by omega
        have hsn : (s : Int) < (n : Int) := by omega
        have hs1 : p + (k + 1) = s + 1 := by omega
        rw [hs] at hS2 f0
        have hzw : IntKind.u64.wrap (z : Int) = (z : Int) := by rw [IntKind.wrap_u64]; omega
        have hgd : (k : Int) < (n : Int) - (p : Int) := by omega
        clear hge
        have hcs : (k = 9 ∧ 1 < z) ∨ (k = 9 ∧ z ≤ 1) ∨ (k ≠ 9 ∧ z < 128) ∨ (k ≠ 9 ∧ 128 ≤ z) := by omega
        rcases hcs with h9 | ⟨h9, hz⟩ | ⟨h9, hz⟩ | ⟨h9, hz⟩
        · have hS2 := hS2
          rw [if_pos (.inr h9)] at hS2
          injection hS2 with h1 h
          injection h with h2 h3
          subst h1 h2 h3
          have h := hv2.out
          simp only [Nat.succ_ne_zero, if_false] at h
          injection h with h1 h
          injection h with h2 h3
          subst h1 h2 h3
          obtain ⟨rfl, hz1⟩ := h9
          have hz1I : (2 : Int) ≤ z := by omega
          clear hz1 hS hz255 hu
          go_wp2
          go_ret3
          exact ⟨rfl, rfl⟩
        · rw [if_neg (by omega), if_pos (by omega)] at hS2
          obtain ⟨y, Y, T, hy, hY, hT, b1, b2, b3, b4, hTb, hT64⟩ := round_sum k a z (by omega) hz255 (by omega) ha.out
          have e1 : (z : Int) % 128 = (y : Int) := by omega
          have e2 : IntKind.u64.wrap ((a : Int) + (Y : Int)) = (T : Int) := by rw [IntKind.wrap_u64]; omega
          obtain ⟨M, hM⟩ : ∃ M : Nat, 2 ^ (7 * k) = M := ⟨_, rfl⟩
          have hu := hu.out
          rw [show ((2 ^ (7 * k) : Nat) : Int) = (M : Int) from by rw [hM]] at hu
          have b3 : IntKind.u64.wrap ((y : Int) * (M : Int)) = (Y : Int) := by rw [← b3, ← hM]; push_cast; rfl
          subst hu
          rw [hy, hY, hT] at hS2
          clear hy hY hT hTb hT64 hM
          injection hS2 with h1 h
          injection h with h2 h3
          subst h1 h2 h3
          have h := hv2.out
          simp only [if_true] at h
          injection h with h1 h
          injection h with h2 h3
          subst h1 h2 h3
          have hzI : (z : Int) ≤ 1 := by omega
          have hse : p + (k + 1) = s + 1 := by omega
          have hk9 : ((k : Int) == 9) = true := by simp; omega
          clear hS hz255 h9 hz
          go_wp2
          go_ret3
          exact ⟨by first | rfl | (rw [hse]; rfl), rfl⟩
        · rw [if_neg (by omega), if_pos (by omega)] at hS2
          obtain ⟨y, Y, T, hy, hY, hT, b1, b2, b3, b4, hTb, hT64⟩ := round_sum k a z (by omega) hz255 (by omega) ha.out
          have e1 : (z : Int) % 128 = (y : Int) := by omega
          have e2 : IntKind.u64.wrap ((a : Int) + (Y : Int)) = (T : Int) := by rw [IntKind.wrap_u64]; omega
          obtain ⟨M, hM⟩ : ∃ M : Nat, 2 ^ (7 * k) = M := ⟨_, rfl⟩
          have hu := hu.out
          rw [show ((2 ^ (7 * k) : Nat) : Int) = (M : Int) from by rw [hM]] at hu
          have b3 : IntKind.u64.wrap ((y : Int) * (M : Int)) = (Y : Int) := by rw [← b3, ← hM]; push_cast; rfl
          subst hu
          rw [hy, hY, hT] at hS2
          clear hy hY hT hTb hT64 hM
          injection hS2 with h1 h
          injection h with h2 h3
          subst h1 h2 h3
          have h := hv2.out
          simp only [if_true] at h
          injection h with h1 h
          injection h with h2 h3
          subst h1 h2 h3
          have hzI : (z : Int) ≤ 127 := by omega
          have hse : p + (k + 1) = s + 1 := by omega
          have hk9 : ((k : Int) == 9) = false := by simp; omega
          clear hS hz255 h9 hz
          go_wp2
          go_ret3
          exact ⟨by first | rfl | (rw [hse]; rfl), rfl⟩
        · rw [if_neg (by omega), if_neg (by omega)] at hS2
          obtain ⟨y, Y, T, hy, hY, hT, b1, b2, b3, b4, hTb, hT64⟩ := round_sum k a z (by omega) hz255 (by omega) ha.out
          have e1 : (z : Int) % 128 = (y : Int) := by omega
          have e2 : IntKind.u64.wrap ((a : Int) + (Y : Int)) = (T : Int) := by rw [IntKind.wrap_u64]; omega
          obtain ⟨M, hM⟩ : ∃ M : Nat, 2 ^ (7 * k) = M := ⟨_, rfl⟩
          have hu := hu.out
          rw [show ((2 ^ (7 * k) : Nat) : Int) = (M : Int) from by rw [hM]] at hu
          have b3 : IntKind.u64.wrap ((y : Int) * (M : Int)) = (Y : Int) := by rw [← b3, ← hM]; push_cast; rfl
          subst hu
          rw [hy, hY, hT, ← hs1] at hS2
          obtain ⟨M2, hM2⟩ : ∃ M : Nat, 2 ^ (7 * (k + 1)) = M := ⟨_, rfl⟩
          have hM128 : M * 128 = M2 := by rw [← hM, ← hM2, Nat.mul_add, Nat.pow_add]
          have hMb : k ≤ 8 → M2 ≤ 9223372036854775808 := fun h => by rw [← hM2]; exact Nat.pow_le_pow_right (n := 2) (by omega) (show 7 * (k + 1) ≤ 63 by omega)
          have hMb := hMb (by omega)
          have e3 : IntKind.u64.wrap ((M : Int) * 128) = (M2 : Int) := by rw [IntKind.wrap_u64]; omega
          replace hM2 := hide hM2
          clear hy hY hT hM hM128 hMb
          have hzI : (128 : Int) ≤ z := by omega
          have hk9 : ((k : Int) == 9) = false := by simp; omega
          have hS2 := hide hS2
          have hTb := hide hTb
          clear hS hz255 h9 hz hT64
          go_wp2
          go_roundw
          case rel => exact ⟨k + 1, T, fun _ => by rw [hM2.out], by omega, by omega, by go_num, rfl, hTb, hS2, trivial⟩
          case measure => simp [intOf] <;> omega

end Go.Proofs.Ytmpdoileiniijaa
