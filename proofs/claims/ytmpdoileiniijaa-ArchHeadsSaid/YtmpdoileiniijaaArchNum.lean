/- Layer 13 (arch): a number of bytes, the lowest first, as the document reads it. The conditions: where the slice lies; the place lies in it. -/
import Derived.Test.YtmpdoileiniijaaArchK
import Derived.Laws.Bits64b
namespace Go.Proofs.Ytmpdoileiniijaa
open Go.RowKit

/-- The number of k bytes from a place on, the lowest first. -/
def num (bs : List UInt8) (p : Nat) : Nat → Nat
  | 0 => 0
  | k + 1 => (bs.getD p 0).toNat + 256 * num bs (p + 1) k
theorem num_lt (bs : List UInt8) (p k : Nat) : num bs p k < 256 ^ k := by
  induction k generalizing p with
  | zero => simp [num]
  | succ k ih =>
    have h1 := ih (p + 1)
    have h2 := toNat_le (bs.getD p 0)
    rw [num, Nat.pow_succ]
    omega
theorem num_up (bs : List UInt8) (p k : Nat) : num bs p (k + 1) = num bs p k + (bs.getD (p + k) 0).toNat * 256 ^ k := by
  induction k generalizing p with
  | zero => simp [num]
  | succ k ih =>
    rw [num, ih (p + 1), num, Nat.mul_add, Nat.pow_succ, show p + 1 + k = p + (k + 1) by omega, Nat.add_assoc]
    congr 2
    rw [Nat.mul_comm 256, Nat.mul_assoc]

set_option maxRecDepth 100000 in
set_option maxHeartbeats 1000000 in
theorem rnumber_any (A : Option Addr) (c : Nat) (bs : List UInt8) (p n : Nat) (w : World) (B : Nat) (hr : Rd w B A bs.length (bs.map bv)) (hp : p + n ≤ bs.length) (hn : n ≤ 8) (hl : bs.length ≤ 4194304) :
    Calls Try.prog 28 #[.slice A bs.length c, .int .i64 (p : Int), .int .i64 (n : Int)] w fun e w' => e = .returned (.int .u64 ((num bs p n : Nat) : Int)) ∧ w = w' := by
  obtain ⟨L, hL⟩ : ∃ L, bs.length = L := ⟨_, rfl⟩
  rw [hL] at hr hp hl ⊢
  have hLI : (L : Int) ≤ 4194304 := by omega
  have hpI : (p : Int) + (n : Int) ≤ (L : Int) := by omega
  have hnI : (n : Int) ≤ 8 := by omega
  obtain ⟨I0, hI0⟩ : ∃ I : Int, (p : Int) + (n : Int) - 1 = I := ⟨_, rfl⟩
  have hw0 : IntKind.i64.wrap ((p : Int) + (n : Int)) = (p : Int) + (n : Int) := by rw [IntKind.wrap_i64]; omega
  have hw1 : IntKind.i64.wrap ((p : Int) + (n : Int) - 1) = I0 := by rw [IntKind.wrap_i64]; omega
  go_enter Try.func28, Try.ntmps28
  go_wp2
  replace hI0 := hide hI0
  clear hw0 hw1
  go_loopw [7, 8] (fun s7 s8 wr => ∃ (r V : Nat) (I : Int), r ≤ n ∧ s7 = .int .u64 (V : Int) ∧ s8 = .int .i64 I ∧ Hid ((p : Int) + (r : Int) - 1 = I) ∧ Hid (num bs (p + r) (n - r) = V) ∧ Hid (w = wr)) (fun _ s8 _ => (intOf s8 + 1 - (p : Int)).toNat)
  case atStart => exact ⟨n, 0, I0, by omega, rfl, rfl, hide hI0.out, hide (by rw [Nat.sub_self]; rfl), hide rfl⟩
  case round =>
    obtain ⟨r, V, I, hrn, rfl, rfl, hI, hV, hw⟩ := hrel
    have hw' := hw.out
    subst hw'
    by_cases h0 : 0 < r
    · obtain ⟨q, rfl⟩ : ∃ q, r = q + 1 := ⟨r - 1, by omega⟩
      have hIp : (p : Int) ≤ I := by have := hI.out; omega
      have hIL : I < (L : Int) := by have := hI.out; omega
      obtain ⟨pq, hpq⟩ : ∃ pq, p + q = pq := ⟨_, rfl⟩
      have hIt : I.toNat = pq := by have := hI.out; omega
      have hpqL : pq < bs.length := by have := hI.out; omega
      obtain ⟨b, o, rfl, _, hc⟩ := hr.byte (j := pq) (by omega)
      obtain ⟨x, hx⟩ : ∃ x, bs[pq].toNat = x := ⟨_, rfl⟩
      have hx8 : x ≤ 255 := by rw [← hx]; exact toNat_le _
      rw [hx] at hc
      have hVb : V < 72057594037927936 := by
        have h1 := num_lt bs (p + (q + 1)) (n - (q + 1))
        rw [hV.out] at h1
        have h2 : 256 ^ (n - (q + 1)) ≤ 256 ^ 7 := Nat.pow_le_pow_right (by decide) (by omega)
        have h3 : (256 : Nat) ^ 7 = 72057594037927936 := by decide
        omega
      obtain ⟨V1, hV1⟩ : ∃ V1, 256 * V = V1 := ⟨_, rfl⟩
      obtain ⟨V2, hV2⟩ : ∃ V2, V1 + x = V2 := ⟨_, rfl⟩
      have hm1 : IntKind.u64.wrap (256 * (V : Int)) = (V1 : Int) := by rw [IntKind.wrap_u64]; omega
      have hm2 : IntKind.u64.wrap ((V1 : Int) + (x : Int)) = (V2 : Int) := by rw [IntKind.wrap_u64]; omega
      have hmx : IntKind.u64.wrap (x : Int) = (x : Int) := by rw [IntKind.wrap_u64]; omega
      have hm3 : 256 * (V : Int) % 18446744073709551616 = (V1 : Int) := by omega
      have hm4 : ((V1 : Int) + (x : Int)) % 18446744073709551616 = (V2 : Int) := by omega
      have hnum : Hid (num bs (p + q) (n - q) = V2) := hide (by
        rw [show n - q = (n - (q + 1)) + 1 by omega, num, show p + q + 1 = p + (q + 1) by omega, hV.out, hV1, hpq, List.getD_eq_getElem?_getD, List.getElem?_eq_getElem hpqL, Option.getD_some, hx]
        omega)
      have hIw : IntKind.i64.wrap (I - 1) = I - 1 := by rw [IntKind.wrap_i64]; omega
      clear hVb hV1 hV2 hx hx8 h0
      replace hpq := hide hpq
      go_wp2
      go_roundw
      case rel => exact ⟨q, V2, I - 1, by omega, rfl, rfl, hide (by have := hI.out; omega), hnum, by first | exact hide rfl | exact hide trivial⟩
      case measure => have := hI.out; simp [intOf] <;> omega
    · obtain rfl : r = 0 := by omega
      have hIp : I < (p : Int) := by have := hI.out; omega
      go_wp2
      go_ret
      exact ⟨by rw [← hV.out]; rfl, rfl⟩

/-- Four bytes as a signed number. -/
def sg (bs : List UInt8) (p : Nat) : Int := if 2147483648 ≤ num bs p 4 then (num bs p 4 : Int) - 4294967296 else (num bs p 4 : Int)
set_option maxRecDepth 100000 in
theorem rsigned_any (A : Option Addr) (c : Nat) (bs : List UInt8) (p : Nat) (w : World) (B : Nat) (hr : Rd w B A bs.length (bs.map bv)) (hp : p + 4 ≤ bs.length) (hl : bs.length ≤ 4194304) :
    Calls Try.prog 29 #[.slice A bs.length c, .int .i64 (p : Int)] w fun e w' => e = .returned (.int .i64 (sg bs p)) ∧ w = w' := by
  have hq := hide (show Calls Try.prog 28 #[.slice A bs.length c, .int .i64 (p : Int), .int .i64 4] w _ from rnumber_any A c bs p 4 w B hr hp (by decide) hl)
  have hlt := num_lt bs p 4
  have hp4 : (256 : Nat) ^ 4 = 4294967296 := by decide
  have hsg := hide (show sg bs p = if 2147483648 ≤ num bs p 4 then (num bs p 4 : Int) - 4294967296 else (num bs p 4 : Int) from rfl)
  obtain ⟨N, hN⟩ : ∃ N, num bs p 4 = N := ⟨_, rfl⟩
  rw [hN] at hq hlt hsg
  obtain ⟨z, hz⟩ : ∃ z, sg bs p = z := ⟨_, rfl⟩
  rw [hz] at hsg ⊢
  have hNw : IntKind.i64.wrap (N : Int) = (N : Int) := by rw [IntKind.wrap_i64]; omega
  generalize bs.length = L at *
  by_cases h : 2147483648 ≤ N
  · have hd : decide ((2147483648 : Int) ≤ (N : Int)) = true := decide_eq_true (by omega)
    have hz2 : (N : Int) - 4294967296 = z := by rw [hsg.out, if_pos h]
    have hzw : IntKind.i64.wrap ((N : Int) - 4294967296) = z := by rw [IntKind.wrap_i64]; omega
    have hzz : wrap64 z = z := by
      unfold wrap64
      omega
    replace hzz := hide hzz
    clear hlt hp4 h hr hp hl hN hz hsg
    go_enter Try.func29, Try.ntmps29
    go_wp2_with (go_at_call 28; (with_reducible refine hq.out.mono ?_); rintro e w' ⟨rfl, rfl⟩)
    go_ret
    exact ⟨by show Ending.returned (Value.int IntKind.i64 (wrap64 z)) = _; rw [hzz.out], rfl⟩
  · have hd : decide ((2147483648 : Int) ≤ (N : Int)) = false := decide_eq_false (by omega)
    have hz2 : z = (N : Int) := by rw [hsg.out, if_neg h]
    subst hz2
    clear hlt hp4 h hr hp hl hN hz hsg
    go_enter Try.func29, Try.ntmps29
    go_wp2_with (go_at_call 28; (with_reducible refine hq.out.mono ?_); rintro e w' ⟨rfl, rfl⟩)
    go_ret
    exact ⟨rfl, rfl⟩

theorem or_add13 (a x m : Nat) (h : a < 2 ^ m) : a ||| (x * 2 ^ m) = a + x * 2 ^ m := by
  rw [Nat.mul_comm x, Nat.or_comm, ← Nat.two_pow_add_eq_or_of_lt h, Nat.add_comm]
/-- The program's: the bytes lie in a variable of parse's. -/
theorem pnumber_any (A : Option Addr) (c : Nat) (bs : List UInt8) (p n gb : Nat) (w : World) (B : Nat) (hk : Blk w gb 22 #[.slice A bs.length c]) (hr : Rd w B A bs.length (bs.map bv)) (hp : p + n ≤ bs.length) (hn : n ≤ 8) (hl : bs.length ≤ 4194304) :
    Calls Try.prog 47 #[.int .i64 (p : Int), .int .i64 (n : Int), .pointer (some ⟨gb, 0, none⟩)] w fun e w' => e = .returned (.int .u64 ((num bs p n : Nat) : Int)) ∧ w = w' := by
  obtain ⟨L, hL⟩ : ∃ L, bs.length = L := ⟨_, rfl⟩
  rw [hL] at hr hp hl hk
  have hLI : (L : Int) ≤ 4194304 := by omega
  have hnI : (n : Int) ≤ 8 := by omega
  have c0 : w.cell? ⟨gb, 0, none⟩ = some (.slice A L c) := hk.cell 0
  go_enter Try.func47, Try.ntmps47
  go_wp2
  go_loopw [6, 9] (fun s6 s9 wr => ∃ (i V : Nat), i ≤ n ∧ s6 = .int .u64 (V : Int) ∧ s9 = .int .i64 (i : Int) ∧ Hid (num bs p i = V) ∧ Hid (w = wr)) (fun _ s9 _ => n - (intOf s9).toNat)
  case atStart => exact ⟨0, 0, by omega, rfl, rfl, hide rfl, hide rfl⟩
  case round =>
    obtain ⟨i, V, hin, rfl, rfl, hV, hw⟩ := hrel
    have hw' := hw.out
    subst hw'
    by_cases hlt : i < n
    · have hiI : (i : Int) < (n : Int) := by omega
      obtain ⟨pq, hpq⟩ : ∃ pq, p + i = pq := ⟨_, rfl⟩
      have hpqI : (p : Int) + (i : Int) = (pq : Int) := by omega
      have hpqL : pq < bs.length := by omega
      have hpqL2 : (pq : Int) < (L : Int) := by omega
      obtain ⟨b, o, rfl, _, hc⟩ := hr.byte (j := pq) (by omega)
      obtain ⟨x, hx⟩ : ∃ x, bs[pq].toNat = x := ⟨_, rfl⟩
      have hx8 : x ≤ 255 := by rw [← hx]; exact toNat_le _
      rw [hx] at hc
      have h256 : (256 : Nat) ^ i = 2 ^ (8 * i) := by rw [Nat.pow_mul]
      have hVb : V < 2 ^ (8 * i) := by rw [← hV.out, ← h256]; exact num_lt bs p i
      obtain ⟨X, hX⟩ : ∃ X, x * 2 ^ (8 * i) = X := ⟨_, rfl⟩
      have hXb : V + X < 18446744073709551616 := by
        have h1 := num_lt bs p (i + 1)
        rw [num_up, hV.out, hpq, List.getD_eq_getElem?_getD, List.getElem?_eq_getElem hpqL, Option.getD_some, hx, h256, hX] at h1
        have h2 : 256 ^ (i + 1) ≤ 256 ^ 8 := Nat.pow_le_pow_right (by decide) (by omega)
        have h3 : (256 : Nat) ^ 8 = 18446744073709551616 := by decide
        omega
      have hXI : (x : Int) * 2 ^ (8 * i) = (X : Int) := by rw [← hX]; simp
      have hXW : IntKind.u64.wrap ((x : Int) * 2 ^ (8 * i)) = (X : Int) := by rw [hXI, IntKind.wrap_u64]; omega
      have hxw : IntKind.u64.wrap (x : Int) = (x : Int) := by rw [IntKind.wrap_u64]; omega
      obtain ⟨V2, hV2⟩ : ∃ V2, V + X = V2 := ⟨_, rfl⟩
      have hor : bits .or .u64 (V : Int) (X : Int) = (V2 : Int) := by
        rw [bits_or_u64_nat _ _ (by omega) (by omega), ← hX, or_add13 V x (8 * i) hVb, hX, hV2]
      have hnum : Hid (num bs p (i + 1) = V2) := hide (by
        rw [num_up, hV.out, hpq, List.getD_eq_getElem?_getD, List.getElem?_eq_getElem hpqL, Option.getD_some, hx, h256, hX, hV2])
      clear h256 hVb hX hXb hV2 hx hx8 hXI
      replace hpq := hide hpq
      go_wp2
      go_roundw
      case rel => exact ⟨i + 1, V2, by omega, rfl, by go_num, hnum, by first | exact hide rfl | exact hide trivial⟩
      case measure => simp [intOf] <;> omega
    · obtain rfl : i = n := by omega
      go_wp2
      go_ret
      exact ⟨by rw [← hV.out]; rfl, rfl⟩

end Go.Proofs.Ytmpdoileiniijaa
