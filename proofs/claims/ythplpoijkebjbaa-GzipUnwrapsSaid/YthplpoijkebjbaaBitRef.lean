/- The walks of layer 1's reference: lists of truths. -/
import Derived.Test.YthplpoijkebjbaaBitLive
namespace Go.Proofs.Ythplpoijkebjbaa
open Go.RowKit

theorem elem_bool : Elem1 Try.prog 70 4 (.bool false) 1 := ⟨Try.underlying70, by kernel_rfl, rfl⟩
theorem Rd.bool {w : World} {B n : Nat} {A : Option Addr} {l : List Bool} (h : Rd w B A n (l.map Value.bool)) {j : Nat} (hj : j < n) :
    ∃ b o, A = some ⟨b, o, none⟩ ∧ b < B ∧ w.cell? ⟨b, o + j, none⟩ = some (.bool (l[j]'(by have := h.1; rw [List.length_map] at this; omega))) := by
  obtain ⟨b, o, h1, h2, h3⟩ := h.at hj
  exact ⟨b, o, h1, h2, by rw [h3, List.getElem_map]⟩

theorem Bit.num_drop (l : List Bool) (j : Nat) (h : j < l.length) : Bit.num (l.drop j) = l[j].toNat + 2 * Bit.num (l.drop (j + 1)) := by
  rw [List.drop_eq_getElem_cons h]
  rfl

set_option maxHeartbeats 400000 in
theorem refnumber_any (A : Option Addr) (n c : Nat) (l : List Bool) (w : World) (B : Nat) (hr : Rd w B A n (l.map Value.bool)) (hn : n ≤ 32) :
    Calls Try.prog 116 #[.slice A n c] w fun e w' => e = .returned (.int .u32 (Bit.num l : Int)) ∧ w = w' := by
  have hl : l.length = n := hr.len
  have hr := hide hr
  go_enter Try.func116, Try.ntmps116
  go_wp2
  go_loop [3, 4] (fun v i => ∃ k : Nat, k ≤ n ∧ i = .int .i64 ((n : Int) - 1 - k) ∧ v = .int .u32 (Bit.num (l.drop (n - k)) : Int)) (fun _ i => (intOf i + 1).toNat)
  case atStart => exact ⟨0, by omega, by simp, by rw [Nat.sub_zero, List.drop_of_length_le (by omega)]; rfl⟩
  case round =>
    obtain ⟨k, hk, rfl, rfl⟩ := hrel
    by_cases hlt : k < n
    · obtain ⟨m, hm⟩ : ∃ m, n - 1 - k = m := ⟨_, rfl⟩
      have hmi : (n : Int) - 1 - k = (m : Int) := by omega
      have hml : m < l.length := by omega
      obtain ⟨b, o, rfl, hbB, e0⟩ := hr.out.bool (j := m) (by omega)
      have hs := Bit.num_drop l m hml
      rw [show m + 1 = n - k from by omega] at hs
      have hV := Bit.num_lt (l.drop (n - k))
      rw [List.length_drop, show l.length - (n - k) = k from by omega] at hV
      have h2 : 2 ^ k ≤ 2 ^ 31 := Nat.pow_le_pow_right (by omega) (by omega)
      have hV2 : Bit.num (l.drop (n - k)) < 2147483648 := by omega
      have hs' := hide hs
      have hmn : (m : Int) < n := by omega
      have hmk := hide (show n - (k + 1) = m from by omega)
      clear hV h2 hs
      generalize l[m] = tb at *
      generalize Bit.num (l.drop (n - k)) = V at *
      rw [hmi]
      cases tb
      · go_wp2
        go_round
        case rel => exact ⟨k + 1, by omega, int_eq (by omega), by rw [hmk.out, hs'.out]; first | go_num | (exact int_eq (by simp)) | (exact int_eq (by simp; omega))⟩
        case measure => simp [intOf] <;> omega
      · go_wp2
        go_round
        case rel => exact ⟨k + 1, by omega, int_eq (by omega), by rw [hmk.out, hs'.out]; first | go_num | (exact int_eq (by simp)) | (exact int_eq (by simp; omega))⟩
        case measure => simp [intOf] <;> omega
    · obtain rfl : k = n := by omega
      go_wp2
      go_ret
      exact ⟨by simp, rfl⟩

theorem Bit.bitsOf_snoc (bs : List UInt8) (b : UInt8) : Bit.bitsOf (bs ++ [b]) = Bit.bitsOf bs ++ Bit.low b.toNat 8 := by
  induction bs with
  | nil => simp [Bit.bitsOf]
  | cons c t ih => simp [Bit.bitsOf, ih]

set_option maxHeartbeats 1000000 in
theorem refbits_any (A : Option Addr) (n c : Nat) (bs : List UInt8) (w : World) (B : Nat) (hr : Rd w B A n (bs.map bv)) (hB : B ≤ w.heap.size) (hn : n ≤ 1048576) :
    Calls Try.prog 94 #[.slice A n c] w fun e w' => ∃ A c, e = .returned (.slice A (8 * n) c) ∧ Ow w' w.heap.size 4 A (8 * n) c ((Bit.bitsOf bs).map Value.bool) ∧ Below w.heap.size w w' := by
  have hl : bs.length = n := hr.len
  have hr := hide (hr.mono hB)
  go_enter Try.func94, Try.ntmps94
  go_wp2
  go_loopw [3, 4] (fun s i wr => ∃ k : Nat, ∃ A2 c2, k ≤ n ∧ i = .int .i64 k ∧ s = .slice A2 (8 * k) c2 ∧ Hid (Ow wr w.heap.size 4 A2 (8 * k) c2 ((Bit.bitsOf (bs.take k)).map Value.bool)) ∧ Hid (Below w.heap.size w wr)) (fun _ i _ => n - (intOf i).toNat)
  case atStart => exact ⟨0, none, 0, by omega, rfl, rfl, Ow.nil _ _ _, Below.refl _ _⟩
  case round =>
    obtain ⟨k, A2, c2, hk, rfl, rfl, ho, hb⟩ := hrel
    by_cases hlt : k < n
    · have hkl : k < bs.length := by omega
      obtain ⟨b, o, rfl, hbB, e0⟩ := (hr.out.below hb.out).byte (j := k) hlt
      have hs := take_snoc bs k hkl
      have hq := toNat_le bs[k]
      have hs2 := Bit.bitsOf_snoc (bs.take k) bs[k]
      rw [← hs] at hs2
      have hs2 := hide hs2
      have hkn : (k : Int) < n := by omega
      clear hs
      generalize bs[k].toNat = q at *
      generalize Bit.bitsOf (bs.take k) = pre at *
      go_wp2
      go_loopw [3, 5, 6] (fun s x i wx => ∃ j V : Nat, ∃ A3 c3, j ≤ 8 ∧ i = .int .i64 j ∧ x = .int .i64 (V : Int) ∧ V ≤ 255 ∧ s = .slice A3 (8 * k + j) c3 ∧ Hid (V = q / 2 ^ j) ∧ Hid (Ow wx w.heap.size 4 A3 (8 * k + j) c3 ((pre ++ Bit.low q j).map Value.bool)) ∧ Hid (Below w.heap.size w wx)) (fun _ _ i _ => 8 - (intOf i).toNat)
      case atStart => exact ⟨0, q, A2, c2, by omega, rfl, rfl, hq, rfl, by show q = q / 2 ^ 0; simp, by rw [show Bit.low q 0 = [] from rfl, List.append_nil]; exact ho, hb⟩
      case round =>
        obtain ⟨j, V, A3, c3, hj, rfl, rfl, hV, rfl, hVj, ho3, hb3⟩ := hrel
        by_cases hjt : j < 8
        · have hs := Bit.low_succ q j
          have htb : q.testBit j = (V % 2 == 1) := by rw [hVj.out, Nat.testBit_eq_decide_div_mod_eq, Bool.beq_eq_decide_eq]
          have hdiv : V / 2 = q / 2 ^ (j + 1) := by rw [hVj.out, Nat.div_div_eq_div_mul, ← Nat.pow_succ]
          rw [htb] at hs
          have hs := hide hs
          have hdiv := hide hdiv
          clear htb
          obtain ⟨tb, htb⟩ : ∃ tb, (V % 2 == 1) = tb := ⟨_, rfl⟩
          have htI : ((V : Int) % 2 == 1) = tb := by rw [← htb]; rcases Nat.mod_two_eq_zero_or_one V with h | h <;> simp [h] <;> omega
          rw [htb] at hs
          clear htb
          go_wp2_with (at_builtin; refine wpList_append_one _ rfl (.tmp 22) (.tmp 26) rfl elem_bool rfl ho3.out (.bool tb) 4 _ rfl rfl (by simp only [maxLen]; omega) (by omega) hb3.out.size ?_; intro A4 c4 w4 ho4 hg4 hn4; have hb4 := hide (hb3.out.trans (hg4.to_below (B := w.heap.size) hb3.out.size (fun i hi => (ho3.out.blk_lt i hi).1))); have ho4 := hide ho4; clear hg4 hn4)
          go_roundw
          case rel => exact ⟨j + 1, V / 2, A4, c4, by omega, by go_num, int_eq (by omega), by omega, rfl, hdiv, (by rw [hs.out, ← List.append_assoc, List.map_append]; exact ho4), hb4⟩
          case measure => simp [intOf] <;> omega
        · obtain rfl : j = 8 := by omega
          go_wp2
          go_roundw
          case rel => exact ⟨k + 1, A3, c3, by omega, by go_num, by simp [Nat.mul_add], (by rw [hs2.out]; exact ho3), hb3⟩
          case measure => simp [intOf] <;> omega
    · obtain rfl : k = n := by omega
      go_wp2
      go_ret
      have ho := ho.out
      rw [List.take_of_length_le (by omega)] at ho
      exact ⟨_, _, rfl, ho, hb.out⟩

end Go.Proofs.Ythplpoijkebjbaa
