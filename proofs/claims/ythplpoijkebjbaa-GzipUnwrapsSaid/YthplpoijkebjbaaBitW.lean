/- The walks of layer 1 (bitio): the rest of a writer. -/
import Derived.Test.YthplpoijkebjbaaBit
namespace Go.Proofs.Ythplpoijkebjbaa
open Go.RowKit

theorem gap_and (n : Nat) (hn : n ≤ 1099511627776) : bits .and .i64 (-(n : Int)) 7 = ((Bit.gap n : Nat) : Int) := by
  show IntKind.i64.wrap ((BitVec.ofInt 64 (-(n : Int)) &&& BitVec.ofInt 64 (7 : Int)).toNat : Int) = _
  have h7 : (BitVec.ofInt 64 (7 : Int)).toNat = 2 ^ 3 - 1 := by decide
  rw [BitVec.toNat_and, h7, Nat.and_two_pow_sub_one_eq_mod, BitVec.toNat_ofInt]
  unfold Bit.gap
  have e : (((-(n : Int)) % ((2 ^ 64 : Nat) : Int)).toNat % 2 ^ 3 : Nat) = (8 - n % 8) % 8 := by
    have : ((2 ^ 64 : Nat) : Int) = 18446744073709551616 := by decide
    omega
  rw [e, IntKind.wrap_i64]
  omega

theorem right_ok (g : Nat) (n : Nat) (w : World) (h : n ≤ 32) : Calls Try.prog 101 #[.pointer (some ⟨g, 0, none⟩), .int .i64 (n : Int)] w fun e w' => e = .returned (.int .i64 0) ∧ w = w' := by
  go_enter Try.func101, Try.ntmps101
  go_wp2
  go_ret
  exact ⟨rfl, rfl⟩

theorem WrPost.trans {w w1 w2 : World} {base g : Nat} {A A1 : Option Addr} {l : List Bool} (hg : Chg (fun k => k = g ∨ blk A = some k) w w1) (hb : blk A1 = blk A ∨ ∃ k, w.heap.size ≤ k ∧ blk A1 = some k) (h : WrPost w1 base g A1 l w2) : WrPost w base g A l w2 := by
  obtain ⟨A2, h1, h2, h3⟩ := h
  refine ⟨A2, h1, hg.trans h2 ?_, ?_⟩
  · intro i hi hr
    rcases hr with hr | hr
    · exact .inl hr
    · rcases hb with hb | ⟨k, hk, hb⟩
      · exact .inr (hb ▸ hr)
      · rw [hb] at hr
        cases hr
        omega
  · rcases h3 with h3 | ⟨k, hk, h3⟩
    · rcases hb with hb | ⟨k, hk, hb⟩
      · exact .inl (h3.trans hb)
      · exact .inr ⟨k, hk, h3.trans hb⟩
    · exact .inr ⟨k, by have := hg.size; omega, h3⟩
theorem WrPost.refl {w : World} {base g : Nat} {A : Option Addr} {l : List Bool} (h : WrIs w base g A l) : WrPost w base g A l w := ⟨A, h, Chg.refl _ _, .inl rfl⟩

set_option maxHeartbeats 1000000 in
theorem wbits_ok (g : Nat) (A : Option Addr) (l : List Bool) (v n : Nat) (w : World) (base : Nat) (h : WrIs w base g A l) (hb : base ≤ w.heap.size) (hl : l.length ≤ 1000000000000) (hv : v < 4294967296) (hn : n ≤ 32) :
    Calls Try.prog 70 #[.pointer (some ⟨g, 0, none⟩), .int .u32 (v : Int), .int .i64 (n : Int)] w fun e w' => e = .returned (.int .i64 0) ∧ WrPost w base g A (l ++ Bit.low v n) w' := by
  have hr := hide (right_ok g n w hn)
  have hbit : Hid (∀ (k : Nat) (W : World), k < n → WrPost w base g A (l ++ Bit.low v k) W → Calls Try.prog 102 #[.pointer (some ⟨g, 0, none⟩), .int .u32 ((v / 2 ^ k : Nat) : Int)] W fun e w' => e = .returned (.tuple #[]) ∧ WrPost w base g A (l ++ Bit.low v (k + 1)) w') := by
    intro k W hk hp
    obtain ⟨A1, h1, h2, h3⟩ := hp
    refine (bit_any g A1 (l ++ Bit.low v k) (v / 2 ^ k) W base h1 (by have := h2.size; omega) ?_ ?_).mono ?_
    · rw [List.length_append, Bit.low_length]; omega
    · exact Nat.lt_of_le_of_lt (Nat.div_le_self _ _) hv
    · rintro e w' ⟨rfl, hq⟩
      refine ⟨rfl, ?_⟩
      have := WrPost.trans h2 h3 hq
      rw [List.append_assoc] at this
      rw [Bit.low_succ]
      have e : v.testBit k = (v / 2 ^ k % 2 == 1) := by rw [Nat.testBit_eq_decide_div_mod_eq]; rw [Bool.beq_eq_decide_eq]
      rw [e]
      exact this
  have hp0 : Hid (WrPost w base g A (l ++ Bit.low v 0) w) := by
    show WrPost w base g A (l ++ Bit.low v 0) w
    rw [show Bit.low v 0 = [] from rfl, List.append_nil]
    exact WrPost.refl h
  clear h hl
  go_enter Try.func70, Try.ntmps70
  go_wp2_with (go_at_call 101; (with_reducible refine hr.out.mono ?_); rintro e w' ⟨rfl, rfl⟩)
  go_loopw [15] (fun i wr => ∃ k : Nat, k ≤ n ∧ i = .int .i64 k ∧ Hid (WrPost w base g A (l ++ Bit.low v k) wr)) (fun i _ => n - (intOf i).toNat)
  case atStart => exact ⟨0, by omega, rfl, hp0⟩
  case round =>
    obtain ⟨k, hk, rfl, hp⟩ := hrel
    by_cases hlt : k < n
    · have hc := hbit.out k _ hlt hp
      rw [show ((v / 2 ^ k : Nat) : Int) = (v : Int) / 2 ^ k from by norm_cast] at hc
      have hc := hide hc
      go_wp2_with (go_at_call 102; (with_reducible refine hc.out.mono ?_); rintro e w5 ⟨rfl, hp5⟩; have hp5 := hide hp5)
      go_roundw
      case rel => exact ⟨k + 1, by omega, by go_num, hp5⟩
      case measure => simp [intOf]; omega
    · obtain rfl : k = n := by omega
      go_wp2
      go_ret
      exact ⟨rfl, hp⟩

theorem low_get (v n i : Nat) (h : i < (Bit.low v n).length) : (Bit.low v n)[i] = v.testBit i := by simp [Bit.low]

set_option maxHeartbeats 1000000 in
theorem wturned_ok (g : Nat) (A : Option Addr) (l : List Bool) (v n : Nat) (w : World) (base : Nat) (h : WrIs w base g A l) (hb : base ≤ w.heap.size) (hl : l.length ≤ 1000000000000) (hv : v < 4294967296) (hn : n ≤ 32) :
    Calls Try.prog 106 #[.pointer (some ⟨g, 0, none⟩), .int .u32 (v : Int), .int .i64 (n : Int)] w fun e w' => e = .returned (.int .i64 0) ∧ WrPost w base g A (l ++ (Bit.low v n).reverse) w' := by
  have hr := hide (right_ok g n w hn)
  have hbit : Hid (∀ (k : Nat) (W : World), k < n → WrPost w base g A (l ++ ((Bit.low v n).reverse.take k)) W → Calls Try.prog 102 #[.pointer (some ⟨g, 0, none⟩), .int .u32 ((v / 2 ^ (n - 1 - k) : Nat) : Int)] W fun e w' => e = .returned (.tuple #[]) ∧ WrPost w base g A (l ++ ((Bit.low v n).reverse.take (k + 1))) w') := by
    intro k W hk hp
    obtain ⟨A1, h1, h2, h3⟩ := hp
    refine (bit_any g A1 (l ++ ((Bit.low v n).reverse.take k)) (v / 2 ^ (n - 1 - k)) W base h1 (by have := h2.size; omega) ?_ ?_).mono ?_
    · rw [List.length_append, List.length_take, List.length_reverse, Bit.low_length]; omega
    · exact Nat.lt_of_le_of_lt (Nat.div_le_self _ _) hv
    · rintro e w' ⟨rfl, hq⟩
      refine ⟨rfl, ?_⟩
      have := WrPost.trans h2 h3 hq
      rw [List.append_assoc] at this
      have hlen : k < (Bit.low v n).reverse.length := by rw [List.length_reverse, Bit.low_length]; exact hk
      rw [take_snoc _ k hlen]
      have e : (Bit.low v n).reverse[k]'hlen = (v / 2 ^ (n - 1 - k) % 2 == 1) := by
        rw [List.getElem_reverse]
        simp only [Bit.low_length]
        rw [low_get, Nat.testBit_eq_decide_div_mod_eq, Bool.beq_eq_decide_eq]
      rw [e]
      exact this
  have hp0 : Hid (WrPost w base g A (l ++ ((Bit.low v n).reverse.take 0)) w) := by
    show WrPost w base g A (l ++ ((Bit.low v n).reverse.take 0)) w
    rw [List.take_zero, List.append_nil]
    exact WrPost.refl h
  clear h hl
  go_enter Try.func106, Try.ntmps106
  go_wp2_with (go_at_call 101; (with_reducible refine hr.out.mono ?_); rintro e w' ⟨rfl, rfl⟩)
  go_loopw [15] (fun i wr => ∃ k : Nat, k ≤ n ∧ i = .int .i64 k ∧ Hid (WrPost w base g A (l ++ ((Bit.low v n).reverse.take k)) wr)) (fun i _ => n - (intOf i).toNat)
  case atStart => exact ⟨0, by omega, rfl, hp0⟩
  case round =>
    obtain ⟨k, hk, rfl, hp⟩ := hrel
    by_cases hlt : k < n
    · have hc := hbit.out k _ hlt hp
      obtain ⟨m, hm⟩ : ∃ m : Nat, n - 1 - k = m := ⟨_, rfl⟩
      rw [hm, show ((v / 2 ^ m : Nat) : Int) = (v : Int) / 2 ^ m from by norm_cast] at hc
      have hmi : (n : Int) - 1 - k = (m : Int) := by omega
      have hc := hide hc
      go_wp2_with (go_at_call 102; (with_reducible refine hc.out.mono ?_); rintro e w5 ⟨rfl, hp5⟩; have hp5 := hide hp5)
      go_roundw
      case rel => exact ⟨k + 1, by omega, by go_num, hp5⟩
      case measure => simp [intOf]; omega
    · obtain rfl : k = n := by omega
      go_wp2
      go_ret
      have hp := hp.out
      rw [List.take_of_length_le (by rw [List.length_reverse, Bit.low_length]; exact Nat.le_refl _)] at hp
      exact ⟨rfl, hp⟩

theorem wbytes_ok (g : Nat) (A : Option Addr) (l : List Bool) (w : World) (base : Nat) (h : WrIs w base g A l) (hl : l.length ≤ 1099511627776) :
    Calls Try.prog 46 #[.pointer (some ⟨g, 0, none⟩)] w (Cloned w (Bit.size l.length) (Bit.pack l)) := by
  obtain ⟨c, hk, ho⟩ := h
  have hsz := Bit.size_le l.length
  have c0 : w.cell? ⟨g, 0, none⟩ = some (.slice A (Bit.size l.length) c) := hk.cell 0
  have hc := hide (clone_any A (Bit.size l.length) c (Bit.pack l) w _ ho.rd (Nat.le_refl _) (by omega))
  clear hk ho hsz hl
  generalize Bit.size l.length = m at *
  go_enter Try.func46, Try.ntmps46
  go_wp2_with (go_at_call 75; (with_reducible refine hc.out.mono ?_); rintro e w5 ⟨A5, c5, rfl, ho5, hb5⟩)
  go_ret
  exact ⟨A5, c5, rfl, ho5, hb5⟩
set_option maxHeartbeats 400000 in
theorem walign_ok (g : Nat) (A : Option Addr) (l : List Bool) (w : World) (base : Nat) (h : WrIs w base g A l) (hl : l.length ≤ 1000000000000) :
    Calls Try.prog 71 #[.pointer (some ⟨g, 0, none⟩)] w fun e w' => e = .returned (.int .i64 (Bit.gap l.length : Int)) ∧ WrPost w base g A (l ++ List.replicate (Bit.gap l.length) false) w' := by
  obtain ⟨c, hk, ho⟩ := h
  have c1 : w.cell? ⟨g, 1, none⟩ = some (.int .i64 (l.length : Int)) := hk.cell 1
  have f1 := hk.free 1
  have hg := gap_and l.length (by omega)
  have hgl : Bit.gap l.length ≤ 8 := by unfold Bit.gap; omega
  have hl1 : (l.length : Int) ≤ 1000000000000 := by omega
  have hfin : Hid (∀ n, WrPost w base g A (l ++ List.replicate (Bit.gap l.length) false) ((w.setCell ⟨g, 1, none⟩ (.int .i64 ((l.length : Int) + (Bit.gap l.length : Nat)))).drewN n)) := by
    intro n
    have hch : Chg (fun k => k = g) w ((w.setCell ⟨g, 1, none⟩ (.int .i64 ((l.length : Int) + (Bit.gap l.length : Nat)))).drewN n) := ((Chg.refl (fun k => k = g) w).setCell (p := ⟨g, 1, none⟩) (.inr rfl) _).drewN n
    have hlen : (l ++ List.replicate (Bit.gap l.length) false).length = l.length + Bit.gap l.length := by simp
    have hs : Bit.size (l.length + Bit.gap l.length) = Bit.size l.length := by unfold Bit.size Bit.gap; omega
    refine ⟨A, ⟨c, ?_, ?_⟩, hch.mono (fun _ _ h => .inl h), .inl rfl⟩
    · rw [hlen, hs, show ((l.length + Bit.gap l.length : Nat) : Int) = (l.length : Int) + (Bit.gap l.length : Nat) from by omega]
      exact (hk.set 1 _).drewN n
    · rw [hlen, hs, Bit.pack_pad]
      exact ho.chg hch (by intro k hk' e; rw [e] at hk'; exact ho.ne hk (by decide) hk')
  clear hk ho hl
  generalize Bit.gap l.length = m at *
  go_enter Try.func71, Try.ntmps71
  go_wp2
  go_ret
  exact ⟨rfl, hfin.out 0⟩

end Go.Proofs.Ythplpoijkebjbaa
