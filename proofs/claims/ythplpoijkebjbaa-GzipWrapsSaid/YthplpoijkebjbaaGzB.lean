/- Layer 6 (gzip): the header. The condition: where the bytes lie. Layer 6 (gzip): the whole header. The condition: where the bytes lie. Layer 6 (gzip): a number as four bytes; two slices' bytes compared. The conditions: where the bytes lie. -/
import Derived.Test.YthplpoijkebjbaaGzA
namespace Go.Proofs.Ythplpoijkebjbaa
open Go.RowKit Go.Shelf
set_option linter.unusedVariables false
set_option linter.unusedSimpArgs false

theorem flag4 : ∀ f < 256, (bits .and .u8 (f : Nat) 4 != 0) = Nat.testBit f 2 := by decide +kernel
theorem flag8 : ∀ f < 256, (bits .and .u8 (f : Nat) 8 != 0) = Nat.testBit f 3 := by decide +kernel
theorem flag16 : ∀ f < 256, (bits .and .u8 (f : Nat) 16 != 0) = Nat.testBit f 4 := by decide +kernel
theorem flag2 : ∀ f < 256, (bits .and .u8 (f : Nat) 2 != 0) = Nat.testBit f 1 := by decide +kernel
theorem flags : ∀ f < 256, (bits .and .u8 (f : Nat) 224 != 0) = !decide (f < 32) := by decide +kernel

/-- The header's first bytes, in a block of their own; the flags are x. -/
def HAt (B : Nat) (W : World) (gh : Nat) (x : Nat) : Prop := ∃ A2 c2 b o, Blk W gh 22 #[.slice A2 10 c2] ∧ A2 = some ⟨b, o, none⟩ ∧ b < B ∧ B ≤ gh ∧ W.cell? ⟨b, o + 3, none⟩ = some (.int .u8 (x : Nat))

set_option maxRecDepth 100000 in
set_option maxHeartbeats 1000000 in
theorem part_extra (B g gh x : Nat) (A : Option Addr) (n c : Nat) (s : Sum Nat Nat) (bs : List UInt8) (W : World) (hx : x < 256) (hh : HAt B W gh x) (h : MAt B W g A n c s) (hr : Rd W B A n (bs.map bv)) (hc : n ≤ c) (hn : n ≤ 1048576) :
    Calls Try.prog 87 #[.int .u8 4, .func (.func 88) #[.pointer (some ⟨g, 0, none⟩)] #[], .pointer (some ⟨gh, 0, none⟩)] W fun e w' => (∃ v, e = .returned v) ∧ MAt B w' g A n c (Gz.part (x.testBit 2) (Gz.extra bs) s) ∧ KG g W w' := by
  obtain ⟨A2, c2, b, o, hk, rfl, hb, hBg, e3⟩ := hh
  have k0 := hk.cell 0
  simp only [List.getElem?_toArray, List.getElem?_cons_succ, List.getElem?_cons_zero] at k0
  have hfl := flag4 x hx
  have hs := hide (extra_any B g A n c s bs W h hr hc hn)
  have h' := hide h
  clear h hr
  go_enter Try.func87, Try.ntmps87
  cases hb2 : x.testBit 2
  · rw [hb2] at hfl
    go_wp2
    refine bodyPost_end (results_none rfl _ _ _) rfl ?_
    exact ⟨⟨_, rfl⟩, h'.out, KG.refl _ _⟩
  · rw [hb2] at hfl
    go_wp2_with (go_at_call 88; (with_reducible refine (hs.out).mono ?_); rintro e w1 ⟨⟨v, rfl⟩, h1, b1⟩; have h1 := hide h1; have b1 := hide b1)
    refine bodyPost_end (results_none rfl _ _ _) rfl ?_
    exact ⟨⟨_, rfl⟩, h1.out, b1.out⟩

set_option maxRecDepth 100000 in
set_option maxHeartbeats 1000000 in
theorem part_name (B g gh x : Nat) (A : Option Addr) (n c : Nat) (s : Sum Nat Nat) (bs : List UInt8) (W : World) (hx : x < 256) (hh : HAt B W gh x) (h : MAt B W g A n c s) (hr : Rd W B A n (bs.map bv)) (hc : n ≤ c) (hn : n ≤ 1048576) :
    Calls Try.prog 87 #[.int .u8 8, .func (.func 89) #[.pointer (some ⟨g, 0, none⟩)] #[], .pointer (some ⟨gh, 0, none⟩)] W fun e w' => (∃ v, e = .returned v) ∧ MAt B w' g A n c (Gz.part (x.testBit 3) (Gz.text bs) s) ∧ KG g W w' := by
  obtain ⟨A2, c2, b, o, hk, rfl, hb, hBg, e3⟩ := hh
  have k0 := hk.cell 0
  simp only [List.getElem?_toArray, List.getElem?_cons_succ, List.getElem?_cons_zero] at k0
  have hfl := flag8 x hx
  have hs := hide (text_any B g A n c s bs W h hr hc hn)
  have h' := hide h
  clear h hr
  go_enter Try.func87, Try.ntmps87
  cases hb2 : x.testBit 3
  · rw [hb2] at hfl
    go_wp2
    refine bodyPost_end (results_none rfl _ _ _) rfl ?_
    exact ⟨⟨_, rfl⟩, h'.out, KG.refl _ _⟩
  · rw [hb2] at hfl
    go_wp2_with (go_at_call 89; (with_reducible refine (hs.out).mono ?_); rintro e w1 ⟨⟨v, rfl⟩, h1, b1⟩; have h1 := hide h1; have b1 := hide b1)
    refine bodyPost_end (results_none rfl _ _ _) rfl ?_
    exact ⟨⟨_, rfl⟩, h1.out, b1.out⟩

set_option maxRecDepth 100000 in
set_option maxHeartbeats 1000000 in
theorem part_comment (B g gh x : Nat) (A : Option Addr) (n c : Nat) (s : Sum Nat Nat) (bs : List UInt8) (W : World) (hx : x < 256) (hh : HAt B W gh x) (h : MAt B W g A n c s) (hr : Rd W B A n (bs.map bv)) (hc : n ≤ c) (hn : n ≤ 1048576) :
    Calls Try.prog 87 #[.int .u8 16, .func (.func 89) #[.pointer (some ⟨g, 0, none⟩)] #[], .pointer (some ⟨gh, 0, none⟩)] W fun e w' => (∃ v, e = .returned v) ∧ MAt B w' g A n c (Gz.part (x.testBit 4) (Gz.text bs) s) ∧ KG g W w' := by
  obtain ⟨A2, c2, b, o, hk, rfl, hb, hBg, e3⟩ := hh
  have k0 := hk.cell 0
  simp only [List.getElem?_toArray, List.getElem?_cons_succ, List.getElem?_cons_zero] at k0
  have hfl := flag16 x hx
  have hs := hide (text_any B g A n c s bs W h hr hc hn)
  have h' := hide h
  clear h hr
  go_enter Try.func87, Try.ntmps87
  cases hb2 : x.testBit 4
  · rw [hb2] at hfl
    go_wp2
    refine bodyPost_end (results_none rfl _ _ _) rfl ?_
    exact ⟨⟨_, rfl⟩, h'.out, KG.refl _ _⟩
  · rw [hb2] at hfl
    go_wp2_with (go_at_call 89; (with_reducible refine (hs.out).mono ?_); rintro e w1 ⟨⟨v, rfl⟩, h1, b1⟩; have h1 := hide h1; have b1 := hide b1)
    refine bodyPost_end (results_none rfl _ _ _) rfl ?_
    exact ⟨⟨_, rfl⟩, h1.out, b1.out⟩

set_option maxRecDepth 100000 in
set_option maxHeartbeats 1000000 in
theorem part_sum (B g gh x : Nat) (A : Option Addr) (n c : Nat) (s : Sum Nat Nat) (bs : List UInt8) (W : World) (hx : x < 256) (hh : HAt B W gh x) (h : MAt B W g A n c s) (hr : Rd W B A n (bs.map bv)) (hc : n ≤ c) (hn : n ≤ 1048576) :
    Calls Try.prog 87 #[.int .u8 2, .func (.func 90) #[.pointer (some ⟨g, 0, none⟩)] #[], .pointer (some ⟨gh, 0, none⟩)] W fun e w' => (∃ v, e = .returned v) ∧ MAt B w' g A n c (Gz.part (x.testBit 1) (Gz.sum bs) s) ∧ KG g W w' := by
  obtain ⟨A2, c2, b, o, hk, rfl, hb, hBg, e3⟩ := hh
  have k0 := hk.cell 0
  simp only [List.getElem?_toArray, List.getElem?_cons_succ, List.getElem?_cons_zero] at k0
  have hfl := flag2 x hx
  have hs := hide (msum_any B g A n c s bs W h hr hc hn)
  have h' := hide h
  clear h hr
  go_enter Try.func87, Try.ntmps87
  cases hb2 : x.testBit 1
  · rw [hb2] at hfl
    go_wp2
    refine bodyPost_end (results_none rfl _ _ _) rfl ?_
    exact ⟨⟨_, rfl⟩, h'.out, KG.refl _ _⟩
  · rw [hb2] at hfl
    go_wp2_with (go_at_call 90; (with_reducible refine (hs.out).mono ?_); rintro e w1 ⟨⟨v, rfl⟩, h1, b1⟩; have h1 := hide h1; have b1 := hide b1)
    refine bodyPost_end (results_none rfl _ _ _) rfl ?_
    exact ⟨⟨_, rfl⟩, h1.out, b1.out⟩

set_option maxHeartbeats 1000000 in
theorem is_any (A : Option Addr) (n c B : Nat) (bs : List UInt8) (W : World) (hr : Rd W B A n (bs.map bv)) (hn : n ≤ 1048576) :
    Calls Try.prog 41 #[.slice A n c] W fun e w' => e = .returned (.bool (Gz.is bs)) ∧ W = w' := by
  have hl : bs.length = n := hr.len
  by_cases h2 : 2 ≤ n
  · obtain ⟨b, o, rfl, hbB, e0⟩ := hr.byte (j := 0) (by omega)
    obtain ⟨b', o', hA, _, e1⟩ := hr.byte (j := 1) (by omega)
    injection hA with hA
    injection hA with q1 q2
    subst q1 q2
    have h2I : (2 : Int) ≤ (n : Int) := by omega
    have hx0 : Gz.byte bs 0 = bs[0].toNat := by unfold Gz.byte; rw [List.getD_eq_getElem?_getD, List.getElem?_eq_getElem (by omega)]; rfl
    have hx1 : Gz.byte bs 1 = bs[1].toNat := by unfold Gz.byte; rw [List.getD_eq_getElem?_getD, List.getElem?_eq_getElem (by omega)]; rfl
    rw [Nat.add_zero, ← hx0] at e0
    rw [← hx1] at e1
    have hres : Gz.is bs = ((Gz.byte bs 0 == 31) && (Gz.byte bs 1 == 139)) := by
      unfold Gz.is
      rw [decide_eq_true (by omega), Bool.true_and]
    rw [hres]
    generalize Gz.byte bs 0 = x at *
    generalize Gz.byte bs 1 = y at *
    clear hx0 hx1 hres
    by_cases hx : x = 31
    · subst hx
      by_cases hy : y = 139
      · subst hy
        go_enter Try.func41, Try.ntmps41
        go_wp2
        go_ret
        exact ⟨rfl, rfl⟩
      · have hyI : ((y : Int) == 139) = false := by simp; omega
        rw [show (y == 139) = false from by simpa using hy]
        go_enter Try.func41, Try.ntmps41
        go_wp2
        go_ret
        exact ⟨rfl, rfl⟩
    · have hxI : ((x : Int) == 31) = false := by simp; omega
      rw [show (x == 31) = false from by simpa using hx, Bool.false_and]
      go_enter Try.func41, Try.ntmps41
      go_wp2
      go_ret
      exact ⟨rfl, rfl⟩
  · have h2I : ¬ (2 : Int) ≤ (n : Int) := by omega
    have hres : Gz.is bs = false := by
      unfold Gz.is
      rw [decide_eq_false (by omega), Bool.false_and]
    rw [hres]
    go_enter Try.func41, Try.ntmps41
    go_wp2
    go_ret
    exact ⟨rfl, rfl⟩

end Go.Proofs.Ythplpoijkebjbaa

namespace Go.Proofs.Ythplpoijkebjbaa
open Go.RowKit Go.Shelf
set_option linter.unusedVariables false
set_option linter.unusedSimpArgs false

theorem HAt.kg {B g gh x : Nat} {W W' : World} (h : HAt B W gh x) (hk : KG g W W') (hg : B ≤ g) (hne : gh ≠ g) : HAt B W' gh x := by
  obtain ⟨A2, c2, b, o, h1, h2, h3, h4, h5⟩ := h
  exact ⟨A2, c2, b, o, Blk.chg h1 hk hne, h2, h3, h4, Chg.cell hk h5 (by show b ≠ g; omega)⟩
theorem Gz.byte_take (bs : List UInt8) (k i : Nat) (h : i < k) : Gz.byte (bs.take k) i = Gz.byte bs i := by
  unfold Gz.byte
  rw [List.getD_eq_getElem?_getD, List.getD_eq_getElem?_getD, List.getElem?_take, if_pos h]
theorem Gz.head_short (bs : List UInt8) (h : bs.length < 10) : Gz.head bs = .inl 2 := by
  unfold Gz.head
  rw [show Gz.skip bs 10 0 = .inl 2 from if_neg (by omega)]
  rfl
theorem Gz.head_long (bs : List UInt8) (h : 10 ≤ bs.length) : Gz.head bs = if (Gz.byte bs 0 = 31 ∧ Gz.byte bs 1 = 139) ∧ Gz.byte bs 2 = 8 ∧ Gz.byte bs 3 < 32 then Gz.parts bs (Gz.byte bs 3) (.inr 10) else .inl 3 := by
  unfold Gz.head
  rw [show Gz.skip bs 10 0 = .inr 10 from if_pos (by omega)]
  show (if _ then _ else _) = _
  simp only [and_assoc]
theorem Gz.is_long (bs : List UInt8) (h : 2 ≤ bs.length) : Gz.is bs = decide (Gz.byte bs 0 = 31 ∧ Gz.byte bs 1 = 139) := by
  unfold Gz.is
  rw [decide_eq_true h, Bool.true_and, Bool.decide_and, Bool.beq_eq_decide_eq, Bool.beq_eq_decide_eq]

set_option maxRecDepth 100000 in
set_option maxHeartbeats 2000000 in
theorem head_any (B g : Nat) (A : Option Addr) (n c : Nat) (bs : List UInt8) (W : World) (h : MAt B W g A n c (.inr 0)) (hr : Rd W B A n (bs.map bv)) (hc : n ≤ c) (hn : n ≤ 1048576) :
    Calls Try.prog 64 #[.pointer (some ⟨g, 0, none⟩)] W fun e w' => (∃ v, e = .returned v) ∧ MAt B w' g A n c (Gz.head bs) ∧ KG g W w' := by
  have hl : bs.length = n := hr.len
  by_cases h10 : 10 ≤ n
  · have hs := hide (show Calls Try.prog 86 #[.pointer (some ⟨g, 0, none⟩), .int .i64 10] W _ from skip_ok B g A n c 0 10 bs W h hr hc hn (by omega))
    have hres := hide (Gz.head_long bs (by omega))
    have hBg := h.1
    have hgW := h.2.2.lt
    replace hr := hide hr
    clear h
    go_enter Try.func64, Try.ntmps64
    go_wp2_with fail
    refine (hs.out).mono ?_
    rintro e w1 ⟨⟨A2, c2, rfl, hc2, r2⟩, h1, b1⟩
    obtain ⟨b, o, rfl, hbB, e2⟩ := r2.gz 2 (by decide)
    obtain ⟨b', o', hA, _, e3⟩ := r2.gz 3 (by decide)
    injection hA with hA
    injection hA with q1 q2
    subst q1 q2
    have hsz := h1.2.2.lt
    obtain ⟨gh, hgh⟩ : ∃ k, w1.heap.size = k := ⟨_, rfl⟩
    obtain ⟨w2, hw2⟩ : ∃ w2, w1.alloc (.cells #[.slice none 0 0] 22) = w2 := ⟨_, rfl⟩
    obtain ⟨w3, hw3⟩ : ∃ w3, w2.setCell ⟨gh, 0, none⟩ (.slice (some ⟨b, o, none⟩) 10 c2) = w3 := ⟨_, rfl⟩
    have k2 : Blk w2 gh 22 #[.slice none 0 0] := by rw [← hw2, ← hgh]; exact Blk.new w1 _ _
    have k3 : Blk w3 gh 22 #[.slice (some ⟨b, o, none⟩) 10 c2] := by rw [← hw3]; exact k2.set 0 _
    have be : Below w1.heap.size w1 w3 := by rw [← hw3, ← hw2]; exact ((Below.refl _ w1).alloc (Nat.le_refl _) _).setCell (by simp; omega) _
    have h3 := h1.below be
    have b3 := hide (b1.trans (KG.of_below be))
    have x2 := k2.cell 0
    have f2 := k2.free 0
    have x3 := k3.cell 0
    simp only [List.getElem?_toArray, List.getElem?_cons_succ, List.getElem?_cons_zero] at x2 x3
    have r3 := (r2.below (be.mono (by omega)) : Rd w3 B (some ⟨b, o, none⟩) 10 _)
    have r4 := hide (hr.out.below (b3.out.below hBg (by omega)))
    replace e2 := (be.cell (p := ⟨b, o + 2, none⟩) (by show b < _; omega)).trans e2
    replace e3 := (be.cell (p := ⟨b, o + 3, none⟩) (by show b < _; omega)).trans e3
    rw [List.drop_zero] at r3
    have his := hide (is_any (some ⟨b, o, none⟩) 10 c2 B (bs.take 10) w3 r3 (by decide))
    rw [Gz.is_long (bs.take 10) (by rw [List.length_take]; omega), Gz.byte_take _ _ _ (by decide), Gz.byte_take _ _ _ (by decide)] at his
    have hx8 := Gz.byte_lt bs 3
    have hhat := hide (show HAt B w3 gh (Gz.byte bs 3) from ⟨_, c2, b, o, k3, rfl, hbB, by omega, by simpa using e3⟩)
    rw [show 0 + 2 = 2 from rfl] at e2
    rw [show 0 + 3 = 3 from rfl] at e3
    have d2 := h3.2.2.cell 2
    have df := h3.2.2.free 2
    simp only [List.getElem?_toArray, List.getElem?_cons_succ, List.getElem?_cons_zero] at d2
    replace h3 := hide h3
    have hne := hide (show gh ≠ g from by omega)
    have hfl := flags (Gz.byte bs 3) hx8
    generalize Gz.byte bs 2 = y2 at *
    generalize Gz.byte bs 3 = x at *
    obtain ⟨I, hI⟩ : ∃ I, decide (Gz.byte bs 0 = 31 ∧ Gz.byte bs 1 = 139) = I := ⟨_, rfl⟩
    rw [hI] at his
    clear r2 r3 h1 b1 be hr k2 k3 hs hsz hgW
    cases I with
    | false =>
      have hres2 := hide (show Gz.head bs = .inl 3 from by rw [hres.out]; exact if_neg (fun h => of_decide_eq_false hI h.1))
      go_wp2_with (go_at_call 41; (with_reducible refine (his.out).mono ?_); rintro e w' ⟨rfl, rfl⟩)
      refine bodyPost_ret (results_none rfl _ _ _) rfl ?_
      exact ⟨⟨_, rfl⟩, by rw [hres2.out]; exact ⟨hBg, by decide, by decide, 10, h10, h3.out.2.2.set 2 _⟩, b3.out.setCell _⟩
    | true =>
      by_cases hy : y2 = 8
      · subst hy
        by_cases hx32 : x < 32
        · have hres2 := hide (show Gz.head bs = Gz.parts bs x (.inr 10) from by rw [hres.out]; exact if_pos ⟨of_decide_eq_true hI, rfl, hx32⟩)
          rw [decide_eq_true hx32, Bool.not_true] at hfl
          have hp1 := hide (part_extra B g gh x A n c (.inr 10) bs w3 hx8 hhat.out h3.out r4.out hc hn)
          have hp2 := hide (fun W4 s4 (h : MAt B W4 g A n c s4) (hk : KG g w3 W4) => part_name B g gh x A n c s4 bs W4 hx8 (hhat.out.kg hk hBg hne.out) h (r4.out.below (hk.below hBg h3.out.lt)) hc hn)
          have hp3 := hide (fun W4 s4 (h : MAt B W4 g A n c s4) (hk : KG g w3 W4) => part_comment B g gh x A n c s4 bs W4 hx8 (hhat.out.kg hk hBg hne.out) h (r4.out.below (hk.below hBg h3.out.lt)) hc hn)
          have hp4 := hide (fun W4 s4 (h : MAt B W4 g A n c s4) (hk : KG g w3 W4) => part_sum B g gh x A n c s4 bs W4 hx8 (hhat.out.kg hk hBg hne.out) h (r4.out.below (hk.below hBg h3.out.lt)) hc hn)
          clear hx8
          replace hx32 := hide hx32
          go_wp2_with (first
            | (go_at_call 41; (with_reducible refine (his.out).mono ?_); rintro e w' ⟨rfl, rfl⟩)
            | (go_at_call 87; (with_reducible refine (hp1.out).mono ?_); rintro e w4 ⟨⟨v4, rfl⟩, h4, b4⟩; have hp2 := hide (hp2.out _ _ h4 b4); have b4 := hide b4; clear h4)
            | (go_at_call 87; (with_reducible refine (hp2.out).mono ?_); rintro e w5 ⟨⟨v5, rfl⟩, h5, b5⟩; have b5 := hide (b4.out.trans b5); have hp3 := hide (hp3.out _ _ h5 b5.out); clear h5)
            | (go_at_call 87; (with_reducible refine (hp3.out).mono ?_); rintro e w6 ⟨⟨v6, rfl⟩, h6, b6⟩; have b6 := hide (b5.out.trans b6); have hp4 := hide (hp4.out _ _ h6 b6.out); clear h6)
            | (go_at_call 87; (with_reducible refine (hp4.out).mono ?_); rintro e w7 ⟨⟨v7, rfl⟩, h7, b7⟩; have b7 := hide (b6.out.trans b7); have h7 := hide h7))
          refine bodyPost_end (results_none rfl _ _ _) rfl ?_
          exact ⟨⟨_, rfl⟩, by rw [hres2.out]; exact h7.out, b3.out.trans b7.out⟩
        · have hres2 := hide (show Gz.head bs = .inl 3 from by rw [hres.out]; exact if_neg (fun h => hx32 h.2.2))
          rw [decide_eq_false hx32, Bool.not_false] at hfl
          clear hx8
          replace hx32 := hide hx32
          go_wp2_with (go_at_call 41; (with_reducible refine (his.out).mono ?_); rintro e w' ⟨rfl, rfl⟩)
          refine bodyPost_ret (results_none rfl _ _ _) rfl ?_
          exact ⟨⟨_, rfl⟩, by rw [hres2.out]; exact ⟨hBg, by decide, by decide, 10, h10, h3.out.2.2.set 2 _⟩, b3.out.setCell _⟩
      · have hres2 := hide (show Gz.head bs = .inl 3 from by rw [hres.out]; exact if_neg (fun h => hy h.2.1))
        have hyI : ((y2 : Int) != 8) = true := by simp; omega
        clear hx8 hfl
        go_wp2_with (go_at_call 41; (with_reducible refine (his.out).mono ?_); rintro e w' ⟨rfl, rfl⟩)
        refine bodyPost_ret (results_none rfl _ _ _) rfl ?_
        exact ⟨⟨_, rfl⟩, by rw [hres2.out]; exact ⟨hBg, by decide, by decide, 10, h10, h3.out.2.2.set 2 _⟩, b3.out.setCell _⟩
  · have hs := hide (show Calls Try.prog 86 #[.pointer (some ⟨g, 0, none⟩), .int .i64 10] W _ from skip_short B g A n c 0 10 W h hn (by omega) (by decide))
    have hres := hide (Gz.head_short bs (by omega))
    go_enter Try.func64, Try.ntmps64
    go_wp2_with fail
    refine (hs.out).mono ?_
    rintro e w1 ⟨rfl, h1, b1⟩
    obtain ⟨q, hq, kq⟩ := show ∃ p, p ≤ n ∧ Blk w1 g 93 #[.slice A n c, .int .i64 (p : Nat), .int .i64 (2 : Nat)] from h1.2.2.2
    have hsz := kq.lt
    obtain ⟨gh, hgh⟩ : ∃ k, w1.heap.size = k := ⟨_, rfl⟩
    obtain ⟨w2, hw2⟩ : ∃ w2, w1.alloc (.cells #[.slice none 0 0] 22) = w2 := ⟨_, rfl⟩
    obtain ⟨w3, hw3⟩ : ∃ w3, w2.setCell ⟨gh, 0, none⟩ (.slice none 0 0) = w3 := ⟨_, rfl⟩
    have k2 : Blk w2 gh 22 #[.slice none 0 0] := by rw [← hw2, ← hgh]; exact Blk.new w1 _ _
    have be : Below w1.heap.size w1 w3 := by rw [← hw3, ← hw2]; exact ((Below.refl _ w1).alloc (Nat.le_refl _) _).setCell (by simp; omega) _
    have h3 := hide (h1.below be)
    have b3 := hide (b1.trans (KG.of_below be))
    have x2 := k2.cell 0
    have f2 := k2.free 0
    have d2 := (kq.below be hsz).cell 2
    simp only [List.getElem?_toArray, List.getElem?_cons_succ, List.getElem?_cons_zero] at x2 d2
    clear be h1 b1 kq hs
    go_wp2
    refine bodyPost_ret (results_none rfl _ _ _) rfl ?_
    exact ⟨⟨_, rfl⟩, by rw [hres.out]; exact h3.out, b3.out⟩

end Go.Proofs.Ythplpoijkebjbaa

namespace Go.Proofs.Ythplpoijkebjbaa
open Go.RowKit Go.Shelf
set_option linter.unusedVariables false
set_option linter.unusedSimpArgs false

set_option maxHeartbeats 1000000 in
theorem low4_any (A : Option Addr) (n c v B : Nat) (xs : List UInt8) (W : World) (ho : Ow W B 5 A n c (xs.map bv)) (hB : B ≤ W.heap.size) (hn : n ≤ 1000000000) (hv : v ≤ 4294967295) :
    Calls Try.prog 61 #[.slice A n c, .int .u32 (v : Nat)] W fun e w' => ∃ A' c', e = .returned (.slice A' (n + 4) c') ∧ Ow w' B 5 A' (n + 4) c' ((xs ++ Gz.le v).map bv) ∧ Chg (fun k => blk A = some k) W w' := by
  have hle := hide (show (Gz.le v).map bv = [.int .u8 ((v : Int) % 256), .int .u8 ((v : Int) / 256 % 256), .int .u8 ((v : Int) / 65536 % 256), .int .u8 ((v : Int) / 16777216)] from by
    simp only [Gz.le, List.map_cons, List.map_nil, bv, UInt8.toNat_ofNat']
    simp
    omega)
  go_enter Try.func61, Try.ntmps61
  go_wp2_with (at_builtin; refine wpList_append_rd (W.alloc (.cells #[.int .u8 ((v : Int) % 256), .int .u8 ((v : Int) / 256 % 256), .int .u8 ((v : Int) / 65536 % 256), .int .u8 ((v : Int) / 16777216)] 5)) rfl (.tmp 5) (.tmp 17) rfl elem_byte (m := 4) rfl (ho.alloc _) rfl (Rd.new W _ _ _) (by intro u hu; simp at hu; rcases hu with rfl | rfl | rfl | rfl <;> rfl) (by simp only [maxLen]; omega) (by omega) (by simp; omega) ?_; intro A3 c3 w3 ho3 hg3 _; have ho3 := hide ho3; have hg3 := hide hg3)
  go_ret
  exact ⟨_, _, rfl, by rw [hle.out]; exact ho3.out, Chg.trans ((Chg.refl _ W).alloc _) hg3.out (fun _ _ h => h)⟩

set_option maxHeartbeats 1000000 in
theorem equal_any (A A2 : Option Addr) (n c n2 c2 B B2 : Nat) (xs ys : List UInt8) (W : World) (hr : Rd W B A n (xs.map bv)) (hr2 : Rd W B2 A2 n2 (ys.map bv)) :
    Calls Try.prog 91 #[.slice A n c, .slice A2 n2 c2] W fun e w' => e = .returned (.bool (xs == ys)) ∧ W = w' := by
  have k1 := str_of_rd hr c
  have k2 := str_of_rd hr2 c2
  go_enter Try.func91, Try.ntmps91
  go_wp2
  go_ret
  exact ⟨rfl, rfl⟩

end Go.Proofs.Ythplpoijkebjbaa
