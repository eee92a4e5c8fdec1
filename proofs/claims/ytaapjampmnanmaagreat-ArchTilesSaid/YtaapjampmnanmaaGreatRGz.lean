/- Layer 6 (gzip), the document's answer: zero and head, walked. The conditions: where the bytes lie, and how many they are. Layer 6 (gzip), the document's answer: Unwrap, walked. The conditions: where the bytes lie, and how many they are. -/
import Derived.Test.YtaapjampmnanmaaGreatGz
import Derived.Deep.DeepCutAuto
import Derived.Test.YtaapjampmnanmaaGreatRI2
namespace Go.Proofs.YtaapjampmnanmaaGreat
open Go.RowKit Go.Shelf
set_option linter.unusedVariables false
set_option linter.unusedSimpArgs false

def Gz.textI (s : Sum Nat Nat) : Int := match s with | .inl _ => -1 | .inr q => (q : Int)
theorem Gz.text_step (bs : List UInt8) (i : Nat) (h : i < bs.length) : Gz.text bs i = if Gz.byte bs i = 0 then .inr (i + 1) else Gz.text bs (i + 1) := by
  unfold Gz.text Gz.byte
  rw [List.drop_eq_getElem_cons h, List.findIdx?_cons, List.getD_eq_getElem?_getD, List.getElem?_eq_getElem h, Option.getD_some]
  by_cases hb : bs[i] = 0
  · rw [hb]
    rfl
  · rw [if_neg (by simpa using hb), if_neg (show ¬ bs[i].toNat = 0 from fun h => hb (UInt8.toNat_inj.1 h))]
    cases (bs.drop (i + 1)).findIdx? (· == 0) with
    | none => rfl
    | some k =>
      show Sum.inr (i + (k + 1 + 1)) = Sum.inr (i + 1 + (k + 1))
      rw [show i + (k + 1 + 1) = i + 1 + (k + 1) from by omega]
theorem Gz.text_end (bs : List UInt8) (i : Nat) (h : bs.length ≤ i) : Gz.text bs i = .inl 2 := by
  unfold Gz.text
  rw [List.drop_of_length_le h]
  rfl
theorem Gz.text_le {bs : List UInt8} {i q : Nat} (h : Gz.text bs i = .inr q) : q ≤ bs.length := by
  unfold Gz.text at h
  split at h
  · cases h
  · rename_i k hf
    cases h
    have h1 := (List.findIdx?_eq_some_iff_getElem.1 hf).1
    rw [List.length_drop] at h1
    omega
theorem Gz.text_err {bs : List UInt8} {i e : Nat} (h : Gz.text bs i = .inl e) : e = 2 := by
  unfold Gz.text at h
  split at h
  · cases h; rfl
  · cases h
theorem Rd.gzb {W : World} {B n : Nat} {A : Option Addr} {bs : List UInt8} (h : Rd W B A n (bs.map bv)) {i : Nat} (hi : i < n) : ∃ b o, A = some ⟨b, o, none⟩ ∧ b < B ∧ W.cell? ⟨b, o + i, none⟩ = some (.int .u8 (Gz.byte bs i : Nat)) := by
  obtain ⟨b, o, hA, hb, e⟩ := h.byte (j := i) hi
  refine ⟨b, o, hA, hb, ?_⟩
  rw [e]
  unfold Gz.byte
  rw [List.getD_eq_getElem?_getD, List.getElem?_eq_getElem (by have := h.len; omega)]
  rfl

set_option maxRecDepth 100000 in
set_option maxHeartbeats 1000000 in
theorem rzero_any (A : Option Addr) (n c p B : Nat) (bs : List UInt8) (w : World) (hr : Rd w B A n (bs.map bv)) (hn : n ≤ 1048576) (hp : p ≤ n) :
    Calls Tryz.prog 117 #[.slice A n c, .int .i64 (p : Nat)] w fun e w' => e = .returned (.int .i64 (Gz.textI (Gz.text bs p))) ∧ w = w' := by
  have hl := hide (show bs.length = n from hr.len)
  obtain ⟨T, hT⟩ : ∃ T, Gz.text bs p = T := ⟨_, rfl⟩
  rw [hT]
  replace hT := hide hT
  replace hr := hide hr
  go_enter Tryz.func117, Tryz.ntmps117
  go_wp2
  go_loopw [5] (fun s5 wr => ∃ i : Nat, i ≤ n ∧ s5 = .int .i64 (i : Int) ∧ Hid (Gz.text bs i = T) ∧ w = wr) (fun s5 _ => n - (intOf s5).toNat)
  case atStart => exact ⟨p, hp, rfl, hT, rfl⟩
  case round =>
    clear hT
    obtain ⟨i, hi, rfl, hT, rfl⟩ := hrel
    by_cases hlt : i < n
    · obtain ⟨b, o, rfl, hb, hc⟩ := hr.out.gzb hlt
      have hs := hide (Gz.text_step bs i (by rw [hl.out]; exact hlt))
      have hx := Gz.byte_lt bs i
      have hii : IntKind.i64.wrap ((i : Int) + 1) = (i : Int) + 1 := by rw [IntKind.wrap_i64]; omega
      have hltI : (i : Int) < (n : Int) := by omega
      have hi0 : (0 : Int) ≤ (i : Int) := by omega
      by_cases h0 : Gz.byte bs i = 0
      · have hz : ((Gz.byte bs i : Int) == 0) = true := by simp; omega
        have hRe := hide (show T = .inr (i + 1) from by rw [← hT.out, hs.out, if_pos h0])
        replace h0 := hide h0
        clear hx
        generalize Gz.byte bs i = x at *
        go_wp2
        go_ret
        exact ⟨by rw [hRe.out]; simp [Gz.textI], rfl⟩
      · have hz : ((Gz.byte bs i : Int) == 0) = false := by simp; omega
        have hRe := hide (show Gz.text bs (i + 1) = T from by rw [← hT.out, hs.out, if_neg h0])
        replace h0 := hide h0
        clear hx
        generalize Gz.byte bs i = x at *
        go_wp2
        go_roundw
        case rel => exact ⟨i + 1, by omega, by go_num, hRe, by trivial⟩
        case measure => simp [intOf] <;> omega
    · obtain rfl : i = n := by omega
      have hRe := hide (show T = .inl 2 from by rw [← hT.out]; exact Gz.text_end bs i (by rw [hl.out]; exact Nat.le_refl _))
      go_wp2
      go_ret
      exact ⟨by rw [hRe.out]; rfl, rfl⟩


theorem flag4I : ∀ f : Nat, f < 32 → ((f : Int) / 4 % 2 == 1) = Nat.testBit f 2 := by decide +kernel
theorem flag8I : ∀ f : Nat, f < 32 → ((f : Int) / 8 % 2 == 1) = Nat.testBit f 3 := by decide +kernel
theorem flag16I : ∀ f : Nat, f < 32 → ((f : Int) / 16 % 2 == 1) = Nat.testBit f 4 := by decide +kernel
theorem flag2I : ∀ f : Nat, f < 32 → ((f : Int) / 2 % 2 == 1) = Nat.testBit f 1 := by decide +kernel
theorem Gz.two (bs : List UInt8) (q v : Nat) (h : q + 2 ≤ bs.length) : (Gz.leN 2 v = (bs.drop q).take 2) ↔ Gz.byte bs q + 256 * Gz.byte bs (q + 1) = v % 65536 := by
  have h1 : (bs.drop q).take 2 = [bs[q]'(by omega), bs[q + 1]'(by omega)] := by
    rw [List.drop_eq_getElem_cons (by omega), List.take_succ_cons, List.drop_eq_getElem_cons (by omega), List.take_succ_cons, List.take_zero]
  have e0 : Gz.byte bs q = (bs[q]'(by omega)).toNat := by unfold Gz.byte; rw [List.getD_eq_getElem?_getD, List.getElem?_eq_getElem (by omega)]; rfl
  have e1 : Gz.byte bs (q + 1) = (bs[q + 1]'(by omega)).toNat := by unfold Gz.byte; rw [List.getD_eq_getElem?_getD, List.getElem?_eq_getElem (by omega)]; rfl
  rw [h1, e0, e1]
  have l0 := (bs[q]'(by omega)).toNat_lt
  have l1 := (bs[q + 1]'(by omega)).toNat_lt
  simp only [Gz.leN, List.cons.injEq, and_true, ← UInt8.toNat_inj, UInt8.toNat_ofNat']
  omega
theorem Gz.part_err (c : Bool) (f : Nat → Sum Nat Nat) (e : Nat) : Gz.part c f (.inl e) = .inl e := by cases c <;> rfl
/-- What the document's head leaves. -/
def RHead (w : World) (n : Nat) (r : Sum Nat Nat) (x : Ending) (w' : World) : Prop :=
  Below w.heap.size w w' ∧ ((∃ er, r = .inl er ∧ 1 ≤ er ∧ x = .returned (.tuple #[.int .i64 0, .int .i64 (er : Int)])) ∨ (∃ q, r = .inr q ∧ 10 ≤ n ∧ q ≤ n ∧ x = .returned (.tuple #[.int .i64 (q : Int), .int .i64 0])))
/-- A place on the way through a head: found, or too short. -/
def RAt (n : Nat) (s : Sum Nat Nat) (v : Value) : Prop := (s = .inl 2 ∧ v = .int .i64 (-1)) ∨ ∃ q : Nat, s = .inr q ∧ q ≤ n ∧ v = .int .i64 (q : Int)
theorem RAt.text {n p : Nat} {bs : List UInt8} (hl : bs.length = n) : RAt n (Gz.text bs p) (.int .i64 (Gz.textI (Gz.text bs p))) := by
  cases h : Gz.text bs p with
  | inl e => exact .inl ⟨by rw [Gz.text_err h], rfl⟩
  | inr q => exact .inr ⟨q, rfl, by have := Gz.text_le h; omega, rfl⟩
theorem RHead.bad {w W : World} {n : Nat} {r : Sum Nat Nat} (er : Nat) (h : r = .inl er) (h1 : 1 ≤ er) {E : Int} (hE : (er : Int) = E) (hb : Below w.heap.size w W) : RHead w n r (.returned (.tuple #[.int .i64 0, .int .i64 E])) W := ⟨hb, .inl ⟨er, h, h1, by rw [hE]⟩⟩

set_option maxRecDepth 100000 in
set_option maxHeartbeats 8000000 in
theorem rhead_any (A : Option Addr) (n c : Nat) (bs : List UInt8) (w : World) (hr : Rd w w.heap.size A n (bs.map bv)) (hc : n ≤ c) (hn : n ≤ 1048576) :
    Calls Tryz.prog 91 #[.slice A n c] w (RHead w n (Gz.head bs)) := by
  have hl : bs.length = n := hr.len
  obtain ⟨R, hR⟩ : ∃ R, Gz.head bs = R := ⟨_, rfl⟩
  by_cases h10 : n < 10
  · rw [Gz.head_short bs (by omega)]
    have hI : (n : Int) < 10 := by omega
    clear hR hr
    go_enter Tryz.func91, Tryz.ntmps91
    go_wp2
    go_ret2
    exact RHead.bad 2 rfl (by decide) rfl (Below.refl _ _)
  · have hI : (10 : Int) ≤ (n : Int) := by omega
    rw [Gz.head_long bs (by omega)] at hR ⊢
    obtain ⟨b, o, rfl, hb, e0⟩ := hr.gzb (i := 0) (by omega)
    have e1 := hr.gzb (i := 1) (by omega)
    have e2 := hr.gzb (i := 2) (by omega)
    have e3 := hr.gzb (i := 3) (by omega)
    obtain ⟨_, _, hA, _, e1⟩ := e1
    cases hA
    obtain ⟨_, _, hA, _, e2⟩ := e2
    cases hA
    obtain ⟨_, _, hA, _, e3⟩ := e3
    cases hA
    have l0 := Gz.byte_lt bs 0
    have l1 := Gz.byte_lt bs 1
    have l2 := Gz.byte_lt bs 2
    have l3 := Gz.byte_lt bs 3
    rw [hR]
    rw [Nat.add_zero] at e0
    generalize Gz.byte bs 0 = x0 at *
    generalize Gz.byte bs 1 = x1 at *
    generalize Gz.byte bs 2 = x2 at *
    generalize Gz.byte bs 3 = x3 at *
    have hr0 := hr
    replace hr := hide hr
    rcases (show x0 ≠ 31 ∨ (x0 = 31 ∧ x1 ≠ 139) ∨ (x0 = 31 ∧ x1 = 139 ∧ x2 ≠ 8) ∨ (x0 = 31 ∧ x1 = 139 ∧ x2 = 8 ∧ 32 ≤ x3) ∨ (x0 = 31 ∧ x1 = 139 ∧ x2 = 8 ∧ x3 < 32) by omega) with q | ⟨rfl, q⟩ | ⟨rfl, rfl, q⟩ | ⟨rfl, rfl, rfl, q⟩ | ⟨rfl, rfl, rfl, q⟩
    · have hRe := hide (show R = .inl 3 from by rw [← hR, if_neg (by omega)])
      have q1 : ((x0 : Int) != 31) = true := by simp; omega
      have q2 : ((x0 : Int) == 31) = false := by simp; omega
      have q3 : ¬ (x0 : Int) = 31 := by omega
      replace hR := hide hR
      replace q := hide q
      clear hr0
      go_enter Tryz.func91, Tryz.ntmps91
      go_wp2
      go_ret2
      exact RHead.bad 3 hRe.out (by decide) rfl (Below.refl _ _)
    · have hRe := hide (show R = .inl 3 from by rw [← hR, if_neg (by omega)])
      have q1 : ((x1 : Int) != 139) = true := by simp; omega
      have q2 : ((x1 : Int) == 139) = false := by simp; omega
      have q3 : ¬ (x1 : Int) = 139 := by omega
      replace hR := hide hR
      replace q := hide q
      clear hr0
      go_enter Tryz.func91, Tryz.ntmps91
      go_wp2
      go_ret2
      exact RHead.bad 3 hRe.out (by decide) rfl (Below.refl _ _)
    · have hRe := hide (show R = .inl 3 from by rw [← hR, if_neg (by omega)])
      have q1 : ((x2 : Int) != 8) = true := by simp; omega
      have q2 : ((x2 : Int) == 8) = false := by simp; omega
      have q3 : ¬ (x2 : Int) = 8 := by omega
      replace hR := hide hR
      replace q := hide q
      clear hr0
      go_enter Tryz.func91, Tryz.ntmps91
      go_wp2
      go_ret2
      exact RHead.bad 3 hRe.out (by decide) rfl (Below.refl _ _)
    · have hRe := hide (show R = .inl 3 from by rw [← hR, if_neg (by omega)])
      have q1 : (32 : Int) ≤ (x3 : Int) := by omega
      replace hR := hide hR
      replace q := hide q
      clear hr0
      go_enter Tryz.func91, Tryz.ntmps91
      go_wp2
      go_ret2
      exact RHead.bad 3 hRe.out (by decide) rfl (Below.refl _ _)
    have q3 : ¬ (32 : Int) ≤ (x3 : Int) := by omega
    rw [if_pos ⟨⟨rfl, rfl⟩, rfl, q⟩] at hR
    have f1 := flag2I x3 q
    have f2 := flag4I x3 q
    have f3 := flag8I x3 q
    have f4 := flag16I x3 q
    unfold Gz.parts at hR
    generalize Nat.testBit x3 1 = t1 at *
    generalize Nat.testBit x3 2 = t2 at *
    generalize Nat.testBit x3 3 = t3 at *
    generalize Nat.testBit x3 4 = t4 at *
    have g1 := hide f1
    have g2 := hide f2
    have g3 := hide f3
    have g4 := hide f4
    clear f1 f2 f3 f4
    obtain ⟨S1, hS1⟩ : ∃ S, Gz.part t2 (Gz.extra bs) (.inr 10) = S := ⟨_, rfl⟩
    obtain ⟨S2, hS2⟩ : ∃ S, Gz.part t3 (Gz.text bs) S1 = S := ⟨_, rfl⟩
    obtain ⟨S3, hS3⟩ : ∃ S, Gz.part t4 (Gz.text bs) S2 = S := ⟨_, rfl⟩
    rw [hS1, hS2, hS3] at hR
    replace hR := hide hR
    replace hS2 := hide hS2
    replace hS3 := hide hS3
    have hwx : IntKind.i64.wrap (x3 : Int) = (x3 : Int) := by rw [IntKind.wrap_i64]; omega
    have htd : ∀ k : Nat, (x3 : Int).tdiv (k : Int) = (x3 : Int) / (k : Int) := fun k => Int.tdiv_eq_ediv_of_nonneg (by omega)
    have ht4 := htd 4
    have ht8 := htd 8
    have ht16 := htd 16
    have ht2 := htd 2
    clear htd
    go_enter Tryz.func91, Tryz.ntmps91
    clear hr0
    go_upto_if 39 with (fail)
    have hb1 := hide (show ∀ e, S1 = .inl e → R = .inl e from fun e h => by rw [← hR.out, ← hS3.out, ← hS2.out, h, Gz.part_err, Gz.part_err, Gz.part_err])
    have hb2 := hide (show ∀ e, S2 = .inl e → R = .inl e from fun e h => by rw [← hR.out, ← hS3.out, h, Gz.part_err, Gz.part_err])
    have hb3 := hide (show ∀ e, S3 = .inl e → R = .inl e from fun e h => by rw [← hR.out, h, Gz.part_err])
    go_cut [5] (fun s5 wx => ∃ q m : Nat, Hid (S1 = .inr q) ∧ q ≤ n ∧ s5 = .int .i64 (q : Int) ∧ wx = w.drewN m)
    case first =>
      cases t2 with
      | false =>
        have g2o := g2.out
        go_wp2
        go_meet
        exact ⟨10, 0, hide hS1.symm, by omega, rfl, rfl⟩
      | true =>
        have g2o := g2.out
        have hS1 : Gz.extra bs 10 = S1 := hS1
        unfold Gz.extra Gz.skip at hS1
        rw [hl] at hS1
        by_cases h12 : n < 12
        · have hI2 : (n : Int) < 12 := by omega
          rw [if_neg (by omega)] at hS1
          have hRe := hide (hb1.out 2 hS1.symm)
          replace hS1 := hide hS1
          go_wp2
          go_ret2
          exact RHead.bad 2 hRe.out (by decide) rfl (Below.refl _ _)
        · have hI2 : ¬ (n : Int) < 12 := by omega
          rw [if_pos (by omega)] at hS1
          have hS1 : (if 10 + 2 + (Gz.byte bs 10 + 256 * Gz.byte bs (10 + 1)) ≤ n then Sum.inr (10 + 2 + (Gz.byte bs 10 + 256 * Gz.byte bs (10 + 1))) else Sum.inl 2) = S1 := hS1
          have d0 := hr.out.gzb (i := 10) (by omega)
          have d1 := hr.out.gzb (i := 11) (by omega)
          obtain ⟨_, _, hA, _, d0⟩ := d0
          cases hA
          obtain ⟨_, _, hA, _, d1⟩ := d1
          cases hA
          have l0 := Gz.byte_lt bs 10
          have l1 := Gz.byte_lt bs 11
          rw [show 10 + 1 = 11 from rfl, show 10 + 2 = 12 from rfl] at hS1
          generalize Gz.byte bs 10 = y0 at *
          generalize Gz.byte bs 11 = y1 at *
          have v0 : IntKind.i64.wrap (y0 : Int) = (y0 : Int) := by rw [IntKind.wrap_i64]; omega
          have v1 : IntKind.i64.wrap (y1 : Int) = (y1 : Int) := by rw [IntKind.wrap_i64]; omega
          have v2 : IntKind.i64.wrap (256 * (y1 : Int)) = 256 * (y1 : Int) := by rw [IntKind.wrap_i64]; omega
          obtain ⟨L, hL⟩ : ∃ L, y0 + 256 * y1 = L := ⟨_, rfl⟩
          have hLb : L ≤ 65535 := by omega
          have v3 : (y0 : Int) + 256 * (y1 : Int) = (L : Int) := by omega
          have v4 : IntKind.i64.wrap (L : Int) = (L : Int) := by rw [IntKind.wrap_i64]; omega
          have v5 : IntKind.i64.wrap (12 + (L : Int)) = 12 + (L : Int) := by rw [IntKind.wrap_i64]; omega
          have hi10 : (10 : Int) < (n : Int) := by omega
          have hi11 : (11 : Int) < (n : Int) := by omega
          rw [hL] at hS1
          replace hL := hide hL
          go_upto_region 10 with fail
          go_quiet (fail)
          by_cases hbig : 12 + L ≤ n
          · rw [if_pos hbig] at hS1
            have hbI : ¬ (n : Int) < 12 + (L : Int) := by omega
            replace hS1 := hide hS1
            go_wp2
            go_meet
            exact ⟨12 + L, nq, hide hS1.out.symm, hbig, by push_cast; rfl, rfl⟩
          · rw [if_neg hbig] at hS1
            have hbI : (n : Int) < 12 + (L : Int) := by omega
            have hRe := hide (hb1.out 2 hS1.symm)
            replace hS1 := hide hS1
            go_wp2
            go_ret2
            exact RHead.bad 2 hRe.out (by decide) rfl (below_drewN (Below.refl _ _) _)
    case rest =>
      obtain ⟨q1, m, hq, hq1, rfl, rfl⟩ := hcut
      have b1 := hide (below_drewN (Below.refl w.heap.size w) m)
      have r1 := hide (hr.out.below b1.out)
      obtain ⟨w1, hw1⟩ : ∃ W, w.drewN m = W := ⟨_, rfl⟩
      rw [hw1] at b1 r1 ⊢
      have hz1 := hide (rzero_any _ n c q1 w.heap.size bs w1 r1.out hn hq1)
      have hz2 := hide (fun q (h : q ≤ n) => rzero_any _ n c q w.heap.size bs w1 r1.out hn h)
      clear hr hw1 e0 e1 e2 e3
      replace hS1 := hide hS1
      have hSt := hide (show Gz.part t3 (Gz.text bs) (.inr q1) = S2 from by rw [← hS2.out, hq.out])
      go_upto_if 72 with (fail)
      go_cut [5] (fun s5 wx => Hid (RAt n S2 s5) ∧ w1 = wx)
      case first =>
        cases t3 with
        | false =>
          have g3o := g3.out
          go_wp2
          go_meet
          exact ⟨hide (.inr ⟨q1, hSt.out.symm, hq1, rfl⟩), rfl⟩
        | true =>
          have g3o := g3.out
          obtain ⟨V, hV⟩ : ∃ V, Gz.textI (Gz.text bs q1) = V := ⟨_, rfl⟩
          rw [hV] at hz1
          replace hV := hide hV
          go_wp2_with (go_at_call 117; (with_reducible refine (hz1.out).mono ?_); rintro e w' ⟨rfl, rfl⟩)
          go_meet
          exact ⟨hide (by rw [← hSt.out, ← hV.out]; exact RAt.text hl), rfl⟩
      case rest =>
        obtain ⟨hat, rfl⟩ := hcut
        clear hz1 hSt hq
        rcases hat.out with ⟨hs2, rfl⟩ | ⟨q2, hs2, hq2, rfl⟩
        · have hRe := hide (hb2.out 2 hs2)
          clear hat hs2
          cases t4
          all_goals (
            have g4o := g4.out
            go_wp2
            go_ret2
            exact RHead.bad 2 hRe.out (by decide) rfl b1.out)
        · have hs2 := hide hs2
          clear hat
          have hz2 := hide (hz2.out q2 hq2)
          have hSt := hide (show Gz.part t4 (Gz.text bs) (.inr q2) = S3 from by rw [← hS3.out, hs2.out])
          have hq0 : (0 : Int) ≤ (q2 : Int) := by omega
          go_upto_region 17 with fail
          go_cut [83] (fun s83 wx => s83 = .bool t4 ∧ w1 = wx)
          case first =>
            cases t4
            all_goals (
              have g4o := g4.out
              go_wp2
              go_meet
              exact ⟨rfl, rfl⟩)
          case rest =>
            obtain ⟨rfl, rfl⟩ := hcut
            go_upto_if 83 with (fail)
            go_cut [5] (fun s5 wx => Hid (RAt n S3 s5) ∧ w1 = wx)
            case first =>
              cases t4 with
              | false =>
                go_wp2
                go_meet
                exact ⟨hide (.inr ⟨q2, hSt.out.symm, hq2, rfl⟩), rfl⟩
              | true =>
                obtain ⟨V, hV⟩ : ∃ V, Gz.textI (Gz.text bs q2) = V := ⟨_, rfl⟩
                rw [hV] at hz2
                replace hV := hide hV
                go_wp2_with (go_at_call 117; (with_reducible refine (hz2.out).mono ?_); rintro e w' ⟨rfl, rfl⟩)
                go_meet
                exact ⟨hide (by rw [← hSt.out, ← hV.out]; exact RAt.text hl), rfl⟩
            case rest =>
              obtain ⟨hat, rfl⟩ := hcut
              clear hz2 hSt hq0
              rcases hat.out with ⟨hs3, rfl⟩ | ⟨q4, hs3, hq4, rfl⟩
              · have hRe := hide (hb3.out 2 hs3)
                clear hat hs3
                go_wp2
                go_ret2
                exact RHead.bad 2 hRe.out (by decide) rfl b1.out
              · have hSt := hide (show Gz.part t1 (Gz.sum bs) (.inr q4) = R from by rw [← hR.out, hs3])
                clear hat hs3
                have hq0 : ¬ (q4 : Int) < 0 := by omega
                cases t1 with
                | false =>
                  have g1o := g1.out
                  go_wp2
                  go_ret2
                  exact ⟨b1.out, .inr ⟨q4, hSt.out.symm, by omega, hq4, rfl⟩⟩
                | true =>
                  have g1o := g1.out
                  have hq9 : IntKind.i64.wrap ((q4 : Int) + 2) = (q4 : Int) + 2 := by rw [IntKind.wrap_i64]; omega
                  have hSu : Gz.bind (Gz.skip bs 2 q4) (fun q => if Gz.byte bs q4 + 256 * Gz.byte bs (q4 + 1) = Crc.sum (bs.take q4) % 65536 then .inr q else .inl 4) = R := hSt.out
                  unfold Gz.skip at hSu
                  rw [hl] at hSu
                  by_cases hsh : n < q4 + 2
                  · have hshI : (n : Int) < (q4 : Int) + 2 := by omega
                    rw [if_neg (by omega)] at hSu
                    have hRe := hide (show R = .inl 2 from hSu.symm)
                    clear hSu
                    go_wp2
                    go_ret2
                    exact RHead.bad 2 hRe.out (by decide) rfl b1.out
                  · have hshI : ¬ (n : Int) < (q4 : Int) + 2 := by omega
                    rw [if_pos (by omega)] at hSu
                    have hSu : (if Gz.byte bs q4 + 256 * Gz.byte bs (q4 + 1) = Crc.sum (bs.take q4) % 65536 then Sum.inr (q4 + 2) else Sum.inl 4) = R := hSu

                    have hqc : (q4 : Int) ≤ (c : Int) := by omega
                    have hq2c : (q4 : Int) + 2 ≤ (c : Int) := by omega
                    have hqp : (0 : Int) ≤ (q4 : Int) := by omega
                    have hqq : (q4 : Int) ≤ (q4 : Int) + 2 := by omega
                    obtain ⟨Sm, hSm⟩ : ∃ S, Crc.sum (bs.take q4) = S := ⟨_, rfl⟩
                    have hSl := Crc.sum_lt (bs.take q4)
                    have htw := Gz.two bs q4 Sm (by omega)
                    rw [hSm] at hSu hSl
                    obtain ⟨TT, hTT⟩ : ∃ T, (bs.drop q4).take 2 = T := ⟨_, rfl⟩
                    obtain ⟨LL, hLL⟩ : ∃ T, Gz.leN 2 Sm = T := ⟨_, rfl⟩
                    rw [hTT, hLL] at htw
                    have rT := hide (show Rd w1 w.heap.size (some ⟨b, o + q4, none⟩) 2 (TT.map bv) from by
                      have h := r1.out.sub q4 2 (by omega)
                      rw [← List.map_drop, ← List.map_take, hTT] at h
                      simp only [Option.map_some, Addr.add_mid] at h
                      exact h)
                    have hof := hide (fun W (h : Grw w1 W) => show Calls Tryz.prog 94 #[.slice (some ⟨b, o, none⟩) q4 c] W (fun e w' => e = .returned (.int .u32 (Sm : Nat)) ∧ W = w') from by
                      rw [← hSm]
                      refine refof_any (some ⟨b, o, none⟩) q4 c (bs.take q4) W w.heap.size ?_ (by omega)
                      have h1 := r1.out.sub 0 q4 (by omega)
                      rw [← List.map_drop, ← List.map_take] at h1
                      exact (show Rd w1 w.heap.size (some ⟨b, o, none⟩) q4 ((bs.take q4).map bv) from h1).below (h.out.mono b1.out.size))
                    have hlo := hide (fun W => show Calls Tryz.prog 93 #[.int .u32 (Sm : Nat), .int .i64 2] W (fun e w' => ∃ A c, e = .returned (.slice A 2 c) ∧ Ow w' W.heap.size 5 A 2 c (LL.map bv) ∧ Below W.heap.size W w') from by
                      rw [← hLL]
                      exact rlow_any Sm 2 W (by omega) (by decide))
                    have hs0 := hide (show Grw w1 w1.drew from ⟨rfl, rfl, rfl, Nat.le_refl _, fun _ _ => rfl⟩)
                    replace hSm := hide hSm
                    replace hTT := hide hTT
                    replace hLL := hide hLL
                    obtain ⟨EQ, hEQ⟩ : ∃ b : Bool, (LL == TT) = b := ⟨_, rfl⟩
                    have hSu := hide (show (if EQ = true then Sum.inr (q4 + 2) else Sum.inl 4) = R from by
                      rw [← hSu, ← hEQ]
                      by_cases h : LL = TT
                      · rw [if_pos (htw.1 h), if_pos (by simpa using h)]
                      · rw [if_neg (fun h2 => h (htw.2 h2)), if_neg (by simpa using h)])
                    clear htw
                    have hNE : (LL != TT) = !EQ := by rw [← hEQ]; rfl
                    go_upto_region 24 with fail
                    refine wp_region_held_drew (S := Grw w1) (by kernel_rfl) hs0.out ?_
                    obtain ⟨wd, hwd⟩ : ∃ W, w1.drew = W := ⟨_, rfl⟩
                    rw [hwd] at hs0 ⊢
                    intro hS0
                    refine gtake (i := 0) (d := 98) (v := .slice (some ⟨b, o, none⟩) n c) rfl rfl (by kernel_rfl) (by kernel_rfl) (by kernel_rfl) (fun _ _ _ h => h) (.inl ⟨rfl, fun W _ => by go_simp⟩) (by assumption) ?_
                    simp only [Act.put, List.setIfInBounds_toArray, List.set_cons_zero, List.set_cons_succ]
                    refine gtake (i := 1) (d := 99) (v := .int .i64 (q4 : Int)) rfl rfl (by kernel_rfl) (by kernel_rfl) (by kernel_rfl) (fun _ _ _ h => h) (.inl ⟨rfl, fun W _ => by go_simp⟩) (by assumption) ?_
                    simp only [Act.put, List.setIfInBounds_toArray, List.set_cons_zero, List.set_cons_succ]
                    refine gtake (i := 2) (d := 100) (v := .slice (some ⟨b, o, none⟩) q4 c) rfl rfl (by kernel_rfl) (by kernel_rfl) (by kernel_rfl) (fun _ _ _ h => h) (.inl ⟨rfl, fun W _ => by go_simp⟩) (by assumption) ?_
                    simp only [Act.put, List.setIfInBounds_toArray, List.set_cons_zero, List.set_cons_succ]
                    refine gtake (i := 6) (d := 104) (v := .slice (some ⟨b, o, none⟩) n c) rfl rfl (by kernel_rfl) (by kernel_rfl) (by kernel_rfl) (fun _ _ _ h => h) (.inl ⟨rfl, fun W _ => by go_simp⟩) (by assumption) ?_
                    simp only [Act.put, List.setIfInBounds_toArray, List.set_cons_zero, List.set_cons_succ]
                    refine gtake (i := 7) (d := 105) (v := .int .i64 (q4 : Int)) rfl rfl (by kernel_rfl) (by kernel_rfl) (by kernel_rfl) (fun _ _ _ h => h) (.inl ⟨rfl, fun W _ => by go_simp⟩) (by assumption) ?_
                    simp only [Act.put, List.setIfInBounds_toArray, List.set_cons_zero, List.set_cons_succ]
                    refine gtake (i := 8) (d := 106) (v := .int .i64 (q4 : Int)) rfl rfl (by kernel_rfl) (by kernel_rfl) (by kernel_rfl) (fun _ _ _ h => h) (.inl ⟨rfl, fun W _ => by go_simp⟩) (by assumption) ?_
                    simp only [Act.put, List.setIfInBounds_toArray, List.set_cons_zero, List.set_cons_succ]
                    refine gtake (i := 9) (d := 107) (v := .int .i64 ((q4 : Int) + 2)) rfl rfl (by kernel_rfl) (by kernel_rfl) (by kernel_rfl) (fun _ _ _ h => h) (.inl ⟨rfl, fun W _ => by go_simp⟩) (by assumption) ?_
                    simp only [Act.put, List.setIfInBounds_toArray, List.set_cons_zero, List.set_cons_succ]
                    refine gtake (i := 10) (d := 108) (v := .slice (some ⟨b, o + q4, none⟩) 2 (c - q4)) rfl rfl (by kernel_rfl) (by kernel_rfl) (by kernel_rfl) (fun _ _ _ h => h) (.inl ⟨rfl, fun W _ => by go_simp; omega⟩) (by assumption) ?_
                    simp only [Act.put, List.setIfInBounds_toArray, List.set_cons_zero, List.set_cons_succ]
                    refine gtake (i := 11) (d := 109) (v := .string ⟨(TT).toArray⟩) rfl rfl (by kernel_rfl) (by kernel_rfl) (by kernel_rfl) (fun _ _ _ h => h) (gyields_str rfl (.tmp 108) rfl (some ⟨b, o + q4, none⟩) 2 (c - q4) w.heap.size (TT) rfl (fun W hW => rT.out.below (hW.out.mono b1.out.size))) (by assumption) ?_
                    simp only [Act.put, List.setIfInBounds_toArray, List.set_cons_zero, List.set_cons_succ]
                    refine wpAnyH_ready (rs := [3]) (by kernel_rfl) (by simp) ?_
                    refine AllReadyH.cons (o := ⟨some 101, _, _, _, _, _⟩) rfl (fun K hK => ?_) AllReadyH.nil
                    rw [if_pos (by rfl)]
                    go_simp
                    go_at_call 94
                    (with_reducible refine (hof.out _ (by assumption)).mono ?_)
                    rintro e w' ⟨rfl, rfl⟩
                    refine hK.out _ _ (by assumption) (fun hS => ?_)
                    clear hK
                    refine wpAnyH_ready (rs := [4]) (by kernel_rfl) (by simp) ?_
                    refine AllReadyH.cons (o := ⟨some 102, _, _, _, _, _⟩) rfl (fun K hK => ?_) AllReadyH.nil
                    rw [if_pos (by rfl)]
                    go_simp
                    go_at_call 93
                    (with_reducible refine (hlo.out _).mono ?_)
                    rintro e w8 ⟨A8, c8, rfl, o8, hb8⟩
                    have hsw8 : Grw w1 w8 := (hS).out.trans (hb8.mono (hS).out.size)
                    clear hb8
                    have r8 := hide o8.rd
                    clear o8
                    refine hK.out _ _ hsw8 (fun _ => ?_)
                    clear hK
                    refine gAnyH_strong (S' := Grw w8) (fun W hW => Below.trans hsw8 (hW.out.mono hsw8.out.size)) _ _ _ _ ?_
                    have h0w8 : Grw w8 w8 := Below.refl _ _
                    have g8 := hide (fun W (h : Grw w8 W) => hsw8.out.trans (h.out.mono hsw8.out.size))
                    refine gtake (i := 5) (d := 103) (v := .string ⟨(LL).toArray⟩) rfl rfl (by kernel_rfl) (by kernel_rfl) (by kernel_rfl) (fun _ _ _ h => h) (gyields_str rfl (.tmp 102) rfl A8 2 c8 w8.heap.size (LL) rfl (fun W hW => r8.out.below hW.out)) (by assumption) ?_
                    simp only [Act.put, List.setIfInBounds_toArray, List.set_cons_zero, List.set_cons_succ]
                    refine gtake (i := 12) (d := 110) (v := .bool (!EQ)) rfl rfl (by kernel_rfl) (by kernel_rfl) (by kernel_rfl) (fun _ _ _ h => h) (.inl ⟨rfl, fun W _ => by go_simp⟩) (by assumption) ?_
                    simp only [Act.put, List.setIfInBounds_toArray, List.set_cons_zero, List.set_cons_succ]
                    refine wpAnyH_done (by kernel_rfl) ?_ _
                    have b8 := hide (b1.out.trans (hsw8.out.mono b1.out.size))
                    cases EQ with
                    | false =>
                      have hRe := hide (show R = .inl 4 from hSu.out.symm)
                      go_wp2
                      go_ret2
                      exact RHead.bad 4 hRe.out (by decide) rfl b8.out
                    | true =>
                      have hRe := hide (show R = .inr (q4 + 2) from hSu.out.symm)
                      go_wp2
                      go_ret2
                      exact ⟨b8.out, .inr ⟨q4 + 2, hRe.out, by omega, by omega, by push_cast; rfl⟩⟩
end Go.Proofs.YtaapjampmnanmaaGreat

namespace Go.Proofs.YtaapjampmnanmaaGreat
open Go.RowKit Go.Shelf
set_option linter.unusedVariables false
set_option linter.unusedSimpArgs false

theorem Gz.all_head {F most g e : Nat} {out bs : List UInt8} {R : Sum Nat (List UInt8)} (h : Gz.all F most (g + 1) out bs = R) (hh : Gz.head bs = .inl e) : R = .inl e := by
  rw [← h, Gz.all, Gz.member, hh]
  rfl
theorem Gz.all_data {F most g p e mt : Nat} {out bs : List UInt8} {R : Sum Nat (List UInt8)} (h : Gz.all F most (g + 1) out bs = R) (hm : most - out.length = mt) (hh : Gz.head bs = .inr p) (hd : Inf.data (Bit.bitsOf (bs.drop p)) mt F = .inl e) : R = .inl e := by
  rw [← h, Gz.all, Gz.member, hh, hm]
  show Gz.bind (Gz.body F mt bs p) _ = _
  rw [Gz.body, hd]
  rfl
theorem Gz.all_rest {F most g p u mt : Nat} {out bs o : List UInt8} {R : Sum Nat (List UInt8)} (h : Gz.all F most (g + 1) out bs = R) (hm : most - out.length = mt) (hh : Gz.head bs = .inr p) (hd : Inf.data (Bit.bitsOf (bs.drop p)) mt F = .inr (o, u)) :
    (bs.length < p + u + 8 → R = .inl 2) ∧ (p + u + 8 ≤ bs.length → ((bs.drop (p + u)).take 8 ≠ Gz.le (Crc.sum o) ++ Gz.le o.length → R = .inl 4) ∧
      ((bs.drop (p + u)).take 8 = Gz.le (Crc.sum o) ++ Gz.le o.length → (if bs.drop (p + u + 8) = [] then .inr (out ++ o) else Gz.all F most g (out ++ o) (bs.drop (p + u + 8))) = R)) := by
  rw [Gz.all, Gz.member, hh, hm] at h
  have h1 : Gz.bind (Gz.body F mt bs p) (fun (o, q) => if bs.drop q = [] then .inr (out ++ o) else Gz.all F most g (out ++ o) (bs.drop q)) = R := h
  rw [Gz.body, hd] at h1
  have h2 : Gz.bind (Gz.bind (Gz.skip bs 8 (p + u)) fun q => if (bs.drop (p + u)).take 8 = Gz.le (Crc.sum o) ++ Gz.le o.length then .inr (o, q) else .inl 4) (fun (o, q) => if bs.drop q = [] then .inr (out ++ o) else Gz.all F most g (out ++ o) (bs.drop q)) = R := h1
  unfold Gz.skip at h2
  refine ⟨fun hl => ?_, fun hl => ⟨fun hn => ?_, fun he => ?_⟩⟩
  · rw [if_neg (by omega)] at h2
    exact h2.symm
  · rw [if_pos hl] at h2
    have h3 : Gz.bind (if (bs.drop (p + u)).take 8 = Gz.le (Crc.sum o) ++ Gz.le o.length then .inr (o, p + u + 8) else .inl 4) (fun (o, q) => if bs.drop q = [] then .inr (out ++ o) else Gz.all F most g (out ++ o) (bs.drop q)) = R := h2
    rw [if_neg hn] at h3
    exact h3.symm
  · rw [if_pos hl] at h2
    have h3 : Gz.bind (if (bs.drop (p + u)).take 8 = Gz.le (Crc.sum o) ++ Gz.le o.length then .inr (o, p + u + 8) else .inl 4) (fun (o, q) => if bs.drop q = [] then .inr (out ++ o) else Gz.all F most g (out ++ o) (bs.drop q)) = R := h2
    rw [if_pos he] at h3
    exact h3
/-- A round of Unwrap: what is left, and what was found. -/
def RUn (w : World) (n most F gk : Nat) (R : Sum Nat (List UInt8)) (s0 s6 : Value) (wr : World) : Prop :=
  ∃ (A0 : Option Addr) (n0 c0 : Nat) (A6 : Option Addr) (n6 c6 : Nat) (bs0 out : List UInt8), s0 = .slice A0 n0 c0 ∧ s6 = .slice A6 n6 c6 ∧ Hid (n0 ≤ c0) ∧ Hid (n0 ≤ n) ∧ Hid (n0 < gk) ∧ Hid (out.length = n6) ∧ Hid (n6 ≤ most) ∧ Hid (Rd wr w.heap.size A0 n0 (bs0.map bv)) ∧ Hid (Ow wr w.heap.size 5 A6 n6 c6 (out.map bv)) ∧ Hid (Below w.heap.size w wr) ∧ Hid (Gz.all F most gk out bs0 = R)
theorem data_of (bs0 : List UInt8) (p n0 mt F : Nat) (W : World) (hp : p ≤ n0) (hl : bs0.length = n0) (hn : n0 ≤ 131072) (hm : mt ≤ 1048576) (hF : 8 * n0 < F) (A1 : Option Addr) (m c1 : Nat) (hr : Rd W W.heap.size A1 m ((bs0.drop p).map bv)) (hmm : m = n0 - p) :
    Calls Tryz.prog 92 #[.slice A1 m c1, .int .i64 (mt : Nat)] W (InfPost W (Inf.data (Bit.bitsOf (bs0.drop p)) mt F)) := by
  subst hmm
  exact ri_data A1 (n0 - p) c1 (bs0.drop p) mt F W hr (by omega) hm (by omega)

set_option maxRecDepth 100000 in
set_option maxHeartbeats 8000000 in
theorem runwrap_any (A : Option Addr) (n c most F f : Nat) (bs : List UInt8) (w : World) (hr : Rd w w.heap.size A n (bs.map bv)) (hc : n ≤ c) (hn : n ≤ 131072) (hm : most ≤ 1048576) (hF : 8 * n < F) (hf : n < f) :
    Calls Tryz.prog 72 #[.slice A n c, .int .i64 (most : Nat)] w (UnPost w (Gz.all F most f [] bs)) := by
  obtain ⟨R, hR⟩ : ∃ R, Gz.all F most f [] bs = R := ⟨_, rfl⟩
  rw [hR]
  replace hR := hide hR
  replace hr := hide hr
  have hmI : (most : Int) ≤ 1048576 := by omega
  have hm0 : (0 : Int) ≤ (most : Int) := by omega
  replace hF := hide hF
  replace hm := hide hm
  replace hf := hide hf
  replace hn := hide hn
  replace hc := hide hc
  go_enter Tryz.func72, Tryz.ntmps72
  go_upto_region 3 with fail
  clear hmI hm0
  go_wp2
  go_loopg [0, 6, 7, 8, 9, 10, 11] f (fun gk s0 s6 s7 s8 s9 s10 s11 wr => RUn w n most F gk R s0 s6 wr)
  case atStart => exact ⟨A, n, c, none, 0, 0, bs, [], rfl, rfl, hc, hide (Nat.le_refl _), hf, hide rfl, hide (Nat.zero_le _), hr, hide (Ow.nil _ _ _), hide (Below.refl _ _), hR⟩
  case round =>
    clear hR hr hc hf
    obtain ⟨A0, n0, c0, A6, n6, c6, bs0, out, rfl, rfl, hc, hn0, hg, ho, hom, hr, hw6, hb, hR⟩ := hrel
    obtain ⟨g, rfl⟩ : ∃ g, gk = g + 1 := ⟨gk - 1, by have := hg.out; omega⟩
    obtain ⟨mt, hmt⟩ : ∃ mt, most - n6 = mt := ⟨_, rfl⟩
    have hmt1 := hide (show most - out.length = mt from by rw [ho.out]; exact hmt)
    have hmI : (most : Int) - (n6 : Int) = (mt : Int) := by have := hom.out; omega
    have hmt2 := hide (show mt ≤ most from by omega)
    have hmw : IntKind.i64.wrap (mt : Int) = (mt : Int) := by rw [IntKind.wrap_i64]; have := hm.out; have := hmt2.out; omega
    have hlq := hide (show bs0.length = n0 from hr.out.len)
    have hbn := hide (show n0 ≤ 131072 from by have := hn0.out; have := hn.out; omega)
    have hsz := hide (show w.heap.size ≤ wr.heap.size from hb.out.size)
    have hhd := hide (rhead_any A0 n0 c0 bs0 wr (hr.out.mono hsz.out) hc.out (by have := hbn.out; omega))
    replace hmt := hide hmt
    go_upto_region 5 with (go_at_call 91; (with_reducible refine (hhd.out).mono ?_); rintro e w2 ⟨b2, hq2⟩; have b2 := hide b2; (rcases hq2 with ⟨er, hh, her, rfl⟩ | ⟨p, hh, h10, hp, rfl⟩))
    · have hRR := hide (Gz.all_head hR.out hh)
      have hez : ((er : Int) != 0) = true := by simp; omega
      replace hh := hide hh
      go_wp2
      go_ret2
      exact ⟨hb.out.trans (b2.out.mono hsz.out), .inl ⟨er, hRR.out, her, rfl⟩⟩
    · have r2 := hide (hr.out.below (b2.out.mono hsz.out))
      have o2 := hide (hw6.out.below b2.out)
      have b2 := hide (hb.out.trans (b2.out.mono hsz.out))
      have hs2 := hide (show w.heap.size ≤ w2.heap.size from b2.out.size)
      clear hr hw6 hb hhd
      have hh := hide hh
      have hpI : (p : Int) ≤ (n0 : Int) := by omega
      have hp0 : (0 : Int) ≤ (p : Int) := by omega
      have hpc : (n0 : Int) ≤ (c0 : Int) := by have := hc.out; omega
      obtain ⟨b, o, rfl, _, _⟩ := r2.out.gzb (i := 0) (by omega)
      obtain ⟨rd, hrd⟩ : ∃ r, Inf.data (Bit.bitsOf (bs0.drop p)) mt F = r := ⟨_, rfl⟩
      have hdt := hide (fun A1 m c1 (h : Rd w2 w2.heap.size A1 m ((bs0.drop p).map bv)) hmm => show Calls Tryz.prog 92 #[.slice A1 m c1, .int .i64 (mt : Nat)] w2 (InfPost w2 rd) from by
        rw [← hrd]
        exact data_of bs0 p n0 mt F w2 hp hlq.out hbn.out (by have := hm.out; have := hmt2.out; omega) (by have := hF.out; have := hn0.out; omega) A1 m c1 h hmm)
      have hrs := hide (show Rd w2 w2.heap.size (some ⟨b, o + p, none⟩) (n0 - p) ((bs0.drop p).map bv) from by
        have h := (r2.out.rest p hp).mono hs2.out
        simp only [Option.map_some, Addr.add_mid] at h
        exact h)
      replace hrd := hide hrd
      go_upto_region 7 with fail
      go_cut [9, 10, 11] (fun s9 s10 s11 wx => Hid (Below w2.heap.size w2 wx) ∧ ((∃ er : Nat, Hid (rd = .inl er) ∧ s11 = .int .i64 (er : Int)) ∨ ∃ (o3 : List UInt8) (m3 u : Nat) (A3 : Option Addr) (c3 : Nat), Hid (rd = .inr (o3, u)) ∧ Hid (o3.length = m3) ∧ s9 = .slice A3 m3 c3 ∧ s10 = .int .i64 (u : Int) ∧ s11 = .int .i64 0 ∧ Hid (Ow wx w2.heap.size 5 A3 m3 c3 (o3.map bv))))
      case first =>
        rcases (show c0 = p ∨ c0 ≠ p by omega) with rfl | hcp
        · have hn00 : n0 = c0 := by have := hc.out; omega
          have hrs2 := hide (show Rd w2 w2.heap.size (some ⟨b, o, none⟩) (n0 - c0) ((bs0.drop c0).map bv) from (r2.out.mono hs2.out).none8 c0 _ (by omega) (by omega))
          replace hn00 := hide hn00
          go_wp2_with (go_at_call 92; (with_reducible refine (hdt.out _ _ _ hrs2.out rfl).mono ?_); rintro e w3 ⟨b3, hq3⟩; have b3 := hide b3; (rcases hq3 with ⟨er, hd, rfl⟩ | ⟨o3, u, A3, c3, hd, rfl, ow3⟩))
          · go_meet
            exact ⟨b3, .inl ⟨er, hide hd, rfl⟩⟩
          · go_meet
            exact ⟨b3, .inr ⟨o3, _, u, A3, c3, hide hd, hide rfl, rfl, rfl, rfl, hide ow3⟩⟩
        · go_wp2_with (go_at_call 92; (with_reducible refine (hdt.out _ _ _ hrs.out rfl).mono ?_); rintro e w3 ⟨b3, hq3⟩; have b3 := hide b3; (rcases hq3 with ⟨er, hd, rfl⟩ | ⟨o3, u, A3, c3, hd, rfl, ow3⟩))
          · go_meet
            exact ⟨b3, .inl ⟨er, hide hd, rfl⟩⟩
          · go_meet
            exact ⟨b3, .inr ⟨o3, _, u, A3, c3, hide hd, hide rfl, rfl, rfl, rfl, hide ow3⟩⟩
      case rest =>
        obtain ⟨b3, hq3⟩ := hcut
        obtain ⟨w3, rfl⟩ : ∃ W, W = wc := ⟨_, rfl⟩
        have r3 := hide (r2.out.below (b3.out.mono hs2.out))
        have o6 := hide (o2.out.below b3.out)
        have b4 := hide (b2.out.trans (b3.out.mono hs2.out))
        have hs3 := hide (show w2.heap.size ≤ w3.heap.size from b3.out.size)
        clear hdt hrs r2 o2
        rcases hq3 with ⟨er, hd, rfl⟩ | ⟨o3, m3, u, A3, c3, hd, hm3, rfl, rfl, rfl, ow3⟩
        · have hdd := hrd.out.trans hd.out
          have her := Inf.data_nz hdd
          have hRR := hide (Gz.all_data hR.out hmt1.out hh.out hdd)
          have hez : ((er : Int) != 0) = true := by simp; omega
          replace hdd := hide hdd
          go_wp2
          go_ret2
          exact ⟨b4.out, .inl ⟨er, hRR.out, by omega, rfl⟩⟩
        · have hdd := hrd.out.trans hd.out
          have hu := Inf.data_le hdd (by rw [Bit.bitsOf_length]; omega)
          rw [Bit.bitsOf_length, List.length_drop, hlq.out] at hu
          have ho3 := hide (Inf.data_most hdd)
          obtain ⟨hQ1, hQ2⟩ := Gz.all_rest hR.out hmt1.out hh.out hdd
          rw [hlq.out] at hQ1 hQ2
          replace hdd := hide hdd
          obtain ⟨at', hat⟩ : ∃ k, p + u = k := ⟨_, rfl⟩
          rw [hat] at hQ1 hQ2
          have hatI : (p : Int) + (u : Int) = (at' : Int) := by omega
          have hatn : at' ≤ n0 := by omega
          have hb20 := hbn.out
          have hw1 : IntKind.i64.wrap (at' : Int) = (at' : Int) := by rw [IntKind.wrap_i64]; omega
          have hw8 : IntKind.i64.wrap ((at' : Int) + 8) = (at' : Int) + 8 := by rw [IntKind.wrap_i64]; omega
          replace hat := hide hat
          replace hu := hide hu
          by_cases hsh : n0 < at' + 8
          · have hshI : (n0 : Int) < (at' : Int) + 8 := by omega
            have hRe := hide (hQ1 hsh)
            clear hQ1 hQ2
            go_wp2
            go_ret2
            exact ⟨b4.out, .inl ⟨2, hRe.out, by decide, rfl⟩⟩
          · have hshI : ¬ (n0 : Int) < (at' : Int) + 8 := by omega
            obtain ⟨hQ2, hQ3⟩ := hQ2 (by omega)
            rw [hm3.out] at hQ2 hQ3
            clear hQ1

            have hqc : (at' : Int) ≤ (c0 : Int) := by omega
            have hq2c : (at' : Int) + 8 ≤ (c0 : Int) := by omega
            have hqp : (0 : Int) ≤ (at' : Int) := by omega
            have hqq : (at' : Int) ≤ (at' : Int) + 8 := by omega
            have hm3b : m3 ≤ mt := by rw [← hm3.out]; exact ho3.out
            have hm3c : m3 ≤ 1048576 := by have := hm.out; have := hmt2.out; omega
            have hnu : IntKind.u32.wrap (m3 : Int) = (m3 : Int) := by rw [IntKind.wrap_u32]; omega
            obtain ⟨Sm, hSm⟩ : ∃ S, Crc.sum o3 = S := ⟨_, rfl⟩
            have hSl := Crc.sum_lt o3
            rw [hSm] at hSl hQ2 hQ3
            obtain ⟨TT, hTT⟩ : ∃ T, (bs0.drop at').take 8 = T := ⟨_, rfl⟩
            obtain ⟨L1, hL1⟩ : ∃ T, Gz.le Sm = T := ⟨_, rfl⟩
            obtain ⟨L2, hL2⟩ : ∃ T, Gz.le m3 = T := ⟨_, rfl⟩
            rw [hTT, hL1, hL2] at hQ2 hQ3
            have rT := hide (show Rd w3 w.heap.size (some ⟨b, o + at', none⟩) 8 (TT.map bv) from by
              have h := r3.out.sub at' 8 (by omega)
              rw [← List.map_drop, ← List.map_take, hTT] at h
              simp only [Option.map_some, Addr.add_mid] at h
              exact h)
            have hof := hide (fun W (h : Grw w3 W) => show Calls Tryz.prog 94 #[.slice A3 m3 c3] W (fun e w' => e = .returned (.int .u32 (Sm : Nat)) ∧ W = w') from by
              rw [← hSm]
              exact refof_any A3 m3 c3 o3 W w3.heap.size (ow3.out.rd.below h.out) (by omega))
            have hl1 := hide (fun W => rlow4 Sm W (by omega))
            have hl2 := hide (fun W => rlow4 m3 W (by omega))
            rw [hL1] at hl1
            rw [hL2] at hl2
            have hs0 := hide (show Grw w3 w3.drew from ⟨rfl, rfl, rfl, Nat.le_refl _, fun _ _ => rfl⟩)
            have hr6 := hide (fun W (h : Grw w3 W) => o6.out.below h.out)
            have hr3 := hide (fun W (h : Grw w3 W) => ow3.out.rd.below h.out)
            have hr5 := hide (fun W (h : Grw w3 W) => r3.out.below (h.out.mono (b4.out.size)))
            have hb5 := hide (fun W (h : Grw w3 W) => b4.out.trans (h.out.mono (b4.out.size)))
            replace hSm := hide hSm
            replace hTT := hide hTT
            replace hL1 := hide hL1
            replace hL2 := hide hL2
            obtain ⟨EQ, hEQ⟩ : ∃ b : Bool, (L1 ++ L2 == TT) = b := ⟨_, rfl⟩
            have hSf := hide (show EQ = false → R = .inl 4 from fun h => hQ2 (fun h2 => by rw [← hEQ, h2] at h; simp at h))
            have hSt := hide (show EQ = true → _ from fun h => hQ3 (by rw [← hEQ] at h; exact (by simpa using h : L1 ++ L2 = TT).symm))
            clear hQ2 hQ3
            have hNE : (L1 ++ L2 != TT) = !EQ := by rw [← hEQ]; rfl
            clear o6 ow3 r3
            go_upto_region 13 with fail
            refine wp_region_held_drew (S := Grw w3) (by kernel_rfl) hs0.out ?_
            obtain ⟨wd, hwd⟩ : ∃ W, w3.drew = W := ⟨_, rfl⟩
            rw [hwd] at hs0 ⊢
            intro hS0
            refine gtake (i := 0) (d := 49) (v := .slice A3 m3 c3) rfl rfl (by kernel_rfl) (by kernel_rfl) (by kernel_rfl) (fun _ _ _ h => h) (.inl ⟨rfl, fun W _ => by go_simp⟩) (by assumption) ?_
            simp only [Act.put, List.setIfInBounds_toArray, List.set_cons_zero, List.set_cons_succ]
            refine gtake (i := 3) (d := 52) (v := .slice A3 m3 c3) rfl rfl (by kernel_rfl) (by kernel_rfl) (by kernel_rfl) (fun _ _ _ h => h) (.inl ⟨rfl, fun W _ => by go_simp⟩) (by assumption) ?_
            simp only [Act.put, List.setIfInBounds_toArray, List.set_cons_zero, List.set_cons_succ]
            refine gtake (i := 4) (d := 53) (v := .int .i64 (m3 : Int)) rfl rfl (by kernel_rfl) (by kernel_rfl) (by kernel_rfl) (fun _ _ _ h => h) (.inl ⟨rfl, fun W _ => by go_simp⟩) (by assumption) ?_
            simp only [Act.put, List.setIfInBounds_toArray, List.set_cons_zero, List.set_cons_succ]
            refine gtake (i := 5) (d := 54) (v := .int .u32 (m3 : Int)) rfl rfl (by kernel_rfl) (by kernel_rfl) (by kernel_rfl) (fun _ _ _ h => h) (.inl ⟨rfl, fun W _ => by go_simp⟩) (by assumption) ?_
            simp only [Act.put, List.setIfInBounds_toArray, List.set_cons_zero, List.set_cons_succ]
            refine gtake (i := 9) (d := 58) (v := .slice (some ⟨b, o, none⟩) n0 c0) rfl rfl (by kernel_rfl) (by kernel_rfl) (by kernel_rfl) (fun _ _ _ h => h) (.inl ⟨rfl, fun W _ => by go_simp⟩) (by assumption) ?_
            simp only [Act.put, List.setIfInBounds_toArray, List.set_cons_zero, List.set_cons_succ]
            refine gtake (i := 10) (d := 59) (v := .int .i64 (at' : Int)) rfl rfl (by kernel_rfl) (by kernel_rfl) (by kernel_rfl) (fun _ _ _ h => h) (.inl ⟨rfl, fun W _ => by go_simp⟩) (by assumption) ?_
            simp only [Act.put, List.setIfInBounds_toArray, List.set_cons_zero, List.set_cons_succ]
            refine gtake (i := 11) (d := 60) (v := .int .i64 (at' : Int)) rfl rfl (by kernel_rfl) (by kernel_rfl) (by kernel_rfl) (fun _ _ _ h => h) (.inl ⟨rfl, fun W _ => by go_simp⟩) (by assumption) ?_
            simp only [Act.put, List.setIfInBounds_toArray, List.set_cons_zero, List.set_cons_succ]
            refine gtake (i := 12) (d := 61) (v := .int .i64 ((at' : Int) + 8)) rfl rfl (by kernel_rfl) (by kernel_rfl) (by kernel_rfl) (fun _ _ _ h => h) (.inl ⟨rfl, fun W _ => by go_simp⟩) (by assumption) ?_
            simp only [Act.put, List.setIfInBounds_toArray, List.set_cons_zero, List.set_cons_succ]
            refine gtake (i := 13) (d := 62) (v := (.slice (some ⟨b, o + at', none⟩) 8 (c0 - at'))) rfl rfl (by kernel_rfl) (by kernel_rfl) (by kernel_rfl) (fun _ _ _ h => h) (.inl ⟨rfl, fun W _ => by go_simp; omega⟩) (by assumption) ?_
            simp only [Act.put, List.setIfInBounds_toArray, List.set_cons_zero, List.set_cons_succ]
            refine gtake (i := 14) (d := 63) (v := .string ⟨(TT).toArray⟩) rfl rfl (by kernel_rfl) (by kernel_rfl) (by kernel_rfl) (fun _ _ _ h => h) (gyields_str rfl (.tmp 62) rfl (some ⟨b, o + at', none⟩) 8 (c0 - at') w.heap.size (TT) rfl (fun W hW => rT.out.below (hW.out.mono b4.out.size))) (by assumption) ?_
            simp only [Act.put, List.setIfInBounds_toArray, List.set_cons_zero, List.set_cons_succ]
            refine wpAnyH_ready (rs := [1]) (by kernel_rfl) (by simp) ?_
            refine AllReadyH.cons (o := ⟨some 50, _, _, _, _, _⟩) rfl (fun K hK => ?_) AllReadyH.nil
            rw [if_pos (by rfl)]
            go_simp
            go_at_call 94
            (with_reducible refine (hof.out _ (by assumption)).mono ?_)
            rintro e w' ⟨rfl, rfl⟩
            refine hK.out _ _ (by assumption) (fun hS => ?_)
            clear hK
            refine wpAnyH_ready (rs := [2]) (by kernel_rfl) (by simp) ?_
            refine AllReadyH.cons (o := ⟨some 51, _, _, _, _, _⟩) rfl (fun K hK => ?_) AllReadyH.nil
            rw [if_pos (by rfl)]
            go_simp
            go_at_call 93
            (with_reducible refine (hl1.out _).mono ?_)
            rintro e w8 ⟨A8, c8, rfl, o8, hb8⟩
            have hsw8 : Grw w3 w8 := hS0.out.trans (hb8.mono hS0.out.size)
            have o8 := hide o8
            have hz8 := hide (show wd.heap.size ≤ w8.heap.size from hb8.size)
            have hb8 := hide hb8
            refine hK.out _ _ hsw8 (fun _ => ?_)
            clear hK
            refine wpAnyH_ready (rs := [6]) (by kernel_rfl) (by simp) ?_
            refine AllReadyH.cons (o := ⟨some 55, _, _, _, _, _⟩) rfl (fun K hK => ?_) AllReadyH.nil
            rw [if_pos (by rfl)]
            go_simp
            go_at_call 93
            (with_reducible refine (hl2.out _).mono ?_)
            rintro e w9 ⟨A9, c9, rfl, o9, hb9⟩
            have hsw9 : Grw w3 w9 := hsw8.out.trans (hb9.mono hsw8.out.size)
            have o8 := hide (o8.out.below hb9)
            have r9 := hide o9.rd
            have hb9 := hide (hb8.out.trans (hb9.mono hz8.out))
            have hz9 := hide (show wd.heap.size ≤ w9.heap.size from hb9.out.size)
            clear o9
            refine hK.out _ _ hsw9 (fun _ => ?_)
            clear hK
            refine wpAnyH_ready (rs := [7]) (by kernel_rfl) (by simp) ?_
            refine AllReadyH.cons (o := ⟨some 56, _, _, _, _, _⟩) rfl (fun K hK => ?_) AllReadyH.nil
            refine step_append_rd w9 (by rfl) (.tmp 51) (.tmp 55) (by rfl) elem_byte (by first | (simp [go_sem]; done) | (simp [go_sem]; rfl)) o8.out (by first | (simp [go_sem]; done) | (simp [go_sem]; rfl)) r9.out (one_bv2 L2) (by decide) (by decide) hz9.out ?_
            intro A11 c11 w11 o11 k11 n11
            have hb11 := hide (hb9.out.trans (k11.to_below hz9.out (fun i hi => (o8.out.blk_lt i hi).1)))
            have hsw11 : Grw w3 w11 := hS0.out.trans (hb11.out.mono hS0.out.size)
            rw [← List.map_append] at o11
            have r11 := hide o11.rd
            clear k11 n11 o11
            refine hK.out _ _ hsw11 (fun _ => ?_)
            clear hK
            refine gAnyH_strong (S' := Grw w11) (fun W hW => Below.trans hsw11 (hW.out.mono hsw11.out.size)) _ _ _ _ ?_
            have h0w11 : Grw w11 w11 := Below.refl _ _
            simp only [Act.put, List.setIfInBounds_toArray, List.set_cons_zero, List.set_cons_succ]
            refine gtake (i := 8) (d := 57) (v := .string ⟨(L1 ++ L2).toArray⟩) rfl rfl (by kernel_rfl) (by kernel_rfl) (by kernel_rfl) (fun _ _ _ h => h) (gyields_str rfl (.tmp 56) rfl A11 (4 + 4) c11 w11.heap.size (L1 ++ L2) rfl (fun W hW => r11.out.below hW.out)) (by assumption) ?_
            simp only [Act.put, List.setIfInBounds_toArray, List.set_cons_zero, List.set_cons_succ]
            refine gtake (i := 15) (d := 64) (v := .bool (!EQ)) rfl rfl (by kernel_rfl) (by kernel_rfl) (by kernel_rfl) (fun _ _ _ h => h) (.inl ⟨rfl, fun W _ => by go_simp⟩) (by assumption) ?_
            simp only [Act.put, List.setIfInBounds_toArray, List.set_cons_zero, List.set_cons_succ]
            refine wpAnyH_done (by kernel_rfl) ?_ _
            have b11 := hide (hb5.out w11 hsw11)
            clear hof hl1 hl2
            cases EQ with
            | false =>
              have hRe := hide (hSf.out rfl)
              go_wp2
              go_ret2
              exact ⟨b11.out, .inl ⟨4, hRe.out, by decide, rfl⟩⟩
            | true =>
              have hR2 := hide (hSt.out rfl)
              have o6 := hide (hr6.out w11 hsw11)
              have r3 := hide (hr3.out w11 hsw11)
              have r5 := hide (hr5.out w11 hsw11)
              clear hr6 hr3 hr5 hb5 hSt hSf
              have q1 := hide (show n6 + m3 ≤ maxLen from by have := hom.out; simp only [maxLen]; omega)
              have q2 := hide (show (n6 + m3) * 1 ≤ 140737488355328 from by have := hom.out; omega)
              have hnx : n0 - (at' + 8) < n0 := by omega
              have hl8 := hide (show (bs0.drop (at' + 8) = [] ↔ n0 - (at' + 8) = 0) from by rw [← List.length_eq_zero_iff, List.length_drop, hlq.out])
              rcases (show c0 = at' + 8 ∨ c0 ≠ at' + 8 by omega) with hcq | hcq
              all_goals (
                go_upto_region 17 with (at_builtin; refine wpList_append_rd w11 rfl (.tmp 65) (.tmp 66) rfl elem_byte rfl o6.out rfl r3.out (one_bv2 o3) q1.out q2.out b11.out.size ?_; intro A12 c12 w12 o12 k12 n12; have k9 := k12.to_below b11.out.size (fun i hi => (o6.out.blk_lt i hi).1); have b12 := hide (b11.out.trans k9); have r12 := hide (r5.out.below k9); have o12 := hide o12; clear k12 n12 k9)
                have hcc : ∃ c', (if c0 = at' + 8 then at' + 8 - (at' + 8) else c0 - (at' + 8)) = c' := ⟨_, rfl⟩
                obtain ⟨c', hcc⟩ := hcc
                have hcn : n0 - (at' + 8) ≤ c' := by rw [← hcc]; split <;> omega
                have hrn := hide (fun (A' : Option Addr) (h : A' = some ⟨b, o + (at' + 8), none⟩ ∨ n0 - (at' + 8) = 0) => show Rd w12 w.heap.size A' (n0 - (at' + 8)) ((bs0.drop (at' + 8)).map bv) from by
                  rcases h with rfl | h
                  · have h2 := r12.out.rest (at' + 8) (by omega)
                    simp only [Option.map_some, Addr.add_mid] at h2
                    exact h2
                  · rw [show bs0.drop (at' + 8) = [] from List.drop_of_length_le (by rw [hlq.out]; omega), h]
                    exact Rd.nil _ _ _)
                first
                  | rw [if_pos hcq] at hcc
                  | rw [if_neg hcq] at hcc
                rw [hcc]
                obtain ⟨n', hn'⟩ : ∃ k, n0 - (at' + 8) = k := ⟨_, rfl⟩
                rw [hn'] at hcn hrn hl8 ⊢
                have hnl : n' < n0 := by omega
                replace hcc := hide hcc
                have hn' := hide hn'
                have holen := hide (show (out ++ o3).length = n6 + m3 from by rw [List.length_append, ho.out, hm3.out])
                rw [← List.map_append] at o12
                by_cases hz : n' = 0
                · have hzI : ((n' : Int) == 0) = true := by simp; omega
                  have hRe := hide (show R = .inr (out ++ o3) from by have h := hR2.out; rw [if_pos (hl8.out.2 hz)] at h; exact h.symm)
                  replace hz := hide hz
                  clear hR2
                  go_wp2
                  go_ret2
                  exact ⟨b12.out, .inr ⟨out ++ o3, A12, c12, hRe.out, by rw [holen.out]; rfl, by rw [holen.out]; exact o12.out⟩⟩
                · have hzI : ((n' : Int) == 0) = false := by simp; omega
                  have hRe := hide (show Gz.all F most g (out ++ o3) (bs0.drop (at' + 8)) = R from by have h := hR2.out; rw [if_neg (fun h => hz (hl8.out.1 h))] at h; exact h)
                  replace hz := hide hz
                  clear hR2
                  go_wp2
                  go_roundg g
                  case measure => omega
                  case rel => exact ⟨_, n', _, A12, n6 + m3, c12, bs0.drop (at' + 8), out ++ o3, rfl, rfl, hide hcn, hide (by have := hn0.out; omega), hide (by have := hg.out; omega), holen, hide (by have := hom.out; omega), hide (hrn.out _ (by first | exact .inl rfl | exact .inr (by have := hn'.out; omega))), o12, b12, hRe⟩)
end Go.Proofs.YtaapjampmnanmaaGreat
