/- Layer 4 (inflate): no more bytes than asked for. There is no condition. Layer 6 (gzip): what a member holds, where it can be unpacked. The condition: where the bytes lie. Layer 6 (gzip): what a member holds, whole. The condition: where the bytes lie. (not built yet) -/
import Derived.Test.YthplpoijkebjbaaInfEnd
import Derived.Test.YthplpoijkebjbaaGzData
namespace Go.Proofs.Ythplpoijkebjbaa
set_option linter.unusedVariables false

/-- What has no more bytes than most has none more afterwards. -/
def Inf.Top {α : Type} (most : Nat) (p : Inf.M α) : Prop := ∀ a o x a' o', o.length ≤ most → p a o = .inr (x, a', o') → o'.length ≤ most
theorem Inf.Top.ret {α : Type} (most : Nat) (x : α) : Inf.Top most (Inf.ret x) := fun a o x' a' o' ho h => by cases h; exact ho
theorem Inf.Top.err {α : Type} (most e : Nat) : Inf.Top most (Inf.err e : Inf.M α) := fun a o x a' o' ho h => by cases h
theorem Inf.Top.bind {α β : Type} {most : Nat} {p : Inf.M α} {f : α → Inf.M β} (hp : Inf.Top most p) (hf : ∀ x, Inf.Top most (f x)) : Inf.Top most (Inf.bind p f) := fun a o x a' o' ho h => by
  cases hr : p a o with
  | inl e' =>
    rw [Inf.bind_err hr] at h
    cases h
  | inr r =>
    obtain ⟨y, a1, o1⟩ := r
    rw [Inf.bind_ok hr] at h
    exact hf y a1 o1 x a' o' (hp a o y a1 o1 ho hr) h
theorem Inf.Top.ite {α : Type} {most : Nat} {c : Prop} [Decidable c] {p q : Inf.M α} (hp : Inf.Top most p) (hq : Inf.Top most q) : Inf.Top most (if c then p else q) := by
  by_cases h : c
  · rwa [if_pos h]
  · rwa [if_neg h]
section
variable (l : List Bool) (most : Nat)
theorem Inf.Top.bits (n : Nat) : Inf.Top most (Inf.bits l n) := fun a o x a' o' ho h => by
  unfold Inf.bits at h
  split at h
  · cases h; exact ho
  · cases h
theorem Inf.Top.align : Inf.Top most Inf.align := fun a o x a' o' ho h => by cases h; exact ho
theorem Inf.Top.sym (ls : List Nat) : Inf.Top most (Inf.sym l ls) := fun a o x a' o' ho h => by
  unfold Inf.sym at h
  split at h
  · cases h; exact ho
  · cases h
theorem Inf.Top.put (c : UInt8) : Inf.Top most (Inf.put most c) := fun a o x a' o' ho h => by
  unfold Inf.put at h
  split at h
  · cases h
  · cases h
    rw [List.length_append, List.length_singleton]
    omega
theorem Inf.Top.raw (n : Nat) : Inf.Top most (Inf.raw l most n) := by
  induction n with
  | zero => exact Inf.Top.ret most ()
  | succ n ih => exact (Inf.Top.bits l most 8).bind fun c => (Inf.Top.put most _).bind fun _ => ih
theorem Inf.Top.stored : Inf.Top most (Inf.stored l most) := (Inf.Top.align most).bind fun _ => (Inf.Top.bits l most 16).bind fun n => (Inf.Top.bits l most 16).bind fun m => Inf.Top.ite (Inf.Top.raw l most n) (Inf.Top.err most 3)
theorem Inf.Top.back (d n : Nat) : Inf.Top most (Inf.back most d n) := by
  induction n with
  | zero => exact Inf.Top.ret most ()
  | succ n ih => exact fun a o x a' o' ho h => ((Inf.Top.put most (o.getD (o.length - d) 0)).bind fun _ => ih) a o x a' o' ho h
theorem Inf.Top.reach (d n : Nat) : Inf.Top most (Inf.reach most d n) := fun a o x a' o' ho h => by
  unfold Inf.reach at h
  split at h
  · cases h
  · exact Inf.Top.back most d n a o x a' o' ho h
theorem Inf.Top.copied (far : List Nat) (s : Nat) : Inf.Top most (Inf.copied l most far s) :=
  Inf.Top.ite (Inf.Top.err most 3) ((Inf.Top.bits l most _).bind fun _ => (Inf.Top.sym l most far).bind fun t => Inf.Top.ite (Inf.Top.err most 3) ((Inf.Top.bits l most _).bind fun _ => Inf.Top.reach most _ _))
theorem Inf.Top.symbols (near far : List Nat) (f : Nat) : Inf.Top most (Inf.symbols l most near far f) := by
  induction f with
  | zero => exact Inf.Top.err most 3
  | succ f ih => exact (Inf.Top.sym l most near).bind fun s => Inf.Top.ite ((Inf.Top.put most _).bind fun _ => ih) (Inf.Top.ite (Inf.Top.ret most ()) ((Inf.Top.copied l most far s).bind fun _ => ih))
theorem Inf.Top.often (acc : List Nat) (s : Nat) : Inf.Top most (Inf.often l acc s) :=
  Inf.Top.ite (Inf.Top.ite (Inf.Top.err most 3) ((Inf.Top.bits l most 2).bind fun _ => Inf.Top.ret most _)) (Inf.Top.ite ((Inf.Top.bits l most 3).bind fun _ => Inf.Top.ret most _) (Inf.Top.ite ((Inf.Top.bits l most 7).bind fun _ => Inf.Top.ret most _) (Inf.Top.ret most _)))
theorem Inf.Top.lens (ls : List Nat) (many f : Nat) : ∀ acc, Inf.Top most (Inf.lens l ls many f acc) := by
  induction f with
  | zero => intro acc; exact Inf.Top.err most 3
  | succ f ih => intro acc; exact Inf.Top.ite (Inf.Top.ret most acc) ((Inf.Top.sym l most ls).bind fun s => (Inf.Top.often l most acc s).bind fun nv => Inf.Top.ite (Inf.Top.err most 3) (ih _))
theorem Inf.Top.need (ls : List Nat) (short : Bool) : Inf.Top most (Inf.need ls short) := fun a o x a' o' ho h => by
  unfold Inf.need at h
  split at h
  · cases h; exact ho
  · cases h
theorem Inf.Top.three (n : Nat) : ∀ i acc, Inf.Top most (Inf.three l n i acc) := by
  induction n with
  | zero => intro i acc; exact Inf.Top.ret most acc
  | succ n ih => intro i acc; exact (Inf.Top.bits l most 3).bind fun v => ih _ _
theorem Inf.Top.dynamic : Inf.Top most (Inf.dynamic l) :=
  (Inf.Top.bits l most 5).bind fun a => (Inf.Top.bits l most 5).bind fun b => Inf.Top.ite (Inf.Top.err most 3) ((Inf.Top.bits l most 4).bind fun m => (Inf.Top.three l most _ _ _).bind fun c =>
    (Inf.Top.need most c false).bind fun _ => (Inf.Top.lens l most c _ _ _).bind fun ls => Inf.Top.ite (Inf.Top.err most 3) ((Inf.Top.need most _ false).bind fun _ => (Inf.Top.need most _ true).bind fun _ => Inf.Top.ret most _))
theorem Inf.Top.block (F : Nat) : Inf.Top most (Inf.block l most F) :=
  (Inf.Top.bits l most 1).bind fun fin => (Inf.Top.bits l most 2).bind fun k => Inf.Top.ite ((Inf.Top.stored l most).bind fun _ => Inf.Top.ret most _)
    (Inf.Top.ite ((Inf.Top.symbols l most _ _ F).bind fun _ => Inf.Top.ret most _) (Inf.Top.ite ((Inf.Top.dynamic l most).bind fun c => (Inf.Top.symbols l most _ _ F).bind fun _ => Inf.Top.ret most _) (Inf.Top.err most 3)))
theorem Inf.Top.blocks (F f : Nat) : Inf.Top most (Inf.blocks l most F f) := by
  induction f with
  | zero => exact Inf.Top.err most 3
  | succ f ih => exact (Inf.Top.block l most F).bind fun fin => Inf.Top.ite (Inf.Top.ret most ()) ih
end
theorem Inf.data_most {l : List Bool} {most F n : Nat} {o : List UInt8} (h : Inf.data l most F = .inr (o, n)) : o.length ≤ most := by
  obtain ⟨a, h1, _⟩ := Inf.data_some h
  exact Inf.Top.blocks l most F F 0 [] () a o (Nat.zero_le _) h1

end Go.Proofs.Ythplpoijkebjbaa

namespace Go.Proofs.Ythplpoijkebjbaa
open Go.RowKit Go.Shelf
set_option linter.unusedVariables false
set_option linter.unusedSimpArgs false

/-- Eight bytes more: there are so many, or not. -/
theorem skip_either (B g : Nat) (A : Option Addr) (n c p : Nat) (bs : List UInt8) (W : World) (h : MAt B W g A n c (.inr p)) (hr : Rd W B A n (bs.map bv)) (hc : n ≤ c) (hn : n ≤ 1048576) :
    Calls Try.prog 86 #[.pointer (some ⟨g, 0, none⟩), .int .i64 8] W fun e w' => KG g W w' ∧ ((p + 8 ≤ n ∧ ∃ A2 c2, e = .returned (.slice A2 8 c2) ∧ Rd w' B A2 8 (((bs.drop p).take 8).map bv) ∧ MAt B w' g A n c (.inr (p + 8))) ∨ (n < p + 8 ∧ e = .returned (.slice none 0 0) ∧ MAt B w' g A n c (.inl 2))) := by
  by_cases hp : p + 8 ≤ n
  · refine (show Calls Try.prog 86 #[.pointer (some ⟨g, 0, none⟩), .int .i64 8] W _ from skip_ok B g A n c p 8 bs W h hr hc hn hp).mono ?_
    rintro e w' ⟨⟨A2, c2, rfl, _, h1⟩, h2, h3⟩
    exact ⟨h3, .inl ⟨hp, A2, c2, rfl, h1, h2⟩⟩
  · refine (show Calls Try.prog 86 #[.pointer (some ⟨g, 0, none⟩), .int .i64 8] W _ from skip_short B g A n c p 8 W h hn (by omega) (by decide)).mono ?_
    rintro e w' ⟨rfl, h2, h3⟩
    exact ⟨h3, .inr ⟨by omega, rfl, h2⟩⟩

set_option maxRecDepth 100000 in
set_option maxHeartbeats 2000000 in
theorem data_ok (B g : Nat) (A : Option Addr) (n c most F p u : Nat) (o : List UInt8) (bs : List UInt8) (W : World) (h : MAt B W g A n c (.inr p)) (hr : Rd W B A n (bs.map bv)) (hc : n ≤ c) (hn : n ≤ 1048576) (hm : most ≤ 1048576) (hF : 8 * n < F) (hX : Inf.data (Bit.bitsOf (bs.drop p)) most F = .inr (o, u)) :
    Calls Try.prog 65 #[.pointer (some ⟨g, 0, none⟩), .int .i64 (most : Nat)] W (DPost B g A n c W (Gz.bodyS F most bs (.inr p))) := by
  have hl : bs.length = n := hr.len
  have hp := h.2.1
  have hBg := h.1
  have hBW := hide h.lt
  have c0 := h.2.2.cell 0
  have c1 := h.2.2.cell 1
  have c2 := h.2.2.cell 2
  simp only [List.getElem?_toArray, List.getElem?_cons_succ, List.getElem?_cons_zero] at c0 c1 c2
  have hd := hide (h.drewN 1)
  have hrd := hide (hr.below (below_drewN (Below.refl _ W) 1))
  have hpI : (p : Int) ≤ (n : Int) := by omega
  have hnI : (n : Int) ≤ (c : Int) := by omega
  have hq : ∀ (A1 : Option Addr) (m c1 : Nat), m ≤ 1048576 → 8 * m < F → Rd W B A1 m ((bs.drop p).map bv) → Calls Try.prog 28 #[.slice A1 m c1, .int .i64 (most : Nat)] W.drew (InfPost W.drew (Inf.data (Bit.bitsOf (bs.drop p)) most F)) := fun A1 m c1 hm1 hF1 h1 => idata_at A1 c1 m (bs.drop p) most F (most : Nat) W.drew rfl ((h1.below (below_drewN (Below.refl _ W) 1)).mono hBW.out) hm1 hm hF1
  rw [hX] at hq
  have hres := hide (show Gz.bodyS F most bs (.inr p) = Gz.bind (Gz.skip bs 8 (p + u)) (fun q => if (bs.drop (p + u)).take 8 = Gz.le (Crc.sum o) ++ Gz.le o.length then .inr (o, q) else .inl 4) from by
    show Gz.bind (Inf.data _ _ _) _ = _
    rw [hX]; rfl)
  have hu8 := Inf.data_le hX (bits8 _)
  rw [Bit.bitsOf_length, List.length_drop] at hu8
  have hpu : p + u ≤ n := by omega
  have hol := hide (Inf.data_most hX)
  obtain ⟨m2, hm2⟩ : ∃ m, o.length = m := ⟨_, rfl⟩
  have hqe : ∀ (A1 : Option Addr) (m c1 : Nat), m ≤ 1048576 → 8 * m < F → Rd W B A1 m ((bs.drop p).map bv) → Calls Try.prog 28 #[.slice A1 m c1, .int .i64 (most : Nat)] W.drew fun e w' => ∃ A2 c2, e = .returned (.tuple #[.slice A2 m2 c2, .int .i64 (u : Nat), .int .i64 0]) ∧ KG g W w' ∧ MAt B w' g A n c (.inr p) ∧ Ow w' W.heap.size 5 A2 m2 c2 (o.map bv) := fun A1 m c1 h1 h2 h3 => (hq A1 m c1 h1 h2 h3).mono (by
    rintro e w' ⟨hb, ⟨er', he, rfl⟩ | ⟨o', u', A2, c2, he, rfl, ho⟩⟩
    · cases he
    · cases he
      rw [← hm2]
      exact ⟨A2, c2, rfl, KG.trans ((KG.refl g W).drewN 1) (KG.of_below hb), hd.out.below hb, ho⟩)
  replace h := hide h
  rcases (show c = p ∨ c ≠ p by omega) with hcp | hcp
  · exfalso
    obtain ⟨F', rfl⟩ : ∃ F', F = F' + 1 := ⟨F - 1, by omega⟩
    have := Inf.data_pos _ (bits8 _) most F' u o hX
    omega
  · have hq1 := hide (hqe _ _ (c - p) (by omega) (by omega) (hr.rest p hp))
    clear hq hqe
    go_enter Try.func65, Try.ntmps65
    go_upto_region 3 with fail
    go_cut [5, 6, 7] (fun s5 s6 s7 wx => Hid (KG g W wx) ∧ s6 = .int .i64 (u : Int) ∧ s7 = .int .i64 0 ∧ Hid (MAt B wx g A n c (.inr p)) ∧ ∃ A2 c2, s5 = .slice A2 m2 c2 ∧ Hid (Ow wx W.heap.size 5 A2 m2 c2 (o.map bv)))
    case first =>
      go_region_with (go_at_call 28; (with_reducible refine (hq1.out).mono ?_); rintro e w2 ⟨A7, c7, rfl, hk2, hmm2, ho2⟩; have hk2 := hide hk2; have hmm2 := hide hmm2; have ho2 := hide ho2)
      all_goals (go_wp2; go_meet; exact ⟨hk2, rfl, rfl, hmm2, A7, c7, rfl, ho2⟩)
    case rest =>
      obtain ⟨hk, rfl, rfl, hm, A5, c5, rfl, ho⟩ := hcut
      have d1 := hm.out.2.2.cell 1
      have f1 := hm.out.2.2.free 1
      simp only [List.getElem?_toArray, List.getElem?_cons_succ, List.getElem?_cons_zero] at d1
      obtain ⟨w4, hw4⟩ : ∃ w4, wc.setCell ⟨g, 1, none⟩ (.int .i64 ((p : Int) + (u : Int))) = w4 := ⟨_, rfl⟩
      have m4 := hide (show MAt B w4 g A n c (.inr (p + u)) from by
        rw [← hw4]
        refine ⟨hBg, hpu, ?_⟩
        have h1 := hm.out.2.2.set 1 (.int .i64 ((p + u : Nat) : Int))
        rw [Int.natCast_add] at h1 ⊢
        exact h1)
      have k4 := hide (show KG g W w4 from by rw [← hw4]; exact hk.out.setCell _)
      have o4 := hide (show Ow w4 W.heap.size 5 A5 m2 c5 (o.map bv) from by
        rw [← hw4]
        exact ho.out.chg ((KG.refl g wc).setCell _) (fun k hk1 hk2 => ho.out.ne hm.out.2.2 (by decide) (by rw [hk1, hk2])))
      have hs := hide (skip_either B g A n c (p + u) bs w4 m4.out (hr.below (k4.out.below hBg hBW.out)) hc hn)
      clear c0 c1 c2 hk hm ho
      go_upto_region 8 with fail
      clear d1 f1 hw4
      go_wp2_with fail
      refine hs.out.mono ?_
      rintro e w5 ⟨k5, ⟨hp8, A6, c6, rfl, r6, m6⟩ | ⟨hp8, rfl, m6⟩⟩
      · have d2 := m6.2.2.cell 2
        simp only [List.getElem?_toArray, List.getElem?_cons_succ, List.getElem?_cons_zero] at d2
        have m6 := hide m6
        have k6 := hide (k4.out.trans k5)
        have o6 := hide (show Ow w5 W.heap.size 5 A5 m2 c5 (o.map bv) from o4.out.chg k5 (fun k hk1 hk2 => o4.out.ne m4.out.2.2 (by decide) (by rw [hk1, hk2])))
        have r6 := hide r6
        have hBw5 := hide (show B ≤ w5.heap.size from m6.out.lt)
        have hm20 : m2 ≤ 1048576 := by have := hol.out; omega
        have hm2u : IntKind.u32.wrap (m2 : Int) = (m2 : Int) := by rw [IntKind.wrap_u32]; omega
        obtain ⟨Sm, hSm⟩ : ∃ Sm, Crc.sum o = Sm := ⟨_, rfl⟩
        have hSl := Crc.sum_lt o
        rw [hSm] at hSl
        have hof := hide (of_any A5 m2 c5 o w5 w5.heap.size o6.out.rd (Nat.le_refl _) (by omega))
        rw [hSm] at hof
        have hl1 := hide (fun W1 => low4_any none 0 0 Sm W1.heap.size [] W1 (Ow.nil _ _ _) (Nat.le_refl _) (by decide) (by omega))
        have hl2 := hide (fun (A7 : Option Addr) (c7 B7 : Nat) (W1 : World) (ho : Ow W1 B7 5 A7 4 c7 ((Gz.le Sm).map bv)) (hB : B7 ≤ W1.heap.size) => low4_any A7 4 c7 m2 B7 (Gz.le Sm) W1 ho hB (by decide) (by omega))
        obtain ⟨TT, hTT⟩ : ∃ T, (bs.drop (p + u)).take 8 = T := ⟨_, rfl⟩
        obtain ⟨LL, hLL⟩ : ∃ T, Gz.le Sm ++ Gz.le m2 = T := ⟨_, rfl⟩
        rw [hTT] at r6
        rw [hLL] at hl2
        obtain ⟨I, hI⟩ : ∃ I, (TT == LL) = I := ⟨_, rfl⟩
        have heq := hide (fun (A8 : Option Addr) (c8 B8 : Nat) (W1 : World) (h1 : Rd W1 B A6 8 (TT.map bv)) (h2 : Rd W1 B8 A8 8 (LL.map bv)) => equal_any A6 A8 8 c6 8 c8 B B8 TT LL W1 h1 h2)
        rw [hI] at heq
        clear k5 m4 o4 k4 hs
        cases I
        all_goals go_wp2_with (first
          | (go_at_call 63; (with_reducible refine (hof.out).mono ?_); rintro e w7 ⟨rfl, b7⟩; have b7 := hide b7; have hl1 := hide (hl1.out w7))
          | (go_at_call 61; (with_reducible refine (hl1.out).mono ?_); rintro e w8 ⟨A8, c8, rfl, o8, g8⟩; have b8 := hide (show Below w7.heap.size w7 w8 from g8.to_below (Nat.le_refl _) (by rintro i hi; cases hi)); rw [List.nil_append] at o8; have hl2 := hide (hl2.out A8 c8 w7.heap.size w8 o8 b8.out.size); have o8 := hide o8)
          | (go_at_call 61; (with_reducible refine (hl2.out).mono ?_); rintro e w9 ⟨A9, c9, rfl, o9, g9⟩; have b9 := hide (show Below w7.heap.size w8 w9 from g9.to_below b8.out.size (fun i hi => (o8.out.blk_lt i hi).1)); have b79 := hide (b8.out.trans b9.out); have b59 := hide (b7.out.trans (b79.out.mono b7.out.size)); have heq := hide (heq.out A9 c9 w9.heap.size w9 (r6.out.below (b59.out.mono hBw5.out)) o9.rd); clear o9 g9)
          | (go_at_call 91; (with_reducible refine (heq.out).mono ?_); rintro e w10 ⟨rfl, rfl⟩; have m9 := hide (m6.out.below b59.out); have k9 := hide (k6.out.trans (KG.of_below b59.out)); have o9 := hide (o6.out.below b59.out); have d9 := m9.out.2.2.cell 2; have f9 := m9.out.2.2.free 2; simp only [List.getElem?_toArray, List.getElem?_cons_succ, List.getElem?_cons_zero] at d9; clear d2))
        · go_ret
          refine ⟨k9.out.setCell _, .inl ⟨4, _, ?_, rfl, ⟨hBg, by decide, trivial, p + u + 8, hp8, m9.out.2.2.set 2 _⟩⟩⟩
          rw [hres.out, show Gz.skip bs 8 (p + u) = .inr (p + u + 8) from if_pos (by omega)]
          show (if _ then _ else _) = _
          rw [hTT, hSm, hm2, hLL, if_neg (by simpa using hI)]
        · go_ret
          refine ⟨k9.out, .inr ⟨o, p + u + 8, A5, c5, ?_, by rw [hm2]; rfl, ?_, m9.out⟩⟩
          · rw [hres.out, show Gz.skip bs 8 (p + u) = .inr (p + u + 8) from if_pos (by omega)]
            show (if _ then _ else _) = _
            rw [hTT, hSm, hm2, hLL, if_pos (by simpa using hI)]
          · rw [hm2]
            exact o9.out.rd
      · obtain ⟨q, hq, kq⟩ := show ∃ p, p ≤ n ∧ Blk w5 g 93 #[.slice A n c, .int .i64 (p : Nat), .int .i64 (2 : Nat)] from m6.2.2.2
        have d2 := kq.cell 2
        simp only [List.getElem?_toArray, List.getElem?_cons_succ, List.getElem?_cons_zero] at d2
        have m6 := hide m6
        have k6 := hide (k4.out.trans k5)
        clear kq k5
        go_wp2
        go_ret
        exact ⟨k6.out, .inl ⟨2, _, by rw [hres.out, show Gz.skip bs 8 (p + u) = .inl 2 from if_neg (by omega)]; rfl, rfl, m6.out⟩⟩

end Go.Proofs.Ythplpoijkebjbaa

namespace Go.Proofs.Ythplpoijkebjbaa
open Go.RowKit Go.Shelf
set_option linter.unusedVariables false

theorem data_any (B g : Nat) (A : Option Addr) (n c most F : Nat) (s : Sum Nat Nat) (bs : List UInt8) (W : World) (h : MAt B W g A n c s) (hr : Rd W B A n (bs.map bv)) (hc : n ≤ c) (hn : n ≤ 1048576) (hm : most ≤ 1048576) (hF : 8 * n < F) :
    Calls Try.prog 65 #[.pointer (some ⟨g, 0, none⟩), .int .i64 (most : Nat)] W (DPost B g A n c W (Gz.bodyS F most bs s)) := by
  cases s with
  | inl er => exact data_bad B g A n c most F er bs W h hr hc hn hm hF
  | inr p =>
    cases hX : Inf.data (Bit.bitsOf (bs.drop p)) most F with
    | inl er => exact data_err B g A n c most F p er bs W h hr hc hn hm hF hX
    | inr r =>
      obtain ⟨o, u⟩ := r
      exact data_ok B g A n c most F p u o bs W h hr hc hn hm hF hX

end Go.Proofs.Ythplpoijkebjbaa
