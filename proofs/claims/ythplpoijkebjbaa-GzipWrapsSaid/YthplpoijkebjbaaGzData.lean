/- Layer 6 (gzip): what a member holds, and its sums. The condition: where the bytes lie. -/
import Derived.Test.YthplpoijkebjbaaGzB
import Derived.Test.YthplpoijkebjbaaInfLive
import Derived.Deep.DeepCutAuto
import Derived.Deep.CutBlock
namespace Go.Proofs.Ythplpoijkebjbaa
open Go.RowKit Go.Shelf
set_option linter.unusedVariables false
set_option linter.unusedSimpArgs false

theorem eq4 {o : List UInt8} {W : World} : True := trivial

/-- The state behind the data, and what it is. -/
def Gz.bodyS (F most : Nat) (bs : List UInt8) (s : Sum Nat Nat) : Sum Nat (List UInt8 × Nat) := Gz.bind s fun p => Gz.body F most bs p
def DPost (B g : Nat) (A : Option Addr) (n c : Nat) (W : World) (r : Sum Nat (List UInt8 × Nat)) (e : Ending) (w' : World) : Prop :=
  KG g W w' ∧ ((∃ er v, r = .inl er ∧ e = .returned v ∧ MAt B w' g A n c (.inl er)) ∨
   (∃ o q A2 c2, r = .inr (o, q) ∧ e = .returned (.slice A2 o.length c2) ∧ Rd w' w'.heap.size A2 o.length (o.map bv) ∧ MAt B w' g A n c (.inr q)))

set_option maxRecDepth 100000 in
set_option maxHeartbeats 2000000 in
theorem data_bad (B g : Nat) (A : Option Addr) (n c most F er : Nat) (bs : List UInt8) (W : World) (h : MAt B W g A n c (.inl er)) (hr : Rd W B A n (bs.map bv)) (hc : n ≤ c) (hn : n ≤ 1048576) (hm : most ≤ 1048576) (hF : 8 * n < F) :
    Calls Try.prog 65 #[.pointer (some ⟨g, 0, none⟩), .int .i64 (most : Nat)] W (DPost B g A n c W (Gz.bodyS F most bs (.inl er))) := by
  obtain ⟨hB, h1, h7, p, hp, hk⟩ := h
  have hk := hide hk
  obtain ⟨E, hE⟩ : ∃ E : Int, (er : Int) = E := ⟨_, rfl⟩
  have hne : (E != 0) = true := by simp; omega
  have c2 := hk.out.cell 2
  simp only [List.getElem?_toArray, List.getElem?_cons_succ, List.getElem?_cons_zero, hE] at c2
  go_enter Try.func65, Try.ntmps65
  go_wp2
  go_ret
  exact ⟨KG.refl _ _, .inl ⟨er, _, rfl, rfl, ⟨hB, h1, h7, p, hp, hk.out⟩⟩⟩

set_option maxRecDepth 100000 in
set_option maxHeartbeats 2000000 in
theorem data_err (B g : Nat) (A : Option Addr) (n c most F p er : Nat) (bs : List UInt8) (W : World) (h : MAt B W g A n c (.inr p)) (hr : Rd W B A n (bs.map bv)) (hc : n ≤ c) (hn : n ≤ 1048576) (hm : most ≤ 1048576) (hF : 8 * n < F) (hX : Inf.data (Bit.bitsOf (bs.drop p)) most F = .inl er) :
    Calls Try.prog 65 #[.pointer (some ⟨g, 0, none⟩), .int .i64 (most : Nat)] W (DPost B g A n c W (Gz.bodyS F most bs (.inr p))) := by
  have hl : bs.length = n := hr.len
  have hp := h.2.1
  have hBg := h.1
  have hBW := hide h.lt
  have c0 := h.2.2.cell 0
  have c1 := h.2.2.cell 1
  have c2 := h.2.2.cell 2
  simp only [List.getElem?_toArray, List.getElem?_cons_succ, List.getElem?_cons_zero] at c0 c1 c2
  have hd := hide (h.drewN 1)
  have hrd := hide (hr.below (below_drewN (Below.refl _ W) 1))
  have hpI : (p : Int) ≤ (n : Int) := by omega
  have hnI : (n : Int) ≤ (c : Int) := by omega
  have hq : ∀ (A1 : Option Addr) (m c1 : Nat), m ≤ 1048576 → 8 * m < F → Rd W B A1 m ((bs.drop p).map bv) → Calls Try.prog 28 #[.slice A1 m c1, .int .i64 (most : Nat)] W.drew (InfPost W.drew (Inf.data (Bit.bitsOf (bs.drop p)) most F)) := fun A1 m c1 hm1 hF1 h1 => idata_at A1 c1 m (bs.drop p) most F (most : Nat) W.drew rfl ((h1.below (below_drewN (Below.refl _ W) 1)).mono hBW.out) hm1 hm hF1
  rw [hX] at hq
  have hres := hide (show Gz.bodyS F most bs (.inr p) = .inl er from by
    show Gz.bind (Inf.data _ _ _) _ = _
    rw [hX]; rfl)
  have her := Inf.data_nz hX
  have hqe : ∀ (A1 : Option Addr) (m c1 : Nat), m ≤ 1048576 → 8 * m < F → Rd W B A1 m ((bs.drop p).map bv) → Calls Try.prog 28 #[.slice A1 m c1, .int .i64 (most : Nat)] W.drew fun e w' => e = .returned (.tuple #[.slice none 0 0, .int .i64 0, .int .i64 (er : Nat)]) ∧ KG g W w' ∧ MAt B w' g A n c (.inr p) := fun A1 m c1 h1 h2 h3 => (hq A1 m c1 h1 h2 h3).mono (by
    rintro e w' ⟨hb, ⟨er', he, rfl⟩ | ⟨_, _, _, _, he, _⟩⟩
    · cases he; exact ⟨rfl, KG.trans ((KG.refl g W).drewN 1) (KG.of_below hb), hd.out.below hb⟩
    · cases he)
  obtain ⟨E, hE⟩ : ∃ E : Int, (er : Int) = E := ⟨_, rfl⟩
  rw [hE] at hqe
  have hne : (E != 0) = true := by simp; omega
  replace h := hide h
  rcases (show c = p ∨ c ≠ p by omega) with hcp | hcp
  · obtain rfl : p = n := by omega
    obtain rfl : c = p := by omega
    have hq1 := hide (hqe A 0 0 (by omega) (by omega) (by rw [List.drop_of_length_le (by omega)]; exact Rd.nil _ _ _))
    clear hq hqe
    go_enter Try.func65, Try.ntmps65
    go_upto_region 3 with fail
    go_cut [5, 6, 7] (fun s5 s6 s7 wx => Hid (KG g W wx) ∧ s5 = .slice none 0 0 ∧ s6 = .int .i64 0 ∧ s7 = .int .i64 E ∧ Hid (MAt B wx g A c c (.inr c)))
    case first =>
      go_region_with (go_at_call 28; (with_reducible refine (hq1.out).mono ?_); rintro e w2 ⟨rfl, hk2, hm2⟩; have hk2 := hide hk2; have hm2 := hide hm2)
      all_goals (go_wp2; go_meet; exact ⟨hk2, rfl, rfl, rfl, hm2⟩)
    case rest =>
      obtain ⟨hk, rfl, rfl, rfl, hm⟩ := hcut
      have d2 := hm.out.2.2.cell 2
      have f2 := hm.out.2.2.free 2
      simp only [List.getElem?_toArray, List.getElem?_cons_succ, List.getElem?_cons_zero] at d2
      clear c0 c1 c2
      go_wp2
      go_ret
      exact ⟨hk.out.setCell _, .inl ⟨er, _, hres.out, rfl, ⟨hBg, by omega, trivial, _, hp, by rw [hE]; exact hm.out.2.2.set 2 _⟩⟩⟩
  · have hq1 := hide (hqe _ _ (c - p) (by omega) (by omega) (hr.rest p hp))
    clear hq hqe
    go_enter Try.func65, Try.ntmps65
    go_upto_region 3 with fail
    go_cut [5, 6, 7] (fun s5 s6 s7 wx => Hid (KG g W wx) ∧ s5 = .slice none 0 0 ∧ s6 = .int .i64 0 ∧ s7 = .int .i64 E ∧ Hid (MAt B wx g A n c (.inr p)))
    case first =>
      go_region_with (go_at_call 28; (with_reducible refine (hq1.out).mono ?_); rintro e w2 ⟨rfl, hk2, hm2⟩; have hk2 := hide hk2; have hm2 := hide hm2)
      all_goals (go_wp2; go_meet; exact ⟨hk2, rfl, rfl, rfl, hm2⟩)
    case rest =>
      obtain ⟨hk, rfl, rfl, rfl, hm⟩ := hcut
      have d2 := hm.out.2.2.cell 2
      have f2 := hm.out.2.2.free 2
      simp only [List.getElem?_toArray, List.getElem?_cons_succ, List.getElem?_cons_zero] at d2
      clear c0 c1 c2
      go_wp2
      go_ret
      exact ⟨hk.out.setCell _, .inl ⟨er, _, hres.out, rfl, ⟨hBg, by omega, trivial, _, hp, by rw [hE]; exact hm.out.2.2.set 2 _⟩⟩⟩

end Go.Proofs.Ythplpoijkebjbaa
