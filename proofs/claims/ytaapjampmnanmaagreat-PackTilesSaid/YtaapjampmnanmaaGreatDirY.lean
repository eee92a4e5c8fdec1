/- Layer 12 (dir): Get, of any bytes: a walk. The conditions: where the slice lies, and its length. Layer 12 (dir): the document's Get, of any bytes: a walk. The conditions: where the slice lies, and its length. Layer 12's laws: the example, and DirFinds: a walk. There is no condition. Layer 12 (dir): what was put is got again; what was got is put in no more bytes. Plain, with no program in sight; no condition. -/
import Derived.Test.YtaapjampmnanmaaGreatDirX
import Derived.Deep.DeepCutAuto
import Derived.Deep.RegionWith
import Derived.BigRegion
import Derived.StillTailTactics
import Derived.Laws.IdiomStrings
import Derived.Laws.BytesArg
namespace Go.Proofs.YtaapjampmnanmaaGreat
open Go.RowKit
structure Inv (bs : List UInt8) (n p0 T k E P : Nat) : Prop where
  good : E = 0 → n ≤ 65536 ∧ T = Ef bs n p0 ∧ Ok bs n p0 k P ∧ P ≤ bs.length ∧ k ≤ P ∧ p0 ≤ bs.length
  bad : E ≠ 0 → E = T
  le : E ≤ 9
theorem Inv.next {bs : List UInt8} {n p0 T k E P v E' P' : Nat} (h : Inv bs n p0 T k E P) (hk : E = 0 → k < 4 * n) (h3 : E = 0 → k ≠ 3 * n) (hN : NextR bs E P v E' P') :
    Inv bs n p0 T (k + 1) E' P' ∧ (E' = 0 → E = 0 ∧ val bs n p0 k = v) := by
  by_cases hE : E = 0
  · have hv := hN.2 hE
    obtain ⟨g1, g2, g3, g4, g5, h0⟩ := h.good hE
    obtain ⟨n1, n2, n3⟩ := g3.next (hk hE) hv
    have he := vr_err hv
    have h3 := h3 hE
    refine ⟨⟨fun h' => ?_, fun h' => by rw [g2]; exact (n1 h').symm, by omega⟩, fun h' => ⟨hE, (n3 h' (fun h => h3 h.1)).2⟩⟩
    have hok := (n3 h' (fun h => h3 h.1)).1
    have hb := hok.bound h0
    exact ⟨g1, g2, hok, hb.2, by omega, h0⟩
  · obtain ⟨_, rfl, rfl⟩ := hN.1 hE
    exact ⟨⟨fun h' => absurd h' hE, h.bad, h.le⟩, fun h' => absurd h' hE⟩
theorem Inv.next3 {bs : List UInt8} {n p0 T k E P v E' P' : Nat} (h : Inv bs n p0 T k E P) (hk : E = 0 → k < 4 * n) (hN : NextR bs E P v E' P') :
    (E' ≠ 0 → Inv bs n p0 T (k + 1) E' P') ∧ (E' = 0 → E = 0) ∧ (E' = 0 → k = 3 * n ∧ v = 0 → Inv bs n p0 T (k + 1) 3 P') ∧ (E' = 0 → ¬ (k = 3 * n ∧ v = 0) → Inv bs n p0 T (k + 1) E' P' ∧ val bs n p0 k = v) := by
  by_cases hE : E = 0
  · have hv := hN.2 hE
    obtain ⟨g1, g2, g3, g4, g5, h0⟩ := h.good hE
    obtain ⟨n1, n2, n3⟩ := g3.next (hk hE) hv
    have he := vr_err hv
    refine ⟨fun h' => ⟨fun h => absurd h h', fun _ => by rw [g2]; exact (n1 h').symm, by omega⟩, fun _ => hE, fun h' hz => ⟨fun h => absurd h (by decide), fun _ => by rw [g2]; exact (n2 h' hz).symm, by decide⟩, fun h' hz => ?_⟩
    obtain ⟨hok, hvv⟩ := n3 h' hz
    have hb := hok.bound h0
    exact ⟨⟨fun _ => ⟨g1, g2, hok, hb.2, by omega, h0⟩, fun h => absurd h' h, by omega⟩, hvv⟩
  · obtain ⟨_, rfl, rfl⟩ := hN.1 hE
    exact ⟨fun _ => ⟨fun h' => absurd h' hE, h.bad, h.le⟩, fun h' => absurd h' hE, fun h' => absurd h' hE, fun h' => absurd h' hE⟩
theorem Inv.re {bs : List UInt8} {n p0 T k k' E P : Nat} (h : Inv bs n p0 T k E P) (hk : E = 0 → k = k') : Inv bs n p0 T k' E P :=
  ⟨fun hE => by rw [← hk hE]; exact h.good hE, h.bad, h.le⟩
section
variable {w w1 w2 : World} {G ge gb ga g c8 : Nat} {A A8 : Option Addr} {c : Nat} {bs : List UInt8} {E P E' P' : Nat} {es : List Ent}
theorem call_step (hg : Gs w G ge gb ga A c bs E P) (ho : OwE w G A8 c8 es) (hc : Chg (fun k => k = ge ∨ k = ga) w w1) : OwE w1 G A8 c8 es ∧ Below G w w1 :=
  ⟨ho.chg hc (by
    rintro k hk (rfl | rfl)
    · exact ho.ne hg.ke (by decide) hk
    · exact ho.ne hg.ka (by decide) hk), hc.to_below hg.hG (by
    rintro k (rfl | rfl)
    · exact hg.he
    · exact hg.ha)⟩
theorem push_step (hg : Gs w1 G ge gb ga A c bs E P) (ho : OwE w1 G A8 c8 es) (hc : Chg (fun k => blk A8 = some k) w1 w2) : Gs w2 G ge gb ga A c bs E P ∧ Below G w1 w2 :=
  ⟨hg.chg hc (ho.ne hg.ke (by decide)) (ho.ne hg.kb (by decide)) (ho.ne hg.ka (by decide)) (fun k hk h => by have := (ho.blk_lt k h).1; omega), hc.to_below hg.hG (fun k h => (ho.blk_lt k h).1)⟩
theorem put_step (hg : Gs w1 G ge gb ga A c bs E P) (ho : OwE w1 G (some ⟨g, 0, none⟩) c8 es) (j : Nat) (hj : j < es.length) (f : Nat) (hf : f < 4) (x : Nat) (y : Ent)
    (hy : (f = 0 ∧ y = { es[j] with id := x }) ∨ (f = 1 ∧ y = { es[j] with off := x }) ∨ (f = 2 ∧ y = { es[j] with len := x }) ∨ (f = 3 ∧ y = { es[j] with run := x })) :
    OwE (w1.setCell ⟨g, j * 4 + f, none⟩ (.int .u64 (x : Int))) G (some ⟨g, 0, none⟩) c8 (es.set j y) ∧ Gs (w1.setCell ⟨g, j * 4 + f, none⟩ (.int .u64 (x : Int))) G ge gb ga A c bs E P ∧ Below G w1 (w1.setCell ⟨g, j * 4 + f, none⟩ (.int .u64 (x : Int))) := by
  have hc : Chg (fun k => k = g) w1 (w1.setCell ⟨g, j * 4 + f, none⟩ (.int .u64 (x : Int))) := (Chg.refl (fun k => k = g) w1).setCell (p := ⟨g, j * 4 + f, none⟩) (.inr rfl) _
  have hgG := (ho.blk_lt g rfl).1
  refine ⟨ho.put j hj f hf x y hy, hg.chg hc ?_ ?_ ?_ (fun k hk h => by omega), hc.to_below hg.hG (by rintro k rfl; exact hgG)⟩
  · rintro rfl; exact ho.ne hg.ke (by decide) rfl
  · rintro rfl; exact ho.ne hg.kb (by decide) rfl
  · rintro rfl; exact ho.ne hg.ka (by decide) rfl
theorem put_can (ho : OwE w1 G (some ⟨g, 0, none⟩) c8 es) (j : Nat) (hj : j < es.length) (f : Nat) (hf : f < 4) : (∃ v, w1.cell? ⟨g, j * 4 + f, none⟩ = some v) ∧ w1.frozen? ⟨g, j * 4 + f, none⟩ = false := by
  refine ⟨?_, ho.free _⟩
  obtain ⟨b, o, hA, _, h0, h1, h2, h3⟩ := ho.rd j hj
  injection hA with hA
  injection hA with e1 e2
  subst e1 e2
  rw [Nat.zero_add] at h0 h1 h2 h3
  rcases (show f = 0 ∨ f = 1 ∨ f = 2 ∨ f = 3 by omega) with rfl | rfl | rfl | rfl
  · exact ⟨_, h0⟩
  · exact ⟨_, h1⟩
  · exact ⟨_, h2⟩
  · exact ⟨_, h3⟩
end
theorem gs_new (w : World) (A : Option Addr) (c : Nat) (bs : List UInt8) (hr : Rd w w.heap.size A bs.length (bs.map bv)) (E P : Nat) :
    Gs (((w.alloc (.cells #[.slice A bs.length c] 22)).alloc (.cells #[.int .i64 (P : Int)] 3)).alloc (.cells #[.int .i64 (E : Int)] 31)) w.heap.size (w.heap.size + 1 + 1) w.heap.size (w.heap.size + 1) A c bs E P ∧
    Below w.heap.size w (((w.alloc (.cells #[.slice A bs.length c] 22)).alloc (.cells #[.int .i64 (P : Int)] 3)).alloc (.cells #[.int .i64 (E : Int)] 31)) := by
  have k1 := Blk.new w 22 #[.slice A bs.length c]
  have k2 := Blk.new (w.alloc (.cells #[.slice A bs.length c] 22)) 3 #[.int .i64 (P : Int)]
  have k3 := Blk.new ((w.alloc (.cells #[.slice A bs.length c] 22)).alloc (.cells #[.int .i64 (P : Int)] 3)) 31 #[.int .i64 (E : Int)]
  have hs1 : (w.alloc (.cells #[.slice A bs.length c] 22)).heap.size = w.heap.size + 1 := by simp
  have hs2 : ((w.alloc (.cells #[.slice A bs.length c] 22)).alloc (.cells #[.int .i64 (P : Int)] 3)).heap.size = w.heap.size + 1 + 1 := by simp
  rw [hs1] at k2
  rw [hs2] at k3
  exact ⟨⟨k3, (k1.alloc _).alloc _, k2.alloc _, by omega, Nat.le_refl _, by omega, ((hr.alloc (Nat.le_refl _) _).alloc (by simp) _).alloc (by simp; omega) _⟩,
    (((Below.refl w.heap.size w).alloc (Nat.le_refl _) _).alloc (by simp) _).alloc (by simp; omega) _⟩
set_option maxRecDepth 100000 in
set_option maxHeartbeats 4000000 in
theorem dget_any (A : Option Addr) (c : Nat) (bs : List UInt8) (w : World) (hr : Rd w w.heap.size A bs.length (bs.map bv)) (hn : bs.length ≤ 1048576) (r : List Ent × Nat) (hR : GetR bs r) :
    Calls Tryz.prog 37 #[.slice A bs.length c] w fun e w' => ∃ A' c', e = .returned (.tuple #[.slice A' r.1.length c', .int .i64 (r.2 : Int)]) ∧ OwE w' w.heap.size A' c' r.1 ∧ Below w.heap.size w w' := by
  obtain ⟨n, p0, e0, hv0, hr1, hr2, hr3, hr4, hr5⟩ := hR
  have hgs := hide (fun E P => gs_new w A c bs hr E P)
  have hvc := hide (fun W (hb : Below w.heap.size w W) => show Calls Tryz.prog 73 #[.slice A bs.length c, .int .i64 0] W _ from varint_any A c bs 0 W w.heap.size (hr.below hb) (Nat.zero_le _) hn n p0 e0 hv0)
  have hnx := hide (fun (W : World) (ge gb ga E P v E' P' : Nat) (h : Gs W w.heap.size ge gb ga A c bs E P) (hP : E = 0 → P ≤ bs.length) (hE : E ≤ 9) (hN : NextR bs E P v E' P') => dnext_any w.heap.size ge gb ga A c bs E P v E' P' W h hP hn hE hN)
  have hba := hide ((Below.refl w.heap.size w).alloc (Nat.le_refl _) (.cells #[.slice A bs.length c] 22))
  have hnb := vr_big hv0
  have heb := vr_err hv0
  obtain ⟨T, hT, hT1, hT0⟩ : ∃ T, (T ≠ 0 → r = ([], T)) ∧ (T = 0 → e0 = 0) ∧ (∀ E P, (e0 ≠ 0 ∧ E = e0 ∧ P = p0) ∨ (e0 = 0 ∧ 65536 < n ∧ E = 9 ∧ P = p0) ∨ (e0 = 0 ∧ n ≤ 65536 ∧ E = 0 ∧ P = p0) → Inv bs n p0 T 0 E P) := by
    by_cases h1 : e0 = 0
    · by_cases h2 : 65536 < n
      · refine ⟨9, fun _ => hr2 h1 h2, fun _ => h1, ?_⟩
        rintro E P (⟨h, _⟩ | ⟨_, _, rfl, rfl⟩ | ⟨_, h, _⟩)
        · omega
        · exact ⟨fun h => absurd h (by decide), fun _ => rfl, by decide⟩
        · omega
      · refine ⟨Ef bs n p0, fun h => hr3 h1 (by omega) h, fun _ => h1, ?_⟩
        rintro E P (⟨h, _⟩ | ⟨_, h, _⟩ | ⟨_, _, rfl, rfl⟩)
        · omega
        · omega
        · have hp : P ≤ bs.length := by
            subst h1
            exact (vr_use (Nat.zero_le _) hv0).2
          exact ⟨fun _ => ⟨by omega, rfl, Ok.zero _ _ _, hp, Nat.zero_le _, hp⟩, fun h => absurd rfl h, by decide⟩
    · refine ⟨e0, fun h => hr1 h, fun h => h, ?_⟩
      rintro E P (⟨h, rfl, rfl⟩ | ⟨h, _⟩ | ⟨h, _⟩)
      · exact ⟨fun h' => absurd h' h, fun _ => rfl, by omega⟩
      · omega
      · omega
  have hp0 : Hid (e0 = 0 → p0 ≤ bs.length) := hide (fun h => by subst h; exact (vr_use (Nat.zero_le _) hv0).2)
  replace hT := hide hT
  replace hT1 := hide hT1
  replace hT0 := hide hT0
  replace hr4 := hide hr4
  replace hr5 := hide hr5
  have heI : (e0 : Int) ≤ 3 := by omega
  have he3 := hide heb.1
  clear hr1 hr2 hr3 hv0 heb
  obtain ⟨L, hl⟩ : ∃ L, bs.length = L := ⟨_, rfl⟩
  obtain ⟨G, hG⟩ : ∃ G, w.heap.size = G := ⟨_, rfl⟩
  rw [hl, hG] at hgs hvc hnx hba
  rw [hG] at hr
  rw [hl, hG]
  have hL20 := hide (show L ≤ 1048576 by omega)
  clear hr hn
  go_enter Tryz.func37, Tryz.ntmps37
  go_upto_region 1 with fail
  iterate 6 go_step
  go_at_call 73
  with_reducible refine (hvc.out _ hba.out).mono ?_
  rintro e w' ⟨rfl, rfl⟩
  dsimp only
  iterate 32 go_step
  have hgs0 := hide (hgs.out e0 p0)
  have hG2 := hide hG
  go_cut [26] from 21 to 26 (fun _ wx => ∃ E P, Hid (Gs wx G (G + 1 + 1) G (G + 1) A c bs E P) ∧ Hid (Below G w wx) ∧ Hid (Inv bs n p0 T 0 E P))
  case first =>
    generalize (((w.alloc (Obj.cells #[Value.slice A L c] 22)).alloc (Obj.cells #[Value.int IntKind.i64 (p0 : Int)] 3)).alloc (Obj.cells #[Value.int IntKind.i64 (e0 : Int)] 31)) = W0 at *
    have d0 := hgs0.out.1.ke.cell 0
    have d1 := hgs0.out.1.ke.free 0
    simp only [List.getElem?_toArray, List.getElem?_cons_zero] at d0
    rcases (show (e0 ≠ 0) ∨ (e0 = 0 ∧ 65536 < n) ∨ (e0 = 0 ∧ n ≤ 65536) by omega) with h1 | ⟨h1, h2⟩ | ⟨h1, h2⟩
    · have hb1 : ((e0 : Int) == 0) = false := by simp; omega
      have hb2 : (e0 == 0) = false := by simp; omega
      have hiv := hide (hT0.out e0 p0 (.inl ⟨h1, rfl, rfl⟩))
      clear hnb h1
      go_wp2
      go_meet
      exact ⟨e0, p0, hide hgs0.out.1, hide hgs0.out.2, hiv⟩
    · have hnI : (65537 : Int) ≤ (n : Int) := by omega
      have hiv := hide (hT0.out 9 p0 (.inr (.inl ⟨h1, h2, rfl, rfl⟩)))
      subst h1
      have hse := hgs0.out.1.setE 9
      have hbe := hide (hgs0.out.2.trans (hse.2.to_below (B := G) (by have := hgs0.out.2.size; have := hG2.out; omega) (by rintro k rfl; omega)))
      replace hse := hide hse
      clear hnb h2
      go_wp2
      go_meet
      exact ⟨9, p0, hide hse.out.1, hbe, hiv⟩
    · have hnI : (n : Int) ≤ 65536 := by omega
      have hiv := hide (hT0.out 0 p0 (.inr (.inr ⟨h1, h2, rfl, rfl⟩)))
      subst h1
      clear hnb h2
      go_wp2
      go_meet
      exact ⟨0, p0, hide hgs0.out.1, hide hgs0.out.2, hiv⟩
  case rest =>
    obtain ⟨E, P, hgv, hb, hiv⟩ := hcut
    clear hgs hvc hba hgs0 hT0
    obtain ⟨f, hf⟩ : ∃ f, val bs n p0 = f := ⟨_, rfl⟩
    rw [hf] at hr4 hr5
    have hfb := hide (show ∀ j, f j ≤ 18446744073709551615 from fun j => by rw [← hf]; exact val_big bs n p0 j)
    have hstep : Hid (∀ k E P v E' P', Inv bs n p0 T k E P → (E = 0 → k < 4 * n) → (E = 0 → k ≠ 3 * n) → NextR bs E P v E' P' → Inv bs n p0 T (k + 1) E' P' ∧ (E' = 0 → E = 0 ∧ f k = v)) := hide (fun k E P v E' P' h1 h2 h3 h4 => by
      rw [← hf]; exact h1.next h2 h3 h4)
    have hstep3 : Hid (∀ k E P v E' P', Inv bs n p0 T k E P → (E = 0 → k < 4 * n) → NextR bs E P v E' P' → (E' ≠ 0 → Inv bs n p0 T (k + 1) E' P') ∧ (E' = 0 → E = 0) ∧ (E' = 0 → k = 3 * n ∧ v = 0 → Inv bs n p0 T (k + 1) 3 P') ∧ (E' = 0 → ¬ (k = 3 * n ∧ v = 0) → Inv bs n p0 T (k + 1) E' P' ∧ f k = v)) := hide (fun k E P v E' P' h1 h2 h4 => by
      rw [← hf]; exact h1.next3 h2 h4)
    replace hf := hide hf
    go_wp2
    go_loopw [8, 9, 10] (fun s8 s9 s10 wr => ∃ (k : Nat) (es : List Ent) (A8 : Option Addr) (c8 last E P : Nat), k ≤ n ∧ k ≤ 1048577 ∧ last ≤ 18446744073709551615 ∧ s8 = .slice A8 es.length c8 ∧ s9 = .int .u64 (last : Int) ∧ s10 = .int .u64 (k : Int) ∧ Hid (OwE wr G A8 c8 es) ∧ Hid (Gs wr G (G + 1 + 1) G (G + 1) A c bs E P) ∧ Hid (Inv bs n p0 T k E P) ∧ Hid (es.length = k) ∧ Hid (E = 0 → es = F1 f k ∧ last = lastId f k) ∧ Hid (Below G w wr)) (fun _ _ s10 _ => n - (intOf s10).toNat)
    case atStart => exact ⟨0, [], none, 0, 0, E, P, by omega, by omega, by omega, rfl, rfl, rfl, hide (OwE.nil _ _), hgv, hiv, hide rfl, hide (fun _ => ⟨rfl, rfl⟩), hb⟩
    case round =>
      obtain ⟨k, es, A8, c8, last, E, P, hk, hk2, hla, rfl, rfl, rfl, ho, hgv, hiv, hel, hform, hb⟩ := hrel
      go_upto_region 8 with fail
      go_cut [34] from 28 to 45 (fun s34 wx => s34 = .bool (decide (k < n ∧ E = 0)) ∧ wx = wr)
      case first =>
        have d0 := hgv.out.ke.cell 0
        simp only [List.getElem?_toArray, List.getElem?_cons_zero] at d0
        have hE9 := hiv.out.le
        have hnb' := hnb
        by_cases hlt : k < n
        · have hkI : (k : Int) < (n : Int) := by omega
          by_cases hE : E = 0
          · have hd : decide (k < n ∧ E = 0) = true := by simp [hlt, hE]
            subst hE
            clear hnb
            go_wp2
            go_meet
            exact ⟨by rw [hd], rfl⟩
          · have hd : decide (k < n ∧ E = 0) = false := by simp [hE]
            have hb1 : ((E : Int) == 0) = false := by simp; omega
            have hb2 : (E == 0) = false := by simp; omega
            clear hnb
            go_wp2
            go_meet
            exact ⟨by rw [hd], rfl⟩
        · have hd : decide (k < n ∧ E = 0) = false := by simp [hlt]
          have hkI : (n : Int) ≤ (k : Int) := by omega
          clear hnb
          go_wp2
          go_meet
          exact ⟨by rw [hd], rfl⟩
      case rest =>
        obtain ⟨rfl, rfl⟩ := hcut
        by_cases hgo : k < n ∧ E = 0
        · obtain ⟨hkn, rfl⟩ := hgo
          obtain ⟨v, E', P', hN⟩ := NextR.ex bs 0 P
          have hgd := hiv.out.good rfl
          have hst := hide (hstep.out k 0 P v E' P' hiv.out (fun _ => by omega) (fun _ => by omega) hN)
          have hvb : v ≤ 18446744073709551615 := vr_big (hN.2 rfl)
          have hcall := hide (hnx.out _ _ _ _ 0 P v E' P' hgv.out (fun _ => by rw [← hl]; exact hgd.2.2.2.1) (by omega) hN)
          obtain ⟨X, hX⟩ : ∃ X, (last + v) % 18446744073709551616 = X := ⟨_, rfl⟩
          have hXI : ((last : Int) + (v : Int)) % 18446744073709551616 = (X : Int) := by omega
          have hXW : IntKind.u64.wrap ((last : Int) + (v : Int)) = (X : Int) := by rw [IntKind.wrap_u64]; omega
          have hXb : X ≤ 18446744073709551615 := by omega
          have hkb : k + 1 ≤ 1048577 := by have := hL20.out; have := hgd.2.2.2.1; have := hgd.2.2.2.2.1; omega
          have hk1I : (k : Int) + 1 ≤ 1048577 := by omega
          have hform2 : Hid (E' = 0 → es ++ [⟨X, 0, 0, 0⟩] = F1 f (k + 1) ∧ X = lastId f (k + 1)) := hide (fun h => by
            obtain ⟨h1, h2⟩ := hform.out rfl
            have h3 := (hst.out.2 h).2
            have h4 := (lastId_next f hfb.out k).1
            rw [← h2, h3, hX] at h4
            rw [F1_succ, ← h1, h4]
            exact ⟨rfl, rfl⟩)
          have hel2 : Hid ((es ++ [(⟨X, 0, 0, 0⟩ : Ent)]).length = k + 1) := hide (by rw [List.length_append, hel.out]; rfl)
          have hkn1 : k + 1 ≤ n := by omega
          have hkI : (k : Int) + 1 ≤ 18446744073709551615 := by omega
          have hel3 := hide (show es.length ≤ 1048576 by have := hel.out; omega)
          rw [show decide (k < n ∧ (0 : Nat) = 0) = true from decide_eq_true ⟨hkn, rfl⟩]
          replace hX := hide hX
          replace hN := hide hN
          replace hgd := hide hgd
          clear hnb hkn hk hvb hform
          go_wp2_with (first
            | (go_at_call 74; (with_reducible refine hcall.out.mono ?_); rintro e w1 ⟨rfl, hgv1, hc1⟩; have hs1 := call_step hgv.out ho.out hc1; have hgv1 := hide hgv1; have ho1 := hide hs1.1; have hb1 := hide (hb.out.trans hs1.2); clear hs1 hc1)
            | (at_builtin; refine wpList_append_ent w1 rfl (.tmp 41) (.tmp 44) rfl rfl ho1.out ⟨X, 0, 0, 0⟩ _ rfl hel3.out hgv1.out.hG ?_; intro A9 c9 w2 ho2 hc2 hn2; have hs2 := push_step hgv1.out ho1.out hc2; have ho2 := hide ho2; have hgv2 := hide hs2.1; have hb2 := hide (hb1.out.trans hs2.2); clear hs2 hc2 hn2))
          go_roundw
          case rel => exact ⟨k + 1, _, A9, c9, X, E', P', hkn1, hkb, hXb, by rw [List.length_append]; rfl, rfl, by go_num, ho2, hgv2, hide hst.out.1, hel2, hform2, hb2⟩
          case measure => simp [intOf] <;> omega
        · have hd : decide (k < n ∧ E = 0) = false := decide_eq_false hgo
          rw [hd]
          have hdone : Hid (E = 0 → k = n) := hide (fun h => by
            rcases Nat.lt_or_ge k n with h1 | h1
            · exact absurd ⟨h1, h⟩ hgo
            · omega)
          have hiv2 := hide (hiv.out.re (k' := n + 0) hdone.out)
          have hform2 : Hid (E = 0 → k = n ∧ es = F2 f n 0) := hide (fun h => ⟨hdone.out h, by rw [(hform.out h).1, F2_zero, hdone.out h]⟩)
          rw [hel.out]
          have hkI : (k : Int) ≤ 1048577 := by omega
          obtain ⟨m, hm⟩ : ∃ m, k = m := ⟨_, rfl⟩
          rw [hm] at hform2 hel hkI ⊢
          clear hm hd hgo hla hiv hform hdone hk hk2
          go_wp2
          go_loopw [48] (fun s48 wr => ∃ (i : Nat) (es : List Ent) (E P : Nat), i ≤ m ∧ s48 = .int .i64 (i : Int) ∧ Hid (es.length = m) ∧ Hid (OwE wr G A8 c8 es) ∧ Hid (Gs wr G (G + 1 + 1) G (G + 1) A c bs E P) ∧ Hid (Inv bs n p0 T (n + i) E P) ∧ Hid (E = 0 → m = n ∧ es = F2 f n i) ∧ Hid (Below G w wr)) (fun s48 _ => m - (intOf s48).toNat)
          case atStart => exact ⟨0, es, E, P, by omega, rfl, hel, ho, hgv, hiv2, hform2, hb⟩
          case round =>
            obtain ⟨i, es, E, P, hi, rfl, hel, ho, hgv, hiv, hform, hb⟩ := hrel
            by_cases hlt : i < m
            · obtain ⟨v, E', P', hN⟩ := NextR.ex bs E P
              have hiI : (i : Int) < (m : Int) := by omega
              have hil : i < es.length := by have := hel.out; omega
              obtain ⟨g, rfl, _⟩ := ho.out.pos (by omega)
              have hst := hide (hstep.out (n + i) E P v E' P' hiv.out (fun h => by have := (hform.out h).1; omega) (fun h => by have := (hform.out h).1; omega) hN)
              have hcall := hide (hnx.out _ _ _ _ E P v E' P' hgv.out (fun h => by rw [← hl]; exact (hiv.out.good h).2.2.2.1) hiv.out.le hN)
              obtain ⟨y, hy⟩ : ∃ y, y = { es[i] with run := v } := ⟨_, rfl⟩
              have hel2 := hide (show (es.set i y).length = m by rw [List.length_set]; exact hel.out)
              have hform2 : Hid (E' = 0 → m = n ∧ es.set i y = F2 f n (i + 1)) := hide (fun h => by
                have h1 := hst.out.2 h
                obtain ⟨h2, h3⟩ := hform.out h1.1
                subst h3
                exact ⟨h2, by rw [hy, ← h1.2]; exact F2_set f n i _⟩)
              have hcan := hide (fun W (h : OwE W G (some ⟨g, 0, none⟩) c8 es) => put_can h i hil 3 (by omega))
              have hput := hide (fun W (h1 : Gs W G (G + 1 + 1) G (G + 1) A c bs E' P') (h2 : OwE W G (some ⟨g, 0, none⟩) c8 es) => put_step h1 h2 i hil 3 (by omega) v y (.inr (.inr (.inr ⟨rfl, hy⟩))))
              replace hy := hide hy
              replace hN := hide hN
              clear hi hform
              go_wp2_with (go_at_call 74; (with_reducible refine hcall.out.mono ?_); rintro e w1 ⟨rfl, hgv1, hc1⟩; have hs1 := call_step hgv.out ho.out hc1; have hs2 := hput.out w1 hgv1 hs1.1; obtain ⟨⟨ov, d8⟩, f8⟩ := hcan.out w1 hs1.1; have hb2 := hide ((hb.out.trans hs1.2).trans hs2.2.2); have hs2 := hide hs2; clear hs1 hc1 hgv1)
              go_roundw
              case rel => exact ⟨i + 1, es.set i y, E', P', by omega, by go_num, hel2, hide hs2.out.1, hide hs2.out.2.1, hide hst.out.1, hform2, hb2⟩
              case measure => simp [intOf] <;> omega
            · have him : Hid (i = m) := hide (by omega)
              have hiv2 := hide (hiv.out.re (k' := 2 * n + 0) (fun h => by have := (hform.out h).1; have := him.out; omega))
              have hform2 : Hid (E = 0 → m = n ∧ es = F3 f n 0) := hide (fun h => by
                obtain ⟨h1, h2⟩ := hform.out h
                exact ⟨h1, by rw [h2, F3_zero, him.out, h1]⟩)
              have him' : m = i := him.out.symm
              clear him hi hlt hiv hform
              subst him'
              go_wp2
              go_loopw [60] (fun s48 wr => ∃ (i : Nat) (es : List Ent) (E P : Nat), i ≤ m ∧ s48 = .int .i64 (i : Int) ∧ Hid (es.length = m) ∧ Hid (OwE wr G A8 c8 es) ∧ Hid (Gs wr G (G + 1 + 1) G (G + 1) A c bs E P) ∧ Hid (Inv bs n p0 T (2 * n + i) E P) ∧ Hid (E = 0 → m = n ∧ es = F3 f n i) ∧ Hid (Below G w wr)) (fun s48 _ => m - (intOf s48).toNat)
              case atStart => exact ⟨0, es, E, P, by omega, rfl, hel, ho, hgv, hiv2, hform2, hb⟩
              case round =>
                obtain ⟨i, es, E, P, hi, rfl, hel, ho, hgv, hiv, hform, hb⟩ := hrel
                by_cases hlt : i < m
                · obtain ⟨v, E', P', hN⟩ := NextR.ex bs E P
                  have hiI : (i : Int) < (m : Int) := by omega
                  have hil : i < es.length := by have := hel.out; omega
                  obtain ⟨g, rfl, _⟩ := ho.out.pos (by omega)
                  have hst := hide (hstep.out (2 * n + i) E P v E' P' hiv.out (fun h => by have := (hform.out h).1; omega) (fun h => by have := (hform.out h).1; omega) hN)
                  have hcall := hide (hnx.out _ _ _ _ E P v E' P' hgv.out (fun h => by rw [← hl]; exact (hiv.out.good h).2.2.2.1) hiv.out.le hN)
                  obtain ⟨y, hy⟩ : ∃ y, y = { es[i] with len := v } := ⟨_, rfl⟩
                  have hel2 := hide (show (es.set i y).length = m by rw [List.length_set]; exact hel.out)
                  have hform2 : Hid (E' = 0 → m = n ∧ es.set i y = F3 f n (i + 1)) := hide (fun h => by
                    have h1 := hst.out.2 h
                    obtain ⟨h2, h3⟩ := hform.out h1.1
                    subst h3
                    exact ⟨h2, by rw [hy, ← h1.2]; exact F3_set f n i _⟩)
                  have hcan := hide (fun W (h : OwE W G (some ⟨g, 0, none⟩) c8 es) => put_can h i hil 2 (by omega))
                  have hput := hide (fun W (h1 : Gs W G (G + 1 + 1) G (G + 1) A c bs E' P') (h2 : OwE W G (some ⟨g, 0, none⟩) c8 es) => put_step h1 h2 i hil 2 (by omega) v y (.inr (.inr (.inl ⟨rfl, hy⟩))))
                  replace hy := hide hy
                  replace hN := hide hN
                  clear hi hform
                  go_wp2_with (go_at_call 74; (with_reducible refine hcall.out.mono ?_); rintro e w1 ⟨rfl, hgv1, hc1⟩; have hs1 := call_step hgv.out ho.out hc1; have hs2 := hput.out w1 hgv1 hs1.1; obtain ⟨⟨ov, d8⟩, f8⟩ := hcan.out w1 hs1.1; have hb2 := hide ((hb.out.trans hs1.2).trans hs2.2.2); have hs2 := hide hs2; clear hs1 hc1 hgv1)
                  go_roundw
                  case rel => exact ⟨i + 1, es.set i y, E', P', by omega, by go_num, hel2, hide hs2.out.1, hide hs2.out.2.1, hide hst.out.1, hform2, hb2⟩
                  case measure => simp [intOf] <;> omega
                · have him : Hid (i = m) := hide (by omega)
                  have hiv2 := hide (hiv.out.re (k' := 3 * n + 0) (fun h => by have := (hform.out h).1; have := him.out; omega))
                  have hform2 : Hid (E = 0 → m = n ∧ es = F4 f n 0) := hide (fun h => by
                    obtain ⟨h1, h2⟩ := hform.out h
                    exact ⟨h1, by rw [h2, F4_zero, him.out, h1]⟩)
                  have him' : m = i := him.out.symm
                  clear him hi hlt hiv hform
                  subst him'
                  go_wp2
                  go_loopw [72] (fun s72 wr => ∃ (i : Nat) (es : List Ent) (E P : Nat), i ≤ m ∧ s72 = .int .i64 (i : Int) ∧ Hid (es.length = m) ∧ Hid (OwE wr G A8 c8 es) ∧ Hid (Gs wr G (G + 1 + 1) G (G + 1) A c bs E P) ∧ Hid (Inv bs n p0 T (3 * n + i) E P) ∧ Hid (E = 0 → m = n ∧ es = F4 f n i) ∧ Hid (Below G w wr)) (fun s72 _ => m - (intOf s72).toNat)
                  case atStart => exact ⟨0, es, E, P, by omega, rfl, hel, ho, hgv, hiv2, hform2, hb⟩
                  case round =>
                    obtain ⟨i, es, E, P, hi, rfl, hel, ho, hgv, hiv, hform, hb⟩ := hrel
                    by_cases hlt : i < m
                    · obtain ⟨v, E', P', hN⟩ := NextR.ex bs E P
                      have hiI : (i : Int) < (m : Int) := by omega
                      have hil : i < es.length := by have := hel.out; omega
                      obtain ⟨g, rfl, _⟩ := ho.out.pos (by omega)
                      have hst := hide (hstep3.out (3 * n + i) E P v E' P' hiv.out (fun h => by have := (hform.out h).1; omega) hN)
                      have hcall := hide (hnx.out _ _ _ _ E P v E' P' hgv.out (fun h => by rw [← hl]; exact (hiv.out.good h).2.2.2.1) hiv.out.le hN)
                      have hE9 : E' ≤ 9 := by
                        by_cases h : E = 0
                        · have := (vr_err (hN.2 h)).1; omega
                        · have := (hN.1 h).2.1; have := hiv.out.le; omega
                      have hvb : v ≤ 18446744073709551615 := by
                        by_cases h : E = 0
                        · exact vr_big (hN.2 h)
                        · have := (hN.1 h).1; omega
                      replace hN := hide hN
                      replace hi := hide hi
                      rcases (show E' ≠ 0 ∨ (E' = 0 ∧ 0 < v) ∨ (E' = 0 ∧ v = 0 ∧ i = 0) ∨ (E' = 0 ∧ v = 0 ∧ 0 < i) by omega) with h1 | ⟨h1, h2⟩ | ⟨h1, h2, h3⟩ | ⟨h1, h2, h3⟩
                      · have hst2 := hide (hst.out.1 h1)
                        have hform2 : Hid (E' = 0 → m = n ∧ es = F4 f n (i + 1)) := hide (fun h => absurd h h1)
                        have hb1 : ((E' : Int) == 0) = false := by simp; omega
                        have hb2 : (E' == 0) = false := by simp; omega
                        clear h1 hE9 hvb hst
                        go_wp2_with (go_at_call 74; (with_reducible refine hcall.out.mono ?_); rintro e w1 ⟨rfl, hgv1, hc1⟩; have hs1 := call_step hgv.out ho.out hc1; have d0 := hgv1.ke.cell 0; simp only [List.getElem?_toArray, List.getElem?_cons_zero] at d0; have hgv1 := hide hgv1; have hbb := hide (hb.out.trans hs1.2); have hs1 := hide hs1.1; clear hc1)
                        go_roundw
                        case rel => exact ⟨i + 1, es, E', P', by omega, by go_num, hel, hs1, hgv1, hst2, hform2, hbb⟩
                        case measure => simp [intOf] <;> omega
                      · subst h1
                        obtain ⟨q1, q2⟩ := hst.out.2.2.2 rfl (fun h => by omega)
                        have hst2 := hide q1
                        obtain ⟨u, hu⟩ : ∃ u, v - 1 = u := ⟨_, rfl⟩
                        have huI : ((v : Int) - 1) % 18446744073709551616 = (u : Int) := by omega
                        have huW : IntKind.u64.wrap ((v : Int) - 1) = (u : Int) := by rw [IntKind.wrap_u64]; omega
                        have hvI : (1 : Int) ≤ (v : Int) := by omega
                        obtain ⟨y, hy⟩ : ∃ y, y = { es[i] with off := u } := ⟨_, rfl⟩
                        have hel2 := hide (show (es.set i y).length = m by rw [List.length_set]; exact hel.out)
                        have hform2 : Hid ((0 : Nat) = 0 → m = n ∧ es.set i y = F4 f n (i + 1)) := hide (fun _ => by
                          obtain ⟨g2, g3⟩ := hform.out (hst.out.2.1 rfl)
                          subst g3
                          have hgo : gof f n i = u := by
                            cases i with
                            | zero => show f (3 * n) - 1 = u; rw [← hu, ← q2]; rfl
                            | succ q => rw [gof, q2, if_neg (by omega)]; exact hu
                          exact ⟨g2, by rw [hy, ← hgo]; exact F4_set f n i _⟩)
                        have hcan := hide (fun W (h : OwE W G (some ⟨g, 0, none⟩) c8 es) => put_can h i hil 1 (by omega))
                        have hput := hide (fun W (h1 : Gs W G (G + 1 + 1) G (G + 1) A c bs 0 P') (h2 : OwE W G (some ⟨g, 0, none⟩) c8 es) => put_step h1 h2 i hil 1 (by omega) u y (.inr (.inl ⟨rfl, hy⟩)))
                        replace hy := hide hy
                        replace hu := hide hu
                        clear h2 hE9 hvb hform hst q1 q2
                        go_wp2_with (go_at_call 74; (with_reducible refine hcall.out.mono ?_); rintro e w1 ⟨rfl, hgv1, hc1⟩; have hs1 := call_step hgv.out ho.out hc1; have d0 := hgv1.ke.cell 0; simp only [List.getElem?_toArray, List.getElem?_cons_zero] at d0; have hs2 := hput.out w1 hgv1 hs1.1; obtain ⟨⟨ov, d8⟩, f8⟩ := hcan.out w1 hs1.1; have hbb := hide ((hb.out.trans hs1.2).trans hs2.2.2); have hs2 := hide hs2; clear hs1 hc1 hgv1)
                        go_roundw
                        case rel => exact ⟨i + 1, es.set i y, 0, P', by omega, by go_num, hel2, hide hs2.out.1, hide hs2.out.2.1, hst2, hide (fun _ => hform2.out (by trivial)), hbb⟩
                        case measure => simp [intOf] <;> omega
                      · subst h1 h2 h3
                        have hst2 := hide (hst.out.2.2.1 rfl ⟨rfl, rfl⟩)
                        have hform2 : Hid ((3 : Nat) = 0 → m = n ∧ es = F4 f n (0 + 1)) := hide (fun h => absurd h (by decide))
                        clear hE9 hvb hst hform
                        go_wp2_with (go_at_call 74; (with_reducible refine hcall.out.mono ?_); rintro e w1 ⟨rfl, hgv1, hc1⟩; have hs1 := call_step hgv.out ho.out hc1; have d0 := hgv1.ke.cell 0; simp only [List.getElem?_toArray, List.getElem?_cons_zero] at d0; have f0 := hgv1.ke.free 0; have hs2 := hgv1.setE 3; have hbb := hide ((hb.out.trans hs1.2).trans (hs2.2.to_below hgv1.hG (by rintro k rfl; omega))); have hoo := hide (hs1.1.chg hs2.2 (by rintro k hk rfl; exact hs1.1.ne hgv1.ke (by decide) hk)); have hs2 := hide hs2.1; clear hs1 hc1 hgv1)
                        go_roundw
                        case rel => exact ⟨1, es, 3, P', by omega, by go_num, hel, hoo, hs2, hst2, hform2, hbb⟩
                        case measure => simp [intOf] <;> omega
                      · subst h1 h2
                        obtain ⟨q, rfl⟩ : ∃ q, i = q + 1 := ⟨i - 1, by omega⟩
                        obtain ⟨q1, q2⟩ := hst.out.2.2.2 rfl (fun h => by omega)
                        have hst2 := hide q1
                        have hql : q < es.length := by omega
                        have hqI : (q : Int) < (m : Int) := by omega
                        have hqI0 : (0 : Int) ≤ (q : Int) := by omega
                        have hwq : IntKind.i64.wrap (q : Int) = (q : Int) := by rw [IntKind.wrap_i64]; omega
                        obtain ⟨⟨xi, xo, xl, xr⟩, hxe⟩ : ∃ x, es[q] = x := ⟨_, rfl⟩
                        obtain ⟨u, hu⟩ : ∃ u, (xo + xl) % 18446744073709551616 = u := ⟨_, rfl⟩
                        have huI : ((xo : Int) + (xl : Int)) % 18446744073709551616 = (u : Int) := by omega
                        have huW : IntKind.u64.wrap ((xo : Int) + (xl : Int)) = (u : Int) := by rw [IntKind.wrap_u64]; omega
                        obtain ⟨y, hy⟩ : ∃ y, y = { es[q + 1] with off := u } := ⟨_, rfl⟩
                        have hel2 := hide (show (es.set (q + 1) y).length = m by rw [List.length_set]; exact hel.out)
                        have hform2 : Hid ((0 : Nat) = 0 → m = n ∧ es.set (q + 1) y = F4 f n (q + 1 + 1)) := hide (fun _ => by
                          obtain ⟨g2, g3⟩ := hform.out (hst.out.2.1 rfl)
                          subst g3
                          obtain ⟨p1, p2⟩ := F4_prev f n (q + 1) q rfl hql
                          rw [hxe] at p1 p2
                          simp only at p1 p2
                          have hgo : gof f n (q + 1) = u := by
                            rw [gof, q2, if_pos rfl, ← p1, ← p2]; exact hu
                          exact ⟨g2, by rw [hy, ← hgo]; exact F4_set f n (q + 1) _⟩)
                        have hcan := hide (fun W (h : OwE W G (some ⟨g, 0, none⟩) c8 es) => put_can h (q + 1) hil 1 (by omega))
                        have hprv : Hid (∀ W, OwE W G (some ⟨g, 0, none⟩) c8 es → W.cell? ⟨g, q * 4 + 1, none⟩ = some (.int .u64 (xo : Int)) ∧ W.cell? ⟨g, q * 4 + 2, none⟩ = some (.int .u64 (xl : Int))) := hide (fun W h => by
                          obtain ⟨b, o, hA, _, _, h1, h2, _⟩ := h.rd q hql
                          injection hA with hA
                          injection hA with e1 e2
                          subst e1 e2
                          rw [hxe, Nat.zero_add] at h1 h2
                          exact ⟨h1, h2⟩)
                        have hput := hide (fun W (h1 : Gs W G (G + 1 + 1) G (G + 1) A c bs 0 P') (h2 : OwE W G (some ⟨g, 0, none⟩) c8 es) => put_step h1 h2 (q + 1) hil 1 (by omega) u y (.inr (.inl ⟨rfl, hy⟩)))
                        replace hy := hide hy
                        replace hu := hide hu
                        clear hE9 hvb hform hst q1 q2 hxe
                        go_upto_region 26 with (go_at_call 74; (with_reducible refine hcall.out.mono ?_); rintro e w1 ⟨rfl, hgv1, hc1⟩; have hs1 := call_step hgv.out ho.out hc1; have d0 := hgv1.ke.cell 0; simp only [List.getElem?_toArray, List.getElem?_cons_zero] at d0; have hs2 := hput.out w1 hgv1 hs1.1; obtain ⟨⟨ov, d8⟩, f8⟩ := hcan.out w1 hs1.1; obtain ⟨d6, d7⟩ := hprv.out w1 hs1.1; have hbb := hide ((hb.out.trans hs1.2).trans hs2.2.2); have hs2 := hide hs2; clear hs1 hc1 hgv1)
                        go_region
                        all_goals go_wp2
                        all_goals go_roundw
                        all_goals first
                          | exact ⟨q + 1 + 1, es.set (q + 1) y, 0, P', by omega, by go_num, hel2, hide (hs2.out.1.chg (Chg.refl (fun _ => False) _).drew (fun _ _ h => h)), hide (hs2.out.2.1.chg (Chg.refl (fun _ => False) _).drew (fun h => h) (fun h => h) (fun h => h) (fun _ _ h => h)), hst2, hide (fun _ => hform2.out (by trivial)), hide (hbb.out.trans ⟨rfl, rfl, rfl, Nat.le_refl _, fun _ _ => rfl⟩)⟩
                          | (simp [intOf]; done)
                          | (simp [intOf]; omega)
                    · have him' : m = i := by omega
                      clear hi hlt
                      subst him'
                      have hge := hide hgv.out.ke
                      have d0 := hgv.out.ke.cell 0
                      have d1 := hgv.out.kb.cell 0
                      have d2 := hgv.out.ka.cell 0
                      have f0 := hgv.out.ke.free 0
                      simp only [List.getElem?_toArray, List.getElem?_cons_zero] at d0 d1 d2
                      by_cases hE : E = 0
                      · subst hE
                        obtain ⟨g1, g2, g3, g4, _, _⟩ := hiv.out.good rfl
                        obtain ⟨rfl, rfl⟩ := hform.out rfl
                        rw [show 3 * m + m = 4 * m by omega] at g3
                        obtain ⟨q1, q2⟩ := g3.done
                        have he0 := hT1.out (g2.trans q1)
                        have hr4 := hide (hr4.out he0 g1 q1)
                        have hr5 := hide (hr5.out he0 g1 q1)
                        rw [q2, hl] at hr4 hr5
                        rw [hl] at g4
                        rw [F4_full] at ho hel
                        have hbg := hide (gents_big f m hfb.out)
                        have hm16 := hide g1
                        clear hT hT1 g1 g2 g3 q1 q2 hstep hstep3 hnx hform hiv he3 heI
                        by_cases hPL : P < L
                        · have hPI : (P : Int) < (L : Int) := by omega
                          have hr := hr4.out (.inl hPL)
                          have hb2 := hide (hb.out.trans ((hgv.out.setE 3).2.to_below hgv.out.hG (by rintro k rfl; omega)))
                          subst hr
                          go_wp2
                          go_quiet (fail)
                          go_wp2
                          go_ret2
                          exact ⟨none, 0, rfl, OwE.nil _ _, hb2.out.trans ⟨rfl, rfl, rfl, Nat.le_refl _, fun _ _ => rfl⟩⟩
                        · have hPe : P = L := by omega
                          subst hPe
                          obtain ⟨v, hv⟩ : ∃ v, (RightE (gents f m) ↔ v = true) := by
                            by_cases h : RightE (gents f m)
                            · exact ⟨true, fun _ => rfl, fun _ => h⟩
                            · exact ⟨false, fun h' => absurd h' h, fun h' => absurd h' (by decide)⟩
                          have hrt := hide (dright_any A8 c8 (gents f m) _ _ ho.out.rd (Nat.le_refl _) hbg.out (by rw [hel.out]; exact Nat.le_trans hm16.out (by decide)) v hv)
                          rw [hel.out] at hrt
                          replace hv := hide hv
                          cases v with
                          | false =>
                            have hr := hr4.out (.inr (fun h => absurd (hv.out.1 h) (by decide)))
                            have hbb := hide (fun W (h : Below wr.heap.size wr W) => (hgv.out.below h).setE 3)
                            have hgG := hide hgv.out.hG
                            subst hr
                            go_wp2_with (go_at_call 60; (with_reducible refine hrt.out.mono ?_); rintro e w1 ⟨rfl, hb1⟩; have h1 := hgv.out.below hb1; have d0 := h1.ke.cell 0; simp only [List.getElem?_toArray, List.getElem?_cons_zero] at d0; have f0 := h1.ke.free 0; have hb2 := hide ((hb.out.trans (hb1.mono hgG.out)).trans ((h1.setE 3).2.to_below h1.hG (by rintro k rfl; omega))); clear h1; replace hb1 := hide hb1)
                            go_quiet (fail)
                            go_wp2
                            go_ret2
                            exact ⟨none, 0, rfl, OwE.nil _ _, hb2.out.trans ⟨rfl, rfl, rfl, Nat.le_refl _, fun _ _ => rfl⟩⟩
                          | true =>
                            have hr := hr5.out rfl (hv.out.2 rfl)
                            have hgG := hide hgv.out.hG
                            subst hr
                            go_wp2_with (go_at_call 60; (with_reducible refine hrt.out.mono ?_); rintro e w1 ⟨rfl, hb1⟩; have h1 := hgv.out.below hb1; have d0 := h1.ke.cell 0; simp only [List.getElem?_toArray, List.getElem?_cons_zero] at d0; have f0 := h1.ke.free 0; have hb2 := hide (hb.out.trans (hb1.mono hgG.out)); have ho2 := hide (ho.out.below hb1); clear h1; replace hb1 := hide hb1)
                            go_ret2
                            exact ⟨A8, c8, by rw [hel.out]; rfl, ho2.out, hb2.out⟩
                      · have hTT := hiv.out.bad hE
                        have hr := hT.out (by omega)
                        rw [← hTT] at hr
                        subst hr
                        have hb1 : ((E : Int) == 0) = false := by simp; omega
                        have hb2 : (E == 0) = false := by simp; omega
                        clear hT hT1 hTT hstep hstep3 hnx hform hiv he3 heI hr4 hr5
                        go_wp2
                        go_quiet (fail)
                        go_wp2
                        go_ret2
                        exact ⟨none, 0, rfl, OwE.nil _ _, hb.out.trans ⟨rfl, rfl, rfl, Nat.le_refl _, fun _ _ => rfl⟩⟩
end Go.Proofs.YtaapjampmnanmaaGreat
namespace Go.Proofs.YtaapjampmnanmaaGreat
open Go.RowKit
section
variable {w W wr : World} {G s : Nat} {A12 : Option Addr} {c12 : Nat} {es : List Ent} {A7 : Option Addr} {n4 c7 : Nat} {V : List Nat} {x : Ent}
end
end Go.Proofs.YtaapjampmnanmaaGreat
namespace Go.Proofs.YtaapjampmnanmaaGreat
open Go.RowKit
theorem cut_ex (es : List Ent) (id : Nat) (h : Asc es) : ∃ i, CutAt es id i := by
  have key : ∀ m, m ≤ es.length → ∃ i, i ≤ m ∧ (∀ j (hj : j < es.length), j < i → es[j].id ≤ id) ∧ ∀ j (hj : j < es.length), i ≤ j → j < m → id < es[j].id := by
    intro m
    induction m with
    | zero => intro _; exact ⟨0, Nat.le_refl _, fun _ _ h => absurd h (Nat.not_lt_zero _), fun _ _ _ h => absurd h (Nat.not_lt_zero _)⟩
    | succ m ih =>
      intro hm
      obtain ⟨i, h1, h2, h3⟩ := ih (by omega)
      by_cases hle : es[m].id ≤ id
      · refine ⟨m + 1, Nat.le_refl _, fun j hj hjm => Nat.le_trans (h j m hj (by omega) (by omega)) hle, fun j _ h4 h5 => by omega⟩
      · refine ⟨i, by omega, h2, fun j hj h4 h5 => ?_⟩
        by_cases e : j = m
        · subst e; omega
        · exact h3 j hj h4 (by omega)
  obtain ⟨i, h1, h2, h3⟩ := key es.length (Nat.le_refl _)
  exact ⟨i, h1, h2, fun j hj h4 => h3 j hj h4 hj⟩
end Go.Proofs.YtaapjampmnanmaaGreat
namespace Go.Proofs.YtaapjampmnanmaaGreat
open Go.RowKit
theorem u8_nat (x : Nat) (h : x < 256) : (UInt8.ofNat x).toNat = x := by
  simp [UInt8.toNat_ofNat']
  omega
theorem pow7 (i : Nat) : 2 ^ (7 * (i + 1)) = 128 * 2 ^ (7 * i) := by
  rw [Nat.mul_add, Nat.pow_add, Nat.mul_comm]
theorem sm_next {V i : Nat} (h : V ≤ 18446744073709551615 / 128 ^ i) : V / 128 ≤ 18446744073709551615 / 128 ^ (i + 1) := by
  rw [Nat.pow_succ, ← Nat.div_div_eq_div_mul]
  exact Nat.div_le_div_right h
theorem vrS_vb (post : List UInt8) (k i a V : Nat) (hk : k + i = 9) (hV : V ≤ 18446744073709551615 / 128 ^ i) : vrS (vbF k V ++ post) i a = (a + V * 2 ^ (7 * i), i + (vbF k V).length, 0) := by
  induction k generalizing i a V with
  | zero =>
    obtain rfl : i = 9 := by omega
    have h1 : V ≤ 1 := hV
    have h2 : (UInt8.ofNat V).toNat = V := u8_nat V (by omega)
    show vrS (UInt8.ofNat V :: post) 9 a = _
    rw [vrS, h2, if_neg (by omega), if_pos (by omega), Nat.mod_eq_of_lt (by omega)]
    rfl
  | succ k ih =>
    by_cases h : V < 128
    · have h2 : (UInt8.ofNat V).toNat = V := u8_nat V (by omega)
      rw [vbF, if_pos h]
      show vrS (UInt8.ofNat V :: post) i a = _
      rw [vrS, h2, if_neg (by omega), if_pos h, Nat.mod_eq_of_lt h]
      rfl
    · have h2 : (UInt8.ofNat (V % 128 + 128)).toNat = V % 128 + 128 := u8_nat _ (by omega)
      rw [vbF, if_neg h]
      show vrS (UInt8.ofNat (V % 128 + 128) :: (vbF k (V / 128) ++ post)) i a = _
      rw [vrS, h2, if_neg (by omega), if_neg (by omega), ih (i + 1) _ (V / 128) (by omega) (sm_next hV)]
      have h3 : (V % 128 + 128) % 128 = V % 128 := by omega
      have h4 : a + V % 128 * 2 ^ (7 * i) + V / 128 * 2 ^ (7 * (i + 1)) = a + V * 2 ^ (7 * i) := by
        rw [pow7, ← Nat.mul_assoc, Nat.add_assoc, ← Nat.add_mul]
        congr 2
        omega
      rw [h3, h4, List.length_cons]
      congr 2
      omega
theorem vr_vb (pre post : List UInt8) (v : Nat) (hv : v ≤ 18446744073709551615) : vr (pre ++ (vb v ++ post)) pre.length = (v, pre.length + (vb v).length, 0) := by
  have h : vrS ((pre ++ (vb v ++ post)).drop pre.length) 0 0 = (v, (vb v).length, 0) := by
    rw [List.drop_left]
    have := vrS_vb post 9 0 0 v rfl (by simpa using hv)
    simpa [vb] using this
  rw [vr_eq h, if_pos rfl]
/-! ### The numbers of a directory -/
def gv (es : List Ent) (j : Nat) : Nat :=
  if j < es.length then fId es j else if j < 2 * es.length then fRun es (j - es.length) else if j < 3 * es.length then fLen es (j - 2 * es.length) else fOff es (j - 3 * es.length)
theorem partB_add (f : Nat → Nat) (a b : Nat) : partB f (a + b) = partB f a ++ partB (fun j => f (a + j)) b := by
  induction b with
  | zero => simp [partB]
  | succ b ih => rw [show a + (b + 1) = (a + b) + 1 from rfl, partB_succ, ih, partB_succ, List.append_assoc]
theorem partB_cong {f g : Nat → Nat} (k : Nat) (h : ∀ j, j < k → f j = g j) : partB f k = partB g k := by
  induction k with
  | zero => rfl
  | succ k ih => rw [partB_succ, partB_succ, ih (fun j hj => h j (by omega)), h k (by omega)]
theorem putB_gv (es : List Ent) : putB es = vb es.length ++ partB (gv es) (4 * es.length) := by
  obtain ⟨n, hn⟩ : ∃ n, es.length = n := ⟨_, rfl⟩
  rw [putB, hn, show 4 * n = n + n + n + n by omega, partB_add, partB_add, partB_add]
  have h1 : partB (fId es) n = partB (gv es) n := partB_cong n (fun j hj => by rw [gv, hn, if_pos hj])
  have h2 : partB (fRun es) n = partB (fun j => gv es (n + j)) n := partB_cong n (fun j hj => by rw [gv, hn, if_neg (by omega), if_pos (by omega), Nat.add_sub_cancel_left])
  have h3 : partB (fLen es) n = partB (fun j => gv es (n + n + j)) n := partB_cong n (fun j hj => by rw [gv, hn, if_neg (by omega), if_neg (by omega), if_pos (by omega), show n + n + j - 2 * n = j by omega])
  have h4 : partB (fOff es) n = partB (fun j => gv es (n + n + n + j)) n := partB_cong n (fun j hj => by rw [gv, hn, if_neg (by omega), if_neg (by omega), if_neg (by omega), show n + n + n + j - 3 * n = j by omega])
  rw [h1, h2, h3, h4]
  simp only [List.append_assoc]
theorem putB_len (es : List Ent) : (putB es).length ≤ 10 + 40 * es.length := by
  rw [putB_gv, List.length_append]
  have h1 := vb_len es.length
  have h2 := partB_len (gv es) (4 * es.length)
  omega
section
variable {es : List Ent}
theorem dright_ok (h : RightE es) (j : Nat) (hj : j < es.length) : (ent es j).ok := by
  rw [ent_at es j hj]
  exact h.2.2.1 j hj
theorem right_next (h : RightE es) (j : Nat) (hj : j + 1 < es.length) : (ent es j).next (ent es (j + 1)) := by
  rw [ent_at es j (by omega), ent_at es (j + 1) hj]
  exact h.2.2.2 j hj
theorem gv_big (h : RightE es) (j : Nat) (hj : j < 4 * es.length) : gv es j ≤ 18446744073709551615 := by
  unfold gv
  split
  · have h1 := dright_ok h j (by assumption)
    unfold Ent.ok at h1
    unfold fId
    omega
  · split
    · have h1 := dright_ok h (j - es.length) (by omega)
      unfold Ent.ok at h1
      unfold fRun
      omega
    · split
      · have h1 := dright_ok h (j - 2 * es.length) (by omega)
        unfold Ent.ok at h1
        unfold fLen
        omega
      · have h1 := dright_ok h (j - 3 * es.length) (by omega)
        unfold Ent.ok at h1
        unfold fOff
        split <;> omega
theorem gv_zero (h : RightE es) : gv es (3 * es.length) ≠ 0 := by
  have := h.1
  rw [gv, if_neg (by omega), if_neg (by omega), if_neg (by omega), Nat.sub_self, fOff, if_neg (by omega)]
  omega
theorem gid_of (h : RightE es) (f : Nat → Nat) (hf : ∀ j, j < 4 * es.length → f j = gv es j) (j : Nat) (hj : j < es.length) : gid f j = (ent es j).id := by
  induction j with
  | zero =>
    rw [gid, hf 0 (by omega), gv, if_pos hj, fId, prevId, if_pos rfl]
    omega
  | succ j ih =>
    have h1 := right_next h j hj
    have h2 := dright_ok h (j + 1) hj
    unfold Ent.next at h1
    unfold Ent.ok at h2
    rw [gid, ih (by omega), hf (j + 1) (by omega), gv, if_pos hj, fId, prevId, if_neg (by omega), Nat.add_sub_cancel]
    omega
theorem gof_of (h : RightE es) (f : Nat → Nat) (hf : ∀ j, j < 4 * es.length → f j = gv es j) (j : Nat) (hj : j < es.length) : gof f es.length j = (ent es j).off := by
  have ho : ∀ j, j < es.length → f (3 * es.length + j) = fOff es j := by
    intro j hj
    rw [hf _ (by omega), gv, if_neg (by omega), if_neg (by omega), if_neg (by omega), Nat.add_sub_cancel_left]
  have hl : ∀ j, j < es.length → f (2 * es.length + j) = fLen es j := by
    intro j hj
    rw [hf _ (by omega), gv, if_neg (by omega), if_neg (by omega), if_pos (by omega), Nat.add_sub_cancel_left]
  induction j with
  | zero =>
    have h1 : f (3 * es.length) = fOff es 0 := ho 0 hj
    rw [gof, h1, fOff, if_neg (by omega)]
    omega
  | succ j ih =>
    have h1 := dright_ok h (j + 1) hj
    have h2 := dright_ok h j (by omega)
    unfold Ent.ok at h1 h2
    rw [gof, ih (by omega), ho (j + 1) hj, hl j (by omega), fLen]
    unfold fOff
    rw [Nat.add_sub_cancel]
    by_cases hc : 0 < j + 1 ∧ (ent es (j + 1)).off = (ent es j).off + (ent es j).len
    · rw [if_pos hc, if_pos rfl, hc.2]
      omega
    · rw [if_neg hc, if_neg (by omega)]
      omega
theorem gents_of (h : RightE es) (f : Nat → Nat) (hf : ∀ j, j < 4 * es.length → f j = gv es j) : gents f es.length = es := by
  apply List.ext_getElem (gents_len f es.length)
  intro j h1 h2
  rw [gents_at, ← ent_at es j h2, gent, gid_of h f hf j h2, gof_of h f hf j h2, hf (2 * es.length + j) (by omega), hf (es.length + j) (by omega)]
  rw [gv, if_neg (by omega), if_neg (by omega), if_pos (by omega), Nat.add_sub_cancel_left, gv, if_neg (by omega), if_pos (by omega), Nat.add_sub_cancel_left]
  rfl
theorem rdTo_put (h : RightE es) (k : Nat) (hk : k ≤ 4 * es.length) : rdTo (putB es) es.length (vb es.length).length k = ((List.range k).map (gv es), (vb es.length ++ partB (gv es) k).length, 0) := by
  induction k with
  | zero => simp [rdTo, partB]
  | succ k ih =>
    have hs : putB es = (vb es.length ++ partB (gv es) k) ++ (vb (gv es k) ++ partB (fun j => gv es (k + 1 + j)) (4 * es.length - (k + 1))) := by
      rw [putB_gv, show 4 * es.length = (k + 1) + (4 * es.length - (k + 1)) by omega, partB_add, partB_succ]
      simp only [List.append_assoc, show k + 1 + (4 * es.length - (k + 1)) - (k + 1) = 4 * es.length - (k + 1) by omega]
    have hv := vr_vb (vb es.length ++ partB (gv es) k) (partB (fun j => gv es (k + 1 + j)) (4 * es.length - (k + 1))) (gv es k) (gv_big h k (by omega))
    rw [← hs] at hv
    rw [rdTo, ih (by omega), rdStep]
    simp only [ne_eq, not_true, if_false, hv, List.length_map, List.length_range]
    rw [if_neg (fun hc => gv_zero h (by rw [← hc.1]; exact hc.2)), List.range_succ, List.map_append, partB_succ]
    simp only [List.length_append, List.map_cons, List.map_nil, Nat.add_assoc]
theorem getR_put (h : RightE es) : GetR (putB es) (es, 0) := by
  have h0 : vr (putB es) 0 = (es.length, (vb es.length).length, 0) := by
    have := vr_vb [] (partB (gv es) (4 * es.length)) es.length (by have := h.2.1; omega)
    rw [List.nil_append, ← putB_gv] at this
    simpa using this
  have hr := rdTo_put h (4 * es.length) (Nat.le_refl _)
  have hE : Ef (putB es) es.length (vb es.length).length = 0 := by rw [Ef, hr]
  have hp : pf (putB es) es.length (vb es.length).length = (putB es).length := by rw [pf, hr, ← putB_gv]
  have hg : gents (val (putB es) es.length (vb es.length).length) es.length = es := gents_of h _ (fun j hj => by
    rw [val, hr]
    simp [List.getD_eq_getElem?_getD, hj])
  refine ⟨es.length, (vb es.length).length, 0, h0, fun h => absurd rfl h, fun _ h' => ?_, fun _ _ h' => absurd hE h', fun _ _ _ h' => ?_, fun _ _ _ _ _ => by rw [hg]⟩
  · have := h.2.1
    omega
  · rw [hp, hg] at h'
    rcases h' with h' | h'
    · omega
    · exact absurd h h'
end
end Go.Proofs.YtaapjampmnanmaaGreat
