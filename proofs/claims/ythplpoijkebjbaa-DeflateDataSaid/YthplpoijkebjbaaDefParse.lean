/- Layer 5 (deflate): Parse, by the program and by the document. The conditions: where the bytes lie, and how many they are. -/
import Derived.Test.YthplpoijkebjbaaDefFix
import Derived.Test.YthplpoijkebjbaaPair
namespace Go.Proofs.Ythplpoijkebjbaa
open Go.RowKit Go.Shelf
set_option linter.unusedVariables false

attribute [local go_sem] Oper.semAt_some

theorem elem_match : Elem2 Try.prog 41 38 := ⟨Try.underlying41, by kernel_rfl⟩
theorem elem_rmatch : Elem2 Try.prog 43 45 := ⟨Try.underlying43, by kernel_rfl⟩
theorem OwM.calm {W W' : World} {base n c : Nat} {e : TypeId} {A : Option Addr} {ts : List (Nat × Nat)} (h : OwM W base e A n c ts) (hc : Calm W W') : OwM W' base e A n c ts := by
  refine h.chg hc (fun g hg => ?_)
  obtain ⟨cur, hh⟩ := h.row hg
  exact calm_cells hh
/-- The list so far, and where it lies. -/
def ParAt (B G : Nat) (ts : List (Nat × Nat)) (W : World) : Prop := ∃ A c, Blk W G 41 #[.slice A ts.length c] ∧ OwM W B 38 A ts.length c ts
theorem ParAt.calm {B G : Nat} {ts : List (Nat × Nat)} {W W' : World} (h : ParAt B G ts W) (hc : Calm W W') : ParAt B G ts W' := by
  obtain ⟨A, c, h1, h2⟩ := h
  exact ⟨A, c, h1.calm hc, h2.calm hc⟩
theorem ParAt.below {B G : Nat} {ts : List (Nat × Nat)} {W W' : World} (h : ParAt B G ts W) (hb : Below W.heap.size W W') : ParAt B G ts W' := by
  obtain ⟨A, c, h1, h2⟩ := h
  exact ⟨A, c, h1.below hb h1.lt, h2.below hb⟩
theorem ParAt.hang {B G : Nat} {ts : List (Nat × Nat)} {W : World} (h : ParAt B G ts W) (hG : B ≤ G) (k : Nat) (hk : Hang G W k) : B ≤ k ∧ k < W.heap.size := by
  obtain ⟨A, c, h1, h2⟩ := h
  rcases hk with rfl | ⟨A', n', c', hc, hb⟩
  · exact ⟨hG, h1.lt⟩
  · have h3 := h1.cell 0
    rw [hc] at h3
    simp at h3
    rw [h3.1] at hb
    exact h2.blk_lt k hb
theorem ParAt.hang_iff {B G : Nat} {ts : List (Nat × Nat)} {W : World} {A : Option Addr} {n c : Nat} (h1 : Blk W G 41 #[.slice A n c]) (k : Nat) : Hang G W k ↔ k = G ∨ blk A = some k := by
  have h3 := h1.cell 0
  constructor
  · rintro (h | ⟨A', n', c', hc, hb⟩)
    · exact .inl h
    · rw [hc] at h3
      simp at h3
      exact .inr (by rw [← h3.1]; exact hb)
  · rintro (h | h)
    · exact .inl h
    · exact .inr ⟨A, n, c, by simpa using h3, h⟩

/-- One more is appended, and the list stored back. -/
theorem ParAt.step {B G : Nat} {ts : List (Nat × Nat)} {W W3 : World} {A : Option Addr} {n c : Nat} (hG : B ≤ G) (k0 : Blk W G 41 #[.slice A n c]) (o0 : OwM W B 38 A n c ts) (t : Nat × Nat) {A3 : Option Addr} {c3 : Nat} (o3 : OwM W3 B 38 A3 (n + 1) c3 (ts ++ [t])) (hc : Chg (fun k => blk A = some k) W W3) (hn : blk A3 = blk A ∨ ∃ k, W.heap.size ≤ k ∧ blk A3 = some k) :
    ParAt B G (ts ++ [t]) (W3.setCell ⟨G, 0, none⟩ (.slice A3 (n + 1) c3)) ∧ KeepsOthers W (W3.setCell ⟨G, 0, none⟩ (.slice A3 (n + 1) c3)) ∧ (∀ gb m, gb < W.heap.size → m ≤ W.heap.size → KpH G gb m W (W3.setCell ⟨G, 0, none⟩ (.slice A3 (n + 1) c3))) ∧ Below B W (W3.setCell ⟨G, 0, none⟩ (.slice A3 (n + 1) c3)) := by
  obtain ⟨W4, hW4⟩ : ∃ X, W3.setCell ⟨G, 0, none⟩ (.slice A3 (n + 1) c3) = X := ⟨_, rfl⟩
  rw [hW4]
  have hne := o0.ne k0 (by decide)
  have k3 := k0.chg hc hne
  have hg : Chg (fun k => k = G) W3 W4 := by rw [← hW4]; exact (Chg.refl (fun k => k = G) W3).setCell (p := ⟨G, 0, none⟩) (.inr rfl) _
  have h2 : Chg (fun k => k = G ∨ blk A = some k) W W4 := (hc.mono (fun _ _ h => .inr h)).trans hg (fun _ _ h => .inl h)
  have k4 : Blk W4 G 41 #[.slice A3 (n + 1) c3] := by rw [← hW4]; exact k3.set 0 _
  have o4 : OwM W4 B 38 A3 (n + 1) c3 (ts ++ [t]) := o3.chg hg (fun g h e => o3.ne k3 (by decide) (by rw [h, e]))
  have hl : (ts ++ [t]).length = n + 1 := o3.1
  have hcell : ∀ k, (k = G ∨ blk A = some k) → ∃ cs t fz, W.heap[k]? = some (.cells cs t fz) := by
    rintro k (rfl | hk')
    · exact ⟨_, _, _, k0⟩
    · obtain ⟨cur, hh⟩ := o0.row hk'
      exact ⟨_, _, _, hh⟩
  refine ⟨⟨A3, c3, by rw [hl]; exact k4, by rw [hl]; exact o4⟩, ⟨h2.size, fun k o hk ho => ?_⟩, fun gb m hgb hm hh => ?_, h2.to_below (Nat.le_trans hG (Nat.le_of_lt k0.lt)) ?_⟩
  · refine (h2.block k ((Array.getElem?_eq_some_iff.1 hk).1) (fun hr => ?_)).trans hk
    obtain ⟨cs, t, fz, hc⟩ := hcell k hr
    rw [hc] at hk
    injection hk with hk
    subst hk
    cases ho
  · have hng : ∀ k, Hang G W4 k → Hang G W k ∨ (W.heap.size ≤ k ∧ k < W4.heap.size) := fun k hk => by
      rcases (ParAt.hang_iff (B := B) (ts := []) k4 k).1 hk with rfl | hk
      · exact .inl (.inl rfl)
      · rcases hn with h3 | ⟨i, hi, h3⟩
        · exact .inl ((ParAt.hang_iff (B := B) (ts := []) k0 k).2 (.inr (by rw [← h3]; exact hk)))
        · have h4 := (o4.blk_lt k hk).2
          rw [h3] at hk
          injection hk with hk
          subst hk
          exact .inr ⟨hi, h4⟩
    refine ⟨⟨h2.size, fun k cs t fz hk hn => (h2.block k (lt_of_block hk) (fun hr => hn ((ParAt.hang_iff (B := B) (ts := []) k0 k).2 hr))).trans hk, fun k hk hk' => ?_⟩, fun k hk => ?_⟩
    · rcases hng k hk' with h4 | ⟨h4, _⟩
      · exact h4
      · omega
    · rcases hng k hk with h4 | ⟨h4, h5⟩
      · obtain ⟨g1, g2, g3⟩ := hh k h4
        exact ⟨Nat.lt_of_lt_of_le g1 h2.size, g2, g3⟩
      · exact ⟨h5, by omega, by omega⟩
  · rintro k (rfl | hk)
    · exact hG
    · exact (o0.blk_lt k hk).1

set_option maxRecDepth 100000 in
set_option maxHeartbeats 8000000 in
theorem dparse_any (A : Option Addr) (c : Nat) (bs : List UInt8) (w : World) (hr : Rd w w.heap.size A bs.length (bs.map bv)) (hl : bs.length ≤ 1000000) :
    Calls Try.prog 24 #[.slice A bs.length c] w fun e w' => ∃ A' c', e = .returned (.slice A' (Def.parse bs).length c') ∧ OwM w' w.heap.size 38 A' (Def.parse bs).length c' (Def.parse bs) ∧ Below w.heap.size w w' := by
  obtain ⟨G, hG⟩ : ∃ G, w.heap.size = G := ⟨_, rfl⟩
  obtain ⟨w1, hw1⟩ : ∃ W, w.alloc (.cells #[.slice none 0 0] 41) = W := ⟨_, rfl⟩
  have k1 := hide (show Blk w1 G 41 #[.slice none 0 0] from by rw [← hw1, ← hG]; exact Blk.new w _ _)
  have b1 := hide (show Below G w w1 from by rw [← hw1, ← hG]; exact (Below.refl _ w).alloc (Nat.le_refl _) _)
  have s1 : w1.heap.size = G + 1 := by rw [← hw1, ← hG]; simp
  obtain ⟨gb, hgb⟩ : ∃ k, w1.heap.size = k := ⟨_, rfl⟩
  obtain ⟨w12, hw12⟩ : ∃ W, w1.alloc (.cells #[.slice A bs.length c] 22) = W := ⟨_, rfl⟩
  have be := hide (show Below w1.heap.size w1 w12 from by rw [← hw12]; exact (Below.refl _ w1).alloc (Nat.le_refl _) _)
  have kbb12 := hide (show Blk w12 gb 22 #[.slice A bs.length c] from by rw [← hw12, ← hgb]; exact Blk.new w1 _ _)
  have s12 := hide (show w12.heap.size = gb + 1 from by rw [← hw12, ← hgb]; simp)
  have hgG := hide (show gb = G + 1 from by omega)
  have p12 := hide (show ParAt G G [] w12 from ⟨none, 0, k1.out.below be.out k1.out.lt, OwM.nil _ _ _⟩)
  have bel12 := hide (show Below G w w12 from b1.out.trans (be.out.mono (by omega)))
  have hung12 := hide (show Hung G gb G w12 from fun k hk => by
    have h1 := p12.out.hang (Nat.le_refl _) k hk
    obtain ⟨A', c', h3, h4⟩ := p12.out
    have h5 := (ParAt.hang_iff (B := G) (ts := []) (k1.out.below be.out k1.out.lt) k).1 hk
    have h6 := s12.out
    have h7 := hgG.out
    rcases h5 with h5 | h5
    · exact ⟨h1.2, by omega, h1.1⟩
    · cases h5)
  have hr12 := hide (show Rd w12 G A bs.length (bs.map bv) from by rw [← hG] at bel12 ⊢; exact hr.below bel12.out)
  have hB12 := hide (show G ≤ w12.heap.size from by have := s12.out; have := hgG.out; omega)
  have hgw := hide (show G < w12.heap.size from by have := s12.out; have := hgG.out; omega)
  have hBw : G ≤ w.heap.size := by omega
  have hl2 : bs.length ≤ 1048576 := by omega
  refine (callsIn_wide (n := 9)).1 ?_
  refine callsIn_of_wp_marks Try.func24 rfl trivial ?_ rfl
  refine wpIn_wide.2 ?_
  simp only [Try.ntmps24, List.size_toArray, List.length_cons, List.length_nil, Nat.reduceAdd, Nat.reduceSub, Array.replicate_succ, Array.replicate_zero, List.push_toArray, List.append_toArray, List.nil_append, List.cons_append]
  clear s1
  go_wp2_with (go_at_call 54; (with_reducible refine (matches_any _ _ _ _).mono ?_); rintro e w' ⟨rfl, rfl⟩)
  refine (wpIn_wide (n := 9)).1 ?_
  refine wpIn_rangeFunc_ownH (n := 9) rfl (by decide) (gf := 77) (lb := #[.pointer (some ⟨gb, 0, none⟩)]) rfl trivial (enters_of Try.func77 (by kernel_rfl) rfl)
    (matches_stops (9 - 1) (by decide) gb G G A c bs G w12 (Nat.le_refl _) hB12.out kbb12.out hr12.out hung12.out hl2) KpH.trans (KpH.putObj hgw.out) (Below.refl _ _) (fun _ => rfl)
    (fun (pre : List Tk) W => ParAt G G (pre.map fun x : Tk => x.1) W ∧ Below G w W)
    (fun _ _ _ => False)
    (OwnFrom.and (fun _ _ _ _ hs hg hr => hs.calm (calm_of hg (fun r e => (hr r e).2))) (ownFrom_below hBw hB12.out))
    (fun _ _ _ _ _ hs _ _ => hs)
    ⟨p12.out, bel12.out⟩
    (fun x a' W => ∃ Bx, Blk W Bx 38 #[.int .i64 (x.1.1 : Int), .int .i64 (x.1.2 : Int)] ∧ a' = { tmps := #[.slice A bs.length c, undef, .slice none 0 0, .pointer (some ⟨G, 0, none⟩), .pointer (some ⟨Bx, 0, none⟩), .slice A bs.length c, .func (.func 77) #[] #[.pointer (some ⟨gb, 0, none⟩)], .agg #[.int .i64 (x.1.1 : Int), .int .i64 (x.1.2 : Int)], undef, undef, undef, undef, undef], defers := [] })
    (fun x a' _ X Y row hs hg hr => by obtain ⟨Bx, h1, h2⟩ := hs; exact ⟨Bx, h1.calm (calm_of hg (fun r e => (hr r e).2)), h2⟩)
    ?assign ?body ?done ?stop
  case assign =>
    rintro l pre ⟨⟨t1, t2⟩, hgood⟩ W K ⟨i1, i7⟩ hK
    simp only [tv]
    gi_wp2
    have b := (Below.refl W.heap.size W).alloc (Nat.le_refl _) (.cells #[.int .i64 (t1 : Int), .int .i64 (t2 : Int)] 38)
    exact hK _ _ ((KeepsOthers.alloc _ _).from _) (KpH.below b) ⟨i1.below b, i7.alloc (Nat.le_trans hBw i7.size) _⟩ ⟨W.heap.size, Blk.new W _ _, rfl⟩
  case body =>
    rintro l pre ⟨⟨t1, t2⟩, hgood⟩ a' W hlw ⟨r, hr'⟩ ⟨i1, i7⟩ ⟨Bx, kx, rfl⟩ hlt
    simp only at kx
    have hgb' := hide (show gb < W.heap.size from by have := kbb12.out.lt; have := hlw; have h9 := (Array.getElem?_eq_some_iff.1 hr').1; omega)
    have hBW := hide (show G ≤ W.heap.size from Nat.le_trans hBw i7.size)
    have hsnoc := hide (show (pre ++ [(⟨(t1, t2), hgood⟩ : Tk)]).map (·.1) = pre.map (·.1) ++ [(t1, t2)] from by rw [List.map_append]; rfl)
    have hplen := hide (show (pre.map (·.1)).length ≤ 1048576 from by rw [List.length_map]; omega)
    generalize hts : pre.map (·.1) = ts at *
    obtain ⟨A0, c0, k0, o0⟩ := i1
    obtain ⟨N, hN⟩ : ∃ N, ts.length = N := ⟨_, rfl⟩
    rw [hN] at k0 o0 hplen
    have z0 : World.cell? W ⟨G, 0, none⟩ = some (.slice A0 N c0) := k0.cell 0
    have y0 : World.cell? W ⟨Bx, 0, none⟩ = some (.int .i64 (t1 : Int)) := kx.cell 0
    have y1 : World.cell? W ⟨Bx, 1, none⟩ = some (.int .i64 (t2 : Int)) := kx.cell 1
    have k0 := hide k0
    have o0 := hide o0
    have hlw := hide hlw
    clear hlt hr' kx hts hN
    gi_wp2_with (gi_at_builtin; refine wpListIn_append_pair W rfl (.tmp 8) (.tmp 10) rfl elem_match rfl o0.out t1 t2 38 _ rfl hplen.out hBW.out ?_; intro A3 c3 W3 o3 hc3 hn3; have hstep := hide (ParAt.step (Nat.le_refl G) k0.out o0.out (t1, t2) o3 hc3 hn3); have k3 := k0.out.chg hc3 (o0.out.ne k0.out (by decide)); have z3 : World.cell? W3 ⟨G, 0, none⟩ = some (.slice A0 N c0) := k3.cell 0; have f3 := k3.free 0; clear o3 hc3 hn3 k3)
    exact ⟨hstep.out.2.1.from _, hstep.out.2.2.1 gb G hgb'.out hBW.out, ⟨by rw [hsnoc.out]; exact hstep.out.1, i7.trans hstep.out.2.2.2⟩⟩
  case done =>
    rintro D xs W hlw hS ⟨i1, i7⟩ hK
    rw [hS] at i1
    obtain ⟨A0, c0, k0, o0⟩ := i1
    have z0 : World.cell? W ⟨G, 0, none⟩ = some (.slice A0 (Def.parse bs).length c0) := k0.cell 0
    replace hK := hide hK
    have hlD0 := hide hlw
    have o0 := hide o0
    clear k0 hS hlw
    go_wp2
    refine ⟨by simp, .inl ⟨_, _, rfl, run_takeDeferred hK.out, ?_⟩⟩
    have hg2 := grownBy_putObj' W D (.deferred none)
    have hD2 : W.heap[D]? = some (.deferred (some [])) := hK.out
    have hcalm : Calm W (W.putObj D (.deferred none)) := calm_of hg2 (fun r e => by cases e; exact ⟨_, hD2, rfl⟩)
    have hbD := belowK_b (n₀ := G) (w := w12) hB12.out W D _ (.deferred none) hlD0.out hD2 rfl rfl
    exact ⟨_, results_tmp rfl _ _ _, ⟨A0, c0, rfl, by rw [hG]; exact o0.out.calm hcalm, by rw [hG]; exact i7.trans hbD⟩⟩
  case stop =>
    rintro D c' pre W _ _ h _
    exact h.elim

set_option maxRecDepth 100000 in
set_option maxHeartbeats 8000000 in
theorem rparse_any (A : Option Addr) (c : Nat) (bs : List UInt8) (w : World) (hr : Rd w w.heap.size A bs.length (bs.map bv)) (hl : bs.length ≤ 1000000) :
    Calls Try.prog 25 #[.slice A bs.length c] w fun e w' => ∃ A' c', e = .returned (.slice A' (Def.parse bs).length c') ∧ OwM w' w.heap.size 45 A' (Def.parse bs).length c' (Def.parse bs) ∧ Below w.heap.size w w' := by
  have hr := hide hr
  obtain ⟨L, hL⟩ : ∃ L, bs.length = L := ⟨_, rfl⟩
  rw [hL] at hr hl ⊢
  have hLI : (L : Int) ≤ 1000000 := by omega
  go_enter Try.func25, Try.ntmps25
  go_wp2
  go_loopw [3, 4] (fun s3 s4 wr => ∃ (p : Nat) (ts : List (Nat × Nat)) (A1 : Option Addr) (N c1 : Nat), p ≤ L ∧ s4 = .int .i64 (p : Int) ∧ s3 = .slice A1 N c1 ∧ N ≤ p ∧ Hid (ts.length = N) ∧ Hid (Def.parse bs = ts ++ Def.rest bs p) ∧ Hid (OwM wr w.heap.size 45 A1 N c1 ts) ∧ Hid (Below w.heap.size w wr)) (fun _ s4 _ => L - (intOf s4).toNat)
  case atStart => exact ⟨0, [], none, 0, 0, Nat.zero_le _, rfl, rfl, Nat.le_refl _, hide rfl, hide rfl, hide (OwM.nil _ _ _), hide (Below.refl _ _)⟩
  case round =>
    obtain ⟨p, ts, A1, N, c1, hp, rfl, rfl, hNp, hts, hpar, ho, hb⟩ := hrel
    by_cases hlt : p < L
    · have hpI : (p : Int) < (L : Int) := by omega
      have hp0 : (0 : Int) ≤ (p : Int) := by omega
      have hrw := hr.out.below hb.out
      have hf := hide (rfind_any A c bs (p : Int) wr w.heap.size (by rw [hL]; exact hrw) hb.out.size (by omega))
      rw [show Def.findV bs (p : Int) = Def.mt bs p from by unfold Def.findV; rw [if_pos (by omega)]; rfl, hL] at hf
      obtain ⟨hm1, hm2, hm3, hm4⟩ := Def.mt_len bs p (by omega)
      have htok := hide (show Def.tok bs p = if (Def.mt bs p).1 = 0 then (0, (bs.getD p 0).toNat) else Def.mt bs p from rfl)
      have hstep := hide (Def.rest_step bs p (by omega))
      obtain ⟨b, o, hA, hbB, hcp⟩ := hrw.byte (j := p) hlt
      have hgx : bs.getD p 0 = bs[p]'(by omega) := bsAt bs p (by omega)
      obtain ⟨X, hX⟩ : ∃ X : Nat, (bs.getD p 0).toNat = X := ⟨_, rfl⟩
      rw [← hgx, hX] at hcp
      have hX8 : X ≤ 255 := by rw [← hX]; exact toNat_le _
      rw [hX] at htok
      subst hA
      obtain ⟨l1, hl1⟩ : ∃ l1, (Def.mt bs p).1 = l1 := ⟨_, rfl⟩
      obtain ⟨d1, hd1⟩ : ∃ d1, (Def.mt bs p).2 = d1 := ⟨_, rfl⟩
      have hmt : Def.mt bs p = (l1, d1) := by rw [← hl1, ← hd1]
      rw [hmt] at htok hf
      rw [hl1, hL] at hm1
      rw [hl1] at hm2
      simp only at hf
      have hN63 := hide (show N ≤ 1048576 from by omega)
      replace hts := hide hts.out
      clear hX hgx hl1 hd1 hmt hm3 hm4 hrw hbB
      by_cases hz : l1 = 0
      · subst hz
        replace htok := hide (show Def.tok bs p = (0, X) from by rw [htok.out, if_pos rfl])
        have hpar2 := hide (show Def.parse bs = (ts ++ [(0, X)]) ++ Def.rest bs (p + 1) from by rw [hpar.out, hstep.out, htok.out, List.append_assoc]; rfl)
        have hts2 := hide (show (ts ++ [(0, X)]).length = N + 1 from by rw [List.length_append, hts.out]; rfl)
        have hp1 : IntKind.i64.wrap ((p : Int) + 1) = (p : Int) + 1 := by rw [IntKind.wrap_i64]; omega
        have hX64 : IntKind.i64.wrap (X : Int) = (X : Int) := by rw [IntKind.wrap_i64]; omega
        rw [show ((0 : Nat) : Int) = 0 from rfl] at hf
        clear hm1 hm2 htok hstep hpar hts
        go_wp2_with fail
        refine hf.out.mono ?_
        rintro e w2 ⟨rfl, hb2⟩
        obtain ⟨S, hS⟩ : ∃ S, w2.heap.size = S := ⟨_, rfl⟩
        obtain ⟨w3, hw3⟩ : ∃ W, w2.alloc (.cells #[.int .i64 0, .int .i64 0] 45) = W := ⟨_, rfl⟩
        have k3 : Blk w3 S 45 #[.int .i64 0, .int .i64 0] := by rw [← hw3, ← hS]; exact Blk.new w2 _ _
        have x30 : w3.cell? ⟨S, 0, none⟩ = some (.int .i64 0) := k3.cell 0
        have x31 : w3.cell? ⟨S, 1, none⟩ = some (.int .i64 0) := k3.cell 1
        have f30 : w3.frozen? ⟨S, 0, none⟩ = false := k3.free 0
        have f31 : w3.frozen? ⟨S, 1, none⟩ = false := k3.free 1
        obtain ⟨w4, hw4⟩ : ∃ W, (w3.setCell ⟨S, 0, none⟩ (.int .i64 0)).setCell ⟨S, 1, none⟩ (.int .i64 (d1 : Int)) = W := ⟨_, rfl⟩
        have k4 : Blk w4 S 45 #[.int .i64 0, .int .i64 (d1 : Int)] := by rw [← hw4]; exact (k3.set 0 _).set 1 _
        have b24 : Below w2.heap.size w2 w4 := by rw [← hw4, ← hw3]; exact (((Below.refl _ w2).alloc (Nat.le_refl _) _).setCell (by simp; omega) _).setCell (by simp; omega) _
        have x40 : w4.cell? ⟨S, 0, none⟩ = some (.int .i64 0) := k4.cell 0
        have x41 : w4.cell? ⟨S, 1, none⟩ = some (.int .i64 (d1 : Int)) := k4.cell 1
        have b4 := hb2.trans (b24.mono hb2.size)
        have hcb : w4.cell? ⟨b, o + p, none⟩ = some (.int .u8 (X : Int)) := (b4.cell (p := ⟨b, o + p, none⟩) (World.block_lt_of_cell? wr _ hcp)).trans hcp
        have ho4 := hide (ho.out.below b4)
        have hbb4 := hide (hb.out.trans (b4.mono hb.out.size))
        have k4 := hide k4
        clear hf k3 b24 b4 hb2
        go_wp2_with (at_builtin; refine wpList_append_pair w4 rfl (.tmp 16) (.tmp 23) rfl elem_rmatch rfl ho4.out 0 X 45 _ rfl hN63.out hbb4.out.size ?_; intro A5 c5 w5 ho5 hg5 _; have hb5 := hide (hbb4.out.trans (hg5.to_below (B := w.heap.size) hbb4.out.size (fun i hi => (ho4.out.blk_lt i hi).1))); have ho5 := hide ho5; clear hg5)
        go_roundw
        case rel => exact ⟨p + 1, _, A5, N + 1, c5, by omega, by go_num, rfl, by omega, hts2, hpar2, ho5, hb5⟩
        case measure => simp [intOf] <;> omega
      · replace htok := hide (show Def.tok bs p = (l1, d1) from by rw [htok.out, if_neg hz])
        have hpar2 := hide (show Def.parse bs = (ts ++ [(l1, d1)]) ++ Def.rest bs (p + l1) from by rw [hpar.out, hstep.out, htok.out, List.append_assoc, show Def.stp (l1, d1) = l1 from if_neg hz]; rfl)
        have hts2 := hide (show (ts ++ [(l1, d1)]).length = N + 1 from by rw [List.length_append, hts.out]; rfl)
        have hp1 : IntKind.i64.wrap ((p : Int) + (l1 : Int)) = (p : Int) + (l1 : Int) := by rw [IntKind.wrap_i64]; omega
        have hlz : ((l1 : Int) == 0) = false := by simp; omega
        have hl1 : 1 ≤ l1 := by omega
        have hm1I : (p : Int) + (l1 : Int) ≤ (L : Int) := by omega
        clear hm2 htok hstep hpar hts hz
        go_wp2_with fail
        refine hf.out.mono ?_
        rintro e w2 ⟨rfl, hb2⟩
        obtain ⟨S, hS⟩ : ∃ S, w2.heap.size = S := ⟨_, rfl⟩
        obtain ⟨w3, hw3⟩ : ∃ W, w2.alloc (.cells #[.int .i64 0, .int .i64 0] 45) = W := ⟨_, rfl⟩
        have k3 : Blk w3 S 45 #[.int .i64 0, .int .i64 0] := by rw [← hw3, ← hS]; exact Blk.new w2 _ _
        have x30 : w3.cell? ⟨S, 0, none⟩ = some (.int .i64 0) := k3.cell 0
        have x31 : w3.cell? ⟨S, 1, none⟩ = some (.int .i64 0) := k3.cell 1
        have f30 : w3.frozen? ⟨S, 0, none⟩ = false := k3.free 0
        have f31 : w3.frozen? ⟨S, 1, none⟩ = false := k3.free 1
        obtain ⟨w4, hw4⟩ : ∃ W, (w3.setCell ⟨S, 0, none⟩ (.int .i64 (l1 : Int))).setCell ⟨S, 1, none⟩ (.int .i64 (d1 : Int)) = W := ⟨_, rfl⟩
        have k4 : Blk w4 S 45 #[.int .i64 (l1 : Int), .int .i64 (d1 : Int)] := by rw [← hw4]; exact (k3.set 0 _).set 1 _
        have b24 : Below w2.heap.size w2 w4 := by rw [← hw4, ← hw3]; exact (((Below.refl _ w2).alloc (Nat.le_refl _) _).setCell (by simp; omega) _).setCell (by simp; omega) _
        have x40 : w4.cell? ⟨S, 0, none⟩ = some (.int .i64 (l1 : Int)) := k4.cell 0
        have x41 : w4.cell? ⟨S, 1, none⟩ = some (.int .i64 (d1 : Int)) := k4.cell 1
        have b4 := hb2.trans (b24.mono hb2.size)
        have hSA := hide (show blk A1 ≠ some S from fun hg => by have := (ho.out.blk_lt S hg).2; have := hb2.size; omega)
        have ho4 := hide (ho.out.below b4)
        have hbb4 := hide (hb.out.trans (b4.mono hb.out.size))
        have k4 := hide k4
        clear hf k3 b24 b4 hb2
        go_wp2_with (at_builtin; refine wpList_append_pair w4 rfl (.tmp 27) (.tmp 29) rfl elem_rmatch rfl ho4.out l1 d1 45 _ rfl hN63.out hbb4.out.size ?_; intro A5 c5 w5 ho5 hg5 _; have hb5 := hide (hbb4.out.trans (hg5.to_below (B := w.heap.size) hbb4.out.size (fun i hi => (ho4.out.blk_lt i hi).1))); have ho5 := hide ho5; have x50 : w5.cell? ⟨S, 0, none⟩ = some (.int .i64 (l1 : Int)) := (k4.out.chg hg5 hSA.out).cell 0; clear hg5)
        go_roundw
        case rel => exact ⟨p + l1, _, A5, N + 1, c5, by omega, by go_num, rfl, by omega, hts2, hpar2, ho5, hb5⟩
        case measure => simp [intOf] <;> omega
    · obtain rfl : p = L := by omega
      have hend := hide (show Def.parse bs = ts from by rw [hpar.out, Def.rest_end bs p (by omega), List.append_nil])
      go_wp2
      refine bodyPost_ret (v := .slice A1 N c1) (by simp [results, Try.results25, go_sem]) rfl ?_
      exact ⟨A1, c1, by rw [hend.out, hts.out], by rw [hend.out, hts.out]; exact ho.out, hb.out⟩

end Go.Proofs.Ythplpoijkebjbaa
