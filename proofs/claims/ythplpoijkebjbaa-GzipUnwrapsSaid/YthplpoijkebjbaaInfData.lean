/- Layer 4 (inflate): Data, walked. The conditions: where the bytes lie, and how many they are. -/
import Derived.Test.YthplpoijkebjbaaInfBlock
import Derived.Test.YthplpoijkebjbaaInfEnd
import Derived.Deep.RegionWith
import Derived.Deep.RegionHeld3
namespace Go.Proofs.Ythplpoijkebjbaa
open Go.RowKit
set_option linter.unusedVariables false

/-- What Data leaves. -/
def InfPost (w : World) (r : Sum Nat (List UInt8 × Nat)) (e : Ending) (w' : World) : Prop :=
  Below w.heap.size w w' ∧
  ((∃ er, r = .inl er ∧ e = .returned (.tuple #[.slice none 0 0, .int .i64 0, .int .i64 (er : Int)])) ∨
   (∃ o used A c, r = .inr (o, used) ∧ e = .returned (.tuple #[.slice A o.length c, .int .i64 (used : Int), .int .i64 0]) ∧ Ow w' w.heap.size 5 A o.length c (o.map bv)))
theorem Inf.block_some {l : List Bool} {most F a a' : Nat} {o o' : List UInt8} {x : Bool} (h : Inf.block l most F a o = .inr (x, a', o')) : a < a' := by
  unfold Inf.block at h
  obtain ⟨v, a1, o1, h1, h⟩ := Inf.bind_is h
  have e1 := (Inf.bits_is h1).2.1
  obtain ⟨k, a2, o2, h2, h⟩ := Inf.bind_is h
  have e2 := (Inf.bits_is h2).2.1
  have h3 := (Inf.Mono.ite (c := k = 0) ((Inf.Mono.stored most).bind fun _ => Inf.Mono.ret (v == 1))
    (Inf.Mono.ite (c := k = 1) ((Inf.Mono.symbols most lsF (List.replicate 32 5) F).bind fun _ => Inf.Mono.ret (v == 1)) (Inf.Mono.ite (c := k = 2) (Inf.Mono.dynamic.bind fun c => (Inf.Mono.symbols most c.1 c.2 F).bind fun _ => Inf.Mono.ret (v == 1)) (Inf.Mono.err 3)))).1 l a2 o2 x a' o' h
  omega
theorem uat {B gu gr most a : Nat} {bs o : List UInt8} {w : World} (h : UAt B gu gr most bs w a o) : ∃ A c, w.cell? ⟨gu, 0, none⟩ = some (.pointer (some ⟨gr, 0, none⟩)) ∧ w.cell? ⟨gu, 1, none⟩ = some (.slice A o.length c) ∧ Ow w B 5 A o.length c (o.map bv) ∧ ∃ Ab, RdIs w B gr Ab bs a := by
  obtain ⟨A, c, Ab, h1, h2, h3, _⟩ := h
  exact ⟨A, c, h1.cell 0, h1.cell 1, h3, Ab, h2⟩
set_option maxRecDepth 100000 in
set_option maxHeartbeats 8000000 in
theorem idata_any (A : Option Addr) (c : Nat) (bs : List UInt8) (most F : Nat) (w : World) (hr : Rd w w.heap.size A bs.length (bs.map bv)) (hl : bs.length ≤ 1048576) (hm : most ≤ 1048576) (hF : 8 * bs.length < F) :
    Calls Try.prog 28 #[.slice A bs.length c, .int .i64 (most : Int)] w (InfPost w (Inf.data (Bit.bitsOf bs) most F)) := by
  have hm0 : (0 : Int) ≤ (most : Int) := by omega
  have hmI : (most : Int) ≤ 1048576 := by omega
  obtain ⟨G, hG⟩ : ∃ G, w.heap.size = G := ⟨_, rfl⟩
  obtain ⟨w1, hw1⟩ : ∃ W, w.alloc (.cells #[.slice none 0 0] 22) = W := ⟨_, rfl⟩
  obtain ⟨w2, hw2⟩ : ∃ W, w1.alloc (.cells #[.int .i64 0] 3) = W := ⟨_, rfl⟩
  obtain ⟨w3, hw3⟩ : ∃ W, w2.alloc (.cells #[.int .i64 0] 24) = W := ⟨_, rfl⟩
  have s1 : w1.heap.size = G + 1 := by rw [← hw1, ← hG]; simp
  have s2 : w2.heap.size = G + 1 + 1 := by rw [← hw2, ← s1]; simp
  have s3 := hide (show w3.heap.size = G + 1 + 1 + 1 from by rw [← hw3, ← s2]; simp)
  have ka3 := hide (show Blk w3 G 22 #[.slice none 0 0] from by rw [← hw3, ← hw2]; exact ((show Blk w1 G _ _ from by rw [← hw1, ← hG]; exact Blk.new w _ _).alloc _).alloc _)
  have kb3 := hide (show Blk w3 (G + 1) 3 #[.int .i64 0] from by rw [← hw3]; exact (show Blk w2 (G + 1) _ _ from by rw [← hw2, ← s1]; exact Blk.new w1 _ _).alloc _)
  have kc3 := hide (show Blk w3 (G + 1 + 1) 24 #[.int .i64 0] from by rw [← hw3, ← s2]; exact Blk.new w2 _ _)
  have b3 := hide (show Below G w w3 from by rw [← hw3, ← hw2, ← hw1, ← hG]; exact (((Below.refl _ w).alloc (Nat.le_refl _) _).alloc (by simp) _).alloc (by simp; omega) _)
  have hr3 := hide (hr.below (by rw [hG]; exact b3.out))
  have hnr := hide (newreader_any A c bs w3 w.heap.size hr3.out (by rw [s3.out, hG]; omega) (by omega))
  have hmf : ∀ (fn : Fn) (first cap : Array Value) (w : World), (Instr.makeFunc fn first cap).run Try.prog w = .ok (.func fn first cap) w := fun _ _ _ _ => rfl
  obtain ⟨R0, hR0⟩ : ∃ R0, Inf.blocks (Bit.bitsOf bs) most F F 0 [] = R0 := ⟨_, rfl⟩
  have hfin := Inf.data_fin (Bit.bitsOf bs) most F
  rw [hR0] at hfin
  generalize Inf.data (Bit.bitsOf bs) most F = RR at *
  replace hfin := hide hfin
  replace hR0 := hide hR0
  replace hF := hide hF
  replace hl := hide hl
  replace hm := hide hm
  have hd1 : decide ((most : Int) < 0) = false := by simp
  have hd2 : decide ((1048576 : Int) < (most : Int)) = false := by simp; omega
  clear hr
  go_enter_defers Try.func28, Try.ntmps28
  go_wp2_with fail
  clear hw1 hw2 hw3 s1 s2
  refine hnr.out.mono ?_
  rintro e w4 ⟨gr, Ab, rfl, hrd4, hb4, hgr⟩
  obtain ⟨B, hB⟩ : ∃ B, w3.heap.size = B := ⟨_, rfl⟩
  have hBG := hide (show B = G + 1 + 1 + 1 from by rw [← hB]; exact s3.out)
  rw [hB] at hrd4 hb4 hgr
  obtain ⟨gu, hgu⟩ : ∃ g, w4.heap.size = g := ⟨_, rfl⟩
  obtain ⟨w5, hw5⟩ : ∃ W, w4.alloc (.cells #[.pointer (some ⟨gr, 0, none⟩), .slice none 0 0, .int .i64 (most : Int)] 83) = W := ⟨_, rfl⟩
  have be45 := hide (show Below w4.heap.size w4 w5 from by rw [← hw5]; exact (Below.refl _ w4).alloc (Nat.le_refl _) _)
  have hB4 : B ≤ w4.heap.size := by rw [← hB]; exact hb4.size
  have u5 := hide (show UAt B gu gr most bs w5 0 [] from ⟨none, 0, Ab, by rw [← hw5, ← hgu]; exact Blk.new w4 _ _, hrd4.below be45.out, Ow.nil _ _ _, by rw [← hgu]; exact hB4, hgr, (fun k hk => by cases hk), Nat.zero_le _, hl.out, Nat.zero_le _, hm.out⟩)
  have b5 := hide (show Below B w3 w5 from hb4.trans (be45.out.mono hB4))
  clear hnr hrd4 hb4 hgr be45 hB4 hB
  go_wp2
  clear hw5 hgu hmf
  go_loopg [20] F (fun gk _ wr => ∃ (a' : Nat) (o' : List UInt8), Hid (Inf.blocks (Bit.bitsOf bs) most F gk a' o' = R0) ∧ Hid (8 * bs.length < a' + gk) ∧ Hid (UAt B gu gr most bs wr a' o') ∧ Hid (Below B w3 wr))
  case atStart => exact ⟨0, [], hR0, hide (by have := hF.out; omega), u5, b5⟩
  case round =>
    clear hR0 u5 b5
    obtain ⟨a', o', hR, hF', u, b⟩ := hrel
    obtain ⟨g, rfl⟩ : ∃ g, gk = g + 1 := ⟨gk - 1, by have := u.out.bounds.1; have := hF'.out; omega⟩
    have hR1 := hide (show Inf.bind (Inf.block (Bit.bitsOf bs) most F) (fun fin => if fin then Inf.ret () else Inf.blocks (Bit.bitsOf bs) most F g) a' o' = R0 from hR.out)
    have hbl := hide (ublock u.out F (by have := hF.out; omega) _ rfl)
    clear hR u
    go_wp2_with fail
    refine UP.go hbl.out (fun er w6 e6 b6 k6 => ?_) ?_
    · have hR2 := hR1.out.symm.trans (Inf.bind_err e6)
      have b6 := b.out.trans b6
      have ka6 := ka3.out.below b6 (by have := hBG.out; omega)
      have kb6 := kb3.out.below b6 (by have := hBG.out; omega)
      have kc6 := kc3.out.below b6 (by have := hBG.out; omega)
      have hRR : RR = .inl er := by rw [hfin.out, hR2]; rfl
      refine leaves_cons (f := 56) (args := #[.pointer (some ⟨G, 0, none⟩), .pointer (some ⟨G + 1, 0, none⟩), .pointer (some ⟨G + 1 + 1, 0, none⟩)]) (by simp) (by simp [go_sem]) ?_
      refine (catch_stop G (G + 1) (G + 1 + 1) _ _ _ er [] w6 ka6 kb6 kc6).mono ?_
      rintro e u' w8 ⟨rfl, rfl, ka, kb, kc, hc⟩
      have x0 := ka.cell 0
      have y0 := kb.cell 0
      have z0 := kc.cell 0
      have hbel : Below w.heap.size w w8 := by
        rw [hG]
        exact (b3.out.trans (b6.mono (by have := hBG.out; omega))).trans (hc.to_below (Nat.le_of_lt ka6.lt) (fun k hk => by omega))
      clear ka kb kc hc
      simp [Leaves, settle, results, Try.results28, go_sem, x0, y0, z0]
      exact ⟨hbel, .inl ⟨er, hRR, rfl⟩⟩
    · intro fin a6 o6 w6 e6 u6 b6 k6
      have hR2 := (Inf.bind_ok e6).symm.trans hR1.out
      have hF6 := hide (show 8 * bs.length < a6 + g from by
        have h1 := hF'.out
        have h2 := Inf.block_some e6
        omega)
      have b6 := hide (b.out.trans b6)
      have u6 := hide u6
      clear hR1 hbl e6 b hF' k6
      cases fin with
      | false =>
        have hR3 := hide (show Inf.blocks (Bit.bitsOf bs) most F g a6 o6 = R0 from hR2)
        clear hR2
        go_wp2
        go_roundg g
        case rel => exact ⟨a6, o6, hR3, hF6, u6, b6⟩
        case measure => omega
      | true =>
        have hR3 := hide (show Sum.inr ((), a6, o6) = R0 from hR2)
        clear hR2 hF6
        have hal := hide (ualign u6.out)
        have c0 := u6.out.cell0
        go_wp2_with fail
        refine hal.out.mono ?_
        rintro e w7 ⟨rfl, u7, b7, _⟩
        obtain ⟨A7, c7, d0, d1, ho7, Ab7, hrd7⟩ := uat u7
        have hAt := hide (rat_ok gr Ab7 bs _ w7.drew B (hrd7.below (below_drewN (Below.refl _ w7) 1)))
        have b7 := hide (b6.out.trans b7)
        have ka7 := ka3.out.below b7.out (by have := hBG.out; omega)
        have kb7 := kb3.out.below b7.out (by have := hBG.out; omega)
        have kc7 := kc3.out.below b7.out (by have := hBG.out; omega)
        have x0 := ka7.cell 0
        have y0 := kb7.cell 0
        have z0 := kc7.cell 0
        have fx := ka7.free 0
        have fy := kb7.free 0
        have fz := kc7.free 0
        have nga : gu ≠ G := by obtain ⟨_, _, _, h, _⟩ := u7; exact fun e => (h.same ka7 (by decide) e)
        have ngb : gu ≠ G + 1 := by obtain ⟨_, _, _, h, _⟩ := u7; exact fun e => (h.same kb7 (by decide) e)
        have ngc : gu ≠ G + 1 + 1 := by obtain ⟨_, _, _, h, _⟩ := u7; exact fun e => (h.same kc7 (by decide) e)
        have ka7 := hide ka7
        have kb7 := hide kb7
        have kc7 := hide kc7
        have u7 := hide u7
        have hBg := hide (show B ≤ w7.heap.size from u7.out.size)
        obtain ⟨N, hN⟩ : ∃ N, o6.length = N := ⟨_, rfl⟩
        rw [hN] at d1
        obtain ⟨X, hX⟩ : ∃ X, a6 + Bit.gap a6 = X := ⟨_, rfl⟩
        rw [hX] at hAt
        have hXb : X ≤ 8 * 1048576 := by have := u7.out.bounds; rw [hX] at this; omega
        have hXI : (X : Int) ≤ 8388608 := by omega
        obtain ⟨Q, hQ⟩ : ∃ Q, X / 8 = Q := ⟨_, rfl⟩
        have hRR : RR = .inr (o6, Q) := by rw [hfin.out, ← hR3.out, ← hQ, ← hX]; rfl
        have hq1 : (X : Int) / 8 = (Q : Int) := by omega
        have hq2 : IntKind.i64.wrap (Q : Int) = (Q : Int) := by rw [IntKind.wrap_i64]; omega
        obtain ⟨W, hW⟩ : ∃ W, (((w7.setCell ⟨G, 0, none⟩ (.slice A7 N c7)).setCell ⟨G + 1, 0, none⟩ (.int .i64 (Q : Int))).setCell ⟨G + 1 + 1, 0, none⟩ (.int .i64 0)).drew = W := ⟨_, rfl⟩
        have kaW := hide (show Blk W G 22 #[.slice A7 N c7] from by rw [← hW]; exact ((ka7.out.set 0 _).far (by simp) _).far (by simp; omega) _)
        have kbW := hide (show Blk W (G + 1) 3 #[.int .i64 (Q : Int)] from by rw [← hW]; exact ((kb7.out.far (by simp) _).set 0 _).far (by simp) _)
        have kcW := hide (show Blk W (G + 1 + 1) 24 #[.int .i64 0] from by rw [← hW]; exact ((kc7.out.far (by simp; omega) _).far (by simp) _).set 0 _)
        have bW := hide (show Below w.heap.size w W from by
          rw [hG, ← hW]
          exact ((((b3.out.trans (b7.out.mono (by have := hBG.out; omega))).setCell (by simp) _).setCell (by simp) _).setCell (by simp; omega) _).drew)
        have hoW := hide (show Ow W w.heap.size 5 A7 N c7 (o6.map bv) from by
          have hch : Chg (fun k => k = G ∨ k = G + 1 ∨ k = G + 1 + 1) w7 W := by
            rw [← hW]
            exact ((((Chg.refl _ w7).setCell (p := ⟨G, 0, none⟩) (.inr (.inl rfl)) _).setCell (p := ⟨G + 1, 0, none⟩) (.inr (.inr (.inl rfl))) _).setCell (p := ⟨G + 1 + 1, 0, none⟩) (.inr (.inr (.inr rfl))) _).drew
          have h1 := ho7
          rw [hN] at h1
          have h2 := h1.chg hch (by
            rintro k hk (h | h | h)
            · exact h1.ne ka7.out (by decide) (by rw [hk, h])
            · exact h1.ne kb7.out (by decide) (by rw [hk, h])
            · exact h1.ne kc7.out (by decide) (by rw [hk, h]))
          exact h2.base_le (fun g hg => by have := (h1.blk_lt g hg).1; have := hBG.out; omega))
        have hRR := hide hRR
        have ho7 := hide ho7
        have hN := hide hN
        clear hal c0 b6 u6 hrd7 hX hXb hR3 hQ
        go_wp2
        refine wp_region_noPanic ?_
        go_region_with (go_at_call 59; (with_reducible refine (hAt.out).mono ?_); rintro e w8 ⟨rfl, rfl⟩)
        all_goals (
          refine NoPanic.normal ?_
          try rw [hW]
          go_wp2
          refine leaves_cons (f := 56) (args := #[.pointer (some ⟨G, 0, none⟩), .pointer (some ⟨G + 1, 0, none⟩), .pointer (some ⟨G + 1 + 1, 0, none⟩)]) (by simp) (by simp [go_sem]) ?_
          refine (catch_none G (G + 1) (G + 1 + 1) _).mono ?_
          rintro e u' w9 ⟨rfl, rfl, hb9⟩
          have x9 := (kaW.out.below hb9 kaW.out.lt).cell 0
          have y9 := (kbW.out.below hb9 kbW.out.lt).cell 0
          have z9 := (kcW.out.below hb9 kcW.out.lt).cell 0
          have hbel : Below w.heap.size w w9 := bW.out.trans (hb9.mono bW.out.size)
          have ho9 := hoW.out.below hb9
          simp [Leaves, settle, results, Try.results28, go_sem, x9, y9, z9]
          exact ⟨hbel, .inr ⟨o6, Q, A7, c7, hRR.out, by rw [hN.out], by rw [hN.out]; exact ho9⟩⟩)

end Go.Proofs.Ythplpoijkebjbaa
