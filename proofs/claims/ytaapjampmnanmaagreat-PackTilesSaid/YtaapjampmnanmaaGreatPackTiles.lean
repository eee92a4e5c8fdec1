/- Layer 14 (pack): PackTiles as a walk. The conditions: where the arguments lie; how long slices and strings can be. -/
import Derived.Test.YtaapjampmnanmaaGreatPtCall
import Derived.Test.YtaapjampmnanmaaGreatBdBuild
import Derived.Test.YtaapjampmnanmaaGreatPkLive
import Derived.Test.YtaapjampmnanmaaGreatPkShare
import Derived.Test.YtaapjampmnanmaaGreatPkSorted
import Derived.Test.YtaapjampmnanmaaGreatPkEn
import Derived.Test.YtaapjampmnanmaaGreatHilbX
import Derived.Test.YtaapjampmnanmaaGreatArchX
namespace Go.Proofs.YtaapjampmnanmaaGreat
open Go.RowKit Go.Shelf
set_option linter.unusedVariables false
set_option linter.unusedSimpArgs false
theorem bdOut_zero {q : Sp} {nl : Nat} {out : List Ent} {cs : List (List UInt8)} {er : Nat} {r : Int} {bs : List UInt8} (h : bdOut q nl out cs er r = (bs, 0)) : er = 0 ∧ q.mtx.length ≤ 1048576 ∧ r = 0 ∧ bs = headB (bdHead q nl out cs) ++ dRoot q.gz q.leaf out ++ pkd q.gz q.mtx ++ dLeaf q.gz q.leaf out ++ cs.flatten := by
  unfold bdOut at h
  by_cases h0 : er = 0
  · rw [if_neg (by omega)] at h
    by_cases h1 : 1048576 < q.mtx.length
    · rw [if_pos h1] at h
      injection h with _ h
      omega
    · rw [if_neg h1] at h
      split at h
      · injection h with _ h
        omega
      · split at h
        · rename_i hr
          injection h with _ h
          exact absurd h hr
        · rename_i hr
          injection h with h _
          exact ⟨h0, by omega, Classical.byContradiction hr, h.symm⟩
  · rw [if_pos h0] at h
    injection h with _ h
    omega
section
variable {o : Oper} {a : Act} {K : Act → Prop} {w : World}
theorem quiet_load_pl (x : Operand) (ho : o.op = .load 43 x) (b p : Nat) (z y u : Int) (hx : a.eval x = .pointer (some ⟨b, p, none⟩)) (h0 : w.cell? ⟨b, p, none⟩ = some (.int .i64 z)) (h1 : w.cell? ⟨b, p + 1, none⟩ = some (.int .i64 y)) (h2 : w.cell? ⟨b, p + 2, none⟩ = some (.int .i64 u)) (h : K (a.put o.dst (.agg #[.int .i64 z, .int .i64 y, .int .i64 u]))) : o.quiet Tryz.prog a (Grw w) K :=
  ⟨.agg #[.int .i64 z, .int .i64 y, .int .i64 u], fun w' hw' => by
    have g0 : w'.cell? ⟨b, p, none⟩ = some (.int .i64 z) := (hw'.out.cell (p := ⟨b, p, none⟩) (World.block_lt_of_cell? w _ h0)).trans h0
    have g1 : w'.cell? ⟨b, p + 1, none⟩ = some (.int .i64 y) := (hw'.out.cell (p := ⟨b, p + 1, none⟩) (World.block_lt_of_cell? w _ h1)).trans h1
    have g2 : w'.cell? ⟨b, p + 2, none⟩ = some (.int .i64 u) := (hw'.out.cell (p := ⟨b, p + 2, none⟩) (World.block_lt_of_cell? w _ h2)).trans h2
    unfold Oper.quietAt execOp
    simp only [ho, hx]
    go_simp, h⟩
theorem quiet_item {C : World → Prop} (x y : Operand) (ho : o.op = .indexAddr 59 x y) (b p n c i : Nat) (hx : a.eval x = .slice (some ⟨b, p, none⟩) n c) (hy : a.eval y = .int .i64 (i : Int)) (hi : (i : Int) < (n : Int)) (h : K (a.put o.dst (.pointer (some ⟨b, p + i * 4, none⟩)))) : o.quiet Tryz.prog a C K :=
  ⟨.pointer (some ⟨b, p + i * 4, none⟩), fun w' hw' => by
    unfold Oper.quietAt execOp
    simp only [ho, hx, hy]
    go_simp, h⟩
end
theorem quiet_eqp {o : Oper} {a : Act} {K : Act → Prop} {C : World → Prop} (x y : Operand) (xz xx xy yz yx yy : Int) (v : Bool) (ho : o.op = .binOp .eql 43 x y 43) (hx : a.eval x = .agg #[Value.int .i64 xz, .int .i64 xx, .int .i64 xy])
    (hy : a.eval y = .agg #[Value.int .i64 yz, .int .i64 yx, .int .i64 yy]) (hv : (xz = yz ∧ xx = yx ∧ xy = yy) ↔ v = true)
    (h : K (a.put o.dst (.bool v))) : o.quiet Tryz.prog a C K :=
  ⟨.bool v, fun w' hw' => by
    have h1 : (execOp a.eval o).run Tryz.prog w' = .ok (.value (.bool v)) w' := by
      unfold execOp
      simp only [ho, hx, hy]
      clear ho hx hy h
      by_cases c0 : xz = yz <;> by_cases c1 : xx = yx <;> by_cases c2 : xy = yy
      · obtain rfl : v = true := hv.1 ⟨c0, c1, c2⟩
        go_simp
      all_goals
        obtain rfl : v = false := by
          cases v with
          | false => rfl
          | true =>
            obtain ⟨a0, a1, a2⟩ := hv.2 rfl
            first
              | exact absurd a0 c0
              | exact absurd a1 c1
              | exact absurd a2 c2
        clear hv
        go_simp
    unfold Oper.quietAt
    rw [h1]
    exact ⟨rfl, rfl⟩, h⟩
attribute [local go_sem] grw_all
set_option maxRecDepth 100000 in
set_option maxHeartbeats 8000000 in
theorem packtiles_walk (A : Option Addr) (n c : Nat) (l : List Im) (q : Sp) (pz px py : Int) (w : World) (hl : l.length = n) (hr : RdIm w w.heap.size A l) (hm : ∀ m ∈ l, m.n ≤ m.c ∧ m.n ≤ maxLen ∧ Rd w w.heap.size m.A m.n (m.bs.map bv)) (hml : n ≤ maxLen) (hI : q.leaf ≤ 9223372036854775807) (hmt : q.mtx.length ≤ maxLen) :
    Calls Tryz.prog 6 #[.slice A n c, q.val, .agg #[.int .i64 pz, .int .i64 px, .int .i64 py]] w fun e w' => e = .returned (.bool true) ∧ Below w.heap.size w w' := by
  obtain ⟨G, hG⟩ : ∃ G, w.heap.size = G := ⟨_, rfl⟩
  obtain ⟨w0, hw0⟩ : ∃ W, w.alloc (.cells q.cells 61) = W := ⟨_, rfl⟩
  have hs0 : w0.heap.size = G + 1 := by rw [← hw0]; simp [hG]
  obtain ⟨w1, hw1⟩ : ∃ W, w0.alloc (.cells #[.int .i64 pz, .int .i64 px, .int .i64 py] 43) = W := ⟨_, rfl⟩
  have k1 := hide (show Blk w1 G 61 q.cells from by rw [← hw1, ← hw0, ← hG]; exact (Blk.new w _ _).alloc _)
  have p1 := hide (show Blk w1 (G + 1) 43 #[.int .i64 pz, .int .i64 px, .int .i64 py] from by rw [← hw1, ← hs0]; exact Blk.new w0 _ _)
  have b1 := hide (show Below G w w1 from by rw [← hw1]; refine Below.alloc ?_ (by rw [hs0]; omega) _; rw [← hw0, ← hG]; exact (Below.refl _ w).alloc (Nat.le_refl _) _)
  have hs1 := hide (show w1.heap.size = G + 2 from by rw [← hw1]; simp [hs0])
  rw [hG] at hr hm ⊢
  have hsz := hide (fun (W : World) (hb : Below G w W) => show G ≤ W.heap.size from by rw [← hG]; exact hb.size)
  have hrW := hide (fun (W : World) (hb : Below G w W) => (hr.below hb).mono' (hsz.out W hb))
  have hmu := much_any A c w1.heap.size l q w1 (hrW.out w1 b1.out) (Nat.le_refl _) (by rw [hl]; exact hml) (fun m h => (hm m h).2.1) hmt
  rw [show q.val = .agg q.cells from rfl, hl] at hmu
  rw [show q.val = .agg q.cells from rfl]
  have hlv := hide (fun (W : World) (hb : Below G w W) => (k14live_any W).mono fun e w' ⟨he, hb'⟩ => (show e = Ending.returned (.bool true) ∧ Below G w w' from ⟨he, hb.trans (hb'.mono (by rw [← hG]; exact hb.size))⟩))
  obtain ⟨er, hE, her⟩ := sortE_ex l
  have hsp := hide (info_sp q)
  replace hmu := hide hmu
  replace hm := hide hm
  replace hE := hide hE
  replace hl := hide hl
  replace hmt := hide hmt
  clear hml hr
  go_enter Tryz.func6, Tryz.ntmps6
  go_upto_region 3 with (first
    | (with_reducible refine wpList_load_row (o := ⟨some 23, .load 61 (.tmp 4), _, _, _, _⟩) rfl 61 (.tmp 4) rfl G rfl 61 q.cells (0, 0) _ k1.out.eq Tryz.underlying61 rfl hsp.out ?_)
    | (go_at_call 19; (with_reducible refine hmu.out.mono ?_); rintro e w2 ⟨⟨b, rfl, hbf⟩, hb2⟩; have k2 := hide (k1.out.below hb2 k1.out.lt); have p2 := hide (p1.out.below hb2 p1.out.lt); have b2 := hide (b1.out.trans (hb2.mono (hsz.out _ b1.out))); clear hb2; replace hbf := hide hbf; cases b)
    | (go_at_call 20; (with_reducible refine (hlv.out _ b2.out).mono ?_); rintro e w3 ⟨rfl, hb3⟩; replace hb3 := hide hb3))
  · obtain ⟨h40, hsum⟩ := hbf.out (by first | rfl | trivial)
    have hby := hide (fun (W : World) (hb : Below G w W) (h0 : er = 0) => show ImBy W W.heap.size l from fun m h => by
      obtain ⟨h1, h2, h3⟩ := hm.out m h
      have h4 := hE.out.small h0
      refine ⟨(h3.below hb).mono (hsz.out W hb), h1, ?_⟩
      rcases Nat.lt_or_ge 1048576 m.n with h5 | h5
      · exact absurd ⟨m, h, h5⟩ h4
      · exact h5)
    have hsm := hide (show er = 0 → q.mtx.length ≤ 1048576 → q.mtx.length + (l.map Im.n).sum ≤ 3000 ∧ ∀ m ∈ l, m.n ≤ 3000 from fun h0 hM => by
      have h4 := hE.out.small h0
      rcases hsum with h6 | h6 | h6
      · exact ⟨h6, fun m h => by have := le_nsum l m h; omega⟩
      · omega
      · exact absurd h6 h4)
    have hB1 := hide (fun (W : World) (hb : Below G w W) => build_any A c l q W (hrW.out _ hb) h40 ⟨0, 0, 0, none, 0, 0, []⟩ er hE.out her (hby.out _ hb) (fun h0 hM => ⟨by have := (hsm.out h0 hM).1; omega, fun m h => by have := (hsm.out h0 hM).2 m h; omega⟩) hI hmt.out)
    rw [show q.val = .agg q.cells from rfl, hl.out] at hB1
    replace h40 := hide h40
    clear hsum hbf hmu
    go_upto_region 4 with (first
      | (with_reducible refine wpList_load_row (o := ⟨some 28, .load 61 (.tmp 4), _, _, _, _⟩) rfl 61 (.tmp 4) rfl G rfl 61 q.cells (0, 0) _ k2.out.eq Tryz.underlying61 rfl hsp.out ?_)
      | (go_at_call 21; go_loud ((with_reducible refine (hB1.out w2 b2.out).mono ?_); rintro e w3 hP; obtain ⟨X, out, cs, r, hU, hRr, hX, h0, h1⟩ := hP; obtain ⟨⟨bs, ec⟩, ho⟩ : ∃ x, bdOut q l.length out cs er r = x := ⟨_, rfl⟩; rw [ho] at hU; replace hRr := hide hRr; replace ho := hide ho; replace hX := hide hX; replace h0 := hide h0; clear h1; obtain ⟨A3, c3, he, hR3, hb3, hc3⟩ := hU; obtain rfl : e = .returned (.tuple #[.slice A3 bs.length c3, .int .i64 ec]) := he; replace hR3 := hide (show Rd w3 w3.heap.size A3 bs.length (bs.map bv) from hR3); replace hc3 := hide (show bs.length ≤ c3 from hc3); have k3 := hide (k2.out.below hb3 k2.out.lt); have p3 := hide (p2.out.below hb3 p2.out.lt); have b3 := hide (b2.out.trans (hb3.mono (hsz.out _ b2.out))); clear hb3 hB1)))
    by_cases hec : ec = 0
    · subst hec
      obtain ⟨rfl, hM, rfl, hbs⟩ := bdOut_zero ho.out
      obtain ⟨hXR, hXS⟩ := hX.out rfl
      obtain ⟨rfl, rfl⟩ := h0.out rfl
      have hall := sorted_ok hE.out rfl
      obtain ⟨hs3000, hs3⟩ := hsm.out rfl hM
      obtain ⟨hA, hhv⟩ := arc_made hE.out h40.out (hby.out w3 b3.out rfl) hs3000 hs3 hXR hXS hRr.out bs hbs
      obtain ⟨h, hh⟩ : ∃ h, bdHead q l.length (EnS.upto (pkd q.gz) X l.length).out ((EnS.upto (pkd q.gz) X l.length).texts.map (pkd q.gz)) = h := ⟨_, rfl⟩
      rw [hh] at hA hhv
      obtain ⟨r', hR'⟩ := RightR.ex (headOf bs) (bs.length : Int)
      have hv := hhv r' hR'
      have hlen := hA.len
      have hhd := ahead_any A3 c3 bs w3 w3.heap.size hR3.out (Nat.le_refl _) hc3.out (by omega) r' hR'
      rw [hv] at hhd
      have hmi := hide (info_hd h)
      have htl := hide (fun m => arc_tile hXR hA hall m)
      have hme := hA.mtx
      have hmk := hide (fun (W : World) (hr : Rd W W.heap.size A3 bs.length (bs.map bv)) => ameta_any A3 c3 bs h W hr hc3.out hlen)
      rw [hme] at hmk
      replace hhd := hide hhd
      have hnI : (n : Int) ≤ 40 := by have := hl.out; have := h40.out; omega
      have hrl := hide (fun (W : World) (hb : Below w3.heap.size w3 W) => (hR3.out.below hb).mono hb.size)
      replace hlen := hide hlen
      have hbn := hide (fun m (hm' : m ∈ l) => (hm.out m hm').2.2.len)
      have himb := hide (fun (W : World) (hb : Below G w W) => hby.out W hb rfl)
      have hs3G := hide (show G ≤ w3.heap.size from hsz.out _ b3.out)
      clear hX h0 hRr ho hR' hhv hby hsm hs3000 hs3 hv hM hXR hXS hA hh hbs hme
      go_upto_region 10 with (first
        | (go_at_call 23; (with_reducible refine (k14code_any _ _).mono ?_); rintro e w' ⟨rfl, rfl⟩)
        | (go_at_call 8; (with_reducible refine hhd.out.mono ?_); rintro e w4 ⟨rfl, hb4⟩; obtain ⟨g5, hg5⟩ : ∃ g, w4.heap.size = g := ⟨_, rfl⟩; obtain ⟨w5, hw5⟩ : ∃ W, w4.alloc (.cells #[.int .u64 0, .int .u64 0, .int .u64 0, .int .u64 0, .int .u64 0, .int .u64 0, .int .u64 0, .int .u64 0, .int .u64 0, .int .u64 0, .int .u64 0, .bool false, .int .i64 0, .int .i64 0, .int .i64 0, .int .i64 0, .int .i64 0, .int .i64 0, .int .i64 0, .int .i64 0, .int .i64 0, .int .i64 0, .int .i64 0, .int .i64 0] 30) = W := ⟨_, rfl⟩; have k5 := hide (show Blk w5 g5 30 #[.int .u64 0, .int .u64 0, .int .u64 0, .int .u64 0, .int .u64 0, .int .u64 0, .int .u64 0, .int .u64 0, .int .u64 0, .int .u64 0, .int .u64 0, .bool false, .int .i64 0, .int .i64 0, .int .i64 0, .int .i64 0, .int .i64 0, .int .i64 0, .int .i64 0, .int .i64 0, .int .i64 0, .int .i64 0, .int .i64 0, .int .i64 0] from by rw [← hw5, ← hg5]; exact Blk.new w4 _ _); have hgg := hide (show w3.heap.size ≤ g5 from by have := hb4.size; omega); have b35 := hide (show Below w3.heap.size w3 w5 from by rw [← hw5]; exact hb4.alloc hb4.size _); clear hb4; obtain ⟨w6, hw6⟩ : ∃ W, w5.setRow g5 h.cells = W := ⟨_, rfl⟩; have h6 := hide (show Blk w6 g5 30 h.cells from by rw [← hw6]; exact k5.out.row _); have b36 := hide (show Below w3.heap.size w3 w6 from by rw [← hw6]; exact b35.out.trans (((Chg.refl (fun k => k = g5) w5).setRow (g := g5) (.inr rfl) h.cells).to_below b35.out.size (fun k hk => by rw [hk]; exact hgg.out))))
        | ((with_reducible refine wpList_store_row (o := ⟨none, .store 30 (.tmp 9) (.tmp 39), _, _, _, _⟩) rfl 30 (.tmp 9) (.tmp 39) rfl g5 h.cells rfl rfl 30 _ k5.out.eq (info_hd h) (z24hd h) h.one ?_); rw [hw6])
        | (with_reducible refine wpList_load_row (o := ⟨some 43, .load 30 (.tmp 9), _, _, _, _⟩) rfl 30 (.tmp 9) rfl g5 rfl 30 h.cells (0, 0) _ h6.out.eq Tryz.underlying30 rfl (info_hd h) ?_)
        | (go_at_call 16; (with_reducible refine (hmk.out w6 (hrl.out w6 b36.out)).mono ?_); rintro e w7 ⟨hb7, ⟨er', hx, _⟩ | ⟨o', A7, c7, hx, rfl, hR7⟩⟩; (all_goals cases hx); replace hR7 := hide hR7; have h7 := hide (h6.out.below hb7 h6.out.lt); have b37 := hide (b36.out.trans (hb7.mono b36.out.size)); have k7 := hide (k3.out.below b37.out k3.out.lt); have p7 := hide (p3.out.below b37.out p3.out.lt); have b7 := hide (b3.out.trans (b37.out.mono hs3G.out)); have x7 : w7.cell? ⟨G, 11, none⟩ = some (.string ⟨q.mtx.toArray⟩) := k7.out.cell 11; have y7 := str_pk hR7.out c7; clear hb7))
      have kw := hide (fun (W : World) (hb : Below w7.heap.size w7 W) => show Blk W G 61 q.cells from k7.out.below hb k7.out.lt)
      have pw := hide (fun (W : World) (hb : Below w7.heap.size w7 W) => show Blk W (G + 1) 43 #[.int .i64 pz, .int .i64 px, .int .i64 py] from p7.out.below hb p7.out.lt)
      have hw := hide (fun (W : World) (hb : Below w7.heap.size w7 W) => show Blk W g5 30 h.cells from h7.out.below hb h7.out.lt)
      have rw7 := hide (fun (W : World) (hb : Below w7.heap.size w7 W) => hrl.out W (b37.out.trans (hb.mono b37.out.size)))
      have gw := hide (fun (W : World) (hb : Below w7.heap.size w7 W) => show Below G w W from b7.out.trans (hb.mono (hsz.out _ b7.out)))
      clear k7 p7 h7 b37 b7 x7 y7 hrl k1 p1 k2 p2 k3 p3 b1 b2 b3 b35 b36 h6 k5 hw5 hw6 hg5 hgg hhd hmk hR7 hR3
      go_wp2
      go_loopg [13, 14] n (fun gk s13 s14 wr => ∃ (i : Nat) (v : Bool), s13 = .bool v ∧ s14 = .int .i64 i ∧ gk + i = n ∧ Hid (v = false → ∀ j (hj : j < l.length), j < i → ¬ (l[j].z = pz ∧ l[j].x = px ∧ l[j].y = py)) ∧ Hid (Below w7.heap.size w7 wr))
      case atStart => exact ⟨0, false, rfl, rfl, by omega, hide (fun _ j _ h => absurd h (Nat.not_lt_zero _)), hide (Below.refl _ _)⟩
      case round =>
        obtain ⟨i, v, rfl, rfl, hgi, hno, hb⟩ := hrel
        by_cases hin : i < n
        · obtain ⟨gn, rfl⟩ : ∃ x, gk = x + 1 := ⟨gk - 1, by omega⟩
          have hinI : (i : Int) < (n : Int) := by omega
          have hil : i < l.length := by have := hl.out; omega
          obtain ⟨bi, oi, rfl, _, e0, e1, e2, e3⟩ := (hrW.out wr (gw.out wr hb.out)) i hil
          obtain ⟨m, hm'⟩ : ∃ m, l[i] = m := ⟨_, rfl⟩
          have hmem := List.getElem_mem hil
          rw [hm'] at e0 e1 e2 e3 hmem
          obtain ⟨rt, hcall, hrt, _⟩ := htl.out m
          have hserved := hrt hmem
          clear hrt
          obtain ⟨hmr, hmc, _⟩ := himb.out wr (gw.out wr hb.out) m hmem
          have hbnm := hide (hbn.out m hmem)
          replace hcall := hide hcall
          replace hmem := hide hmem
          replace hm' := hide hm'
          have hwr := hw.out wr hb.out
          obtain ⟨⟨rb, rk, re⟩, hrt'⟩ : ∃ x, rt = x := ⟨_, rfl⟩
          subst hrt'
          replace hserved := hide hserved
          obtain ⟨u, hu⟩ := ex_v (m.z = pz ∧ m.x = px ∧ m.y = py)
          have hue := hu
          obtain ⟨mz, hmz⟩ : ∃ z, m.z = z := ⟨_, rfl⟩
          obtain ⟨mx, hmx⟩ : ∃ z, m.x = z := ⟨_, rfl⟩
          obtain ⟨my, hmy⟩ : ∃ z, m.y = z := ⟨_, rfl⟩
          rw [hmz] at e0 hcall hserved hu hue
          rw [hmx] at e1 hcall hu hue
          rw [hmy] at e2 hcall hu hue
          replace hu := hide (show u = false → ¬ (m.z = pz ∧ m.x = px ∧ m.y = py) from fun h0 h1 => by
            rw [hmz, hmx, hmy] at h1
            have := hu.1 h1
            rw [h0] at this
            cases this)
          have hem := hide (fun (W : World) (hb' : Below w7.heap.size w7 W) => show W.cell? ⟨bi, oi + i * 4, none⟩ = some (.int .i64 mz) ∧ W.cell? ⟨bi, oi + i * 4 + 1, none⟩ = some (.int .i64 mx) ∧ W.cell? ⟨bi, oi + i * 4 + 2, none⟩ = some (.int .i64 my) ∧ W.cell? ⟨bi, oi + i * 4 + 3, none⟩ = some (.slice m.A m.n m.c) from by
            obtain ⟨b', o', hA', _, y0, y1, y2, y3⟩ := (hrW.out W (gw.out W hb')) i hil
            cases hA'
            rw [hm'.out] at y0 y1 y2 y3
            rw [hmz] at y0
            rw [hmx] at y1
            rw [hmy] at y2
            exact ⟨y0, y1, y2, y3⟩)
          replace hue := hide hue
          replace hmz := hide hmz
          replace hmx := hide hmx
          replace hmy := hide hmy
          have hmrw := hide (fun (W : World) (hb' : Below w7.heap.size w7 W) => show Rd W W.heap.size m.A m.n (m.bs.map bv) from (himb.out W (gw.out W hb') m hmem.out).1)
          clear hmr hmc e3
          go_upto_region 14 with fail
          have hs0 : Grw wr wr.drew := show Below wr.heap.size wr wr.drew from ⟨rfl, rfl, rfl, Nat.le_refl _, fun _ _ => rfl⟩
          have hwH := hide (fun (W : World) (hg : Grw wr W) => show Blk W g5 30 h.cells from hwr.below hg hwr.lt)
          have hwI := hide (fun (W : World) (h : Grw wr W) => hem.out W (hb.out.trans ((show Below wr.heap.size wr W from h).mono hb.out.size)))
          refine wp_region_held_drew (S := Grw wr) (by kernel_rfl) hs0 ?_
          obtain ⟨y1, hy1⟩ : ∃ W, wr.drew = W := ⟨_, rfl⟩
          rw [hy1] at hs0 ⊢
          intro hS0
          clear hy1 hs0 hwr e0 e1 e2
          refine gtake (i := 0) (d := 67) (v := .slice A3 bs.length c3) rfl rfl (by kernel_rfl) (by kernel_rfl) (by kernel_rfl) (fun _ _ _ h => h) (.inl ⟨rfl, fun W _ => by go_simp⟩) (by assumption) ?_
          simp only [Act.put, List.setIfInBounds_toArray, List.set_cons_zero, List.set_cons_succ]
          refine gtake (i := 1) (d := 68) (v := .agg h.cells) rfl rfl (by kernel_rfl) (by kernel_rfl) (by kernel_rfl) (fun _ _ _ h => h) (yields_row rfl 30 (.tmp 9) rfl g5 rfl 30 h.cells _ (fun W hW => hwH.out W hW) Tryz.underlying30 rfl hmi.out) (by assumption) ?_
          simp only [Act.put, List.setIfInBounds_toArray, List.set_cons_zero, List.set_cons_succ]
          refine gtake (i := 2) (d := 69) (v := .slice (some ⟨bi, oi, none⟩) n c) rfl rfl (by kernel_rfl) (by kernel_rfl) (by kernel_rfl) (fun _ _ _ h => h) (.inl ⟨rfl, fun W _ => by go_simp⟩) (by assumption) ?_
          simp only [Act.put, List.setIfInBounds_toArray, List.set_cons_zero, List.set_cons_succ]
          refine gtake (i := 3) (d := 70) (v := .int .i64 (i : Int)) rfl rfl (by kernel_rfl) (by kernel_rfl) (by kernel_rfl) (fun _ _ _ h => h) (.inl ⟨rfl, fun W _ => by go_simp⟩) (by assumption) ?_
          simp only [Act.put, List.setIfInBounds_toArray, List.set_cons_zero, List.set_cons_succ]
          refine gtake (i := 4) (d := 71) (v := .pointer (some ⟨bi, oi + i * 4, none⟩)) rfl rfl (by kernel_rfl) (by kernel_rfl) (by kernel_rfl) (fun _ _ _ h => h) (.inl ⟨rfl, fun W _ => by go_simp⟩) (by assumption) ?_
          simp only [Act.put, List.setIfInBounds_toArray, List.set_cons_zero, List.set_cons_succ]
          refine gtake (i := 5) (d := 72) (v := .pointer (some ⟨bi, oi + i * 4, none⟩)) rfl rfl (by kernel_rfl) (by kernel_rfl) (by kernel_rfl) (fun _ _ _ h => h) (.inl ⟨rfl, fun W _ => by go_simp⟩) (by assumption) ?_
          simp only [Act.put, List.setIfInBounds_toArray, List.set_cons_zero, List.set_cons_succ]
          refine gtake (i := 6) (d := 73) (v := .agg #[.int .i64 mz, .int .i64 mx, .int .i64 my]) rfl rfl (by kernel_rfl) (by kernel_rfl) (by kernel_rfl) (fun _ _ _ h => h) (.inl ⟨rfl, fun W hW => by obtain ⟨hc0, hc1, hc2, _⟩ := hwI.out W hW; go_simp⟩) (by assumption) ?_
          simp only [Act.put, List.setIfInBounds_toArray, List.set_cons_zero, List.set_cons_succ]
          have hrd1 := hide (rw7.out y1 (hb.out.trans ((show Below wr.heap.size wr y1 from hS0).mono hb.out.size)))
          refine wpAnyH_ready (rs := [7]) (by kernel_rfl) (by simp) ?_
          refine AllReadyH.cons (o := ⟨some 74, _, _, _, _, _⟩) rfl (fun K hK => ?_) AllReadyH.nil
          rw [if_pos (by rfl)]
          go_simp
          go_at_call 12
          (with_reducible refine (hcall.out A3 c3 y1 hrd1.out hc3.out).mono ?_)
          rintro e y2 ⟨hb2, A8, c8, he, hr8⟩
          obtain rfl : e = .returned (.tuple #[.slice A8 rb.length c8, .bool rk, .int .i64 (re : Int)]) := he
          replace hr8 := hide (show Rd y2 y2.heap.size A8 rb.length (rb.map bv) from hr8)
          have hS2 : Grw wr y2 := Below.trans hS0 (hb2.mono hS0.size)
          have bt := hide (hb.out.trans ((show Below wr.heap.size wr y2 from hS2).mono hb.out.size))
          clear hb2
          refine hK.out _ _ hS2 (fun _ => ?_)
          clear hK hcall hrd1
          have hsv : ∃ s : Bool, (s = true ↔ (q.z0 ≤ mz ∧ mz ≤ q.z1)) ∧ rk = s ∧ re = 0 ∧ (s = true → rb = m.bs) := by
            by_cases hsv : q.z0 ≤ mz ∧ mz ≤ q.z1
            · have h1 := hserved.out.1 hsv
              injection h1 with h1 h2
              injection h2 with h2 h3
              exact ⟨true, ⟨(fun _ => hsv), (fun _ => rfl)⟩, h2, h3, (fun _ => h1)⟩
            · have h1 := hserved.out.2 hsv
              injection h1 with h1 h2
              injection h2 with h2 h3
              exact ⟨false, ⟨(fun h => by cases h), (fun h => absurd h hsv)⟩, h2, h3, (fun h => by cases h)⟩
          obtain ⟨s, hs, rfl, rfl, hrb⟩ := hsv
          clear hserved
          replace hs := hide hs
          replace hrb := hide hrb
          rw [show ((0 : Nat) : Int) = 0 from rfl]
          refine gtake (i := 8) (d := 66) (v := .tuple #[.slice A8 rb.length c8, .bool rk, .int .i64 0]) rfl rfl (by kernel_rfl) (by kernel_rfl) (by kernel_rfl) (fun _ _ _ h => h) (.inl ⟨rfl, fun W _ => by go_simp⟩) (by assumption) ?_
          simp only [Act.put, List.setIfInBounds_toArray, List.set_cons_zero, List.set_cons_succ]
          refine gtake (i := 9) (d := 75) (v := .slice A8 rb.length c8) rfl rfl (by kernel_rfl) (by kernel_rfl) (by kernel_rfl) (fun _ _ _ h => h) (.inl ⟨rfl, fun W _ => by go_simp⟩) (by assumption) ?_
          simp only [Act.put, List.setIfInBounds_toArray, List.set_cons_zero, List.set_cons_succ]
          refine gtake (i := 10) (d := 76) (v := .bool rk) rfl rfl (by kernel_rfl) (by kernel_rfl) (by kernel_rfl) (fun _ _ _ h => h) (.inl ⟨rfl, fun W _ => by go_simp⟩) (by assumption) ?_
          simp only [Act.put, List.setIfInBounds_toArray, List.set_cons_zero, List.set_cons_succ]
          refine gtake (i := 11) (d := 77) (v := .int .i64 0) rfl rfl (by kernel_rfl) (by kernel_rfl) (by kernel_rfl) (fun _ _ _ h => h) (.inl ⟨rfl, fun W _ => by go_simp⟩) (by assumption) ?_
          simp only [Act.put, List.setIfInBounds_toArray, List.set_cons_zero, List.set_cons_succ]
          refine gtake (i := 12) (d := 15) (v := .slice A8 rb.length c8) rfl rfl (by kernel_rfl) (by kernel_rfl) (by kernel_rfl) (fun _ _ _ h => h) (.inl ⟨rfl, fun W _ => by go_simp⟩) (by assumption) ?_
          simp only [Act.put, List.setIfInBounds_toArray, List.set_cons_zero, List.set_cons_succ]
          refine gtake (i := 13) (d := 16) (v := .bool rk) rfl rfl (by kernel_rfl) (by kernel_rfl) (by kernel_rfl) (fun _ _ _ h => h) (.inl ⟨rfl, fun W _ => by go_simp⟩) (by assumption) ?_
          simp only [Act.put, List.setIfInBounds_toArray, List.set_cons_zero, List.set_cons_succ]
          refine gtake (i := 14) (d := 17) (v := .int .i64 0) rfl rfl (by kernel_rfl) (by kernel_rfl) (by kernel_rfl) (fun _ _ _ h => h) (.inl ⟨rfl, fun W _ => by go_simp⟩) (by assumption) ?_
          simp only [Act.put, List.setIfInBounds_toArray, List.set_cons_zero, List.set_cons_succ]
          refine wpAnyH_done (by kernel_rfl) ?_ _
          have k2 := (kw.out y2 bt.out)
          obtain ⟨e0, e1, e2, e3⟩ := hem.out y2 bt.out
          have x2 : y2.cell? ⟨G, 2, none⟩ = some (.int .i64 q.z0) := k2.cell 2
          have x3 : y2.cell? ⟨G, 3, none⟩ = some (.int .i64 q.z1) := k2.cell 3
          clear k2
          rcases (show (decide (q.z0 ≤ mz) = false ∧ rk = false) ∨ (decide (q.z0 ≤ mz) = true ∧ decide (mz ≤ q.z1) = false ∧ rk = false) ∨ (decide (q.z0 ≤ mz) = true ∧ decide (mz ≤ q.z1) = true ∧ rk = true) from by
            cases rk with
            | true => exact .inr (.inr ⟨decide_eq_true (hs.out.1 rfl).1, decide_eq_true (hs.out.1 rfl).2, rfl⟩)
            | false =>
              by_cases h1 : q.z0 ≤ mz
              · exact .inr (.inl ⟨decide_eq_true h1, decide_eq_false (fun h2 => absurd (hs.out.2 ⟨h1, h2⟩) (by decide)), rfl⟩)
              · exact .inl ⟨decide_eq_false h1, rfl⟩) with ⟨hd1, rfl⟩ | ⟨hd1, hd2, rfl⟩ | ⟨hd1, hd2, rfl⟩
          all_goals
            go_upto_region 15 with fail
            refine wp_region_grw (by kernel_rfl) (by kernel_rfl) ?_
            try simp only [Act.put]
            repeat (first
              | go_big_quiet_skip
              | (go_big_quiet_want
                 first
                   | (with_reducible refine quiet_item (.tmp 78) (.tmp 79) (by rfl) bi oi n c i (by first | rfl | (simp [go_sem]; done)) (by first | rfl | (simp [go_sem]; done)) hinI ?_
                      simp only [Act.put, List.setIfInBounds_toArray, List.set_cons_zero, List.set_cons_succ]
                      go_big_quiet_on)
                   | (with_reducible refine quiet_item (.tmp 88) (.tmp 89) (by rfl) bi oi n c i (by first | rfl | (simp [go_sem]; done)) (by first | rfl | (simp [go_sem]; done)) hinI ?_
                      simp only [Act.put, List.setIfInBounds_toArray, List.set_cons_zero, List.set_cons_succ]
                      go_big_quiet_on)
                   | (with_reducible refine quiet_load_cell 3 (.tmp 82) (by rfl) bi (oi + i * 4) _ (by first | rfl | (simp [go_sem]; done)) _ Tryz.underlying3 rfl e0 ?_
                      simp only [Act.put, List.setIfInBounds_toArray, List.set_cons_zero, List.set_cons_succ]
                      go_big_quiet_on)
                   | (with_reducible refine quiet_load_cell 3 (.tmp 84) (by rfl) G 2 _ (by first | rfl | (simp [go_sem]; done)) _ Tryz.underlying3 rfl x2 ?_
                      simp only [Act.put, List.setIfInBounds_toArray, List.set_cons_zero, List.set_cons_succ]
                      go_big_quiet_on)
                   | (with_reducible refine quiet_load_cell 3 (.tmp 92) (by rfl) bi (oi + i * 4) _ (by first | rfl | (simp [go_sem]; done)) _ Tryz.underlying3 rfl e0 ?_
                      simp only [Act.put, List.setIfInBounds_toArray, List.set_cons_zero, List.set_cons_succ]
                      go_big_quiet_on)
                   | (with_reducible refine quiet_load_cell 3 (.tmp 94) (by rfl) G 3 _ (by first | rfl | (simp [go_sem]; done)) _ Tryz.underlying3 rfl x3 ?_
                      simp only [Act.put, List.setIfInBounds_toArray, List.set_cons_zero, List.set_cons_succ]
                      go_big_quiet_on)
                   | (go_big_quiet_op
                      go_big_quiet_on)))
            refine wpQuiet_nil ?_
            intro y3 hy3
            have b3 := hide (bt.out.trans (hy3.out.mono bt.out.size))
            have hr83 := hide ((hr8.out.below hy3.out).mono hy3.out.size)
            clear e0 e1 e2 e3 x2 x3 hy3 hd1
            have hm3 := hide (hmrw.out y3 b3.out)
            obtain ⟨_, _, _, e3⟩ := hem.out y3 b3.out
            try (have hrb' := hrb.out (by first | trivial | rfl); subst hrb')
            clear hrb hs
            try clear hd2
            go_upto_region 16 with fail
            refine wp_region_grw (by kernel_rfl) (by kernel_rfl) ?_
            try simp only [Act.put]
            repeat (first
              | go_big_quiet_skip
              | (go_big_quiet_want
                 first
                   | (with_reducible refine quiet_str (.tmp 109) (by rfl) A8 m.bs.length c8 m.bs (by first | rfl | (simp [go_sem]; done)) hr83.out ?_
                      simp only [Act.put, List.setIfInBounds_toArray, List.set_cons_zero, List.set_cons_succ]
                      go_big_quiet_on)
                   | (with_reducible refine quiet_item (.tmp 111) (.tmp 112) (by rfl) bi oi n c i (by first | rfl | (simp [go_sem]; done)) (by first | rfl | (simp [go_sem]; done)) hinI ?_
                      simp only [Act.put, List.setIfInBounds_toArray, List.set_cons_zero, List.set_cons_succ]
                      go_big_quiet_on)
                   | (with_reducible refine quiet_load_cell 22 (.tmp 114) (by rfl) bi (oi + i * 4 + 3) _ (by first | rfl | (simp [go_sem]; done)) _ Tryz.underlying22 rfl e3 ?_
                      simp only [Act.put, List.setIfInBounds_toArray, List.set_cons_zero, List.set_cons_succ]
                      go_big_quiet_on)
                   | (with_reducible refine quiet_str (.tmp 115) (by rfl) m.A m.n m.c m.bs (by first | rfl | (simp [go_sem]; done)) hm3.out ?_
                      simp only [Act.put, List.setIfInBounds_toArray, List.set_cons_zero, List.set_cons_succ]
                      go_big_quiet_on)
                   | (go_big_quiet_op
                      go_big_quiet_on)
                   | (go_big_quiet_op
                      apply Exists.intro
                      refine ⟨fun w' hw' => ?_, ?_⟩
                      · first
                          | (go_at_call 23; exact grw_same hw' (k14code_any _ w'))
                      go_big_quiet_on)))
            refine wpQuiet_nil ?_
            intro y4 hy4
            have b4 := hide (b3.out.trans (hy4.out.mono b3.out.size))
            clear hm3 e3 hy4 hr83 hr8 b3 bt
            obtain ⟨e0, e1, e2, _⟩ := hem.out y4 b4.out
            have q1 := pw.out y4 b4.out
            have p0 : y4.cell? ⟨G + 1, 0, none⟩ = some (.int .i64 pz) := q1.cell 0
            have p1 : y4.cell? ⟨G + 1, 0 + 1, none⟩ = some (.int .i64 px) := q1.cell 1
            have p2 : y4.cell? ⟨G + 1, 0 + 2, none⟩ = some (.int .i64 py) := q1.cell 2
            clear q1
            cases v
            all_goals
              go_upto_region 18 with fail
              refine wp_region_grw (by kernel_rfl) (by kernel_rfl) ?_
              try simp only [Act.put]
              repeat (first
                | go_big_quiet_skip
                | (go_big_quiet_want
                   first
                     | (with_reducible refine quiet_item (.tmp 122) (.tmp 123) (by rfl) bi oi n c i (by first | rfl | (simp [go_sem]; done)) (by first | rfl | (simp [go_sem]; done)) hinI ?_
                        simp only [Act.put, List.setIfInBounds_toArray, List.set_cons_zero, List.set_cons_succ]
                        go_big_quiet_on)
                     | (with_reducible refine quiet_load_pl (.tmp 125) (by rfl) bi (oi + i * 4) mz mx my (by first | rfl | (simp [go_sem]; done)) e0 e1 e2 ?_
                        simp only [Act.put, List.setIfInBounds_toArray, List.set_cons_zero, List.set_cons_succ]
                        go_big_quiet_on)
                     | (with_reducible refine quiet_load_pl (.tmp 5) (by rfl) (G + 1) 0 pz px py (by first | rfl | (simp [go_sem]; done)) p0 p1 p2 ?_
                        simp only [Act.put, List.setIfInBounds_toArray, List.set_cons_zero, List.set_cons_succ]
                        go_big_quiet_on)
                     | (with_reducible refine quiet_eqp (.tmp 126) (.tmp 127) mz mx my pz px py u (by rfl) (by first | rfl | (simp [go_sem]; done)) (by first | rfl | (simp [go_sem]; done)) hue.out ?_
                        simp only [Act.put, List.setIfInBounds_toArray, List.set_cons_zero, List.set_cons_succ]
                        go_big_quiet_on)
                     | (go_big_quiet_op
                        go_big_quiet_on)))
              refine wpQuiet_nil ?_
              intro y5 hy5
              have b5 := hide (b4.out.trans (hy5.out.mono b4.out.size))
              clear hy5 e0 e1 e2 p0 p1 p2 b4
              go_wp2
              go_roundg gn
              case measure => omega
              case rel =>
              first
                | exact ⟨i + 1, true, rfl, by go_num, by omega, hide (fun h => by cases h), b5⟩
                | exact ⟨i + 1, u, rfl, by go_num, by omega, hide (fun h j hj hji => by
                    rcases Nat.lt_or_ge j i with h1 | h1
                    · exact hno.out (by first | trivial | rfl) j hj h1
                    · obtain rfl : j = i := by omega
                      rw [hm'.out]
                      exact hu.out h), b5⟩
        · obtain rfl : i = n := by omega
          obtain ⟨rt, hcall, _, hnone⟩ := htl.out ⟨pz, px, py, none, 0, 0, []⟩
          obtain ⟨⟨rb, rk, re⟩, hrt'⟩ : ∃ x, rt = x := ⟨_, rfl⟩
          subst hrt'
          have hno2 := hide (show v = false → rk = false ∧ re = 0 from fun hv => by
            have h1 := hnone (fun m' hm' h2 => by
              obtain ⟨j, hj, rfl⟩ := List.getElem_of_mem hm'
              exact hno.out hv j hj (by have := hl.out; omega) h2)
            injection h1 with h1 h2
            injection h2 with h2 h3
            exact ⟨h2, h3⟩)
          have hq := hide (hcall A3 c3 wr (rw7.out wr hb.out) hc3.out)
          have hwr := hide (hw.out wr hb.out)
          have pwr := hide (pw.out wr hb.out)
          have gwr := hide (gw.out wr hb.out)
          clear hcall hnone hno
          rcases (show (v = false ∧ rk = false ∧ re = 0) ∨ v = true from by
            cases v with
            | false => exact .inl ⟨rfl, hno2.out rfl⟩
            | true => exact .inr rfl) with ⟨rfl, rfl, rfl⟩ | rfl
          all_goals
            clear hno2
            go_wp2_with (first
              | (with_reducible refine wpList_load_row (o := ⟨some 132, .load 30 (.tmp 9), _, _, _, _⟩) rfl 30 (.tmp 9) rfl g5 rfl 30 h.cells (0, 0) _ hwr.out.eq Tryz.underlying30 rfl hmi.out ?_)
              | (with_reducible refine wpList_load_row (o := ⟨some 133, .load 43 (.tmp 5), _, _, _, _⟩) rfl 43 (.tmp 5) rfl (G + 1) rfl 43 #[.int .i64 pz, .int .i64 px, .int .i64 py] (0, 0) _ pwr.out.eq Tryz.underlying43 rfl (info_pl _ _ _) ?_)
              | (go_at_call 12; (with_reducible refine hq.out.mono ?_); rintro e y2 ⟨hb2, A8, c8, he, hr8⟩; simp only at he; subst he; have b5 := hide (gwr.out.trans (hb2.mono (hsz.out _ gwr.out))); clear hb2 hr8 hq)
              | (go_at_call 23; (with_reducible refine (k14code_any _ _).mono ?_); rintro e w' ⟨rfl, rfl⟩)
              | (go_at_call 20; (with_reducible refine (hlv.out _ b5.out).mono ?_); rintro e y6 ⟨rfl, hb6⟩; replace hb6 := hide hb6))
            go_ret
            exact ⟨rfl, hb6.out⟩
    · have hne : (ec != 0) = true := by simp [hec]
      replace hec := hide hec
      go_wp2_with (first
        | (go_at_call 23; (with_reducible refine (k14code_any _ _).mono ?_); rintro e w' ⟨rfl, rfl⟩)
        | (go_at_call 20; (with_reducible refine (hlv.out _ b3.out).mono ?_); rintro e w4 ⟨rfl, hb4⟩; replace hb4 := hide hb4))
      go_ret
      exact ⟨rfl, hb4.out⟩
  · go_ret
    exact ⟨rfl, hb3.out⟩
end Go.Proofs.YtaapjampmnanmaaGreat
