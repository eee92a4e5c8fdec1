/- Layer 5 (deflate): the longest match at a place: the walks of deflate.alike, deflate.Find and of the document's Find. The conditions: where the slice lies. -/
import Derived.Test.YthplpoijkebjbaaDefSym
import Derived.Test.YthplpoijkebjbaaMem
import Derived.BigQuiet
import Derived.BigRegion
import Derived.Deep.DeepCutAuto
import Derived.Deep.CutBlock
namespace Go.Proofs.Ythplpoijkebjbaa
open Go.RowKit

theorem bsAt (bs : List UInt8) (i : Nat) (h : i < bs.length) : bs.getD i 0 = bs[i] := by rw [List.getD_eq_getElem?_getD, List.getElem?_eq_getElem h]; rfl
theorem u8_eq (x y : UInt8) : (x.toNat : Int) = (y.toNat : Int) ↔ x = y := by
  rw [← UInt8.toNat_inj]
  omega

set_option maxRecDepth 100000 in
set_option maxHeartbeats 4000000 in
theorem alike_any (A : Option Addr) (c : Nat) (bs : List UInt8) (p d : Nat) (w : World) (B : Nat) (hr : Rd w B A bs.length (bs.map bv)) (hB : B ≤ w.heap.size) (hp : p ≤ bs.length) (hd1 : 1 ≤ d) (hdp : d ≤ p) (hl : bs.length ≤ 1048576) :
    Calls Try.prog 53 #[.slice A bs.length c, .int .i64 (p : Int), .int .i64 (d : Int)] w fun e w' => e = .returned (.int .i64 ((Def.alike bs p d : Nat) : Int)) ∧ Below w.heap.size w w' := by
  obtain ⟨L, hL⟩ : ∃ L, bs.length = L := ⟨_, rfl⟩
  have hLI : (L : Int) ≤ 1048576 := by omega
  have hpI : (p : Int) ≤ (L : Int) := by omega
  have hdI : (d : Int) ≤ (p : Int) := by omega
  have hdI1 : (1 : Int) ≤ (d : Int) := by omega
  rw [hL] at hr ⊢
  replace hL := hide hL
  replace hr := hide hr
  replace hB := hide hB
  go_enter Try.func53, Try.ntmps53
  go_wp2
  go_loopw [7] (fun s7 wr => ∃ n : Nat, n ≤ 258 ∧ p + n ≤ L ∧ s7 = .int .i64 (n : Int) ∧ Hid (Def.Runs bs p d n) ∧ Hid (Below w.heap.size w wr)) (fun s7 _ => 258 - (intOf s7).toNat)
  case atStart => exact ⟨0, by omega, by omega, rfl, hide (fun j hj => absurd hj (Nat.not_lt_zero _)), hide (Below.refl _ _)⟩
  case round =>
    obtain ⟨n, hn, hpn, rfl, hrun, hb⟩ := hrel
    by_cases h1 : n < 258
    · have hnI : (n : Int) < 258 := by omega
      obtain ⟨q, hq⟩ : ∃ q, p + n = q := ⟨_, rfl⟩
      have e1 : (p : Int) + (n : Int) = (q : Int) := by omega
      have e2 : IntKind.i64.wrap (q : Int) = (q : Int) := by rw [IntKind.wrap_i64]; omega
      have e1' : IntKind.i64.wrap ((p : Int) + (n : Int)) = (q : Int) := by rw [e1, e2]
      have e7 : IntKind.i64.wrap ((n : Int) + 1) = (n : Int) + 1 := by rw [IntKind.wrap_i64]; omega
      by_cases h2 : q < L
      · have hqI : (q : Int) < (L : Int) := by omega
        have hq0 : (0 : Int) ≤ (q : Int) := by omega
        obtain ⟨r, hr2⟩ : ∃ r, q - d = r := ⟨_, rfl⟩
        have e3 : (q : Int) - (d : Int) = (r : Int) := by omega
        have e4 : IntKind.i64.wrap (r : Int) = (r : Int) := by rw [IntKind.wrap_i64]; omega
        have e3' : IntKind.i64.wrap ((q : Int) - (d : Int)) = (r : Int) := by rw [e3, e4]
        have hrI : (r : Int) < (L : Int) := by omega
        have hr0 : (0 : Int) ≤ (r : Int) := by omega
        have hrd := hr.out.below (hb.out.mono hB.out)
        obtain ⟨b, o, rfl, _, hcq⟩ := hrd.byte (j := q) h2
        obtain ⟨b', o', he, _, hcr⟩ := hrd.byte (j := r) (by omega)
        injection he with he
        injection he with he1 he2
        subst he1 he2
        have hqb : q < bs.length := by rw [hL.out]; exact h2
        have hrb : r < bs.length := by rw [hL.out]; omega
        have hcx := hide (show bs.getD (p + n) 0 = bs.getD (p + n - d) 0 ↔ ((bs[q].toNat : Int) = (bs[r].toNat : Int)) from by rw [hq, hr2, bsAt bs q hqb, bsAt bs r hrb, u8_eq])
        obtain ⟨X, hX⟩ : ∃ X : Nat, bs[q].toNat = X := ⟨_, rfl⟩
        obtain ⟨Y, hY⟩ : ∃ Y : Nat, bs[r].toNat = Y := ⟨_, rfl⟩
        rw [hX, hY] at hcx
        rw [hX] at hcq
        rw [hY] at hcr
        have hlt := hide (show p + n < bs.length from by rw [hq]; exact hqb)
        clear hX hY hrd
        replace hq := hide hq
        replace hr2 := hide hr2
        by_cases h3 : (X : Int) = (Y : Int)
        · have hXY : ((X : Int) == (Y : Int)) = true := by simp [h3]
          have hrun2 := hide (show Def.Runs bs p d (n + 1) from fun j hj => by
            by_cases hjn : j = n
            · subst hjn
              exact ⟨hlt.out, hcx.out.2 h3⟩
            · exact hrun.out j (by omega))
          replace h3 := hide h3
          go_wp2_with fail
          go_quiet (fail)
          go_wp2
          go_roundw
          case rel => exact ⟨n + 1, by omega, by have := hq.out; omega, by go_num, hrun2, hide (below_drewN hb.out _)⟩
          case measure => simp [intOf] <;> omega
        · have hXY : ((X : Int) == (Y : Int)) = false := by simp [h3]
          have hfin := hide (Def.lcp_of bs p d 258 n hrun.out hn (.inr (fun h => h3 (hcx.out.1 h.2))))
          replace h3 := hide h3
          go_wp2_with fail
          go_quiet (fail)
          go_wp2
          go_ret
          exact ⟨by rw [Def.alike, hfin.out]; rfl, below_drewN hb.out _⟩
      · have hd2 : decide ((q : Int) < (L : Int)) = false := decide_eq_false (by omega)
        have hqI : (L : Int) ≤ (q : Int) := by omega
        have hfin := hide (Def.lcp_of bs p d 258 n hrun.out hn (.inr (fun h => by have h4 := h.1; rw [hL.out, hq] at h4; exact h2 h4)))
        go_wp2_with fail
        go_quiet (fail)
        go_wp2
        go_ret
        exact ⟨by rw [Def.alike, hfin.out]; rfl, below_drewN hb.out _⟩
    · obtain rfl : n = 258 := by omega
      have hfin := hide (Def.lcp_of bs p d 258 258 hrun.out hn (.inl rfl))
      go_wp2_with fail
      go_quiet (fail)
      go_wp2
      go_ret
      exact ⟨by rw [Def.alike, hfin.out]; rfl, below_drewN hb.out _⟩

/-- The match at any place. -/
def Def.findV (bs : List UInt8) (z : Int) : Nat × Nat := if 0 ≤ z ∧ z ≤ bs.length then Def.mt bs z.toNat else (0, 0)
theorem info_match (a b : Value) : (Try.prog.info? 38).map (·.size) = some (#[a, b] : Array Value).size := by kernel_rfl
set_option maxRecDepth 100000 in
set_option maxHeartbeats 4000000 in
theorem find_any (A : Option Addr) (c : Nat) (bs : List UInt8) (z : Int) (w : World) (B : Nat) (hr : Rd w B A bs.length (bs.map bv)) (hB : B ≤ w.heap.size) (hl : bs.length ≤ 1048576) :
    Calls Try.prog 23 #[.slice A bs.length c, .int .i64 z] w fun e w' => e = .returned (.agg #[.int .i64 ((Def.findV bs z).1 : Int), .int .i64 ((Def.findV bs z).2 : Int)]) ∧ Below w.heap.size w w' := by
  obtain ⟨G, hG⟩ : ∃ G, w.heap.size = G := ⟨_, rfl⟩
  obtain ⟨w1, hw1⟩ : ∃ W, w.alloc (.cells #[.int .i64 0, .int .i64 0] 38) = W := ⟨_, rfl⟩
  obtain ⟨w2, hw2⟩ : ∃ W, w1.alloc (.cells #[.int .i64 0, .int .i64 0] 38) = W := ⟨_, rfl⟩
  have s1 : w1.heap.size = G + 1 := by rw [← hw1, ← hG]; simp
  have hs2 := hide (show w2.heap.size = G + 1 + 1 from by rw [← hw2, ← s1]; simp)
  have k1 : Blk w1 G 38 #[.int .i64 0, .int .i64 0] := by rw [← hw1, ← hG]; exact Blk.new w _ _
  have k2 : Blk w2 G 38 #[.int .i64 0, .int .i64 0] := by rw [← hw2]; exact k1.alloc _
  have k3 : Blk w2 (G + 1) 38 #[.int .i64 0, .int .i64 0] := by rw [← hw2, ← s1]; exact Blk.new w1 _ _
  have hb2 := hide (show Below G w w2 from by rw [← hw2, ← hw1, ← hG]; exact ((Below.refl _ w).alloc (Nat.le_refl _) _).alloc (by simp) _)
  have x2 : w2.cell? ⟨G, 0, none⟩ = some (.int .i64 0) := k2.cell 0
  have x3 : w2.cell? ⟨G, 1, none⟩ = some (.int .i64 0) := k2.cell 1
  have x4 : w2.cell? ⟨G + 1, 0, none⟩ = some (.int .i64 0) := k3.cell 0
  have x5 : w2.cell? ⟨G + 1, 1, none⟩ = some (.int .i64 0) := k3.cell 1
  have f2 : w2.frozen? ⟨G, 0, none⟩ = false := k2.free 0
  have f3 : w2.frozen? ⟨G, 1, none⟩ = false := k2.free 1
  replace k2 := hide k2
  replace k3 := hide k3
  rw [hG]
  by_cases h : 0 ≤ z ∧ z ≤ bs.length
  · obtain ⟨p, rfl⟩ := Int.eq_ofNat_of_zero_le h.1
    have hp : p ≤ bs.length := by omega
    have hV := hide (show Def.findV bs (p : Int) = Def.mt bs p from by unfold Def.findV; rw [if_pos h]; rfl)
    have hal := hide (show ∀ W, Below G w W → ∀ d : Nat, 1 ≤ d → d ≤ p → Calls Try.prog 53 #[.slice A bs.length c, .int .i64 (p : Int), .int .i64 (d : Int)] W fun e w' => e = .returned (.int .i64 ((Def.alike bs p d : Nat) : Int)) ∧ Below W.heap.size W w' from fun W hW d h1 h2 => alike_any A c bs p d W B (hr.below (hW.mono (by omega))) (by have := hW.size; omega) hp h1 h2 hl)
    have hmt := hide (Def.mt_best bs p)
    obtain ⟨V, hVV⟩ : ∃ V, Def.findV bs (p : Int) = V := ⟨_, rfl⟩
    rw [hVV] at hV ⊢
    have hal258 := hide (fun d => Def.lcp_le bs p d 258)
    obtain ⟨M, hM⟩ : ∃ M, min 256 p = M := ⟨_, rfl⟩
    rw [hM] at hmt
    have hM256 : M ≤ 256 := by omega
    have hMp : M ≤ p := by omega
    have hMI : (if 256 < (p : Int) then 256 else (p : Int)) = (M : Int) := by split <;> omega
    have hMI2 : (if (p : Int) < 256 then (p : Int) else 256) = (M : Int) := by split <;> omega
    obtain ⟨L, hL⟩ : ∃ L, bs.length = L := ⟨_, rfl⟩
    rw [hL] at hal hp ⊢
    have hpI : (p : Int) ≤ (L : Int) := by omega
    have hp0 : (0 : Int) ≤ (p : Int) := by omega
    have hLp : decide (L < p) = false := decide_eq_false (by omega)
    clear h hr hB hl hVV hM hL
    go_enter Try.func23, Try.ntmps23
    go_wp2
    clear x2 x3 x4 x5 f2 f3
    go_loopw [6] (fun s6 wr => ∃ (d l b : Nat), d ≤ M ∧ s6 = .int .i64 ((d : Int) + 1) ∧ Hid (Def.Best (Def.alike bs p) d l b) ∧ Hid (Blk wr G 38 #[.int .i64 0, .int .i64 0]) ∧ Hid (Blk wr (G + 1) 38 #[.int .i64 (l : Int), .int .i64 (b : Int)]) ∧ Hid (Below G w wr)) (fun s6 _ => M + 2 - (intOf s6).toNat)
    case atStart => exact ⟨0, 0, 0, by omega, rfl, hide (Def.Best.zero _), k2, k3, hb2⟩
    case round =>
      obtain ⟨d, l, b, hd, rfl, hbest, hk0, hk1, hb⟩ := hrel
      by_cases h1 : d < M
      · obtain ⟨D, hD⟩ : ∃ D, d + 1 = D := ⟨_, rfl⟩
        have eD : (d : Int) + 1 = (D : Int) := by omega
        have hDI : (D : Int) ≤ (M : Int) := by omega
        have hDW : IntKind.i64.wrap ((D : Int) + 1) = (D : Int) + 1 := by rw [IntKind.wrap_i64]; omega
        have hq := hide (hal.out wr hb.out D (by omega) (by omega))
        have hup := hide hbest.out.up
        rw [hD] at hup
        obtain ⟨a, ha⟩ : ∃ a, Def.alike bs p D = a := ⟨_, rfl⟩
        have hab : a ≤ 258 := by rw [← ha]; exact hal258.out D
        rw [ha] at hq hup
        rw [eD]
        replace hD := hide hD
        replace ha := hide ha
        by_cases h3 : 3 ≤ a
        · have h3I : (3 : Int) ≤ (a : Int) := by omega
          by_cases h4 : l < a
          · have h4I : (l : Int) < (a : Int) := by omega
            have hbn := hide (hup.out.1 ⟨h3, h4⟩)
            clear hup hbest
            go_wp2_with (go_at_call 53; (with_reducible refine hq.out.mono ?_); rintro e w3 ⟨rfl, hb3⟩; have k0 := hk0.out.below hb3 hk0.out.lt; have k1 := hk1.out.below hb3 hk1.out.lt; have y0 : w3.cell? ⟨G + 1, 0, none⟩ = some (.int .i64 (l : Int)) := k1.cell 0; have y1 : w3.cell? ⟨G + 1, 1, none⟩ = some (.int .i64 (b : Int)) := k1.cell 1; have g0 : w3.frozen? ⟨G + 1, 0, none⟩ = false := k1.free 0; have g1 : w3.frozen? ⟨G + 1, 1, none⟩ = false := k1.free 1; have hbb := hide (hb.out.trans (hb3.mono (by have := hk0.out.lt; omega))); have k0 := hide k0; have k1 := hide k1; clear hb3)
            go_roundw
            case rel => exact ⟨D, a, D, by omega, rfl, hbn, hide ((k0.out.far (by simp) _).far (by simp) _), hide ((k1.out.set 0 _).set 1 _), hide ((hbb.out.setCell (by simp) _).setCell (by simp) _)⟩
            case measure => simp [intOf] <;> omega
          · have h4I : (a : Int) ≤ (l : Int) := by omega
            have hbn := hide (hup.out.2 (fun h => h4 h.2))
            clear hup hbest
            go_wp2_with (go_at_call 53; (with_reducible refine hq.out.mono ?_); rintro e w3 ⟨rfl, hb3⟩; have k0 := hk0.out.below hb3 hk0.out.lt; have k1 := hk1.out.below hb3 hk1.out.lt; have y0 : w3.cell? ⟨G + 1, 0, none⟩ = some (.int .i64 (l : Int)) := k1.cell 0; have y1 : w3.cell? ⟨G + 1, 1, none⟩ = some (.int .i64 (b : Int)) := k1.cell 1; have g0 : w3.frozen? ⟨G + 1, 0, none⟩ = false := k1.free 0; have g1 : w3.frozen? ⟨G + 1, 1, none⟩ = false := k1.free 1; have hbb := hide (hb.out.trans (hb3.mono (by have := hk0.out.lt; omega))); have k0 := hide k0; have k1 := hide k1; clear hb3)
            go_roundw
            case rel => exact ⟨D, l, b, by omega, rfl, hbn, k0, k1, hbb⟩
            case measure => simp [intOf] <;> omega
        · have h3I : (a : Int) < 3 := by omega
          have hbn := hide (hup.out.2 (fun h => h3 h.1))
          clear hup hbest
          go_wp2_with (go_at_call 53; (with_reducible refine hq.out.mono ?_); rintro e w3 ⟨rfl, hb3⟩; have k0 := hk0.out.below hb3 hk0.out.lt; have k1 := hk1.out.below hb3 hk1.out.lt; have y0 : w3.cell? ⟨G + 1, 0, none⟩ = some (.int .i64 (l : Int)) := k1.cell 0; have y1 : w3.cell? ⟨G + 1, 1, none⟩ = some (.int .i64 (b : Int)) := k1.cell 1; have g0 : w3.frozen? ⟨G + 1, 0, none⟩ = false := k1.free 0; have g1 : w3.frozen? ⟨G + 1, 1, none⟩ = false := k1.free 1; have hbb := hide (hb.out.trans (hb3.mono (by have := hk0.out.lt; omega))); have k0 := hide k0; have k1 := hide k1; clear hb3)
          go_roundw
          case rel => exact ⟨D, l, b, by omega, rfl, hbn, k0, k1, hbb⟩
          case measure => simp [intOf] <;> omega
      · obtain rfl : d = M := by omega
        have hlt : (d : Int) < (d : Int) + 1 := by omega
        obtain ⟨u1, u2⟩ := hbest.out.uniq hmt.out
        subst u1 u2
        have y0 : wr.cell? ⟨G + 1, 0, none⟩ = some (.int .i64 ((Def.mt bs p).1 : Int)) := hk1.out.cell 0
        have y1 : wr.cell? ⟨G + 1, 1, none⟩ = some (.int .i64 ((Def.mt bs p).2 : Int)) := hk1.out.cell 1
        have y2 : wr.cell? ⟨G, 0, none⟩ = some (.int .i64 0) := hk0.out.cell 0
        have y3 : wr.cell? ⟨G, 1, none⟩ = some (.int .i64 0) := hk0.out.cell 1
        have g0 : wr.frozen? ⟨G, 0, none⟩ = false := hk0.out.free 0
        have g1 : wr.frozen? ⟨G, 1, none⟩ = false := hk0.out.free 1
        clear hbest hmt hal
        go_wp2
        exact bodyPost_ret_by (results_cell_row rfl _ _ G 38 #[.int .i64 ((Def.mt bs p).1 : Int), .int .i64 ((Def.mt bs p).2 : Int)] (0, 0) _ rfl ((hk0.out.set 0 _).set 1 _) Try.underlying38 rfl (info_match _ _)) rfl ⟨by rw [hV.out], (hb.out.setCell (by simp) _).setCell (by simp) _⟩
  · have hV := hide (show Def.findV bs z = (0, 0) from by unfold Def.findV; rw [if_neg h])
    have hc : z < 0 ∨ (0 ≤ z ∧ (bs.length : Int) < z) := by omega
    clear h hr hB hl
    generalize bs.length = L at *
    rcases hc with h1 | ⟨h1, h2⟩
    all_goals
      go_enter Try.func23, Try.ntmps23
      go_wp2
      exact bodyPost_ret_by (results_cell_row rfl _ _ G 38 #[.int .i64 0, .int .i64 0] (0, 0) _ rfl ((k2.out.set 0 _).set 1 _) Try.underlying38 rfl (info_match _ _)) rfl ⟨by rw [hV.out]; rfl, (hb2.out.setCell (by simp) _).setCell (by simp) _⟩

theorem Def.BestD.past {a : Nat → Nat} {k m l d : Nat} (h : Def.BestD a (k + 1) m l d) (hk : m ≤ k) : Def.BestD a k m l d := by
  rcases h with ⟨rfl, rfl, _⟩ | ⟨h1, h2, h3, _⟩
  · exact Def.BestD.skip hk
  · omega
end Go.Proofs.Ythplpoijkebjbaa
