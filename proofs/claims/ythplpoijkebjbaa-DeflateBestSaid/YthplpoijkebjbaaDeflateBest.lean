/- The law DeflateBest: a walk. There is no condition. -/
import Derived.Test.YthplpoijkebjbaaDefLive
import Derived.Test.YthplpoijkebjbaaDefFind
namespace Go.Proofs.Ythplpoijkebjbaa
open Go.RowKit

theorem Def.best_law {bs : List UInt8} {i M1 M2 D n : Nat} (hb : Def.Best (Def.alike bs i) (min 256 i) M1 M2) (h1 : 1 ≤ D) (hD : D ≤ i) (h256 : D ≤ 256) (hn : Def.lcp bs i D 258 = n) :
    (n < 3 ∧ (M1 = 0 ∨ (1 ≤ M1 ∧ 3 ≤ M1))) ∨ (3 ≤ n ∧ n < M1) ∨ (3 ≤ n ∧ M1 = n ∧ M2 ≤ D) := by
  have hn' : Def.alike bs i D = n := hn
  rcases hb with ⟨h2, h3, h4⟩ | ⟨h2, h3, h4, h5, h6, h7⟩
  · have := h4 D h1 (by omega)
    omega
  · have g6 := h6 D h1 (by omega)
    by_cases hM : D < M2
    · have := h7 D h1 hM
      omega
    · omega
theorem Def.best_zero {a : Nat → Nat} {m M1 M2 : Nat} (hb : Def.Best a m M1 M2) : M1 = 0 ∨ (1 ≤ M1 ∧ 3 ≤ M1) := by
  rcases hb with ⟨h2, h3, h4⟩ | ⟨h2, h3, h4, h5, h6, h7⟩ <;> omega

set_option maxRecDepth 100000 in
set_option maxHeartbeats 4000000 in
theorem deflatebest_walk (A : Option Addr) (L c : Nat) (bs : List UInt8) (a d : Nat) (w : World) (hr : Rd w w.heap.size A L (bs.map bv)) (hn : L ≤ maxLen) (ha : a ≤ 65535) (hd : d ≤ 255) :
    Calls Try.prog 6 #[.slice A L c, .int .u16 (a : Int), .int .u8 (d : Int)] w fun e w' => e = .returned (.bool true) ∧ Below w.heap.size w w' := by
  have hlive := hide (fun W => d5live_any W)
  have hL := hr.len
  by_cases hbig : 401 ≤ L ∨ L = 0
  · have hnI : (L : Int) ≤ 9223372036854775807 := by simp only [maxLen] at hn; omega
    clear hn hr
    go_enter Try.func6, Try.ntmps6
    rcases hbig with hbig | rfl
    · go_wp2_with (go_at_call 15; (with_reducible refine (hlive.out _).mono ?_); rintro e w5 ⟨rfl, hb⟩; have hb := hide hb)
      go_ret
      exact ⟨rfl, hb.out⟩
    · go_wp2_with (go_at_call 15; (with_reducible refine (hlive.out _).mono ?_); rintro e w5 ⟨rfl, hb⟩; have hb := hide hb)
      go_ret
      exact ⟨rfl, hb.out⟩
  · obtain ⟨hL4, hL0⟩ : L ≤ 400 ∧ 1 ≤ L := by omega
    subst hL
    obtain ⟨i, hi⟩ : ∃ i, a % bs.length = i := ⟨_, rfl⟩
    have hiL : i < bs.length := by rw [← hi]; exact Nat.mod_lt _ hL0
    have hfind := hide (find_any A c bs (i : Int) w w.heap.size hr (Nat.le_refl _) (by omega))
    have hV : Def.findV bs (i : Int) = Def.mt bs i := by unfold Def.findV; rw [if_pos (by omega), Int.toNat_natCast]
    rw [hV] at hfind
    have hbest := hide (Def.mt_best bs i)
    obtain ⟨M1, hM1⟩ : ∃ M, (Def.mt bs i).1 = M := ⟨_, rfl⟩
    obtain ⟨M2, hM2⟩ : ∃ M, (Def.mt bs i).2 = M := ⟨_, rfl⟩
    rw [hM1, hM2] at hfind hbest
    have hM1b : M1 ≤ 258 := by rw [← hM1]; exact (Def.mt_len bs i (by omega)).2.1
    have hM2b : M2 ≤ 256 := by rw [← hM2]; exact (Def.mt_len bs i (by omega)).2.2.1
    clear hM1 hM2 hV
    obtain ⟨L, hL⟩ : ∃ L, bs.length = L := ⟨_, rfl⟩
    rw [hL] at hr hi hfind hL4 hL0 hiL ⊢
    obtain ⟨D, hD⟩ : ∃ D, d + 1 = D := ⟨_, rfl⟩
    have e1 : IntKind.i64.wrap (a : Int) = (a : Int) := by rw [IntKind.wrap_i64]; omega
    have e2 : IntKind.i64.wrap (d : Int) = (d : Int) := by rw [IntKind.wrap_i64]; omega
    have e3 : IntKind.i64.wrap ((d : Int) + 1) = (D : Int) := by rw [IntKind.wrap_i64]; omega
    have e4 : Int.tmod (a : Int) (L : Int) = (i : Int) := by rw [← hi]; rfl
    have hL' : ((L : Int) == 0) = false := by simp; omega
    replace hL := hide hL
    replace hr := hide hr
    replace hi := hide hi
    go_enter Try.func6, Try.ntmps6
    go_wp2_with (go_at_call 23; (with_reducible refine hfind.out.mono ?_); rintro e w1 ⟨rfl, hb1⟩; have hb1 := hide hb1)
    obtain ⟨w2, hw2⟩ : ∃ W, w1.alloc (.cells #[.int .i64 (M1 : Int), .int .i64 (M2 : Int)] 38) = W := ⟨_, rfl⟩
    obtain ⟨G, hG⟩ : ∃ G, w1.heap.size = G := ⟨_, rfl⟩
    have hk2 := hide (show Blk w2 G 38 #[.int .i64 (M1 : Int), .int .i64 (M2 : Int)] from by rw [← hw2, ← hG]; exact Blk.new w1 _ _)
    have hb2 := hide (show Below w.heap.size w w2 from by rw [← hw2]; exact hb1.out.alloc hb1.out.size _)
    rw [hw2, hG]
    clear hG hw2 hb1
    have hDI : (D : Int) ≤ 256 := by omega
    have hDI1 : (1 : Int) ≤ (D : Int) := by omega
    have hiI : (i : Int) < (L : Int) := by omega
    have hLI : (L : Int) ≤ 400 := by omega
    go_loopw [10] (fun s10 wr => ∃ n : Nat, n ≤ 258 ∧ i + n ≤ L ∧ s10 = .int .i64 (n : Int) ∧ Hid (D ≤ i ∨ n = 0) ∧ Hid (Def.Runs bs i D n) ∧ Hid (Below w2.heap.size w2 wr)) (fun s10 _ => 258 - (intOf s10).toNat)
    case atStart => exact ⟨0, by omega, by omega, rfl, hide (.inr rfl), hide (fun j hj => absurd hj (Nat.not_lt_zero _)), hide (Below.refl _ _)⟩
    case round =>
      obtain ⟨n, hn, hpn, rfl, hdn, hrun, hb⟩ := hrel
      have g0 : wr.cell? ⟨G, 0, none⟩ = some (.int .i64 (M1 : Int)) := (hk2.out.below hb.out hk2.out.lt).cell 0
      have g1 : wr.cell? ⟨G, 1, none⟩ = some (.int .i64 (M2 : Int)) := (hk2.out.below hb.out hk2.out.lt).cell 1
      have hball := hide (hb2.out.trans (hb.out.mono hb2.out.size))
      by_cases hDi : D ≤ i
      · have hDI2 : (D : Int) ≤ (i : Int) := by omega
        by_cases h1 : n < 258
        · have hnI : (n : Int) < 258 := by omega
          obtain ⟨q, hq⟩ : ∃ q, i + n = q := ⟨_, rfl⟩
          have e1 : (i : Int) + (n : Int) = (q : Int) := by omega
          have e2 : IntKind.i64.wrap (q : Int) = (q : Int) := by rw [IntKind.wrap_i64]; omega
          have e1' : IntKind.i64.wrap ((i : Int) + (n : Int)) = (q : Int) := by rw [e1, e2]
          have e7 : IntKind.i64.wrap ((n : Int) + 1) = (n : Int) + 1 := by rw [IntKind.wrap_i64]; omega
          by_cases h2 : q < L
          · have hqI : (q : Int) < (L : Int) := by omega
            have hq0 : (0 : Int) ≤ (q : Int) := by omega
            obtain ⟨r, hr2⟩ : ∃ r, q - D = r := ⟨_, rfl⟩
            have e3 : (q : Int) - (D : Int) = (r : Int) := by omega
            have e4 : IntKind.i64.wrap (r : Int) = (r : Int) := by rw [IntKind.wrap_i64]; omega
            have e3' : IntKind.i64.wrap ((q : Int) - (D : Int)) = (r : Int) := by rw [e3, e4]
            have hrI : (r : Int) < (L : Int) := by omega
            have hr0 : (0 : Int) ≤ (r : Int) := by omega
            have hrd := hr.out.below hball.out
            obtain ⟨b, o, rfl, _, hcq⟩ := hrd.byte (j := q) h2
            obtain ⟨b', o', he, _, hcr⟩ := hrd.byte (j := r) (by omega)
            injection he with he
            injection he with he1 he2
            subst he1 he2
            have hqb : q < bs.length := by rw [hL.out]; exact h2
            have hrb : r < bs.length := by rw [hL.out]; omega
            have hcx := hide (show bs.getD (i + n) 0 = bs.getD (i + n - D) 0 ↔ ((bs[q].toNat : Int) = (bs[r].toNat : Int)) from by rw [hq, hr2, bsAt bs q hqb, bsAt bs r hrb, u8_eq])
            obtain ⟨X, hX⟩ : ∃ X : Nat, bs[q].toNat = X := ⟨_, rfl⟩
            obtain ⟨Y, hY⟩ : ∃ Y : Nat, bs[r].toNat = Y := ⟨_, rfl⟩
            rw [hX, hY] at hcx
            rw [hX] at hcq
            rw [hY] at hcr
            have hlt := hide (show i + n < bs.length from by rw [hq]; exact hqb)
            clear hX hY hrd
            replace hq := hide hq
            replace hr2 := hide hr2
            by_cases h3 : (X : Int) = (Y : Int)
            · have hXY : ((X : Int) == (Y : Int)) = true := by simp [h3]
              have hrun2 := hide (show Def.Runs bs i D (n + 1) from fun j hj => by
                by_cases hjn : j = n
                · subst hjn
                  exact ⟨hlt.out, hcx.out.2 h3⟩
                · exact hrun.out j (by omega))
              replace h3 := hide h3
              go_wp2_with fail
              go_quiet (fail)
              go_wp2
              go_roundw
              case rel => exact ⟨n + 1, by omega, by have := hq.out; omega, by go_num, hide (.inl hDi), hrun2, hide (below_drewN hb.out _)⟩
              case measure => simp [intOf] <;> omega
            · have hXY : ((X : Int) == (Y : Int)) = false := by simp [h3]
              have hfin := hide (Def.lcp_of bs i D 258 n hrun.out hn (.inr (fun h => h3 (hcx.out.1 h.2))))
              replace h3 := hide h3
              have hT := hide (Def.best_law hbest.out (by omega) hDi (by omega) hfin.out)
              go_wp2_with fail
              go_quiet (fail)
              rcases hT.out with ⟨t1, t2 | ⟨t2, t3⟩⟩ | ⟨t1, t2⟩ | ⟨t1, t2, t3⟩
              · subst t2
                go_wp2_with (go_at_call 15; (with_reducible refine (hlive.out _).mono ?_); rintro e w5 ⟨rfl, hb5⟩; have hb5 := hide hb5)
                go_ret
                exact ⟨rfl, (below_drewN hball.out _).trans (hb5.out.mono (below_drewN hball.out _).size)⟩
              · have t4 : ((M1 : Int) == 0) = false := by simp; omega
                go_wp2_with (go_at_call 15; (with_reducible refine (hlive.out _).mono ?_); rintro e w5 ⟨rfl, hb5⟩; have hb5 := hide hb5)
                go_ret
                exact ⟨rfl, (below_drewN hball.out _).trans (hb5.out.mono (below_drewN hball.out _).size)⟩
              · go_wp2_with (go_at_call 15; (with_reducible refine (hlive.out _).mono ?_); rintro e w5 ⟨rfl, hb5⟩; have hb5 := hide hb5)
                go_ret
                exact ⟨rfl, (below_drewN hball.out _).trans (hb5.out.mono (below_drewN hball.out _).size)⟩
              · have t4 : ((M1 : Int) == (n : Int)) = true := by simp; omega
                have t5 : decide ((n : Int) < (M1 : Int)) = false := decide_eq_false (by omega)
                go_wp2_with (go_at_call 15; (with_reducible refine (hlive.out _).mono ?_); rintro e w5 ⟨rfl, hb5⟩; have hb5 := hide hb5)
                go_ret
                exact ⟨rfl, (below_drewN hball.out _).trans (hb5.out.mono (below_drewN hball.out _).size)⟩
          · have hd2 : decide ((q : Int) < (L : Int)) = false := decide_eq_false (by omega)
            have hqI : (L : Int) ≤ (q : Int) := by omega
            have hfin := hide (Def.lcp_of bs i D 258 n hrun.out hn (.inr (fun h => by have h4 := h.1; rw [hL.out, hq] at h4; exact h2 h4)))
            have hT := hide (Def.best_law hbest.out (by omega) hDi (by omega) hfin.out)
            go_wp2_with fail
            go_quiet (fail)
            rcases hT.out with ⟨t1, t2 | ⟨t2, t3⟩⟩ | ⟨t1, t2⟩ | ⟨t1, t2, t3⟩
            · subst t2
              go_wp2_with (go_at_call 15; (with_reducible refine (hlive.out _).mono ?_); rintro e w5 ⟨rfl, hb5⟩; have hb5 := hide hb5)
              go_ret
              exact ⟨rfl, (below_drewN hball.out _).trans (hb5.out.mono (below_drewN hball.out _).size)⟩
            · have t4 : ((M1 : Int) == 0) = false := by simp; omega
              go_wp2_with (go_at_call 15; (with_reducible refine (hlive.out _).mono ?_); rintro e w5 ⟨rfl, hb5⟩; have hb5 := hide hb5)
              go_ret
              exact ⟨rfl, (below_drewN hball.out _).trans (hb5.out.mono (below_drewN hball.out _).size)⟩
            · go_wp2_with (go_at_call 15; (with_reducible refine (hlive.out _).mono ?_); rintro e w5 ⟨rfl, hb5⟩; have hb5 := hide hb5)
              go_ret
              exact ⟨rfl, (below_drewN hball.out _).trans (hb5.out.mono (below_drewN hball.out _).size)⟩
            · have t4 : ((M1 : Int) == (n : Int)) = true := by simp; omega
              have t5 : decide ((n : Int) < (M1 : Int)) = false := decide_eq_false (by omega)
              go_wp2_with (go_at_call 15; (with_reducible refine (hlive.out _).mono ?_); rintro e w5 ⟨rfl, hb5⟩; have hb5 := hide hb5)
              go_ret
              exact ⟨rfl, (below_drewN hball.out _).trans (hb5.out.mono (below_drewN hball.out _).size)⟩
        · have hnI : (258 : Int) ≤ (n : Int) := by omega
          have hd1 : decide ((n : Int) < 258) = false := decide_eq_false (by omega)
          have hfin := hide (Def.lcp_of bs i D 258 n hrun.out hn (.inl (by omega)))
          have hT := hide (Def.best_law hbest.out (by omega) hDi (by omega) hfin.out)
          go_wp2_with fail
          go_quiet (fail)
          rcases hT.out with ⟨t1, t2 | ⟨t2, t3⟩⟩ | ⟨t1, t2⟩ | ⟨t1, t2, t3⟩
          · exfalso; omega
          · exfalso; omega
          · exfalso; omega
          · have t4 : ((M1 : Int) == (n : Int)) = true := by simp; omega
            have t5 : decide ((n : Int) < (M1 : Int)) = false := decide_eq_false (by omega)
            go_wp2_with (go_at_call 15; (with_reducible refine (hlive.out _).mono ?_); rintro e w5 ⟨rfl, hb5⟩; have hb5 := hide hb5)
            go_ret
            exact ⟨rfl, (below_drewN hball.out _).trans (hb5.out.mono (below_drewN hball.out _).size)⟩
      · obtain rfl : n = 0 := by
          rcases hdn.out with h | h
          · exact absurd h hDi
          · exact h
        have hDI2 : (i : Int) < (D : Int) := by omega
        have hT := hide (Def.best_zero hbest.out)
        go_wp2_with fail
        go_quiet (fail)
        rcases hT.out with t2 | ⟨t2, t3⟩
        · subst t2
          go_wp2_with (go_at_call 15; (with_reducible refine (hlive.out _).mono ?_); rintro e w5 ⟨rfl, hb5⟩; have hb5 := hide hb5)
          go_ret
          exact ⟨rfl, (below_drewN hball.out _).trans (hb5.out.mono (below_drewN hball.out _).size)⟩
        · have t4 : ((M1 : Int) == 0) = false := by simp; omega
          go_wp2_with (go_at_call 15; (with_reducible refine (hlive.out _).mono ?_); rintro e w5 ⟨rfl, hb5⟩; have hb5 := hide hb5)
          go_ret
          exact ⟨rfl, (below_drewN hball.out _).trans (hb5.out.mono (below_drewN hball.out _).size)⟩

end Go.Proofs.Ythplpoijkebjbaa
