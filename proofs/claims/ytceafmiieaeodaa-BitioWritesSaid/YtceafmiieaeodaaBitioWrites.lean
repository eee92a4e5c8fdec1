/- The law BitioWrites: a walk. There is no condition. -/
import Derived.Test.YtceafmiieaeodaaBitPack
import Derived.Test.YtceafmiieaeodaaAppendMake
import Derived.Test.YtceafmiieaeodaaBitKeep
import Derived.Test.YtceafmiieaeodaaOpenAct
import Derived.Deep.RegionWith
import Derived.Deep.DeepCutAuto
namespace Go.Proofs.Ytceafmiieaeodaa
open Go.RowKit

theorem Bit.gapI (a : Nat) : ((8 : Int) - (a : Int) % 8) % 8 = (Bit.gap a : Int) := by unfold Bit.gap; omega

theorem WrAt.chg_ow {B g base n c : Nat} {w w' : World} {l : List Bool} {e : TypeId} {A : Option Addr} {xs : List Value} (h : WrAt B w g l) (ho : Ow w base e A n c xs) (h1 : e ≠ 86) (h2 : e ≠ 5) (hc : Chg (fun k => blk A = some k) w w') : WrAt B w' g l := by
  obtain ⟨A', ⟨c', hk, ho'⟩, h3, h4⟩ := h
  exact ⟨A', ⟨c', hk.chg hc (ho.ne hk h1), ho'.chg hc (fun k hk' hA => ho'.ne_ow ho (Ne.symm h2) k hk' hA)⟩, h3, Nat.le_trans h4 hc.size⟩

set_option maxRecDepth 100000 in
set_option maxHeartbeats 2000000 in
theorem bitiowrites_walk (A : Option Addr) (n c : Nat) (acts : List (Int × Nat × Int)) (w : World) (hlen : acts.length = n) (hr : RdA w w.heap.size A acts) (hu : ∀ q ∈ acts, q.2.1 < 4294967296) (hn : n ≤ maxLen) :
    Calls Try.prog 4 #[.slice A n c] w fun e w' => e = .returned (.bool true) ∧ Below w.heap.size w w' := by
  have hlive := hide (fun W => bitlive_any W)
  by_cases hbig : 200 < n
  · have hnI : (n : Int) ≤ 9223372036854775807 := by simp only [maxLen] at hn; omega
    clear hn hr hlen hu
    go_enter Try.func4, Try.ntmps4
    go_wp2_with (go_at_call 19; (with_reducible refine (hlive.out _).mono ?_); rintro e w5 ⟨rfl, hb5⟩)
    go_ret
    exact ⟨rfl, hb5⟩
  · have hnI : (n : Int) ≤ 200 := by omega
    have hB : ∃ B, w.heap.size = B := ⟨_, rfl⟩
    obtain ⟨B, hB⟩ := hB
    have hnew := newwriter_at w
    rw [hB] at hnew hr ⊢
    have hnew := hide hnew
    have hr := hide hr
    have hu := hide hu
    clear hn
    go_enter Try.func4, Try.ntmps4
    go_wp2_with (go_at_call 20; (with_reducible refine hnew.out.mono ?_); rintro e w1 ⟨rfl, h1, hb1⟩; have h1 := hide h1; have hb1 := hide hb1)
    go_loopw [4, 5] (fun s i wr => ∃ k : Nat, ∃ L : List Bool, ∃ A4 c4, k ≤ n ∧ i = .int .i64 k ∧ s = .slice A4 L.length c4 ∧ Hid (L.length ≤ 40 * k) ∧ Hid (WrAt B wr B L) ∧ Hid (Ow wr B 4 A4 L.length c4 (L.map Value.bool)) ∧ Hid (Below B w wr)) (fun _ i _ => n - (intOf i).toNat)
    case atStart => exact ⟨0, [], none, 0, by omega, rfl, rfl, hide (by simp), by rw [← hB]; first | exact h1 | (rw [hB]; exact h1), hide (Ow.nil _ _ _), hb1⟩
    case round =>
      obtain ⟨k, L, A4, c4, hk, rfl, rfl, hL, hW, hO, hb⟩ := hrel
      by_cases hlt : k < n
      · have hkl : k < acts.length := by omega
        obtain ⟨b, o, rfl, hbB, e0, e1, e2⟩ := hr.out.below hb.out k hkl
        rw [← Nat.add_assoc] at e1 e2
        have hlI : (k : Int) < (n : Int) := by omega
        have hv := hide (hu.out acts[k] (List.getElem_mem hkl))
        have hwb := hide (show B ≤ wr.heap.size from by obtain ⟨_, _, _, h⟩ := hW.out; exact h)
        generalize acts[k].1 = d at *
        generalize acts[k].2.1 = v at *
        generalize acts[k].2.2 = z at *
        go_upto_region 9 with fail
        have hbx := (Below.refl wr.heap.size wr).alloc (Nat.le_refl _) (Obj.cells #[Value.int .i64 d, .int .u32 (v : Int), .int .i64 z] 43)
        have hWn := hide (hW.out.below hbx)
        have hOn := hide (hO.out.below hbx)
        have hbn := hide (hb.out.trans (hbx.mono hwb.out))
        have hKn := hide (Blk.new wr 43 #[Value.int .i64 d, .int .u32 (v : Int), .int .i64 z])
        have d0 := hKn.out.cell 0
        have d1 := hKn.out.cell 1
        have d2 := hKn.out.cell 2
        simp only [List.getElem?_toArray, List.getElem?_cons_zero, List.getElem?_cons_succ] at d0 d1 d2
        clear hbx hW hO hb hwb e0 e1 e2
        generalize wr.alloc (Obj.cells #[Value.int .i64 d, .int .u32 (v : Int), .int .i64 z] 43) = W0 at *
        generalize wr.heap.size = G at *
        have hLL := hL.out
        have hwn := hide (show B ≤ W0.heap.size from by obtain ⟨_, _, _, h⟩ := hWn.out; exact h)
        have hz3 : z < 0 ∨ (0 ≤ z ∧ 32 < z) ∨ (0 ≤ z ∧ z ≤ 32) := by omega
        go_cut [7] from 16 to 107 (fun s7 wx => s7 = .bool (decide (0 ≤ z ∧ z ≤ 32)) ∧ wx = W0)
        case first =>
          rcases hz3 with hz | ⟨hz0, hz⟩ | ⟨hz0, hz⟩
          · have hd : decide (0 ≤ z ∧ z ≤ 32) = false := by simp; omega
            go_wp2
            go_meet
            exact ⟨by first | rfl | (rw [hd]; done) | (rw [hd]; simp; done) | (rw [hd]; simp; omega), rfl⟩
          · have hd : decide (0 ≤ z ∧ z ≤ 32) = false := by simp; omega
            go_wp2
            go_meet
            exact ⟨by first | rfl | (rw [hd]; done) | (rw [hd]; simp; done) | (rw [hd]; simp; omega), rfl⟩
          · have hd : decide (0 ≤ z ∧ z ≤ 32) = true := by simp; omega
            go_wp2
            go_meet
            exact ⟨by first | rfl | (rw [hd]; done) | (rw [hd]; simp; done) | (rw [hd]; simp; omega), rfl⟩
        case rest =>
          obtain ⟨rfl, rfl⟩ := hcut
          have hzok : ∀ t, decide (0 ≤ z ∧ z ≤ 32) = t → (t = true → 0 ≤ z ∧ z ≤ 32) ∧ (t = false → z < 0 ∨ 32 < z) := by
            rintro t rfl
            constructor
            · intro h; simpa using h
            · intro h; have h := of_decide_eq_false h; omega
          obtain ⟨ok, hok⟩ : ∃ ok, decide (0 ≤ z ∧ z ≤ 32) = ok := ⟨_, rfl⟩
          have hzok := hide (hzok ok hok)
          rw [hok]
          clear hok hz3
          go_upto_region 10 with fail
          iterate 11 go_step
          go_cut [9] from 16 to 107 (fun s9 wx => s9 = .int .i64 (if ok = false ∧ d ≠ 2 then 1 else 0) ∧ wx = wc)
          case first =>
            by_cases hd2 : d = 2
            · subst hd2
              cases ok
              · go_wp2
                go_meet
                exact ⟨by simp, rfl⟩
              · go_wp2
                go_meet
                exact ⟨by simp, rfl⟩
            · have hdI : (d == 2) = false := by simpa using hd2
              cases ok
              · go_wp2
                go_meet
                exact ⟨by simp [hd2], rfl⟩
              · go_wp2
                go_meet
                exact ⟨by simp, rfl⟩
          case rest =>
            obtain ⟨rfl, rfl⟩ := hcut
            go_step
            go_step
            go_cut [4, 7, 8, 9, 10] from 16 to 107 (fun s4 _ s8 s9 _ wx => ∃ L2 : List Bool, ∃ A5 c5, ∃ err : Int, s4 = .slice A5 L2.length c5 ∧ s8 = .int .i64 err ∧ s9 = .int .i64 err ∧ Hid (L2.length ≤ 40 * (k + 1)) ∧ Hid (WrAt B wx B L2) ∧ Hid (Ow wx B 4 A5 L2.length c5 (L2.map Value.bool)) ∧ Hid (Below B w wx))
            case first =>
              by_cases hd2 : d = 2
              · subst hd2
                have hal := hide (fun W (h : WrAt B W B L) => xtalign h (by omega))
                have hG := Bit.gapI L.length
                have hgl : Bit.gap L.length ≤ 7 := by unfold Bit.gap; omega
                obtain ⟨L2, hL2⟩ : ∃ L2, L ++ List.replicate (Bit.gap L.length) false = L2 := ⟨_, rfl⟩
                have hN : L2.length = L.length + Bit.gap L.length := by rw [← hL2, List.length_append, List.length_replicate]
                have hL2 := hide hL2
                have hN := hide hN
                go_wp2_with (first
                  | (at_builtin; refine wpList_append_zeros wc rfl (.tmp 64) (.tmp 65) rfl elem_bool Try.underlying3 rfl hOn.out .i64 (Bit.gap L.length) (congrArg (Value.int .i64) hG) (by rw [zeros_bool]; exact bool_one _) (by simp only [maxLen]; omega) (by omega) hwn.out ?_; intro A5 c5 w5 ho5 hg5; rw [zeros_bool, ← List.map_append] at ho5; have ho5 := hide ho5; have hb5 := hide (hbn.out.trans (hg5.to_below (B := B) hwn.out (fun i hi => (hOn.out.blk_lt i hi).1))); have h5 := hide (hWn.out.chg_ow hOn.out (by decide) (by decide) hg5); clear hg5)
                  | (go_at_call 21; (with_reducible refine (hal.out _ h5.out).mono ?_); rintro e w6 ⟨rfl, h6, hb6, hx6⟩; have ho6 := hide (hx6.ow ho5.out (by decide) (by decide) (by decide)); have h6 := hide h6; have hb6 := hide (hb5.out.trans hb6); clear hx6))
                go_meet
                rw [hL2.out] at h6 ho6
                rw [← hN.out] at ho6
                exact ⟨L2, A5, c5, 0, by rw [hN.out], rfl, rfl, hide (by rw [hN.out]; omega), h6, ho6, hb6⟩
              · have hdI : (d == 2) = false := by simpa using hd2
                by_cases hd1 : d = 1
                · subst hd1
                  cases ok
                  · have hbad := hide (wturned_bad B v z wc (hzok.out.2 rfl))
                    go_wp2_with (go_at_call 22; (with_reducible refine hbad.out.mono ?_); rintro e w' ⟨rfl, rfl⟩)
                    go_meet
                    exact ⟨L, A4, c4, 1, rfl, rfl, rfl, hide (by omega), hWn, hOn, hbn⟩
                  · obtain ⟨m, rfl⟩ := Int.eq_ofNat_of_zero_le (hzok.out.1 rfl).1
                    have hm32 : m ≤ 32 := by have := (hzok.out.1 rfl).2; omega
                    have htu := hide (xtturned hWn.out v m (by omega) hv.out hm32)
                    have hlo := hide (fun W => reflow_any v m W hv.out hm32)
                    have hln := Bit.low_length v m
                    obtain ⟨lw, hlw⟩ : ∃ lw, Bit.low v m = lw := ⟨_, rfl⟩
                    rw [hlw] at htu hlo hln
                    clear hlw
                    have htr := hide (fun (W : World) (A : Option Addr) (c B0 : Nat) (h : Ow W B0 4 A m c (lw.map Value.bool)) => refturn_any A m c lw W _ h.rd (Nat.le_refl _) hm32)
                    have hln := hide hln
                    go_wp2_with (first
                      | (go_at_call 22; (with_reducible refine htu.out.mono ?_); rintro e w5 ⟨rfl, h5, hb5, hx5⟩; have ho5 := hide (hx5.ow hOn.out (by decide) (by decide) (by decide)); have hk5 := hide (hx5.row hKn.out (by decide) (by decide) (by decide)); have h5 := hide h5; have hb5 := hide (hbn.out.trans hb5); have f1 := hk5.out.cell 1; have f2 := hk5.out.cell 2; simp only [List.getElem?_toArray, List.getElem?_cons_zero, List.getElem?_cons_succ] at f1 f2; clear hx5)
                      | (go_at_call 24; (with_reducible refine (hlo.out _).mono ?_); rintro e w6 ⟨A6, c6, rfl, ho6, hb6⟩; have h6 := hide (h5.out.below hb6); have hO6 := hide (ho5.out.below hb6); have hw6 := hide (show B ≤ w5.heap.size from by obtain ⟨_, _, _, h⟩ := h5.out; exact h); have hb6 := hide (hb5.out.trans (hb6.mono hw6.out)); have ho6 := hide ho6)
                      | (go_at_call 23; (with_reducible refine (htr.out _ _ _ _ ho6.out).mono ?_); rintro e w7 ⟨A7, c7, rfl, ho7, hb7⟩; have h7 := hide (h6.out.below hb7); have hO7 := hide (hO6.out.below hb7); have hw7 := hide (show B ≤ w6.heap.size from by obtain ⟨_, _, _, h⟩ := h6.out; exact h); have hb7 := hide (hb6.out.trans (hb7.mono hw7.out)); have ho7 := hide ho7; have hww := hide (show B ≤ w7.heap.size from by obtain ⟨_, _, _, h⟩ := h7.out; exact h))
                      | (at_builtin; refine wpList_append_rd w7 rfl (.tmp 80) (.tmp 86) rfl elem_bool rfl hO7.out rfl ho7.out.rd (bool_one _) (by simp only [maxLen]; omega) (by omega) hww.out ?_; intro A8 c8 w8 ho8 hg8 _; rw [← List.map_append] at ho8; have ho8 := hide ho8; have hb8 := hide (hb7.out.trans (hg8.to_below (B := B) hww.out (fun i hi => (hO7.out.blk_lt i hi).1))); have h8 := hide (h7.out.chg_ow hO7.out (by decide) (by decide) hg8); clear hg8))
                    go_meet
                    have hlen8 : (L ++ lw.reverse).length = L.length + m := by rw [List.length_append, List.length_reverse, hln.out]
                    rw [← hlen8] at ho8
                    exact ⟨L ++ lw.reverse, A8, c8, 0, by rw [hlen8], rfl, rfl, hide (by rw [hlen8]; omega), h8, ho8, hb8⟩
                · have hdJ : (d == 1) = false := by simpa using hd1
                  cases ok
                  · have hbad := hide (wbits_bad B v z wc (hzok.out.2 rfl))
                    go_wp2_with (go_at_call 25; (with_reducible refine hbad.out.mono ?_); rintro e w' ⟨rfl, rfl⟩)
                    go_meet
                    exact ⟨L, A4, c4, 1, rfl, rfl, rfl, hide (by omega), hWn, hOn, hbn⟩
                  · obtain ⟨m, rfl⟩ := Int.eq_ofNat_of_zero_le (hzok.out.1 rfl).1
                    have hm32 : m ≤ 32 := by have := (hzok.out.1 rfl).2; omega
                    have htu := hide (xtbits hWn.out v m (by omega) hv.out hm32)
                    have hlo := hide (fun W => reflow_any v m W hv.out hm32)
                    have hln := Bit.low_length v m
                    obtain ⟨lw, hlw⟩ : ∃ lw, Bit.low v m = lw := ⟨_, rfl⟩
                    rw [hlw] at htu hlo hln
                    clear hlw
                    have hln := hide hln
                    go_wp2_with (first
                      | (go_at_call 25; (with_reducible refine htu.out.mono ?_); rintro e w5 ⟨rfl, h5, hb5, hx5⟩; have ho5 := hide (hx5.ow hOn.out (by decide) (by decide) (by decide)); have hk5 := hide (hx5.row hKn.out (by decide) (by decide) (by decide)); have h5 := hide h5; have hb5 := hide (hbn.out.trans hb5); have f1 := hk5.out.cell 1; have f2 := hk5.out.cell 2; simp only [List.getElem?_toArray, List.getElem?_cons_zero, List.getElem?_cons_succ] at f1 f2; clear hx5)
                      | (go_at_call 24; (with_reducible refine (hlo.out _).mono ?_); rintro e w6 ⟨A6, c6, rfl, ho6, hb6⟩; have h6 := hide (h5.out.below hb6); have hO6 := hide (ho5.out.below hb6); have hw6 := hide (show B ≤ w5.heap.size from by obtain ⟨_, _, _, h⟩ := h5.out; exact h); have hb6 := hide (hb5.out.trans (hb6.mono hw6.out)); have ho6 := hide ho6; have hww := hide (show B ≤ w6.heap.size from by obtain ⟨_, _, _, h⟩ := h6.out; exact h))
                      | (at_builtin; refine wpList_append_rd w6 rfl (.tmp 50) (.tmp 55) rfl elem_bool rfl hO6.out rfl ho6.out.rd (bool_one _) (by simp only [maxLen]; omega) (by omega) hww.out ?_; intro A8 c8 w8 ho8 hg8 _; rw [← List.map_append] at ho8; have ho8 := hide ho8; have hb8 := hide (hb6.out.trans (hg8.to_below (B := B) hww.out (fun i hi => (hO6.out.blk_lt i hi).1))); have h8 := hide (h6.out.chg_ow hO6.out (by decide) (by decide) hg8); clear hg8))
                    go_meet
                    have hlen8 : (L ++ lw).length = L.length + m := by rw [List.length_append, hln.out]
                    rw [← hlen8] at ho8
                    exact ⟨L ++ lw, A8, c8, 0, by rw [hlen8], rfl, rfl, hide (by rw [hlen8]; omega), h8, ho8, hb8⟩
            case rest =>
              obtain ⟨L2, A5, c5, err, rfl, rfl, rfl, hL2, h6, ho6, hb6⟩ := hcut
              have hN8 : L2.length ≤ 8040 := by have := hL2.out; omega
              have h6 : Hid (WrAt B wc.drew B L2) := h6.out
              have ho6 : Hid (Ow wc.drew B 4 A5 L2.length c5 (L2.map Value.bool)) := ho6.out
              have hb6 : Hid (Below B w wc.drew) := hb6.out.trans (below_drewN (Below.refl _ wc) 1)
              have hle := hide (atlen h6.out)
              have hby := hide (atbytes h6.out (by omega))
              have hby2 := hide (fun W (h : Ow W B 4 A5 L2.length c5 (L2.map Value.bool)) => refbytes_any A5 L2.length c5 L2 W _ h.rd (Nat.le_refl _) (by omega))
              clear hWn hOn hbn hKn d0 d1 d2 hwn hzok hlt hkl
              go_upto_region 26 with fail
              go_region_with (first
                | (go_at_call 26; (with_reducible refine (bcode_any _ _).mono ?_); rintro e w' ⟨rfl, rfl⟩)
                | (go_at_call 27; (with_reducible refine hle.out.mono ?_); rintro e w' ⟨rfl, rfl⟩)
                | (go_at_call 28; (with_reducible refine hby.out.mono ?_); rintro e w7 ⟨A7, c7, rfl, ho7, hb7⟩; have ks7 := str_of_rd ho7.rd c7; have hb67 := hide hb7; have ho67 := hide (ho6.out.below hb7); have h67 := hide (h6.out.below hb7); have ho7 := hide ho7; clear hb7)
                | (go_at_call 29; (with_reducible refine (hby2.out _ ho67.out).mono ?_); rintro e w8 ⟨A8, c8, rfl, ho8, hb8⟩; have ks8 := str_of_rd ho8.rd c8; have ks78 := str_of_rd (ho7.out.below hb8).rd c7; have hb68 := hide (hb67.out.trans (hb8.mono hb67.out.size)); have ho68 := hide (ho67.out.below hb8); have h68 := hide (h67.out.below hb8); clear hb8 ho8))
              all_goals
                go_wp2
                go_roundw
                case rel => exact ⟨k + 1, L2, A5, c5, by omega, by go_num, rfl, hL2, h68, ho68, hide (hb6.out.trans (hb68.out.mono (by obtain ⟨_, _, _, h⟩ := h6.out; exact h)))⟩
                case measure => simp [intOf] <;> omega
      · obtain rfl : k = n := by omega
        go_wp2_with (go_at_call 19; (with_reducible refine (hlive.out _).mono ?_); rintro e w8 ⟨rfl, hb8⟩)
        go_ret
        exact ⟨rfl, hb.out.trans (hb8.mono (by have := hb.out.size; omega))⟩

end Go.Proofs.Ytceafmiieaeodaa
