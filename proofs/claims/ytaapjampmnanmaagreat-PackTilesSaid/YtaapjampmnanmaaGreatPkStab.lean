/- Layer 14 (pack): the stable sort of at most 40 items by their numbers (slices.SortStableFunc). The conditions: where the slice lies; at most 40 items. -/
import Derived.Test.YtaapjampmnanmaaGreatPkSym
import Derived.Test.YtaapjampmnanmaaGreatPkIns
import Derived.Test.YtaapjampmnanmaaGreatPkSwap
namespace Go.Proofs.YtaapjampmnanmaaGreat
open Go.RowKit
set_option linter.unusedVariables false
set_option linter.unusedSimpArgs false
theorem symmerge_any (g n c : Nat) (hn : n ≤ 1048576) : ∀ (L a m b : Nat) (f : Nat → It) (w : World), b - a ≤ L → Arr w g n f → a < m → m < b → b ≤ n → St.Srt It.id a m f → St.Srt It.id m b f →
    Calls Tryz.prog 160 #[.slice (some ⟨g, 0, none⟩) n c, .int .i64 (a : Int), .int .i64 (m : Int), .int .i64 (b : Int), cmpF] w fun e w' => e = .returned (.tuple #[]) ∧ ∃ X, Arr w' g n X ∧ St.Rch a b f X ∧ St.Srt It.id a b X ∧ Chg (fun q => q = g) w w' := by
  intro L
  induction L with
  | zero => intro a m b f w h _ h1 h2; omega
  | succ L ih =>
    intro a m b f w hL h ham hmb hbn hs1 hs2
    by_cases h1 : m = a + 1
    · exact symmerge_one g n c a m b f w h hn h1 hmb hbn hs2
    · by_cases h2 : b = m + 1
      · exact symmerge_last g n c a m b f w h hn (by omega) h2 hbn hs1
      · exact symmerge_many g n c a m b f w h hn (by omega) (by omega) hbn hs1 hs2 (fun a' m' b' f' w' hlt h' h1' h2' h3' h4' h5' => ih a' m' b' f' w' (by omega) h' h1' h2' h3' h4' h5')
def Blks (q : Nat) (X : Nat → It) : Prop := ∀ t, t < q → St.Srt It.id (20 * t) (20 * t + 20) X
set_option maxRecDepth 100000 in
set_option maxHeartbeats 8000000 in
theorem stable_any (g n c : Nat) (f : Nat → It) (w : World) (h : Arr w g n f) (hn : n ≤ 40) :
    Calls Tryz.prog 126 #[.slice (some ⟨g, 0, none⟩) n c, .int .i64 (n : Int), cmpF] w fun e w' => e = .returned (.tuple #[]) ∧ ∃ X, Arr w' g n X ∧ St.Rch 0 n f X ∧ St.Srt It.id 0 n X ∧ Chg (fun q => q = g) w w' := by
  have hnI : (n : Int) ≤ 40 := by omega
  replace h := hide h
  go_enter Tryz.func126, Tryz.ntmps126
  go_wp2
  go_loopg [7, 8] 2 (fun gk s7 s8 wr => ∃ q a b : Nat, s7 = .int .i64 a ∧ s8 = .int .i64 b ∧ a = 20 * q ∧ b = a + 20 ∧ gk + q = 2 ∧ a ≤ n ∧ Hid (∃ X, Arr wr g n X ∧ St.Rch 0 n f X ∧ Blks q X) ∧ Hid (Chg (fun q => q = g) w wr))
  case atStart => exact ⟨0, 0, 20, rfl, rfl, rfl, rfl, rfl, Nat.zero_le _, hide ⟨f, h.out, .refl f, fun t ht => absurd ht (Nat.not_lt_zero _)⟩, hide (Chg.refl _ w)⟩
  case round =>
    clear h
    obtain ⟨q, a, b, rfl, rfl, ha, hb, hq, han, hX, hC⟩ := hrel
    obtain ⟨X, hA, hR, hB⟩ := hX.out
    replace hA := hide hA
    replace hR := hide hR
    replace hB := hide hB
    clear hX
    by_cases hlt : b ≤ n
    · obtain ⟨gn, rfl⟩ : ∃ x, gk = x + 1 := ⟨gk - 1, by omega⟩
      have hltI : (b : Int) ≤ (n : Int) := by omega
      have hbw : IntKind.i64.wrap ((b : Int) + 20) = (b : Int) + 20 := by rw [IntKind.wrap_i64]; omega
      have hi := hide (insertion_any g n c a b X wr hA.out (by omega) (by omega) hlt)
      replace ha := hide ha
      replace hb := hide hb
      go_wp2_with (go_at_call 159; (with_reducible refine hi.out.mono ?_); rintro e w2 ⟨rfl, X2, hA2, hR2, hS2, hC2⟩; replace hA2 := hide hA2; replace hR2 := hide hR2; replace hS2 := hide hS2; replace hC2 := hide hC2)
      go_roundg gn
      case measure => omega
      case rel =>
        have ha := ha.out
        have hb := hb.out
        refine ⟨q + 1, b, b + 20, rfl, by go_num, by omega, rfl, by omega, hlt, hide ⟨X2, hA2.out, hR.out.trans (hR2.out.mono (Nat.zero_le _) hlt), fun t ht => ?_⟩, hide (hC.out.trans hC2.out (fun _ _ h => h))⟩
        rcases (show t < q ∨ t = q by omega) with h1 | rfl
        · exact St.Srt.pre (hB.out t h1) hR2.out (by omega)
        · have := hS2.out
          rw [ha, show b = 20 * t + 20 by omega] at this
          exact this
    · have hltI : (n : Int) < (b : Int) := by omega
      have hi := hide (insertion_any g n c a n X wr hA.out (by omega) han (Nat.le_refl _))
      replace ha := hide ha
      replace hb := hide hb
      go_wp2_with (go_at_call 159; (with_reducible refine hi.out.mono ?_); rintro e w2 ⟨rfl, X2, hA2, hR2, hS2, hC2⟩; replace hA2 := hide hA2; replace hR2 := hide hR2; replace hS2 := hide hS2; replace hC2 := hide hC2)
      have hX2 := hide (show Arr w2 g n X2 ∧ St.Rch 0 n f X2 ∧ (n ≤ 20 → St.Srt It.id 0 n X2) ∧ (20 < n → St.Srt It.id 0 20 X2 ∧ St.Srt It.id 20 n X2) from by
        have ha := ha.out
        have hb := hb.out
        refine ⟨hA2.out, hR.out.trans (hR2.out.mono (Nat.zero_le _) (Nat.le_refl _)), fun h1 => ?_, fun h1 => ?_⟩
        · rcases (show q = 0 ∨ (q = 1 ∧ n = 20) by omega) with rfl | ⟨rfl, h3⟩
          · have := hS2.out
            rw [ha] at this
            exact this
          · have := St.Srt.pre (hB.out 0 (by omega)) hR2.out (by omega)
            rw [h3]
            exact this
        · rcases (show q = 1 ∨ (q = 2 ∧ n = 40) by omega) with rfl | ⟨rfl, h3⟩
          · refine ⟨St.Srt.pre (hB.out 0 (by omega)) hR2.out (by omega), ?_⟩
            have := hS2.out
            rw [ha] at this
            exact this
          · refine ⟨St.Srt.pre (hB.out 0 (by omega)) hR2.out (by omega), ?_⟩
            have := St.Srt.pre (hB.out 1 (by omega)) hR2.out (by omega)
            rw [h3]
            exact this)
      have hC3 := hide (hC.out.trans hC2.out (fun _ _ h => h))
      clear hi hA2 hR2 hS2 hC2 hA hR hB hC ha hb
      go_loopg [6] 1 (fun jk s6 wj => ∃ bs : Nat, s6 = .int .i64 bs ∧ ((bs = 20 ∧ jk = 1 ∧ Hid (∃ X, Arr wj g n X ∧ St.Rch 0 n f X ∧ (n ≤ 20 → St.Srt It.id 0 n X) ∧ (20 < n → St.Srt It.id 0 20 X ∧ St.Srt It.id 20 n X))) ∨ (bs = 40 ∧ jk = 0 ∧ Hid (∃ X, Arr wj g n X ∧ St.Rch 0 n f X ∧ St.Srt It.id 0 n X))) ∧ Hid (Chg (fun q => q = g) w wj))
      case atStart => exact ⟨20, rfl, .inl ⟨rfl, rfl, hide ⟨X2, hX2.out⟩⟩, hC3⟩
      case round =>
        clear hX2 hC3
        obtain ⟨bs, rfl, ⟨rfl, rfl, hX⟩ | ⟨rfl, rfl, hX⟩, hCj⟩ := hrel
        · by_cases h20 : 20 < n
          · have h20I : (20 : Int) < (n : Int) := by omega
            obtain ⟨X3, hA3, hR3, _, hS3⟩ := hX.out
            obtain ⟨hS4, hS5⟩ := hS3 h20
            have hm1 := hide (fun W (hW : Arr W g n X3) => symmerge_any g n c (by omega) n 0 20 n X3 W (by omega) hW (by omega) h20 (Nat.le_refl _) hS4 hS5)
            replace hA3 := hide hA3
            replace hR3 := hide hR3
            clear hX hS3 hS4 hS5
            go_wp2
            go_loopg [7, 8] 1 (fun ik s7 s8 wk => ((s7 = .int .i64 0 ∧ s8 = .int .i64 40 ∧ ik = 1 ∧ Hid (Arr wk g n X3)) ∨ (s7 = .int .i64 40 ∧ s8 = .int .i64 80 ∧ ik = 0 ∧ n = 40 ∧ Hid (∃ X, Arr wk g n X ∧ St.Rch 0 n f X ∧ St.Srt It.id 0 n X))) ∧ Hid (Chg (fun q => q = g) w wk))
            case atStart => exact ⟨.inl ⟨rfl, rfl, rfl, hA3⟩, hCj⟩
            case round =>
              clear hA3 hCj
              obtain ⟨⟨rfl, rfl, rfl, hA4⟩ | ⟨rfl, rfl, rfl, h40, hX4⟩, hCk⟩ := hrel
              · by_cases h40 : n = 40
                · have h40I : (40 : Int) ≤ (n : Int) := by omega
                  have hm2 := hide (show Calls Tryz.prog 160 #[.slice (some ⟨g, 0, none⟩) n c, .int .i64 0, .int .i64 20, .int .i64 40, cmpF] wr (fun e w' => e = .returned (.tuple #[]) ∧ ∃ X, Arr w' g n X ∧ St.Rch 0 n X3 X ∧ St.Srt It.id 0 n X ∧ Chg (fun q => q = g) wr w') from by
                    have := hm1.out wr hA4.out
                    rw [show (n : Int) = 40 by omega] at this
                    exact this)
                  replace h40 := hide h40
                  clear hm1
                  go_wp2_with (go_at_call 160; (with_reducible refine hm2.out.mono ?_); rintro e w3 ⟨rfl, X5, hA5, hR5, hS5, hC5⟩; replace hA5 := hide hA5; replace hR5 := hide hR5; replace hS5 := hide hS5; replace hC5 := hide hC5)
                  go_roundg 0
                  case measure => omega
                  case rel => exact ⟨.inr ⟨rfl, rfl, rfl, h40.out, hide ⟨X5, hA5.out, hR3.out.trans hR5.out, hS5.out⟩⟩, hide (hCk.out.trans hC5.out (fun _ _ h => h))⟩
                · have h40I : (n : Int) < 40 := by omega
                  have hm2 := hide (show Calls Tryz.prog 160 #[.slice (some ⟨g, 0, none⟩) n c, .int .i64 0, .int .i64 20, .int .i64 (n : Int), cmpF] wr (fun e w' => e = .returned (.tuple #[]) ∧ ∃ X, Arr w' g n X ∧ St.Rch 0 n X3 X ∧ St.Srt It.id 0 n X ∧ Chg (fun q => q = g) wr w') from hm1.out wr hA4.out)
                  clear hm1
                  go_wp2_with (go_at_call 160; (with_reducible refine hm2.out.mono ?_); rintro e w3 ⟨rfl, X5, hA5, hR5, hS5, hC5⟩; replace hA5 := hide hA5; replace hR5 := hide hR5; replace hS5 := hide hS5; replace hC5 := hide hC5)
                  go_roundg 0
                  case measure => omega
                  case rel => exact ⟨40, by go_num, .inr ⟨rfl, rfl, hide ⟨X5, hA5.out, hR3.out.trans hR5.out, hS5.out⟩⟩, hide (hCk.out.trans hC5.out (fun _ _ h => h))⟩
              · have h80 : (n : Int) < 80 := by omega
                have h60 : ¬ (60 : Int) < (n : Int) := by omega
                have h60d : decide ((60 : Int) < (n : Int)) = false := by simp; omega
                replace h40 := hide h40
                clear hm1
                go_wp2
                go_roundg 0
                case measure => omega
                case rel => exact ⟨40, by go_num, .inr ⟨rfl, rfl, hX4⟩, hCk⟩
          · have h20I : (n : Int) ≤ 20 := by omega
            obtain ⟨X3, hA3, hR3, hS3, _⟩ := hX.out
            have hS4 := hide (hS3 (by omega))
            replace hA3 := hide hA3
            replace hR3 := hide hR3
            clear hX hS3
            go_wp2
            go_end0
            exact ⟨rfl, X3, hA3.out, hR3.out, hS4.out, hCj.out⟩
        · obtain ⟨X3, hA3, hR3, hS3⟩ := hX.out
          replace hA3 := hide hA3
          replace hR3 := hide hR3
          replace hS3 := hide hS3
          clear hX
          go_wp2
          go_end0
          exact ⟨rfl, X3, hA3.out, hR3.out, hS3.out, hCj.out⟩
theorem sortstable_any (g n c : Nat) (f : Nat → It) (w : World) (h : Arr w g n f) (hn : n ≤ 40) :
    Calls Tryz.prog 95 #[.slice (some ⟨g, 0, none⟩) n c, cmpF] w fun e w' => e = .returned (.tuple #[]) ∧ ∃ X, Arr w' g n X ∧ St.Rch 0 n f X ∧ St.Srt It.id 0 n X ∧ Chg (fun q => q = g) w w' := by
  have hs := hide (stable_any g n c f w h hn)
  clear h hn
  go_enter Tryz.func95, Tryz.ntmps95
  go_wp2_with (go_at_call 126; (with_reducible refine hs.out.mono ?_); rintro e w2 ⟨rfl, hX⟩; replace hX := hide hX)
  go_end0
  exact ⟨rfl, hX.out⟩
end Go.Proofs.YtaapjampmnanmaaGreat
