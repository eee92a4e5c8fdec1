/- Layer 14 (pack): the reference's search of the least number, and its test of the items. The conditions: where the items lie; at most 40 items. -/
import Derived.Test.YtaapjampmnanmaaGreatPkSorted
import Derived.Test.YtaapjampmnanmaaGreatHilbX
namespace Go.Proofs.YtaapjampmnanmaaGreat
open Go.RowKit
set_option linter.unusedVariables false
set_option linter.unusedSimpArgs false

theorem rimid_any (m : Im) (h : m.ok) (w : World) : Calls Tryz.prog 34 #[.agg #[.int .i64 m.z, .int .i64 m.x, .int .i64 m.y]] w fun e w' => e = .returned (.tuple #[.int .u64 (m.num : Int), .int .i64 0]) ∧ Below w.heap.size w w' := by
  obtain ⟨a, b, c, h1, h2, h3, h4, h5, h6⟩ := isPl_nat h
  have hn : m.num = Hilb.F a + Hilb.hil a b c := by unfold Im.num; rw [h1, h2, h3]; rfl
  rw [h1, h2, h3, hn]
  exact refid_yes a b c w h4 h5 h6
/-- The place of the least number from a number on, of the first k items. -/
def Least (l : List Im) (fr k : Nat) (t : Int) : Prop :=
  (t = -1 ∧ ∀ j (hj : j < l.length), j < k → l[j].num < fr) ∨ ∃ i, ∃ hi : i < l.length, i < k ∧ t = i ∧ fr ≤ l[i].num ∧ ∀ j (hj : j < l.length), j < k → fr ≤ l[j].num → l[i].num ≤ l[j].num

set_option maxRecDepth 100000 in
set_option maxHeartbeats 4000000 in
theorem least_any (A : Option Addr) (c B : Nat) (l : List Im) (fr : Nat) (w : World) (hr : RdIm w B A l) (hB : B ≤ w.heap.size) (hn : l.length ≤ 40) (hok : ∀ m ∈ l, m.ok) :
    Calls Tryz.prog 83 #[.slice A l.length c, .int .u64 (fr : Int)] w fun e w' => (∃ t, e = .returned (.int .i64 t) ∧ Least l fr l.length t) ∧ Below w.heap.size w w' := by
  obtain ⟨n, hl⟩ : ∃ n, l.length = n := ⟨_, rfl⟩
  rw [hl]
  have hnI : (n : Int) ≤ 40 := by omega
  replace hr := hide hr
  replace hok := hide hok
  clear hn
  go_enter Tryz.func83, Tryz.ntmps83
  go_wp2
  go_loopw [5, 6] (fun s5 s6 wr => ∃ (t : Int) (k : Nat), s5 = .int .i64 t ∧ s6 = .int .i64 k ∧ k ≤ n ∧ Hid (Least l fr k t) ∧ Hid (Below w.heap.size w wr)) (fun _ s6 _ => n - (intOf s6).toNat)
  case atStart => exact ⟨-1, 0, rfl, rfl, Nat.zero_le _, hide (.inl ⟨rfl, fun j _ h => absurd h (Nat.not_lt_zero _)⟩), hide (Below.refl _ _)⟩
  case round =>
    obtain ⟨t, k, rfl, rfl, hk, hL, hb⟩ := hrel
    by_cases hlt : k < n
    · have hkl : k < l.length := by omega
      have hkI : (k : Int) < n := by omega
      have hkw : IntKind.i64.wrap ((k : Int) + 1) = (k : Int) + 1 := by rw [IntKind.wrap_i64]; omega
      obtain ⟨b, o, rfl, _, e0, e1, e2, e3⟩ := (hr.out.below (hb.out.mono hB)) k hkl
      have hid := hide (fun W => rimid_any l[k] (hok.out _ (List.getElem_mem hkl)) W)
      have hm := hide (show l[k] = l[k] from rfl)
      obtain ⟨m, hmk⟩ : ∃ m, l[k] = m := ⟨_, rfl⟩
      rw [hmk] at e0 e1 e2 e3 hid
      replace hmk := hide hmk
      clear hm
      by_cases hlow : m.num < fr
      · have hlI : (m.num : Int) < (fr : Int) := by omega
        have hL2 := hide (show Least l fr (k + 1) t from by
          rcases hL.out with ⟨h1, h2⟩ | ⟨i, hi, h1, h2, h3, h4⟩
          · refine .inl ⟨h1, fun j hj hjk => ?_⟩
            rcases (show j < k ∨ j = k by omega) with h | rfl
            · exact h2 j hj h
            · rw [hmk.out]; exact hlow
          · refine .inr ⟨i, hi, by omega, h2, h3, fun j hj hjk hf => ?_⟩
            rcases (show j < k ∨ j = k by omega) with h | rfl
            · exact h4 j hj h hf
            · rw [hmk.out] at hf; omega)
        go_wp2_with (go_at_call 34; (with_reducible refine (hid.out _).mono ?_); rintro e w1 ⟨rfl, hb1⟩; have hb1 := hide (hb.out.trans (hb1.mono hb.out.size)))
        go_roundw
        case rel => exact ⟨t, k + 1, rfl, by go_num, by omega, hL2, hb1⟩
        case measure => simp [intOf] <;> omega
      · have hlI : (fr : Int) ≤ (m.num : Int) := by omega
        rcases hL.out with ⟨rfl, h2⟩ | ⟨i, hi, h1, rfl, h3, h4⟩
        · have hL2 := hide (show Least l fr (k + 1) (k : Int) from .inr ⟨k, hkl, by omega, rfl, by rw [hmk.out]; omega, fun j hj hjk hf => by
            rcases (show j < k ∨ j = k by omega) with h | rfl
            · have := h2 j hj h; omega
            · exact Nat.le_refl _⟩)
          replace h2 := hide h2
          go_wp2_with (go_at_call 34; (with_reducible refine (hid.out _).mono ?_); rintro e w1 ⟨rfl, hb1⟩; have hb1 := hide (hb.out.trans (hb1.mono hb.out.size)))
          go_roundw
          case rel => exact ⟨k, k + 1, rfl, by go_num, by omega, hL2, hb1⟩
          case measure => simp [intOf] <;> omega
        · have hiI : (i : Int) < (n : Int) := by omega
          have hi0 : (0 : Int) ≤ (i : Int) := by omega
          have hrd := hide (fun W (h : Below w.heap.size w W) => (hr.out.below (h.mono hB)) i hi)
          have hid2 := hide (fun W => rimid_any l[i] (hok.out _ (List.getElem_mem hi)) W)
          obtain ⟨q, hq⟩ : ∃ q, l[i] = q := ⟨_, rfl⟩
          rw [hq] at h3 h4 hid2 hrd
          replace hq := hide hq
          replace h4 := hide h4
          by_cases hle : q.num ≤ m.num
          · have hleI : (q.num : Int) ≤ (m.num : Int) := by omega
            have hL2 := hide (show Least l fr (k + 1) (i : Int) from .inr ⟨i, hi, by omega, rfl, by rw [hq.out]; exact h3, fun j hj hjk hf => by
              rw [hq.out]
              rcases (show j < k ∨ j = k by omega) with h | rfl
              · exact h4.out j hj h hf
              · rw [hmk.out]; exact hle⟩)
            go_wp2_with (first
              | (go_at_call 34; (with_reducible refine (hid.out wr).mono ?_); rintro e w1 ⟨rfl, hb1⟩; have hb1 := hide (hb.out.trans (hb1.mono hb.out.size)); obtain ⟨b2, o2, hA2, _, y0, y1, y2, _⟩ := hrd.out w1 hb1.out; cases hA2)
              | (go_at_call 34; (with_reducible refine (hid2.out w1).mono ?_); rintro e w2 ⟨rfl, hb2⟩; have hb2 := hide (hb1.out.trans (hb2.mono hb1.out.size))))
            go_roundw
            case rel => exact ⟨i, k + 1, rfl, by go_num, by omega, hL2, hb2⟩
            case measure => simp [intOf] <;> omega
          · have hleI : (m.num : Int) < (q.num : Int) := by omega
            have hL2 := hide (show Least l fr (k + 1) (k : Int) from .inr ⟨k, hkl, by omega, rfl, by rw [hmk.out]; omega, fun j hj hjk hf => by
              rw [hmk.out]
              rcases (show j < k ∨ j = k by omega) with h | rfl
              · have := h4.out j hj h hf; omega
              · rw [hmk.out]; exact Nat.le_refl _⟩)
            go_wp2_with (first
              | (go_at_call 34; (with_reducible refine (hid.out wr).mono ?_); rintro e w1 ⟨rfl, hb1⟩; have hb1 := hide (hb.out.trans (hb1.mono hb.out.size)); obtain ⟨b2, o2, hA2, _, y0, y1, y2, _⟩ := hrd.out w1 hb1.out; cases hA2)
              | (go_at_call 34; (with_reducible refine (hid2.out w1).mono ?_); rintro e w2 ⟨rfl, hb2⟩; have hb2 := hide (hb1.out.trans (hb2.mono hb1.out.size))))
            go_roundw
            case rel => exact ⟨k, k + 1, rfl, by go_num, by omega, hL2, hb2⟩
            case measure => simp [intOf] <;> omega
    · obtain rfl : k = n := by omega
      go_wp2
      go_ret
      exact ⟨⟨t, rfl, hL.out⟩, hb.out⟩

end Go.Proofs.YtaapjampmnanmaaGreat
