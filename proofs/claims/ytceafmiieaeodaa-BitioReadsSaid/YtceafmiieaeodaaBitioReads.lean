/- The law BitioReads: a walk. There is no condition. -/
import Derived.Test.YtceafmiieaeodaaBitRef
import Derived.Test.YtceafmiieaeodaaOpenAct
namespace Go.Proofs.Ytceafmiieaeodaa
open Go.RowKit

theorem Bit.gap_int (a : Nat) : ((8 : Int) - (a : Int) % 8) % 8 = (Bit.gap a : Int) := by unfold Bit.gap; omega

theorem Rd.sub {w : World} {B n : Nat} {A : Option Addr} {xs : List Value} (h : Rd w B A n xs) (a m : Nat) (h1 : a + m ≤ n) : Rd w B (Option.map (fun x => x.add a) A) m ((xs.drop a).take m) := by
  have hl := h.1
  refine ⟨by rw [List.length_take, List.length_drop]; omega, fun j hj => ?_⟩
  obtain ⟨b, o, hA, hb, hc⟩ := h.2 (a + j) (by omega)
  refine ⟨b, o + a, by rw [hA]; simp [Addr.add_mid], hb, ?_⟩
  rw [Nat.add_assoc, hc, List.getElem?_take, if_pos hj, List.getElem?_drop]
theorem num_part {W : World} {B n c a m y : Nat} {A : Option Addr} {l : List Bool} (ho : Ow W B 4 A n c (l.map Value.bool)) (h : a + m ≤ n) (hm : m ≤ 32) (hy : Bit.num ((l.drop a).take m) = y) :
    (Calls Try.prog 35 #[.slice (Option.map (fun x => x.add a) A) m (c - a)] W fun e w' => e = .returned (.int .u32 (y : Int)) ∧ W = w') ∧
    (a = c → Calls Try.prog 35 #[.slice A m 0] W fun e w' => e = .returned (.int .u32 (y : Int)) ∧ W = w') := by
  constructor
  · have hr := ho.rd.sub a m h
    rw [← List.map_drop, ← List.map_take] at hr
    have := refnumber_any _ m (c - a) _ W _ hr hm
    rwa [hy] at this
  · intro hac
    have hcap : n ≤ c := by
      rcases ho.form with ⟨_, h1, h2⟩ | ⟨_, _, _, _, h1, _⟩ <;> omega
    have hm0 : m = 0 := by omega
    subst hm0
    have := refnumber_any A 0 0 [] W 0 (Rd.nil _ _ _) (by omega)
    rw [← hy, List.take_zero]
    exact this

set_option maxRecDepth 100000 in
set_option maxHeartbeats 2000000 in
theorem bitioreads_walk (A : Option Addr) (n c : Nat) (bs : List UInt8) (A2 : Option Addr) (n2 c2 : Nat) (acts : List (Int × Nat × Int)) (w : World) (hrb : Rd w w.heap.size A n (bs.map bv)) (hn : n ≤ maxLen) (hlen : acts.length = n2) (hr : RdA w w.heap.size A2 acts) (_ : ∀ q ∈ acts, q.2.1 < 4294967296) (hn2 : n2 ≤ maxLen) :
    Calls Try.prog 6 #[.slice A n c, .slice A2 n2 c2] w fun e w' => e = .returned (.bool true) ∧ Below w.heap.size w w' := by
  have hlive := hide (fun W => bitlive_any W)
  have hbl : bs.length = n := hrb.len
  by_cases hbig : 300 < n
  · have hnI : (n : Int) ≤ 9223372036854775807 := by simp only [maxLen] at hn; omega
    clear hn hr hlen hn2 hrb hbl
    go_enter Try.func6, Try.ntmps6
    go_wp2_with (go_at_call 19; (with_reducible refine (hlive.out _).mono ?_); rintro e w5 ⟨rfl, hb5⟩)
    go_ret
    exact ⟨rfl, hb5⟩
  · by_cases hbig2 : 200 < n2
    · have hnI : (n2 : Int) ≤ 9223372036854775807 := by simp only [maxLen] at hn2; omega
      have hnI2 : (n : Int) ≤ 300 := by omega
      clear hn hr hlen hn2 hrb hbl
      go_enter Try.func6, Try.ntmps6
      go_wp2_with (go_at_call 19; (with_reducible refine (hlive.out _).mono ?_); rintro e w5 ⟨rfl, hb5⟩)
      go_ret
      exact ⟨rfl, hb5⟩
    · have hnI : (n : Int) ≤ 300 := by omega
      have hnI2 : (n2 : Int) ≤ 200 := by omega
      have hB : ∃ B, w.heap.size = B := ⟨_, rfl⟩
      obtain ⟨B, hB⟩ := hB
      have hnr : Hid (Calls Try.prog 30 #[.slice A n c] w fun e w' => ∃ g, e = .returned (.pointer (some ⟨g, 0, none⟩)) ∧ RdAt B w' g bs 0 ∧ Below B w w') := by
        have hrb' := hrb
        rw [← hbl] at hrb' ⊢
        rw [← hB]
        exact newreader_at A c bs w _ hrb' (Nat.le_refl _) (by omega)
      have hrb := hide hrb
      have hr := hide hr
      rw [hB] at hrb hr ⊢
      have hrf := hide (fun (W : World) (h : Below B w W) => refbits_any A n c bs W B (hrb.out.below h) (by have := h.size; omega) (by omega))
      have hbl' := hide hbl
      clear hn hn2 hbl
      go_enter Try.func6, Try.ntmps6
      go_wp2_with (first
        | (go_at_call 30; (with_reducible refine hnr.out.mono ?_); rintro e w1 ⟨g, rfl, h1, hb1⟩; have h1 := hide h1; have hb1 := hide hb1)
        | (go_at_call 33; (with_reducible refine (hrf.out _ hb1.out).mono ?_); rintro e w2 ⟨A6, c6, rfl, ho2, hb2⟩; have h2 := hide (h1.out.below hb2); have hz := hide (show B ≤ w1.heap.size from by have := hb1.out.size; omega); have hb2 := hide (hb1.out.trans (hb2.mono hz.out)); have ho2 := hide (ho2.base_le (base' := B) (fun g hg => Nat.le_trans hz.out (ho2.blk_lt g hg).1))))
      go_loopw [7, 8] (fun x i wr => ∃ k a : Nat, k ≤ n2 ∧ i = .int .i64 k ∧ x = .int .i64 a ∧ a ≤ 8 * n ∧ Hid (RdAt B wr g bs a) ∧ Hid (Ow wr B 4 A6 (8 * n) c6 ((Bit.bitsOf bs).map Value.bool)) ∧ Hid (Below B w wr)) (fun _ i _ => n2 - (intOf i).toNat)
      case atStart => exact ⟨0, 0, by omega, rfl, rfl, by omega, h2, ho2, hb2⟩
      case round =>
        obtain ⟨k, a, hk, rfl, rfl, ha, hR, hO, hb⟩ := hrel
        by_cases hlt : k < n2
        · have hkl : k < acts.length := by omega
          obtain ⟨b, o, rfl, hbB, e0, _, e2⟩ := hr.out.below hb.out k hkl
          rw [← Nat.add_assoc] at e2
          have hlI : (k : Int) < (n2 : Int) := by omega
          have hbl := hbl'.out
          generalize acts[k].1 = d at *
          generalize acts[k].2.2 = z at *
          have hLe : bs.length ≤ 68719476736 := by omega
          by_cases hd : d = 2
          · subst hd
            have hal := atralign hR.out (by omega)
            have hG := Bit.gap_int a
            have hG2 : a + Bit.gap a ≤ 8 * n := by unfold Bit.gap; omega
            have hat := hide (fun W h => atrat (B := B) (g := g) (a := a + Bit.gap a) (w := W) (bs := bs) h)
            have hle := hide (fun W h => atrleft (B := B) (g := g) (a := a + Bit.gap a) (w := W) (bs := bs) h hLe (by omega))
            rw [hbl] at hle
            obtain ⟨q, hq⟩ : ∃ q, 8 * n - (a + Bit.gap a) = q := ⟨_, rfl⟩
            rw [hq] at hle
            have hqI : (8 : Int) * n - (a + (Bit.gap a : Nat)) = q := by omega
            clear hLe hbl hq
            generalize Bit.gap a = G at *
            have hal := hide hal
            go_wp2_with (first
              | (go_at_call 34; (with_reducible refine hal.out.mono ?_); rintro e w7 ⟨rfl, h7, hb7, hkb⟩; have ho7 := hide (hkb _ _ _ _ _ hO.out); have h7 := hide h7; have hb7 := hide (hb.out.trans hb7))
              | (go_at_call 36; (with_reducible refine (hat.out _ h7.out).mono ?_); rintro e w' ⟨rfl, rfl⟩)
              | (go_at_call 32; (with_reducible refine (hle.out _ h7.out).mono ?_); rintro e w' ⟨rfl, k8, rfl⟩))
            go_roundw
            case rel => exact ⟨k + 1, a + G, by omega, by go_num, by go_num, hG2, hide (h7.out.below (below_drewN (Below.refl _ w7) _)), ho7, hide (below_drewN hb7.out _)⟩
            case measure => simp [intOf] <;> omega
          · have hdb : (d == 2) = false := by simpa using hd
            by_cases hok : 0 ≤ z ∧ z ≤ 32
            · obtain ⟨m, rfl⟩ := Int.eq_ofNat_of_zero_le hok.1
              have hm32 : m ≤ 32 := by omega
              have hm32I : (m : Int) ≤ 32 := by omega
              clear hok
              by_cases hsh : 8 * n - a < m
              · have hbi := atrshort hR.out m hLe (by omega) hm32 (by omega)
                have hat := hide (fun W h => atrat (B := B) (g := g) (a := a) (w := W) (bs := bs) h)
                have hle := hide (fun W h => atrleft (B := B) (g := g) (a := a) (w := W) (bs := bs) h hLe (by omega))
                rw [hbl] at hle
                obtain ⟨q, hq⟩ : ∃ q, 8 * n - a = q := ⟨_, rfl⟩
                rw [hq] at hle
                have hqI : (8 : Int) * n - a = q := by omega
                have hqm : (q : Int) < m := by omega
                clear hLe hbl hq hsh
                have hbi := hide hbi
                go_wp2_with (first
                  | (go_at_call 31; (with_reducible refine hbi.out.mono ?_); rintro e w7 ⟨rfl, k7, rfl⟩; have ho7 := hide (hO.out.below (below_drewN (Below.refl _ wr) k7)); have h7 := hide (hR.out.below (below_drewN (Below.refl _ wr) k7)); have hb7 := hide (below_drewN hb.out k7); clear hO hR hb; generalize wr.drewN k7 = w7 at ho7 h7 hb7 ⊢)
                  | (go_at_call 26; (with_reducible refine (bcode_any _ _).mono ?_); rintro e w' ⟨rfl, rfl⟩)
                  | (go_at_call 36; (with_reducible refine (hat.out _ h7.out).mono ?_); rintro e w' ⟨rfl, rfl⟩)
                  | (go_at_call 32; (with_reducible refine (hle.out _ h7.out).mono ?_); rintro e w' ⟨rfl, k8, rfl⟩))
                go_roundw
                case rel => exact ⟨k + 1, a, by omega, by go_num, rfl, ha, hide (h7.out.below (below_drewN (Below.refl _ w7) _)), ho7, hide (below_drewN hb7.out _)⟩
                case measure => simp [intOf] <;> omega
              · have hbi := atrbits hR.out m hLe hm32 (by omega)
                have hG2 : a + m ≤ 8 * n := by omega
                have hat := hide (fun W h => atrat (B := B) (g := g) (a := a + m) (w := W) (bs := bs) h)
                have hle := hide (fun W h => atrleft (B := B) (g := g) (a := a + m) (w := W) (bs := bs) h hLe (by omega))
                rw [hbl] at hle
                obtain ⟨q, hq⟩ : ∃ q, 8 * n - (a + m) = q := ⟨_, rfl⟩
                rw [hq] at hle
                have hqI : (8 : Int) * n - (a + m) = q := by omega
                have hqm : (m : Int) ≤ (8 : Int) * n - a := by omega
                clear hLe hq hsh
                obtain ⟨y, hy⟩ : ∃ y, Bit.num (((Bit.bitsOf bs).drop a).take m) = y := ⟨_, rfl⟩
                rw [hy] at hbi
                have hcap : 8 * n ≤ c6 := by
                  rcases hO.out.form with ⟨_, h1, h2⟩ | ⟨_, _, _, _, h1, _⟩ <;> omega
                have hcapI : (a : Int) + m ≤ c6 := by omega
                have hnum := hide (fun W (ho : Ow W B 4 A6 (8 * n) c6 ((Bit.bitsOf bs).map Value.bool)) => num_part ho hG2 hm32 hy)
                have hy := hide hy
                have hbi := hide hbi
                have hbl := hide hbl
                have hcap := hide hcap
                by_cases hac : a = c6
                · have hn0 : Hid (∀ (A' : Option Addr) (c' : Nat) (W : World), Calls Try.prog 35 #[.slice A' 0 c'] W fun e w' => e = .returned (.int .u32 (y : Int)) ∧ W = w') := by
                    intro A' c' W
                    have hm0 : m = 0 := by have := hcap.out; omega
                    subst hm0
                    have := refnumber_any A' 0 c' [] W 0 (Rd.nil _ _ _) (by omega)
                    rw [← hy.out, List.take_zero]
                    exact this
                  subst a
                  go_wp2_with (first
                    | (go_at_call 31; (with_reducible refine hbi.out.mono ?_); rintro e w7 ⟨rfl, h7, hb7, hkb⟩; have ho7 := hide (hkb _ _ _ _ _ hO.out); have h7 := hide h7; have hb7 := hide (hb.out.trans hb7))
                    | (go_at_call 35; (with_reducible refine (hn0.out _ _ _).mono ?_); rintro e w' ⟨rfl, rfl⟩)
                    | (go_at_call 26; (with_reducible refine (bcode_any _ _).mono ?_); rintro e w' ⟨rfl, rfl⟩)
                    | (go_at_call 36; (with_reducible refine (hat.out _ h7.out).mono ?_); rintro e w' ⟨rfl, rfl⟩)
                    | (go_at_call 32; (with_reducible refine (hle.out _ h7.out).mono ?_); rintro e w' ⟨rfl, k8, rfl⟩))
                  go_roundw
                  case rel => exact ⟨k + 1, c6 + m, by omega, by go_num, by go_num, hG2, hide (h7.out.below (below_drewN (Below.refl _ w7) _)), ho7, hide (below_drewN hb7.out _)⟩
                  case measure => simp [intOf] <;> omega
                · have hac2 : (a : Int) < c6 := by have := hcap.out; omega
                  go_wp2_with (first
                    | (go_at_call 31; (with_reducible refine hbi.out.mono ?_); rintro e w7 ⟨rfl, h7, hb7, hkb⟩; have ho7 := hide (hkb _ _ _ _ _ hO.out); have h7 := hide h7; have hb7 := hide (hb.out.trans hb7))
                    | (go_at_call 35; (with_reducible refine ((hnum.out _ ho7.out).1).mono ?_); rintro e w' ⟨rfl, rfl⟩)
                    | (go_at_call 26; (with_reducible refine (bcode_any _ _).mono ?_); rintro e w' ⟨rfl, rfl⟩)
                    | (go_at_call 36; (with_reducible refine (hat.out _ h7.out).mono ?_); rintro e w' ⟨rfl, rfl⟩)
                    | (go_at_call 32; (with_reducible refine (hle.out _ h7.out).mono ?_); rintro e w' ⟨rfl, k8, rfl⟩))
                  go_roundw
                  case rel => exact ⟨k + 1, a + m, by omega, by go_num, by go_num, hG2, hide (h7.out.below (below_drewN (Below.refl _ w7) _)), ho7, hide (below_drewN hb7.out _)⟩
                  case measure => simp [intOf] <;> omega
            · have hor : z < 0 ∨ (0 ≤ z ∧ 32 < z) := by omega
              have hbi := hide (rbits_arg g z wr (by omega))
              have hat := hide (fun W h => atrat (B := B) (g := g) (a := a) (w := W) (bs := bs) h)
              have hle := hide (fun W h => atrleft (B := B) (g := g) (a := a) (w := W) (bs := bs) h hLe (by omega))
              rw [hbl] at hle
              obtain ⟨q, hq⟩ : ∃ q, 8 * n - a = q := ⟨_, rfl⟩
              rw [hq] at hle
              have hqI : (8 : Int) * n - a = q := by omega
              clear hLe hbl hq hok
              rcases hor with hz | ⟨hz0, hz⟩
              all_goals
                go_wp2_with (first
                  | (go_at_call 31; (with_reducible refine hbi.out.mono ?_); rintro e w' ⟨rfl, rfl⟩)
                  | (go_at_call 26; (with_reducible refine (bcode_any _ _).mono ?_); rintro e w' ⟨rfl, rfl⟩)
                  | (go_at_call 36; (with_reducible refine (hat.out _ hR.out).mono ?_); rintro e w' ⟨rfl, rfl⟩)
                  | (go_at_call 32; (with_reducible refine (hle.out _ hR.out).mono ?_); rintro e w' ⟨rfl, k8, rfl⟩))
                go_roundw
                case rel => exact ⟨k + 1, a, by omega, by go_num, rfl, ha, hide (hR.out.below (below_drewN (Below.refl _ wr) _)), hO, hide (below_drewN hb.out _)⟩
                case measure => simp [intOf] <;> omega
        · obtain rfl : k = n2 := by omega
          go_wp2_with (go_at_call 19; (with_reducible refine (hlive.out _).mono ?_); rintro e w8 ⟨rfl, hb8⟩)
          go_ret
          exact ⟨rfl, hb.out.trans (hb8.mono (by have := hb.out.size; omega))⟩

end Go.Proofs.Ytceafmiieaeodaa
