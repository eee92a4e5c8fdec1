/- The law BitioBack: a walk. There is no condition. -/
import Derived.Test.YtceafmiieaeodaaBitLive
import Derived.Test.YtceafmiieaeodaaOpenAct
import Derived.StillTailTactics
import Derived.Deep.QuietTactic
import Derived.BigQuiet
namespace Go.Proofs.Ytceafmiieaeodaa
open Go.RowKit

/-- What a call writes. -/
def Bit.one (q : Int × Nat × Int) : List Bool := if 0 ≤ q.2.2 ∧ q.2.2 ≤ 32 then Bit.low q.2.1 q.2.2.toNat else []
def Bit.all (l : List (Int × Nat × Int)) : List Bool := l.flatMap Bit.one
theorem Bit.one_len (q : Int × Nat × Int) : (Bit.one q).length ≤ 32 := by
  unfold Bit.one
  split
  · rw [Bit.low_length]; omega
  · simp
theorem Bit.all_len (l : List (Int × Nat × Int)) : (Bit.all l).length ≤ 32 * l.length := by
  induction l with
  | nil => simp [Bit.all]
  | cons q t ih =>
    have := Bit.one_len q
    unfold Bit.all at ih ⊢
    rw [List.flatMap_cons, List.length_append, List.length_cons]
    omega
theorem Bit.all_snoc (l : List (Int × Nat × Int)) (k : Nat) (h : k < l.length) : Bit.all (l.take (k + 1)) = Bit.all (l.take k) ++ Bit.one l[k] := by
  unfold Bit.all
  rw [take_snoc l k h, List.flatMap_append]
  simp
theorem Bit.all_split (l : List (Int × Nat × Int)) (k : Nat) (h : k < l.length) : ∃ r, Bit.all l = Bit.all (l.take k) ++ (Bit.one l[k] ++ r) := by
  refine ⟨Bit.all (l.drop (k + 1)), ?_⟩
  rw [← List.append_assoc, ← Bit.all_snoc l k h]
  unfold Bit.all
  rw [← List.flatMap_append, List.take_append_drop]

set_option maxRecDepth 100000 in
set_option maxHeartbeats 2000000 in
theorem bitioback_walk (A : Option Addr) (n c : Nat) (acts : List (Int × Nat × Int)) (w : World) (hlen : acts.length = n) (hr : RdA w w.heap.size A acts) (hu : ∀ q ∈ acts, q.2.1 < 4294967296) (hn : n ≤ maxLen) :
    Calls Try.prog 5 #[.slice A n c] w fun e w' => e = .returned (.bool true) ∧ Below w.heap.size w w' := by
  have hlive := hide (fun W => bitlive_any W)
  by_cases hbig : 200 < n
  · have hnI : (n : Int) ≤ 9223372036854775807 := by simp only [maxLen] at hn; omega
    clear hn hr hu hlen
    go_enter Try.func5, Try.ntmps5
    go_wp2_with (go_at_call 19; (with_reducible refine (hlive.out _).mono ?_); rintro e w5 ⟨rfl, hb5⟩)
    go_ret
    exact ⟨rfl, hb5⟩
  · have hnI : (n : Int) ≤ 200 := by omega
    have hr := hide hr
    have hu := hide hu
    have hB : ∃ B, w.heap.size = B := ⟨_, rfl⟩
    obtain ⟨B, hB⟩ := hB
    have hnew := newwriter_at w
    rw [hB] at hnew hr ⊢
    have hnew := hide hnew
    clear hn
    go_enter Try.func5, Try.ntmps5
    go_wp2_with (go_at_call 20; (with_reducible refine hnew.out.mono ?_); rintro e w1 ⟨rfl, h1, hb1⟩; have h1 := hide h1; have hb1 := hide hb1)
    go_loopw [4] (fun i wr => ∃ k : Nat, k ≤ n ∧ i = .int .i64 k ∧ Hid (WrAt B wr B (Bit.all (acts.take k))) ∧ Hid (Below B w wr)) (fun i _ => n - (intOf i).toNat)
    case atStart => exact ⟨0, by omega, rfl, h1, hb1⟩
    case round =>
      obtain ⟨k, hk, rfl, hW, hb⟩ := hrel
      by_cases hlt : k < n
      · have hkl : k < acts.length := by omega
        obtain ⟨b, o, rfl, hbB, e0, e1, e2⟩ := hr.out.below hb.out k hkl
        rw [← Nat.add_assoc] at e1 e2
        have hq := hu.out acts[k] (List.getElem_mem hkl)
        have hs := Bit.all_snoc acts k hkl
        have hl1 := Bit.all_len (acts.take k)
        have hlI : (k : Int) < (n : Int) := by omega
        by_cases hok : 0 ≤ acts[k].2.2 ∧ acts[k].2.2 ≤ 32
        · obtain ⟨m, hm⟩ := Int.eq_ofNat_of_zero_le hok.1
          have hm32 : m ≤ 32 := by omega
          have hone : Bit.one acts[k] = Bit.low acts[k].2.1 m := by
            unfold Bit.one
            rw [if_pos hok, hm]
            rfl
          rw [hone] at hs
          rw [hm] at e2
          have hc := hide (atbits (hW.out.below (below_drewN (Below.refl _ wr) 1)) acts[k].2.1 m (by rw [List.length_take] at hl1; omega) hq hm32)
          rw [← hs, drewN_one] at hc
          have hs := hide hs
          have hm32I : (m : Int) ≤ 32 := by omega
          clear e0 hl1 hone hok hm hq hbB
          generalize acts[k].2.1 = v at *
          go_wp2
          go_still_tail 30, (by kernel_rfl)
          change wpList _ _ _ _ _ wr.drew
          go_wp2_with (first
            | (go_at_call 25; (with_reducible refine hc.out.mono ?_); rintro e w2 ⟨rfl, h2, hb2, _⟩; have h2 := hide h2; have hb2 := hide hb2)
            | (go_at_call 26; (with_reducible refine (bcode_any _ _).mono ?_); rintro e w' ⟨rfl, rfl⟩))
          go_roundw
          case rel => exact ⟨k + 1, by omega, by go_num, h2, hide ((show Below B w wr.drew from below_drewN hb.out 1).trans hb2.out)⟩
          case measure => simp [intOf]; omega
        · have hone : Bit.one acts[k] = [] := by unfold Bit.one; rw [if_neg hok]
          rw [hone, List.append_nil] at hs
          have hs := hide hs
          have hor : acts[k].2.2 < 0 ∨ (0 ≤ acts[k].2.2 ∧ 32 < acts[k].2.2) := by omega
          clear e0 e1 hl1 hone hok hq hbB
          generalize acts[k].2.2 = z at *
          rcases hor with hz | ⟨hz0, hz⟩
          · have hd : decide (0 ≤ z) = false := by simp; omega
            go_wp2
            go_quiet (fail)
            go_wp2
            go_roundw
            case rel => exact ⟨k + 1, by omega, by go_num, by rw [hs.out]; exact hide (hW.out.below (below_drewN (Below.refl _ wr) _)), hide (below_drewN hb.out _)⟩
            case measure => simp [intOf]; omega
          · have hd : decide (z ≤ 32) = false := by simp; omega
            go_wp2
            go_quiet (fail)
            go_wp2
            go_roundw
            case rel => exact ⟨k + 1, by omega, by go_num, by rw [hs.out]; exact hide (hW.out.below (below_drewN (Below.refl _ wr) _)), hide (below_drewN hb.out _)⟩
            case measure => simp [intOf]; omega
      · obtain rfl : k = n := by omega
        rw [show acts.take k = acts from List.take_of_length_le (by omega)] at hW
        have hLl := Bit.all_len acts
        have hsl := Bit.size_le (Bit.all acts).length
        have hby := hide (atbytes hW.out (by omega))
        have hnr : Hid (∀ (W : World) (A : Option Addr) (c2 base : Nat), Ow W base 5 A (Bit.size (Bit.all acts).length) c2 ((Bit.pack (Bit.all acts)).map bv) → Calls Try.prog 30 #[.slice A (Bit.size (Bit.all acts).length) c2] W fun e w' => ∃ g, e = .returned (.pointer (some ⟨g, 0, none⟩)) ∧ RdAt W.heap.size w' g (Bit.pack (Bit.all acts)) 0 ∧ Below W.heap.size W w') := by
          intro W A c2 base ho
          have hp := Bit.pack_length (Bit.all acts)
          rw [← hp] at ho ⊢
          exact newreader_at A c2 _ W _ ho.rd (Nat.le_refl _) (by omega)
        have hLh := hide hLl
        have hwb := hide (show B ≤ wr.heap.size from by obtain ⟨_, _, _, h⟩ := hW.out; exact h)
        clear hLl hsl
        generalize Bit.size (Bit.all acts).length = sz at hby hnr
        go_wp2_with (first
          | (go_at_call 28; (with_reducible refine hby.out.mono ?_); rintro e w5 ⟨A5, c5, rfl, ho5, hb5⟩; have ho5 := hide ho5; have hb5 := hide (hb.out.trans (hb5.mono hwb.out)); have hwb5 := hide (show B ≤ w5.heap.size from by have := hb5.out.size; omega))
          | (go_at_call 30; (with_reducible refine (hnr.out _ _ _ _ ho5.out).mono ?_); rintro e w6 ⟨g6, rfl, h6, hb6⟩; have h6 := hide h6; have hb6 := hide hb6))
        have hb06 := hide (hb5.out.trans (hb6.out.mono hwb5.out))
        go_loopw [6] (fun i wx => ∃ j : Nat, j ≤ k ∧ i = .int .i64 j ∧ Hid (RdAt w5.heap.size wx g6 (Bit.pack (Bit.all acts)) (Bit.all (acts.take j)).length) ∧ Hid (Below B w wx)) (fun i _ => k - (intOf i).toNat)
        case atStart => exact ⟨0, by omega, rfl, h6, hb06⟩
        case round =>
          obtain ⟨j, hj, rfl, hR, hbx⟩ := hrel
          by_cases hjt : j < k
          · have hjl : j < acts.length := by omega
            obtain ⟨b, o, rfl, hbB, e0, e1, e2⟩ := hr.out.below hbx.out j hjl
            rw [← Nat.add_assoc] at e1 e2
            have hq := hu.out acts[j] (List.getElem_mem hjl)
            have hs := Bit.all_snoc acts j hjl
            obtain ⟨rr, hsp⟩ := Bit.all_split acts j hjl
            have hlI : (j : Int) < (k : Int) := by omega
            by_cases hok : 0 ≤ acts[j].2.2 ∧ acts[j].2.2 ≤ 32
            · obtain ⟨m, hm⟩ := Int.eq_ofNat_of_zero_le hok.1
              have hm32 : m ≤ 32 := by omega
              have hone : Bit.one acts[j] = Bit.low acts[j].2.1 m := by
                unfold Bit.one
                rw [if_pos hok, hm]
                rfl
              rw [hone] at hs hsp
              rw [hm] at e2
              have hpl := Bit.pack_length (Bit.all acts)
              have hsz8 : (Bit.all acts).length ≤ 8 * Bit.size (Bit.all acts).length := by unfold Bit.size; omega
              have hsle := Bit.size_le (Bit.all acts).length
              have hLo := hLh.out
              have hspl := congrArg List.length hsp
              rw [List.length_append, List.length_append, Bit.low_length] at hspl
              have hc := atrbits hR.out m (by omega) hm32 (by omega)
              rw [Bit.bitsOf_pack, hsp, List.append_assoc, List.drop_left, List.append_assoc, List.take_left' (Bit.low_length _ _), Bit.num_low, ← hsp] at hc
              rw [show (Bit.all (acts.take j)).length + m = (Bit.all (acts.take (j + 1))).length from by rw [hs, List.length_append, Bit.low_length]] at hc
              have hc := hide hc
              have hm32I : (m : Int) ≤ 32 := by omega
              have hbB5 := hide (Nat.lt_of_lt_of_le hbB hwb5.out)
              clear e0 hone hok hm hbB hpl hsz8 hsle hLo hspl hs hsp hlt hk
              generalize acts[j].2.1 = v at *
              obtain ⟨x, hX⟩ : ∃ x, v % 2 ^ m = x := ⟨_, rfl⟩
              rw [hX] at hc
              have hX := hide hX
              go_wp2_with (go_at_call 31; (with_reducible refine hc.out.mono ?_); rintro e w7 ⟨rfl, h7, hb7, _⟩; have e17 := (hb7.cell (p := ⟨b, o + j * 3 + 1, none⟩) hbB5.out).trans e1; have h7 := hide h7; have hb7 := hide (hbx.out.trans (hb7.mono hwb5.out)); clear e1 e2)
              by_cases h32 : m = 32
              · subst h32
                have hxv : x = v := by rw [← hX.out]; exact Nat.mod_eq_of_lt (by omega)
                subst hxv
                clear hX
                go_quiet ((go_at_call 26; exact quiet_left (bcode_any _ _)))
                go_wp2
                go_roundw
                case rel => exact ⟨j + 1, by omega, by go_num, hide (h7.out.below (below_drewN (Below.refl _ w7) _)), hide (below_drewN hb7.out _)⟩
                case measure => simp [intOf]; omega
              · have hmI : (m : Int) < 32 := by omega
                have hne : ((m : Int) == 32) = false := by simp; omega
                have hP : ∃ P : Nat, 2 ^ m = P := ⟨_, rfl⟩
                obtain ⟨P, hP⟩ := hP
                have hle : 2 ^ m ≤ 2 ^ 31 := Nat.pow_le_pow_right (by omega) (by omega)
                have hpos : 0 < 2 ^ m := Nat.two_pow_pos m
                have hw : IntKind.u32.wrap (2 ^ m) = (P : Int) := by
                  rw [show (2 : Int) ^ m = ((2 ^ m : Nat) : Int) from by norm_cast, hP, IntKind.wrap_u32']
                  rw [hP] at hle
                  omega
                have hmod : (v : Int) % (P : Int) = (x : Int) := by
                  rw [← hX.out, hP]
                  norm_cast
                rw [hP] at hle hpos
                go_quiet ((go_at_call 26; exact quiet_left (bcode_any _ _)))
                go_wp2
                go_roundw
                case rel => exact ⟨j + 1, by omega, by go_num, hide (h7.out.below (below_drewN (Below.refl _ w7) _)), hide (below_drewN hb7.out _)⟩
                case measure => simp [intOf]; omega
            · have hone : Bit.one acts[j] = [] := by unfold Bit.one; rw [if_neg hok]
              rw [hone, List.append_nil] at hs
              have hs := hide hs
              have hor : acts[j].2.2 < 0 ∨ (0 ≤ acts[j].2.2 ∧ 32 < acts[j].2.2) := by omega
              clear e0 e1 hone hok hq hbB hsp hlt hk
              generalize acts[j].2.2 = z at *
              rcases hor with hz | ⟨hz0, hz⟩
              · go_wp2
                go_roundw
                case rel => exact ⟨j + 1, by omega, by go_num, by rw [hs.out]; exact hR, hbx⟩
                case measure => simp [intOf]; omega
              · go_wp2
                go_roundw
                case rel => exact ⟨j + 1, by omega, by go_num, by rw [hs.out]; exact hR, hbx⟩
                case measure => simp [intOf]; omega
          · obtain rfl : j = k := by omega
            rw [show acts.take j = acts from List.take_of_length_le (by omega)] at hR
            have hpl := Bit.pack_length (Bit.all acts)
            have hsz8 : (Bit.all acts).length ≤ 8 * Bit.size (Bit.all acts).length ∧ 8 * Bit.size (Bit.all acts).length < (Bit.all acts).length + 8 := by unfold Bit.size; omega
            have hsle := Bit.size_le (Bit.all acts).length
            have hLo := hLh.out
            have hc := hide (atrleft hR.out (by omega) (by omega))
            have hlt8 : 8 * (Bit.pack (Bit.all acts)).length - (Bit.all acts).length < 8 := by omega
            clear hpl hsz8 hsle hLo hlt hk
            generalize 8 * (Bit.pack (Bit.all acts)).length - (Bit.all acts).length = q at *
            go_wp2_with (first
              | (go_at_call 32; (with_reducible refine hc.out.mono ?_); rintro e w7 ⟨rfl, k7, rfl⟩)
              | (go_at_call 19; (with_reducible refine (hlive.out _).mono ?_); rintro e w8 ⟨rfl, hb8⟩))
            go_ret
            have h9 := below_drewN hbx.out k7
            refine ⟨rfl, h9.trans (hb8.mono ?_)⟩
            have := h9.size
            omega

end Go.Proofs.Ytceafmiieaeodaa
