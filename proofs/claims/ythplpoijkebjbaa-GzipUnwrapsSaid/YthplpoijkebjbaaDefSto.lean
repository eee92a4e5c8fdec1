/- Layer 5 (deflate): blocks stored as they are. There is no condition. -/
import Derived.Test.YthplpoijkebjbaaDefFix
namespace Go.Proofs.Ythplpoijkebjbaa
open Go.RowKit

/-- One block's bits, and the rest. -/
def Def.bytB (bs : List UInt8) : List Bool := bs.flatMap (fun b => Bit.low b.toNat 8)
def Def.hdB (v n : Nat) : List Bool := Bit.low v 3 ++ List.replicate 5 false ++ Bit.low n 16 ++ Bit.low (65535 - n) 16
def Def.stoB : Nat → List UInt8 → List Bool
  | 0, bs => Def.hdB 1 bs.length ++ Def.bytB bs
  | f + 1, bs => if bs.length ≤ 65535 then Def.hdB 1 bs.length ++ Def.bytB bs else Def.hdB 0 65535 ++ Def.bytB (bs.take 65535) ++ Def.stoB f (bs.drop 65535)
theorem Def.stoB_last (f : Nat) (bs : List UInt8) (h : bs.length ≤ 65535) : Def.stoB f bs = Def.hdB 1 bs.length ++ Def.bytB bs := by
  cases f with
  | zero => rfl
  | succ f => rw [Def.stoB, if_pos h]
theorem Def.stoB_more (f : Nat) (bs : List UInt8) (h : ¬ bs.length ≤ 65535) (hf : bs.length ≤ f) : ∃ f', bs.length - 65535 ≤ f' ∧ Def.stoB f bs = Def.hdB 0 65535 ++ Def.bytB (bs.take 65535) ++ Def.stoB f' (bs.drop 65535) := by
  cases f with
  | zero => omega
  | succ f => exact ⟨f, by omega, by rw [Def.stoB, if_neg h]⟩
theorem Rd.sub {w : World} {B n : Nat} {A : Option Addr} {xs : List Value} (h : Rd w B A n xs) (a m : Nat) (h1 : a + m ≤ n) : Rd w B (Option.map (fun x => x.add a) A) m ((xs.drop a).take m) := by
  have hl := h.1
  refine ⟨by rw [List.length_take, List.length_drop]; omega, fun j hj => ?_⟩
  obtain ⟨b, o, hA, hb, hc⟩ := h.2 (a + j) (by omega)
  refine ⟨b, o + a, by rw [hA]; simp [Addr.add_mid], hb, ?_⟩
  rw [Nat.add_assoc, hc, List.getElem?_take, if_pos hj, List.getElem?_drop]
def slLen : Value → Nat
  | .slice _ n _ => n
  | _ => 0
theorem low_len13' (v n : Nat) : (Bit.low v n).length = n := by simp [Bit.low]
theorem Def.bytB_len (bs : List UInt8) : (Def.bytB bs).length = 8 * bs.length := by
  induction bs with
  | nil => rfl
  | cons b bs ih =>
    rw [Def.bytB, List.flatMap_cons, List.length_append, low_len13', show (List.flatMap (fun b => Bit.low b.toNat 8) bs).length = 8 * bs.length from ih, List.length_cons]
    omega
theorem xor16 (n : Nat) (h : n ≤ 65535) : bits .xor .u32 (n : Int) 65535 = ((65535 - n : Nat) : Int) := by
  have h1 : n ^^^ 65535 = 65535 - n := by
    refine Nat.eq_of_testBit_eq fun i => ?_
    rw [Nat.testBit_xor, show (65535 : Nat) = 2 ^ 16 - 1 from rfl, Nat.testBit_two_pow_sub_one, show 2 ^ 16 - 1 - n = 2 ^ 16 - (n + 1) from by omega, Nat.testBit_two_pow_sub_succ (by omega)]
    by_cases hi : i < 16
    · simp [hi]
    · have : n.testBit i = false := Nat.testBit_lt_two_pow (Nat.lt_of_lt_of_le (show n < 2 ^ 16 by omega) (Nat.pow_le_pow_right (by decide) (by omega)))
      simp [hi, this]
  show IntKind.u32.wrap ((BitVec.ofInt 32 (n : Int) ^^^ BitVec.ofInt 32 65535).toNat : Int) = _
  rw [BitVec.toNat_xor, BitVec.toNat_ofInt, BitVec.toNat_ofInt]
  have e : ((n : Int) % ((2 ^ 32 : Nat) : Int)).toNat = n := by
    have : ((2 ^ 32 : Nat) : Int) = 4294967296 := by decide
    omega
  rw [e, show ((65535 : Int) % ((2 ^ 32 : Nat) : Int)).toNat = 65535 from by decide, h1, IntKind.wrap_u32]
  omega

theorem ktbitsI {B g : Nat} {w : World} {l : List Bool} (h : WrAt B w g l) (v n : Nat) (vi ni : Int) (e1 : (v : Int) = vi) (e2 : (n : Int) = ni) (hl : l.length ≤ 1000000000000) (hv : v < 4294967296) (hn : n ≤ 32) :
    Calls Try.prog 70 #[.pointer (some ⟨g, 0, none⟩), .int .u32 vi, .int .i64 ni] w fun e w' => e = .returned (.int .i64 0) ∧ WrAt B w' g (l ++ Bit.low v n) ∧ Below B w w' ∧ Stp g w w' := by
  subst e1 e2
  exact ktbits h v n hl hv hn

set_option maxRecDepth 100000 in
set_option maxHeartbeats 4000000 in
theorem dstored_any (g B : Nat) (l0 : List Bool) (A : Option Addr) (c : Nat) (bs : List UInt8) (Bb : Nat) (w : World) (hw : WrAt B w g l0) (hr : Rd w Bb A bs.length (bs.map bv)) (hBb : Bb ≤ B) (hl : bs.length ≤ 1048576) (hc : bs.length ≤ c) (hl0 : l0.length ≤ 1000000) (h8 : l0.length % 8 = 0) :
    Calls Try.prog 44 #[.pointer (some ⟨g, 0, none⟩), .slice A bs.length c] w fun e w' => (∃ v, e = .returned v) ∧ WrAt B w' g (l0 ++ Def.stoB bs.length bs) ∧ Below B w w' := by
  obtain ⟨ALL, hALL⟩ : ∃ X, l0 ++ Def.stoB bs.length bs = X := ⟨_, rfl⟩
  rw [hALL]
  go_enter Try.func44, Try.ntmps44
  go_wp2
  go_loopw [1] (fun s1 wr => ∃ (A : Option Addr) (n0 c : Nat) (bs : List UInt8) (l : List Bool), s1 = .slice A n0 c ∧ n0 ≤ c ∧ n0 ≤ 1048576 ∧ Hid (bs.length = n0) ∧ Hid (∃ f, n0 ≤ f ∧ l ++ Def.stoB f bs = ALL) ∧ Hid (Rd wr Bb A n0 (bs.map bv)) ∧ Hid (l.length ≤ 1000000 + 16 * (1048576 - n0)) ∧ Hid (l.length % 8 = 0) ∧ Hid (WrAt B wr g l) ∧ Hid (Below B w wr)) (fun s1 _ => slLen s1)
  case atStart => exact ⟨A, bs.length, c, bs, l0, rfl, hc, hl, hide rfl, hide ⟨bs.length, Nat.le_refl _, hALL⟩, hide hr, hide (by omega), hide h8, hide hw, hide (Below.refl _ _)⟩
  case round =>
    clear hw hr hl hc hl0 h8 hALL
    obtain ⟨wo, rfl⟩ : ∃ W, W = wr := ⟨_, rfl⟩
    obtain ⟨A, n, c, bs, l, rfl, hc, hl, hn0, hall, hr, hll, h8, hw, hbel⟩ := hrel
    by_cases hlast : n ≤ 65535
    · have hn32 := hide (show n < 4294967296 from by omega)
      have hmin : min (n : Int) 65535 = (n : Int) := by omega
      have hu : IntKind.u32.wrap (n : Int) = (n : Int) := by rw [IntKind.wrap_u32]; omega
      have hx := xor16 n (by omega)
      have hb1 := hide (show Calls Try.prog 70 #[.pointer (some ⟨g, 0, none⟩), .int .u32 1, .int .i64 3] wo fun e w' => e = .returned (.int .i64 0) ∧ WrAt B w' g (l ++ Bit.low 1 3) ∧ Below B wo w' ∧ Stp g wo w' from ktbits hw.out 1 3 (by have := hll.out; omega) (by decide) (by decide))
      have hl1 := hide (show (l ++ Bit.low 1 3).length ≤ 1000000000000 from by rw [List.length_append, low_len13]; have := hll.out; omega)
      have hg5 := hide (show Bit.gap (l ++ Bit.low 1 3).length = 5 from by rw [List.length_append, low_len13]; have := h8.out; unfold Bit.gap; omega)
      have hl2 := hide (show (l ++ Bit.low 1 3 ++ List.replicate (Bit.gap (l ++ Bit.low 1 3).length) false).length ≤ 1000000000000 from by rw [List.length_append, List.length_replicate, hg5.out, List.length_append, low_len13]; have := hll.out; omega)
      have hl3 := hide (show (l ++ Bit.low 1 3 ++ List.replicate (Bit.gap (l ++ Bit.low 1 3).length) false ++ Bit.low n 16).length ≤ 1000000000000 from by rw [List.length_append, low_len13, List.length_append, List.length_replicate, hg5.out, List.length_append, low_len13]; have := hll.out; omega)
      go_wp2_with (first
        | (go_at_call 71; (with_reducible refine (ha1.out).mono ?_); rintro e w2 ⟨rfl, j2, b2, _⟩; have hb2 := hide (ktbitsI j2 n 16 (n : Int) 16 rfl rfl hl2.out hn32.out (by decide)); have b2 := hide b2; clear j2)
        | (go_at_call 70; (with_reducible refine (hb1.out).mono ?_); rintro e w1 ⟨rfl, j1, b1, _⟩; have ha1 := hide (xtalign j1 hl1.out); have b1 := hide b1; clear j1)
        | (go_at_call 70; (with_reducible refine (hb2.out).mono ?_); rintro e w3 ⟨rfl, j3, b3, _⟩; have hb3 := hide (ktbitsI j3 (65535 - n) 16 ((65535 - n : Nat) : Int) 16 rfl rfl hl3.out (by omega) (by decide)); have b3 := hide b3; clear j3)
        | (go_at_call 70; (with_reducible refine (hb3.out).mono ?_); rintro e w4 ⟨rfl, j4, b4, _⟩; have j4 := hide j4; have b4 := hide b4))
      obtain ⟨L, hL⟩ : ∃ L, l ++ Bit.low 1 3 ++ List.replicate (Bit.gap (l ++ Bit.low 1 3).length) false ++ Bit.low n 16 ++ Bit.low (65535 - n) 16 = L := ⟨_, rfl⟩
      have hLl := hide (show L.length = l.length + 40 from by rw [← hL]; have h5 := hg5.out; simp only [List.length_append, low_len13, List.length_replicate] at h5 ⊢; omega)
      rw [hL] at j4
      replace hL := hide (show L = l ++ Def.hdB 1 n from by rw [← hL, hg5.out]; simp only [Def.hdB, List.append_assoc])
      have bw4 := hide (((b1.out.trans b2.out).trans b3.out).trans b4.out)
      clear hb1 hl1 hl2 hl3 ha1 hb2 hb3 b1 b2 b3 b4 hx hmin
      
      go_loopw [33] (fun s33 wr => ∃ i : Nat, i ≤ n ∧ s33 = .int .i64 (i : Int) ∧ Hid (WrAt B wr g (L ++ Def.bytB (bs.take i))) ∧ Hid (Below B wo wr)) (fun s33 _ => n - (intOf s33).toNat)
      case atStart => exact ⟨0, by omega, rfl, hide (by simpa [Def.bytB] using j4.out), hide bw4.out⟩
      case round =>
        clear j4 bw4
        obtain ⟨i, hi, rfl, hj, hb⟩ := hrel
        by_cases hlt : i < n
        · have hib : i < bs.length := by rw [hn0.out]; omega
          obtain ⟨bb, o, rfl, hbB, hcell⟩ := (hr.out.below (hb.out.mono hBb)).byte (j := i) (by omega)
          obtain ⟨x, hxx⟩ : ∃ x, bs[i].toNat = x := ⟨_, rfl⟩
          rw [hxx] at hcell
          have hx8 : x < 256 := by rw [← hxx]; exact bs[i].toNat_lt
          have hxu : IntKind.u32.wrap (x : Int) = (x : Int) := by rw [IntKind.wrap_u32]; omega
          have hbit := hide (ktbitsI hj.out x 8 (x : Int) 8 rfl rfl (by rw [List.length_append, Def.bytB_len, List.length_take]; have := hLl.out; have := hll.out; omega) (by omega) (by decide))
          have hbb2 := hide hbB
          clear hbB hbb2
          go_wp2_with (go_at_call 70; (with_reducible refine (hbit.out).mono ?_); rintro e w5 ⟨rfl, j5, b5, _⟩; have j5 := hide j5; have b5 := hide b5)
          go_roundw
          case rel => exact ⟨i + 1, by omega, by go_num, hide (by rw [take_snoc _ _ hib, Def.bytB, List.flatMap_append, List.flatMap_cons, List.flatMap_nil, List.append_nil, hxx, ← List.append_assoc]; exact j5.out), hide (hb.out.trans b5.out)⟩
          case measure => simp [intOf] <;> omega
        · obtain rfl : i = n := by omega
          go_wp2
          all_goals (
            refine bodyPost_ret (results_none rfl _ _ _) rfl ?_
            refine ⟨⟨_, rfl⟩, ?_, hbel.out.trans hb.out⟩
            obtain ⟨f, hf, he⟩ := hall.out
            rw [← he, Def.stoB_last f bs (by rw [hn0.out]; exact hlast), hn0.out, ← List.append_assoc, ← hL.out]
            have := hj.out
            rwa [List.take_of_length_le (by rw [hn0.out]; exact Nat.le_refl _)] at this)
    · have hn32 := hide (show 65535 < 4294967296 from by omega)
      have hne : ((65535 : Int) == (n : Int)) = false := by simp; omega
      have hmin : min (n : Int) 65535 = 65535 := by omega
      have hx : bits .xor .u32 (65535 : Int) 65535 = 0 := xor16 65535 (by decide)
      have hb1 := hide (show Calls Try.prog 70 #[.pointer (some ⟨g, 0, none⟩), .int .u32 0, .int .i64 3] wo fun e w' => e = .returned (.int .i64 0) ∧ WrAt B w' g (l ++ Bit.low 0 3) ∧ Below B wo w' ∧ Stp g wo w' from ktbits hw.out 0 3 (by have := hll.out; omega) (by decide) (by decide))
      have hl1 := hide (show (l ++ Bit.low 0 3).length ≤ 1000000000000 from by rw [List.length_append, low_len13]; have := hll.out; omega)
      have hg5 := hide (show Bit.gap (l ++ Bit.low 0 3).length = 5 from by rw [List.length_append, low_len13]; have := h8.out; unfold Bit.gap; omega)
      have hl2 := hide (show (l ++ Bit.low 0 3 ++ List.replicate (Bit.gap (l ++ Bit.low 0 3).length) false).length ≤ 1000000000000 from by rw [List.length_append, List.length_replicate, hg5.out, List.length_append, low_len13]; have := hll.out; omega)
      have hl3 := hide (show (l ++ Bit.low 0 3 ++ List.replicate (Bit.gap (l ++ Bit.low 0 3).length) false ++ Bit.low 65535 16).length ≤ 1000000000000 from by rw [List.length_append, low_len13, List.length_append, List.length_replicate, hg5.out, List.length_append, low_len13]; have := hll.out; omega)
      go_wp2_with (first
        | (go_at_call 71; (with_reducible refine (ha1.out).mono ?_); rintro e w2 ⟨rfl, j2, b2, _⟩; have hb2 := hide (ktbitsI j2 65535 16 (65535 : Int) 16 rfl rfl hl2.out hn32.out (by decide)); have b2 := hide b2; clear j2)
        | (go_at_call 70; (with_reducible refine (hb1.out).mono ?_); rintro e w1 ⟨rfl, j1, b1, _⟩; have ha1 := hide (xtalign j1 hl1.out); have b1 := hide b1; clear j1)
        | (go_at_call 70; (with_reducible refine (hb2.out).mono ?_); rintro e w3 ⟨rfl, j3, b3, _⟩; have hb3 := hide (ktbitsI j3 0 16 0 16 rfl rfl hl3.out (by omega) (by decide)); have b3 := hide b3; clear j3)
        | (go_at_call 70; (with_reducible refine (hb3.out).mono ?_); rintro e w4 ⟨rfl, j4, b4, _⟩; have j4 := hide j4; have b4 := hide b4))
      obtain ⟨L, hL⟩ : ∃ L, l ++ Bit.low 0 3 ++ List.replicate (Bit.gap (l ++ Bit.low 0 3).length) false ++ Bit.low 65535 16 ++ Bit.low 0 16 = L := ⟨_, rfl⟩
      have hLl := hide (show L.length = l.length + 40 from by rw [← hL]; have h5 := hg5.out; simp only [List.length_append, low_len13, List.length_replicate] at h5 ⊢; omega)
      rw [hL] at j4
      replace hL := hide (show L = l ++ Def.hdB 0 65535 from by rw [← hL, hg5.out]; simp only [Def.hdB, List.append_assoc, Nat.sub_self])
      have bw4 := hide (((b1.out.trans b2.out).trans b3.out).trans b4.out)
      clear hb1 hl1 hl2 hl3 ha1 hb2 hb3 b1 b2 b3 b4 hx hmin
      obtain ⟨n0, hnn⟩ : ∃ n0 : Nat, n0 = 65535 := ⟨_, rfl⟩
      rw [show (65535 : Int) = (n0 : Int) from by omega, show (65535 : Nat) = n0 from hnn.symm]
      rw [← hnn] at hL
      have hlt0 : n0 < n := by omega
      have hle0 := hide (show n0 ≤ 65535 from by omega)
      replace hnn := hide hnn
      clear hne hlast
      go_loopw [33] (fun s33 wr => ∃ i : Nat, i ≤ n0 ∧ s33 = .int .i64 (i : Int) ∧ Hid (WrAt B wr g (L ++ Def.bytB (bs.take i))) ∧ Hid (Below B wo wr)) (fun s33 _ => n0 - (intOf s33).toNat)
      case atStart => exact ⟨0, by omega, rfl, hide (by simpa [Def.bytB] using j4.out), hide bw4.out⟩
      case round =>
        clear j4 bw4
        obtain ⟨i, hi, rfl, hj, hb⟩ := hrel
        by_cases hlt : i < n0
        · have hib : i < bs.length := by rw [hn0.out]; omega
          obtain ⟨bb, o, rfl, hbB, hcell⟩ := (hr.out.below (hb.out.mono hBb)).byte (j := i) (by omega)
          obtain ⟨x, hxx⟩ : ∃ x, bs[i].toNat = x := ⟨_, rfl⟩
          rw [hxx] at hcell
          have hx8 : x < 256 := by rw [← hxx]; exact bs[i].toNat_lt
          have hxu : IntKind.u32.wrap (x : Int) = (x : Int) := by rw [IntKind.wrap_u32]; omega
          have hbit := hide (ktbitsI hj.out x 8 (x : Int) 8 rfl rfl (by rw [List.length_append, Def.bytB_len, List.length_take]; have := hLl.out; have := hll.out; omega) (by omega) (by decide))
          have hbb2 := hide hbB
          clear hbB hbb2
          go_wp2_with (go_at_call 70; (with_reducible refine (hbit.out).mono ?_); rintro e w5 ⟨rfl, j5, b5, _⟩; have j5 := hide j5; have b5 := hide b5)
          go_roundw
          case rel => exact ⟨i + 1, by omega, by go_num, hide (by rw [take_snoc _ _ hib, Def.bytB, List.flatMap_append, List.flatMap_cons, List.flatMap_nil, List.append_nil, hxx, ← List.append_assoc]; exact j5.out), hide (hb.out.trans b5.out)⟩
          case measure => simp [intOf] <;> omega
        · obtain rfl : i = n0 := by omega
          go_wp2
          have h65 := hnn.out
          obtain ⟨f, hf, he⟩ := hall.out
          obtain ⟨f', hf', hs⟩ := Def.stoB_more f bs (by rw [hn0.out]; omega) (by rw [hn0.out]; exact hf)
          rw [hn0.out] at hf'
          have hlb : (List.drop i bs).length = n - i := by rw [List.length_drop, hn0.out]
          have hbl : (L ++ Def.bytB (bs.take i)).length = l.length + 40 + 8 * i := by rw [List.length_append, hLl.out, Def.bytB_len, List.length_take, hn0.out]; omega
          have hr2 := (hr.out.below (hb.out.mono hBb)).sub i (n - i) (by omega)
          rw [← List.map_drop, List.take_of_length_le (by rw [List.length_map, hlb]; exact Nat.le_refl _)] at hr2
          refine ⟨⟨_, _, _, bs.drop i, L ++ Def.bytB (bs.take i), rfl, by omega, by omega, hide hlb, hide ⟨f', by rw [h65]; exact hf', ?_⟩, hide hr2, hide (by rw [hbl]; have := hll.out; omega), hide (by rw [hbl]; have := h8.out; omega), hj, hide (hbel.out.trans hb.out)⟩, ?_⟩
          · rw [← he, hs, hL.out, h65]
            simp only [List.append_assoc]
          · show n - i < n
            omega

end Go.Proofs.Ythplpoijkebjbaa
