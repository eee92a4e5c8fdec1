/- Layer 4 (inflate): the unpacker's blocks: stored, copied, symbols. The conditions: where things lie. -/
import Derived.Test.YthplpoijkebjbaaInfStep
import Derived.Test.YthplpoijkebjbaaInfTab
import Derived.StillTailTactics
import Derived.Deep.LoopGhost
namespace Go.Proofs.Ythplpoijkebjbaa
open Go.RowKit
set_option linter.unusedVariables false

theorem xor_nat (n : Nat) (h : n ≤ 65535) : n ^^^ 65535 = 65535 - n := by
  refine Nat.eq_of_testBit_eq fun i => ?_
  rw [Nat.testBit_xor, show (65535 : Nat) = 2 ^ 16 - 1 from rfl, Nat.testBit_two_pow_sub_one, show 2 ^ 16 - 1 - n = 2 ^ 16 - (n + 1) from by omega, Nat.testBit_two_pow_sub_succ (by omega)]
  by_cases hi : i < 16
  · simp [hi]
  · have : n.testBit i = false := Nat.testBit_lt_two_pow (Nat.lt_of_lt_of_le (show n < 2 ^ 16 by omega) (Nat.pow_le_pow_right (by decide) (by omega)))
    simp [hi, this]
theorem xor_sum (n m : Nat) (hn : n ≤ 65535) (hm : m ≤ 65535) : n ^^^ m = 65535 ↔ n + m = 65535 := by
  constructor
  · intro h
    have h1 : n ^^^ (n ^^^ m) = n ^^^ 65535 := by rw [h]
    rw [← Nat.xor_assoc, Nat.xor_self, Nat.zero_xor, xor_nat n hn] at h1
    omega
  · intro h
    have h1 : m = n ^^^ 65535 := by rw [xor_nat n hn]; omega
    rw [h1, ← Nat.xor_assoc, Nat.xor_self, Nat.zero_xor]
theorem inf_xor_i64 (n m : Nat) (hn : n ≤ 65535) (hm : m ≤ 65535) : bits .xor .i64 (n : Int) (m : Int) = ((n ^^^ m : Nat) : Int) := by
  have h := Nat.xor_lt_two_pow (n := 16) (show n < 2 ^ 16 by omega) (show m < 2 ^ 16 by omega)
  show IntKind.i64.wrap ((BitVec.ofInt 64 (n : Int) ^^^ BitVec.ofInt 64 (m : Int)).toNat : Int) = _
  rw [BitVec.toNat_xor, BitVec.toNat_ofInt, BitVec.toNat_ofInt]
  have e : ∀ k : Nat, k ≤ 65535 → ((k : Int) % ((2 ^ 64 : Nat) : Int)).toNat = k := by
    intro k hk
    have : ((2 ^ 64 : Nat) : Int) = 18446744073709551616 := by decide
    omega
  rw [e n hn, e m hm, IntKind.wrap_i64]
  omega

section
variable {B gu gr most a : Nat} {bs o : List UInt8} {w : World}
theorem ualign (h : UAt B gu gr most bs w a o) : Calls Try.prog 58 #[.pointer (some ⟨gr, 0, none⟩)] w fun e w' => e = .returned (.int .i64 (Bit.gap a : Int)) ∧ UAt B gu gr most bs w' (a + Bit.gap a) o ∧ Below B w w' ∧ KeepU w w' := by
  obtain ⟨A, c, Ab, h1, h2, h3, h4, h5, h6⟩ := h
  refine (ralign_ok gr Ab bs a w B h2 (by omega)).mono ?_
  rintro e w' ⟨he, hr, hc⟩
  exact ⟨he, UAt.moved h1 h2 h3 h4 h5 h6 (by unfold Bit.gap; omega) hr hc⟩
theorem UAt.cell0 (h : UAt B gu gr most bs w a o) : w.cell? ⟨gu, 0, none⟩ = some (.pointer (some ⟨gr, 0, none⟩)) := by
  obtain ⟨A, c, Ab, h1, _⟩ := h
  exact h1.cell 0

set_option maxHeartbeats 2000000 in
theorem ustored (h : UAt B gu gr most bs w a o) (R : Inf.R Unit) (hR : Inf.stored (Bit.bitsOf bs) most a o = R) :
    Calls Try.prog 79 #[.pointer (some ⟨gu, 0, none⟩)] w (UP B gu gr most bs w (fun _ : Unit => .tuple #[]) R) := by
  have c0 := h.cell0
  have h1 := hide (ualign h)
  have hR1 := hide (show Inf.bind (Inf.bits (Bit.bitsOf bs) 16) (fun n => Inf.bind (Inf.bits (Bit.bitsOf bs) 16) fun m => if n + m = 65535 then Inf.raw (Bit.bitsOf bs) most n else Inf.err 3) (a + Bit.gap a) o = R from hR)
  clear h hR
  go_enter Try.func79, Try.ntmps79
  go_wp2_with fail
  refine h1.out.mono ?_
  rintro e w1 ⟨rfl, u1, b1, k1⟩
  have hu1 := hide (ubits u1 16 (by decide))
  have b1 := hide b1
  have k1 := hide k1
  clear u1
  go_wp2_with fail
  refine UP.go hu1.out (fun er w2 e2 b2 k2 => ⟨rfl, .inl ⟨er, hR1.out.symm.trans (Inf.bind_err e2), rfl, b1.out.trans b2, k1.out.trans k2⟩⟩) ?_
  intro n a2 o2 w2 e2 u2 b2 k2
  have hu2 := hide (ubits u2 16 (by decide))
  have hR2 := hide ((Inf.bind_ok e2).symm.trans hR1.out)
  have hn := (Inf.bits_is e2).1
  have b2 := hide (b1.out.trans b2)
  have k2 := hide (k1.out.trans k2)
  clear u2 e2
  have hn16 : n ≤ 65535 := by omega
  go_wp2_with fail
  refine UP.go hu2.out (fun er w3 e3 b3 k3 => ⟨rfl, .inl ⟨er, hR2.out.symm.trans (Inf.bind_err e3), rfl, b2.out.trans b3, k2.out.trans k3⟩⟩) ?_
  intro m a3 o3 w3 e3 u3 b3 k3
  have u3 := hide u3
  have hR3 := hide ((Inf.bind_ok e3).symm.trans hR2.out)
  have hm := (Inf.bits_is e3).1
  have b3 := hide (b2.out.trans b3)
  have k3 := hide (k2.out.trans k3)
  have hxo := inf_xor_i64 n m hn16 (by omega)
  have hxs := xor_sum n m hn16 (by omega)
  clear e3 hm
  obtain ⟨X, hX⟩ : ∃ X, n ^^^ m = X := ⟨_, rfl⟩
  rw [hX] at hxo hxs
  clear hX
  by_cases hs : n + m = 65535
  · have hR4 := hide (show Inf.raw (Bit.bitsOf bs) most n a3 o3 = R from by have := hR3.out; rwa [if_pos hs] at this)
    have hX := hxs.2 hs
    have hXb : ((X : Int) != 65535) = false := by simp; omega
    have hXb2 : ((X : Int) == 65535) = true := by simp; omega
    have hnI : (n : Int) ≤ 70000 := by omega
    have hn7 : n ≤ 70000 := by omega
    clear hR1 hR2 hR3 hs hu1 hu2 h1 hxs b1 k1 b2 k2 hX hn hn16
    go_wp2
    go_loopw [18] (fun s18 wr => ∃ (i : Nat) (a' : Nat) (o' : List UInt8), i ≤ n ∧ s18 = .int .i64 (i : Int) ∧ Hid (Inf.raw (Bit.bitsOf bs) most (n - i) a' o' = R) ∧ Hid (UAt B gu gr most bs wr a' o') ∧ Hid (Below B w wr) ∧ Hid (KeepU w wr)) (fun s18 _ => n - (intOf s18).toNat)
    case atStart => exact ⟨0, a3, o3, Nat.zero_le _, rfl, hR4, u3, b3, k3⟩
    case round =>
      clear hR4 u3 b3 k3
      obtain ⟨i, a', o', hi, rfl, hR, u, b, k⟩ := hrel
      by_cases hlt : i < n
      · have hltI : (i : Int) < (n : Int) := by omega
        have hR' := hide (show Inf.bind (Inf.bits (Bit.bitsOf bs) 8) (fun c => Inf.bind (Inf.put most (UInt8.ofNat c)) fun _ => Inf.raw (Bit.bitsOf bs) most (n - (i + 1))) a' o' = R from by
          have := hR.out
          rwa [show n - i = n - (i + 1) + 1 from by omega] at this)
        have hu4 := hide (ubits u.out 8 (by decide))
        clear hxo hXb hXb2 hR u
        go_wp2_with fail
        refine UP.go hu4.out (fun er w4 e4 b4 k4 => ⟨rfl, .inl ⟨er, hR'.out.symm.trans (Inf.bind_err e4), rfl, b.out.trans b4, k.out.trans k4⟩⟩) ?_
        intro x a4 o4 w4 e4 u4 b4 k4
        have hR5 := hide ((Inf.bind_ok e4).symm.trans hR'.out)
        have hx := (Inf.bits_is e4).1
        have b4 := hide (b.out.trans b4)
        have k4 := hide (k.out.trans k4)
        have hx8 : IntKind.u8.wrap (x : Int) = (x : Int) := by rw [IntKind.wrap_u8]; omega
        have hu5 := uput u4 (UInt8.ofNat x)
        rw [UInt8.toNat_ofNat_of_lt' (show x < 256 from hx)] at hu5
        have hu5 := hide hu5
        clear e4 u4 hx
        go_wp2_with fail
        refine UP.go hu5.out (fun er w5 e5 b5 k5 => ⟨rfl, .inl ⟨er, hR5.out.symm.trans (Inf.bind_err e5), rfl, b4.out.trans b5, k4.out.trans k5⟩⟩) ?_
        intro _ a5 o5 w5 e5 u5 b5 k5
        have hR6 := hide ((Inf.bind_ok e5).symm.trans hR5.out)
        have b5 := hide (b4.out.trans b5)
        have k5 := hide (k4.out.trans k5)
        have u5 := hide u5
        clear e5 hR5 hR' hu4 hu5 hx8 b4 k4 b k
        go_wp2
        go_roundw
        case rel => exact ⟨i + 1, a5, o5, by omega, by go_num, hR6, u5, b5, k5⟩
        case measure => simp [intOf] <;> omega
      · obtain rfl : i = n := by omega
        have hR' := hide (show Sum.inr ((), a', o') = R from by have := hR.out; rwa [Nat.sub_self] at this)
        go_wp2
        go_end0
        exact .inr ⟨(), a', o', hR'.out.symm, rfl, u.out, b.out, k.out⟩
  · have hR4 := hide (show Sum.inl 3 = R from by have := hR3.out; rwa [if_neg hs] at this)
    have hX : ¬ X = 65535 := fun h => hs (hxs.1 h)
    have hXb : ((X : Int) != 65535) = true := by simp; omega
    have hXb2 : ((X : Int) == 65535) = false := by simp; omega
    clear hR1 hR2 hR3 hs hu1 hu2 h1 hxs hX hn hn16
    go_wp2
    exact ⟨rfl, .inl ⟨3, hR4.out.symm, rfl, b3.out, k3.out⟩⟩

theorem Inf.lenV_in (s : Nat) (h1 : 257 ≤ s) (h2 : s ≤ 285) : Def.lenV (s : Int) = ((Def.lenB (s - 257) : Int), (Def.lenX (s - 257) : Int)) := by
  unfold Def.lenV
  rw [if_pos (by omega), show ((s : Int) - 257).toNat = s - 257 from by omega]
theorem Inf.lenV_out (s : Nat) (h : s < 257 ∨ 285 < s) : Def.lenV (s : Int) = (0, 0) := by
  unfold Def.lenV
  rw [if_neg (by omega)]
theorem Inf.dstV_in (s : Nat) (h2 : s ≤ 29) : Def.dstV (s : Int) = ((Def.dstB s : Int), (Def.dstX s : Int)) := by
  unfold Def.dstV
  rw [if_pos (by omega), Int.toNat_natCast]
theorem Inf.dstV_out (s : Nat) (h : 29 < s) : Def.dstV (s : Int) = (0, 0) := by
  unfold Def.dstV
  rw [if_neg (by omega)]
theorem Inf.lenB_pos : ∀ k < 29, 3 ≤ Def.lenB k := by decide
theorem Inf.dstB_pos : ∀ k < 30, 1 ≤ Def.dstB k := by decide
theorem Inf.put_is {most a a' : Nat} {x : UInt8} {o o' : List UInt8} {y : Unit} (h : Inf.put most x a o = .inr (y, a', o')) : a' = a ∧ o' = o ++ [x] := by
  unfold Inf.put at h
  split at h
  · cases h
  · cases h
    exact ⟨rfl, rfl⟩

/-- The loop of a copy, from round i on. -/
theorem uback_load (h : UAt B gu gr most bs w a o) : ∃ A c, w.cell? ⟨gu, 1, none⟩ = some (.slice A o.length c) ∧ o.length ≤ 1048576 ∧ ∀ j (hj : j < o.length), ∃ b off, A = some ⟨b, off, none⟩ ∧ w.cell? ⟨b, off + j, none⟩ = some (.int .u8 (o[j].toNat : Int)) := by
  obtain ⟨A, c, Ab, h1, h2, h3, h4, h5, h6⟩ := h
  refine ⟨A, c, h1.cell 1, by omega, fun j hj => ?_⟩
  obtain ⟨b, off, hA, _, hc⟩ := h3.rd.byte hj
  exact ⟨b, off, hA, hc⟩

set_option maxRecDepth 100000 in
set_option maxHeartbeats 4000000 in
theorem ucopied (h : UAt B gu gr most bs w a o) (s gf B0 : Nat) (far : List Nat) (hs : s ≤ 1000) (hc : CodeAt B0 w gf far) (hn : far.length ≤ 288) (hsum : Huf.sum far ≤ 32768) (R : Inf.R Unit) (hR : Inf.copied (Bit.bitsOf bs) most far s a o = R) :
    Calls Try.prog 111 #[.pointer (some ⟨gu, 0, none⟩), .int .i64 (s : Int), .pointer (some ⟨gf, 0, none⟩)] w (UP B gu gr most bs w (fun _ : Unit => .tuple #[]) R) := by
  have hl := length_any (s : Int) w (by omega) (by omega)
  have hBw := h.size
  by_cases hin : s < 257 ∨ 285 < s
  · rw [Inf.lenV_out s hin] at hl
    have hR1 := hide (show Sum.inl 3 = R from by rw [← hR]; unfold Inf.copied; rw [if_pos hin]; rfl)
    replace hl := hide hl
    clear h hc hn hsum hR hin hs
    go_enter Try.func111, Try.ntmps111
    go_wp2_with fail
    refine hl.out.mono ?_
    rintro e w1 ⟨rfl, rfl⟩
    go_wp2
    exact ⟨rfl, .inl ⟨3, hR1.out.symm, rfl, Below.refl _ _, KeepU.refl _⟩⟩
  · have hk29 : s - 257 < 29 := by omega
    rw [Inf.lenV_in s (by omega) (by omega)] at hl
    have hR1 := show Inf.bind (Inf.bits (Bit.bitsOf bs) (Def.lenX (s - 257))) (fun k => Inf.bind (Inf.sym (Bit.bitsOf bs) far) fun t =>
      if 29 < t then Inf.err 3 else Inf.bind (Inf.bits (Bit.bitsOf bs) (Def.dstX t)) fun m => Inf.reach most (Def.dstB t + m) (Def.lenB (s - 257) + k)) a o = R from by rw [← hR]; unfold Inf.copied; rw [if_neg hin]
    obtain ⟨hLB, hLX⟩ := Def.len_small _ hk29
    have hLB3 := Inf.lenB_pos _ hk29
    simp only at hl
    generalize Def.lenB (s - 257) = LB at *
    generalize Def.lenX (s - 257) = LX at *
    have hu1 := hide (ubits h LX (by omega))
    have hsy := hide (fun (w' : World) (a' : Nat) (o' : List UInt8) (u : UAt B gu gr most bs w' a' o') (k : KeepU w w') => usym u gf B0 far (hc.keepU k) hn hsum)
    have hLBz : ((LB : Int) == 0) = false := by simp; omega
    replace hl := hide hl
    replace hR1 := hide hR1
    clear h hc hn hsum hR hin hk29 hs
    go_enter Try.func111, Try.ntmps111
    go_wp2_with fail
    refine hl.out.mono ?_
    rintro e w1 ⟨rfl, rfl⟩
    go_wp2_with fail
    refine UP.go hu1.out (fun er w2 e2 b2 k2 => ⟨rfl, .inl ⟨er, hR1.out.symm.trans (Inf.bind_err e2), rfl, b2, k2⟩⟩) ?_
    intro kx a2 o2 w2 e2 u2 b2 k2
    have hR2 := hide ((Inf.bind_ok e2).symm.trans hR1.out)
    have hkx : kx ≤ 1024 := by
      have h1 := (Inf.bits_is e2).1
      have h2 : 2 ^ LX ≤ 2 ^ 10 := Nat.pow_le_pow_right (by decide) hLX
      omega
    obtain ⟨n, hnn⟩ : ∃ n, LB + kx = n := ⟨_, rfl⟩
    have hnI : (LB : Int) + (kx : Int) = (n : Int) := by omega
    have hn1 : n ≤ 2000 := by omega
    have hw1 : IntKind.i64.wrap (n : Int) = (n : Int) := by rw [IntKind.wrap_i64]; omega
    have hs2 := hide (hsy.out _ _ _ u2 k2)
    rw [hnn] at hR2
    have b2 := hide b2
    have k2 := hide k2
    clear e2 u2 hu1 hR1 hkx hLX hnn hl
    go_wp2_with fail
    refine UP.go hs2.out (fun er w3 e3 b3 k3 => ⟨rfl, .inl ⟨er, hR2.out.symm.trans (Inf.bind_err e3), rfl, b2.out.trans b3, k2.out.trans k3⟩⟩) ?_
    intro t a3 o3 w3 e3 u3 b3 k3
    have hR3 := hide ((Inf.bind_ok e3).symm.trans hR2.out)
    have b3 := hide (b2.out.trans b3)
    have k3 := hide (k2.out.trans k3)
    clear e3 hR2 hs2 b2 k2
    have hds := distance_any (t : Int) w3
    by_cases ht : 29 < t
    · rw [Inf.dstV_out t ht] at hds
      replace hds := hide hds
      have hR4 := hide (show Sum.inl 3 = R from by have := hR3.out; rwa [if_pos ht] at this)
      clear hR3 u3 hsy ht
      go_wp2_with fail
      refine hds.out.mono ?_
      rintro e w4 ⟨rfl, rfl⟩
      go_wp2
      exact ⟨rfl, .inl ⟨3, hR4.out.symm, rfl, b3.out, k3.out⟩⟩
    · rw [Inf.dstV_in t (by omega)] at hds
      have hR4 := hR3.out
      rw [if_neg ht] at hR4
      obtain ⟨hDB, hDX⟩ := Def.dst_small t (by omega)
      have hDB1 := Inf.dstB_pos t (by omega)
      simp only at hds
      generalize Def.dstB t = DB at *
      generalize Def.dstX t = DX at *
      have hDBz : ((DB : Int) == 0) = false := by simp; omega
      have hu4 := hide (ubits u3 DX (by omega))
      replace hds := hide hds
      replace hR4 := hide hR4
      clear hR3 u3 hsy ht
      go_wp2_with fail
      refine hds.out.mono ?_
      rintro e w4 ⟨rfl, rfl⟩
      go_wp2_with fail
      refine UP.go hu4.out (fun er w5 e5 b5 k5 => ⟨rfl, .inl ⟨er, hR4.out.symm.trans (Inf.bind_err e5), rfl, b3.out.trans b5, k3.out.trans k5⟩⟩) ?_
      intro m a5 o5 w5 e5 u5 b5 k5
      have hR5 := hide ((Inf.bind_ok e5).symm.trans hR4.out)
      have hm : m ≤ 1048576 := by
        have h1 := (Inf.bits_is e5).1
        have h2 : 2 ^ DX ≤ 2 ^ 20 := Nat.pow_le_pow_right (by decide) hDX
        omega
      have b5 := hide (b3.out.trans b5)
      have k5 := hide (k3.out.trans k5)
      obtain ⟨d, hdd⟩ : ∃ d, DB + m = d := ⟨_, rfl⟩
      rw [hdd] at hR5
      have hdI : (DB : Int) + (m : Int) = (d : Int) := by omega
      have hd1 : 1 ≤ d := by omega
      have hd2 : d ≤ 2000000 := by omega
      have hwd : IntKind.i64.wrap (d : Int) = (d : Int) := by rw [IntKind.wrap_i64]; omega
      clear e5 hR4 hu4 hm hDB hDX hdd b3 k3 hds
      obtain ⟨A5, c5, hc5, ho5, _⟩ := uback_load u5
      obtain ⟨N, hN⟩ : ∃ N, o5.length = N := ⟨_, rfl⟩
      rw [hN] at hc5 ho5
      by_cases hdN : N < d
      · have hdNI : (N : Int) < (d : Int) := by omega
        have hR6 := hide (show Sum.inl 3 = R from by have := hR5.out; unfold Inf.reach at this; rwa [if_pos (by omega)] at this)
        clear hR5 u5 hN hdN ho5
        go_wp2
        exact ⟨rfl, .inl ⟨3, hR6.out.symm, rfl, b5.out, k5.out⟩⟩
      · have hdNI : (d : Int) ≤ (N : Int) := by omega
        have hR6 := hide (show Inf.back most d n a5 o5 = R from by have := hR5.out; unfold Inf.reach at this; rwa [if_neg (by omega)] at this)
        have hdN5 := hide (show d ≤ o5.length from by omega)
        have u5 := hide u5
        have hdNb : decide (N < d) = false := by simp; omega
        clear hR5 hN hdN ho5
        go_wp2
        clear hdNb hc5 hwd hdNI hDBz hdI hw1 hnI hLBz
        go_loopw [50] (fun s50 wr => ∃ (i : Nat) (a' : Nat) (o' : List UInt8), i ≤ n ∧ s50 = .int .i64 (i : Int) ∧ Hid (Inf.back most d (n - i) a' o' = R) ∧ Hid (d ≤ o'.length) ∧ Hid (UAt B gu gr most bs wr a' o') ∧ Hid (Below B w wr) ∧ Hid (KeepU w wr)) (fun s50 _ => n - (intOf s50).toNat)
        case atStart => exact ⟨0, a5, o5, Nat.zero_le _, rfl, hR6, hdN5, u5, b5, k5⟩
        case round =>
          clear hR6 u5 b5 k5 hdN5
          obtain ⟨i, a', o', hi, rfl, hR, hdo, u, b, k⟩ := hrel
          by_cases hlt : i < n
          · have hltI : (i : Int) < (n : Int) := by omega
            have hR' := hide (show Inf.bind (Inf.put most (o'.getD (o'.length - d) 0)) (fun _ => Inf.back most d (n - (i + 1))) a' o' = R from by
              have := hR.out
              rwa [show n - i = n - (i + 1) + 1 from by omega] at this)
            obtain ⟨A, c, hc, ho, hcell⟩ := uback_load u.out
            obtain ⟨q, hq⟩ : ∃ q, o'.length - d = q := ⟨_, rfl⟩
            have hql : q < o'.length := by have := hdo.out; omega
            obtain ⟨b0, off, rfl, hcq⟩ := hcell q hql
            rw [hq, List.getD_eq_getElem?_getD, List.getElem?_eq_getElem hql, Option.getD_some] at hR'
            have hup := fun (W : World) (uu : UAt B gu gr most bs W a' o') => uput uu o'[q]
            obtain ⟨N', hN'⟩ : ∃ N, o'.length = N := ⟨_, rfl⟩
            generalize o'[q] = x at *
            obtain ⟨xn, hxn⟩ : ∃ xn, x.toNat = xn := ⟨_, rfl⟩
            rw [hxn] at hcq hup
            have hdo2 := hide (show d ≤ N' from by rw [← hN']; exact hdo.out)
            rw [hN'] at hc ho
            have hqI : (N' : Int) - (d : Int) = (q : Int) := by have := hdo2.out; omega
            have hwq : IntKind.i64.wrap (q : Int) = (q : Int) := by rw [IntKind.wrap_i64]; omega
            have hq0 : (0 : Int) ≤ (q : Int) := by omega
            have hqN : (q : Int) < (N' : Int) := by omega
            have hu4 := hide (show Calls Try.prog 109 #[.pointer (some ⟨gu, 0, none⟩), .int .u8 (xn : Int)] wr.drew (UP B gu gr most bs wr.drew (fun _ : Unit => .tuple #[]) (Inf.put most x a' o')) from hup wr.drew (u.out.below (below_drewN (Below.refl _ wr) 1)))
            have bd := hide (show Below B w wr.drew from below_drewN b.out 1)
            have kd := hide (show KeepU w wr.drew from k.out.trans (KeepU.below (below_drewN (Below.refl _ wr) 1)))
            have hN' := hide hN'
            clear hR u hq hql hcell hup hxn
            go_wp2
            go_still_tail 14, (by kernel_rfl)
            change wpList _ _ _ _ _ wr.drew
            go_wp2_with fail
            refine UP.go hu4.out (fun er w5 e5 b5 k5 => ⟨rfl, .inl ⟨er, hR'.out.symm.trans (Inf.bind_err e5), rfl, bd.out.trans b5, kd.out.trans k5⟩⟩) ?_
            intro _ a5 o5 w5 e5 u5 b5 k5
            have hR6 := hide ((Inf.bind_ok e5).symm.trans hR'.out)
            have hdo5 := hide (show d ≤ o5.length from by rw [(Inf.put_is e5).2, List.length_append]; have := hdo.out; omega)
            have b5 := hide (bd.out.trans b5)
            have k5 := hide (kd.out.trans k5)
            have u5 := hide u5
            clear e5 hR' hu4 hcq hc hqI hwq hq0 hqN b k bd kd
            go_wp2
            go_roundw
            case rel => exact ⟨i + 1, a5, o5, by omega, by go_num, hR6, hdo5, u5, b5, k5⟩
            case measure => simp [intOf] <;> omega
          · obtain rfl : i = n := by omega
            have hR' := hide (show Sum.inr ((), a', o') = R from by have := hR.out; rwa [Nat.sub_self] at this)
            go_wp2
            go_end0
            exact .inr ⟨(), a', o', hR'.out.symm, rfl, u.out, b.out, k.out⟩

set_option maxRecDepth 100000 in
set_option maxHeartbeats 4000000 in
theorem usymbols (h : UAt B gu gr most bs w a o) (gn gf B0 B1 F : Nat) (near far : List Nat) (hc : CodeAt B0 w gn near) (hc2 : CodeAt B1 w gf far) (hn : near.length ≤ 288) (hsum : Huf.sum near ≤ 32768) (hn2 : far.length ≤ 288) (hsum2 : Huf.sum far ≤ 32768) (hF : 8 * bs.length < a + F) (R : Inf.R Unit) (hR : Inf.symbols (Bit.bitsOf bs) most near far F a o = R) :
    Calls Try.prog 80 #[.pointer (some ⟨gu, 0, none⟩), .pointer (some ⟨gn, 0, none⟩), .pointer (some ⟨gf, 0, none⟩)] w (UP B gu gr most bs w (fun _ : Unit => .tuple #[]) R) := by
  have hsy := hide (fun (w' : World) (a' : Nat) (o' : List UInt8) (u : UAt B gu gr most bs w' a' o') (k : KeepU w w') => usym u gn B0 near (hc.keepU k) hn hsum)
  have hcp := hide (fun (w' : World) (a' : Nat) (o' : List UInt8) (u : UAt B gu gr most bs w' a' o') (k : KeepU w w') (s : Nat) (hs : s ≤ 1000) => ucopied u s gf B1 far hs (hc2.keepU k) hn2 hsum2 _ rfl)
  have hBw := hide (Below.refl B w)
  have hK := hide (KeepU.refl w)
  have h := hide h
  have hR := hide hR
  have hF := hide hF
  have hn := hide hn
  clear hc hc2 hsum hn2 hsum2
  go_enter Try.func80, Try.ntmps80
  go_wp2
  go_loopg [6] F (fun gk _ wr => ∃ (a' : Nat) (o' : List UInt8), Hid (Inf.symbols (Bit.bitsOf bs) most near far gk a' o' = R) ∧ Hid (8 * bs.length < a' + gk) ∧ Hid (UAt B gu gr most bs wr a' o') ∧ Hid (Below B w wr) ∧ Hid (KeepU w wr))
  case atStart => exact ⟨a, o, hR, hF, h, hBw, hK⟩
  case round =>
    clear hR hF h hBw hK
    obtain ⟨a', o', hR, hF, u, b, k⟩ := hrel
    obtain ⟨g, rfl⟩ : ∃ g, gk = g + 1 := ⟨gk - 1, by have := u.out.bounds.1; have := hF.out; omega⟩
    have hR1 := hide (show Inf.bind (Inf.sym (Bit.bitsOf bs) near) (fun s => if s < 256 then Inf.bind (Inf.put most (UInt8.ofNat s)) fun _ => Inf.symbols (Bit.bitsOf bs) most near far g
      else if s = 256 then Inf.ret () else Inf.bind (Inf.copied (Bit.bitsOf bs) most far s) fun _ => Inf.symbols (Bit.bitsOf bs) most near far g) a' o' = R from hR.out)
    have hs1 := hide (hsy.out _ _ _ u.out k.out)
    clear hR u
    go_wp2_with fail
    refine UP.go hs1.out (fun er w2 e2 b2 k2 => ⟨rfl, .inl ⟨er, hR1.out.symm.trans (Inf.bind_err e2), rfl, b.out.trans b2, k.out.trans k2⟩⟩) ?_
    intro t a2 o2 w2 e2 u2 b2 k2
    have hR2 := (Inf.bind_ok e2).symm.trans hR1.out
    obtain ⟨ht1, ht2, _⟩ := Inf.sym_is e2
    have htb : t ≤ 1000 := by have := hn.out; omega
    have hF2 := hide (show 8 * bs.length < a2 + g from by have := hF.out; omega)
    have b2 := hide (b.out.trans b2)
    have k2 := hide (k.out.trans k2)
    clear e2 hR1 hs1 b k hF ht1 ht2
    by_cases h1 : t < 256
    · rw [if_pos h1] at hR2
      have hR2 := hide hR2
      have htI : (t : Int) ≤ 255 := by omega
      have htd : decide ((t : Int) < 256) = true := by simp; omega
      have hx8 : IntKind.u8.wrap (t : Int) = (t : Int) := by rw [IntKind.wrap_u8]; omega
      have hu5 := uput u2 (UInt8.ofNat t)
      rw [UInt8.toNat_ofNat_of_lt' (show t < 256 from h1)] at hu5
      have hu5 := hide hu5
      clear u2 h1
      go_wp2_with fail
      refine UP.go hu5.out (fun er w5 e5 b5 k5 => ⟨rfl, .inl ⟨er, hR2.out.symm.trans (Inf.bind_err e5), rfl, b2.out.trans b5, k2.out.trans k5⟩⟩) ?_
      intro _ a5 o5 w5 e5 u5 b5 k5
      have hR3 := hide ((Inf.bind_ok e5).symm.trans hR2.out)
      have hF5 := hide (show 8 * bs.length < a5 + g from by rw [(Inf.put_is e5).1]; exact hF2.out)
      have b5 := hide (b2.out.trans b5)
      have k5 := hide (k2.out.trans k5)
      have u5 := hide u5
      clear e5 hR2 hu5 b2 k2 hF2
      go_wp2
      go_roundg g
      case rel => exact ⟨a5, o5, hR3, hF5, u5, b5, k5⟩
      case measure => omega
    · have htI : (256 : Int) ≤ (t : Int) := by omega
      have htd : decide ((t : Int) < 256) = false := by simp; omega
      rw [if_neg h1] at hR2
      by_cases h2 : t = 256
      · rw [if_pos h2] at hR2
        have hR2 := hide (show Sum.inr ((), a2, o2) = R from hR2)
        have hte : ((t : Int) == 256) = true := by simp; omega
        have u2 := hide u2
        clear h1 h2
        go_wp2
        all_goals (refine bodyPost_ret (results_none rfl _ _ _) rfl ?_; exact .inr ⟨(), a2, o2, hR2.out.symm, rfl, u2.out, b2.out, k2.out⟩)
      · rw [if_neg h2] at hR2
        have hR2 := hide hR2
        have hte : ((t : Int) == 256) = false := by simp; omega
        have hu5 := hide (hcp.out _ _ _ u2 k2.out t htb)
        have hFm := hide (fun (a5 : Nat) (h : a2 ≤ a5) => (show 8 * bs.length < a5 + g from by have := hF2.out; omega))
        clear u2 h1 h2
        go_wp2_with fail
        refine UP.go hu5.out (fun er w5 e5 b5 k5 => ⟨rfl, .inl ⟨er, hR2.out.symm.trans (Inf.bind_err e5), rfl, b2.out.trans b5, k2.out.trans k5⟩⟩) ?_
        intro _ a5 o5 w5 e5 u5 b5 k5
        have hR3 := hide ((Inf.bind_ok e5).symm.trans hR2.out)
        have hF5 := hide (hFm.out a5 ((Inf.Mono.copied most far t).1 _ _ _ _ _ _ e5))
        have b5 := hide (b2.out.trans b5)
        have k5 := hide (k2.out.trans k5)
        have u5 := hide u5
        clear e5 hR2 hu5 b2 k2 hF2 hFm
        go_wp2
        go_roundg g
        case rel => exact ⟨a5, o5, hR3, hF5, u5, b5, k5⟩
        case measure => omega
end

end Go.Proofs.Ythplpoijkebjbaa
