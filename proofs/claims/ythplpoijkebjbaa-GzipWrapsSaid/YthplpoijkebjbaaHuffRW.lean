/- The walks of (*huff.Code).Read and Write: a symbol is read by a code, and written. There is no condition. -/
import Derived.Test.YthplpoijkebjbaaHuffDec
import Derived.Test.YthplpoijkebjbaaBitKeep
namespace Go.Proofs.Ythplpoijkebjbaa
open Go.RowKit

theorem Cd.keep {w w' : World} {B g n : Nat} {Ab : Option Addr} {cb : Nat} {Al : Option Addr} {cl : Nat} {ls : List Nat} {fs : Nat → Nat} {Ao : Nat → Option Addr} {co : Nat → Nat} {os : Nat → List Nat} {bits : Nat → Nat}
    (h : Cd w B g n Ab cb Al cl ls fs Ao co os bits) (hx : KeepX w w') : Cd w' B g n Ab cb Al cl ls fs Ao co os bits := by
  obtain ⟨cs, hk, hr⟩ := h.cells
  exact ⟨⟨cs, hx.row hk (by decide) (by decide) (by decide), hr⟩, h.hg, hx.ow h.ob (by decide) (by decide) (by decide), hx.ow h.ol (by decide) (by decide) (by decide), fun s hs => hx.ow (h.oo s hs) (by decide) (by decide) (by decide), h.apart, h.apartL⟩
theorem CodeAt.keep {B g : Nat} {w w' : World} {ls : List Nat} (h : CodeAt B w g ls) (hx : KeepX w w') : CodeAt B w' g ls := by
  obtain ⟨Ab, cb, Al, cl, Ao, co, h⟩ := h
  exact ⟨Ab, cb, Al, cl, Ao, co, h.keep hx⟩
theorem KeepX.drewN (w : World) (k : Nat) : KeepX w (w.drewN k) := KeepX.below (below_drewN (Below.refl _ w) k)

/-- One bit more of a reader. -/
theorem bit_at (bs : List UInt8) (a s : Nat) (b : Bool) (h : ((Bit.bitsOf bs).drop a)[s]? = some b) : Bit.num (((Bit.bitsOf bs).drop (a + s)).take 1) = b.toNat := by
  rw [← List.drop_drop]
  obtain ⟨hl, rfl⟩ := List.getElem?_eq_some_iff.1 h
  rw [List.drop_eq_getElem_cons hl]
  simp [Bit.num]
theorem or_bit1 (V b : Nat) (hV : V ≤ 32767) (hb : b ≤ 1) : bits .or .u32 ((V : Int) * 2) (b : Int) = ((2 * V + b : Nat) : Int) := by
  rw [show (V : Int) * 2 = ((2 * V : Nat) : Int) from by push_cast; rw [Int.mul_comm], u32_or_nat (2 * V) b (by omega) (by omega), nat_join1 (2 * V) b (by omega) (by omega)]

set_option maxRecDepth 100000 in
set_option maxHeartbeats 2000000 in
theorem read_any (g gr B0 B a : Nat) (ls : List Nat) (bs : List UInt8) (w : World) (h : CodeAt B0 w g ls) (hr : RdAt B w gr bs a) (hl : bs.length ≤ 1048576) (ha : a ≤ 8 * bs.length) (hn : ls.length ≤ 288) (hsl : Huf.sum ls ≤ 32768)
    (m x er : Nat) (hd : Huf.dec ls ((Bit.bitsOf bs).drop a) 15 0 0 = (m, x, er)) :
    Calls Try.prog 124 #[.pointer (some ⟨g, 0, none⟩), .pointer (some ⟨gr, 0, none⟩)] w fun e w' => e = .returned (.tuple #[.int .i64 (m : Int), .int .i64 (er : Int)]) ∧ RdAt B w' gr bs (a + x) ∧ Below B w w' ∧ KeepX w w' := by
  have hbl := Bit.bitsOf_length bs
  have hVs := hide (Huf.V_small ls hsl)
  replace h := hide h
  replace hr := hide hr
  replace hl := hide hl
  replace ha := hide ha
  replace hn := hide hn
  clear hsl
  obtain ⟨l, hlx⟩ : ∃ l, (Bit.bitsOf bs).drop a = l := ⟨_, rfl⟩
  have hll : Hid (l.length = 8 * bs.length - a) := hide (by rw [← hlx, List.length_drop, hbl])
  rw [hlx] at hd
  have hba := hide (fun s b (h : l[s]? = some b) => bit_at bs a s b (by rw [hlx]; exact h))
  replace hd := hide hd
  clear hbl hlx
  go_enter Try.func124, Try.ntmps124
  go_wp2
  go_loopw [6, 7] (fun v i wr => ∃ s V : Nat, s ≤ 15 ∧ i = .int .i64 ((s : Int) + 1) ∧ v = .int .u32 (V : Int) ∧ Hid (V < 2 ^ s) ∧ Hid (Huf.dec ls l (15 - s) s V = (m, x, er)) ∧ Hid (s ≤ l.length) ∧ Hid (RdAt B wr gr bs (a + s)) ∧ Hid (CodeAt B0 wr g ls) ∧ Hid (Below B w wr) ∧ Hid (KeepX w wr)) (fun _ i _ => 17 - (intOf i).toNat)
  case atStart => exact ⟨0, 0, by omega, rfl, rfl, hide (by decide), hd, hide (Nat.zero_le _), hr, h, hide (Below.refl _ _), hide (KeepX.refl _)⟩
  case round =>
    obtain ⟨s, V, hs15, rfl, rfl, hV, hd, hsl, hr, h, hb, hx⟩ := hrel
    by_cases hs : s < 15
    · have hsI : (s : Int) ≤ 14 := by omega
      by_cases hsl2 : s < l.length
      · have hbit := hba.out s l[s] (List.getElem?_eq_getElem hsl2)
        have hrb := hide (xtrbits hr.out 1 (by have := hl.out; omega) (by omega) (by have := hll.out; have := ha.out; omega))
        rw [hbit, show ((1 : Nat) : Int) = 1 from rfl] at hrb
        have hVle : V ≤ 32767 := by
          have : 2 ^ s ≤ 2 ^ 14 := Nat.pow_le_pow_right (by omega) (by omega)
          have := hV.out
          omega
        have hbn : l[s].toNat ≤ 1 := by cases l[s] <;> decide
        have hor := or_bit1 V l[s].toNat hVle hbn
        have hmiss := hide (Huf.dec_miss ls l (14 - s) s V l[s] (List.getElem?_eq_getElem hsl2))
        have hhit := hide (Huf.dec_hit ls l (14 - s) s V l[s] (List.getElem?_eq_getElem hsl2))
        have hV2 : Hid (2 * V + l[s].toNat < 2 ^ (s + 1)) := hide (by rw [Nat.pow_succ]; have := hV.out; omega)
        generalize l[s].toNat = b at *
        obtain ⟨Y, hY⟩ : ∃ Y, 2 * V + b = Y := ⟨_, rfl⟩
        rw [hY] at hor hmiss hhit hV2
        have hYI : (Y : Int) ≤ 65535 := by omega
        have hVI : (V : Int) ≤ 32767 := by omega
        clear hY hVle hbit hbn
        go_upto_region 12 with (go_at_call 107; (with_reducible refine hrb.out.mono ?_); rintro e w1 ⟨rfl, h1, hb1, hx1⟩; have h1 := hide h1; have hb1 := hide (hb.out.trans hb1); have hc1 := h.out.keep hx1; obtain ⟨Ab, cb, Al, cl, Ao, co, hcd⟩ := hc1; have d2 := hcd.cellf (s + 1) (by omega); have d18 := hcd.cello (s + 1) (by omega); have hcd := hide hcd; have hx1 := hide (hx.out.trans hx1))
        have h14 : 15 - s = 14 - s + 1 := by omega
        have h14b : 14 - s = 15 - (s + 1) := by omega
        rw [h14] at hd
        have hfc := Huf.first_cnt ls (s + 1) (by omega)
        have hvs := hVs.out (s + 1) (by omega)
        have hll2 : (Huf.lists ls ls.length (s + 1)).length = Huf.cnt ls (s + 1) := by rw [Huf.lists_pos ls ls.length (s + 1) (by omega)]; rfl
        have hhd : Huf.hits ls (s + 1) Y = (decide (Huf.first ls (s + 1) ≤ Y) && decide (Y < Huf.first ls (s + 1) + Huf.cnt ls (s + 1))) := rfl
        rw [hll2] at d18
        have hoo : Hid (Ow w1 B0 3 (Ao (s + 1)) (Huf.cnt ls (s + 1)) (co (s + 1)) ((Huf.idx ls ls.length (s + 1)).map jv)) := hide (by
          have := hcd.out.oo (s + 1) (by omega)
          rw [hll2, Huf.lists_pos ls ls.length (s + 1) (by omega)] at this
          exact this)
        have hsymv : Hid (Huf.sym ls (s + 1) Y = (Huf.idx ls ls.length (s + 1)).getD (Y - Huf.first ls (s + 1)) 0) := hide rfl
        have hidl : Hid ((Huf.idx ls ls.length (s + 1)).length = Huf.cnt ls (s + 1)) := hide rfl
        have hcode := hide (show CodeAt B0 w1 g ls from ⟨Ab, cb, Al, cl, Ao, co, hcd.out⟩)
        generalize Huf.first ls (s + 1) = F at *
        generalize Huf.cnt ls (s + 1) = N at *
        generalize Huf.V ls (s + 1) = VV at *
        have hFI : (F : Int) + N ≤ 32768 := by omega
        clear hll2 hcd
        by_cases hA : Y < F
        · have hAI : (Y : Int) + 1 ≤ F := by omega
          have hm : Huf.hits ls (s + 1) Y = false := by rw [hhd]; simp; omega
          have hd2 := hide (hmiss.out hm)
          rw [hd.out, h14b] at hd2
          clear hhd hm hA hfc hvs h14 h14b
          generalize Huf.hits ls (s + 1) Y = hh at *
          go_wp2
          go_roundw
          case rel => exact ⟨s + 1, Y, by omega, by go_num, rfl, hV2, hide hd2.out.symm, hide hsl2, h1, hcode, hb1, hx1⟩
          case measure => simp [intOf] <;> omega
        · have hAI : (F : Int) ≤ Y := by omega
          obtain ⟨q, hq⟩ : ∃ q, Y - F = q := ⟨_, rfl⟩
          have hqI : ((Y : Int) - F) % 4294967296 = q := by omega
          have hqI2 : (q : Int) ≤ 65535 := by omega
          by_cases hB : q < N
          · have hBI : (q : Int) < N := by omega
            have hm : Huf.hits ls (s + 1) Y = true := by rw [hhd]; simp; omega
            have hd2 := hhit.out hm
            rw [hd.out] at hd2
            injection hd2 with e1 e2
            injection e2 with e2 e3
            subst e2 e3
            rw [hsymv.out, hq] at e1
            have hql : q < (Huf.idx ls ls.length (s + 1)).length := by rw [hidl.out]; exact hB
            rw [List.getD_eq_getElem?_getD, List.getElem?_eq_getElem hql] at e1
            obtain ⟨ga, hAo, _, _⟩ := hoo.out.pos (by omega)
            rw [hAo] at hoo d18
            have e0 := hoo.out.cells (g := ga) rfl q (jv (Huf.idx ls ls.length (s + 1))[q]) (by rw [List.getElem?_map, List.getElem?_eq_getElem hql]; rfl)
            rw [Addr.add_mid, Nat.zero_add] at e0
            simp only [Option.getD_some] at e1
            unfold jv at e0
            rw [← e1] at e0
            clear hhd hm hA hfc hvs hq hql hB hoo e1 h14 h14b
            go_wp2
            go_ret2
            exact ⟨rfl, h1.out, hb1.out, hx1.out⟩
          · have hBI : (N : Int) ≤ q := by omega
            have hm : Huf.hits ls (s + 1) Y = false := by rw [hhd]; simp; omega
            have hd2 := hide (hmiss.out hm)
            rw [hd.out, h14b] at hd2
            clear hhd hm hA hfc hvs hq hB h14 h14b
            go_wp2
            go_roundw
            case rel => exact ⟨s + 1, Y, by omega, by go_num, rfl, hV2, hide hd2.out.symm, hide hsl2, h1, hcode, hb1, hx1⟩
            case measure => simp [intOf] <;> omega
      · have hrb := hide (atrshort hr.out 1 (by have := hl.out; omega) (by have := hll.out; have := hsl.out; have := ha.out; omega) (by omega) (by have := hll.out; have := hsl.out; have := ha.out; omega))
        have h14 : 15 - s = 14 - s + 1 := by omega
        have hd2 := Huf.dec_short ls l (14 - s) s V (by omega)
        rw [← h14, hd.out] at hd2
        injection hd2 with e1 e2
        injection e2 with e2 e3
        subst e1 e2 e3
        rw [show ((1 : Nat) : Int) = 1 from rfl] at hrb
        clear h14 hsl2
        have hVI : (V : Int) ≤ 32767 := by
          have : 2 ^ x ≤ 2 ^ 14 := Nat.pow_le_pow_right (by omega) (by omega)
          have := hV.out
          omega
        go_wp2_with (go_at_call 107; (with_reducible refine hrb.out.mono ?_); rintro e w1 ⟨rfl, k1, rfl⟩)
        go_ret2
        exact ⟨rfl, hr.out.below (below_drewN (Below.refl _ wr) k1), below_drewN hb.out k1, hx.out.trans (KeepX.drewN wr k1)⟩
    · obtain rfl : s = 15 := by omega
      have hd2 := hd.out
      rw [Nat.sub_self, Huf.dec] at hd2
      injection hd2 with e1 e2
      injection e2 with e2 e3
      subst e1 e2 e3
      go_wp2
      go_ret2
      exact ⟨rfl, hr.out, hb.out, hx.out⟩

theorem Huf.bits_lt (ls : List Nat) (h15 : ∀ x ∈ ls, x ≤ 15) (hs : Huf.sum ls ≤ 32768) (i : Nat) (hi : i < ls.length) : Huf.bits ls 16 i ≤ 32767 := by
  have hx15 := h15 ls[i] (List.getElem_mem hi)
  have hg : ls.getD i 0 = ls[i] := by rw [List.getD_eq_getElem?_getD, List.getElem?_eq_getElem hi]; rfl
  unfold Huf.bits
  rw [hg]
  split
  · have := Huf.code_lt ls hs i _ (List.getElem?_eq_getElem hi) (by omega) hx15
    have h2 : 2 ^ ls[i] ≤ 2 ^ 15 := Nat.pow_le_pow_right (by omega) hx15
    omega
  · omega

set_option maxRecDepth 100000 in
theorem write_ok (g gw B0 B : Nat) (ls : List Nat) (L : List Bool) (i : Nat) (w : World) (h : CodeAt B0 w g ls) (hw : WrAt B w gw L) (hL : L.length ≤ 1000000000000) (hn : ls.length ≤ 288) (h15 : ∀ x ∈ ls, x ≤ 15) (hs : Huf.sum ls ≤ 32768) (hi : i < ls.length) (h0 : ls[i] ≠ 0) :
    Calls Try.prog 74 #[.pointer (some ⟨g, 0, none⟩), .pointer (some ⟨gw, 0, none⟩), .int .i64 (i : Int)] w fun e w' => e = .returned (.int .i64 0) ∧ WrAt B w' gw (L ++ Huf.word (Huf.bits ls 16 i) ls[i]) ∧ Below B w w' ∧ KeepX w w' := by
  have hof := hide (of_in g ls i w B0 h hn hi)
  have hy := Huf.bits_lt ls h15 hs i hi
  have hx15 := h15 ls[i] (List.getElem_mem hi)
  generalize ls[i] = x at *
  generalize Huf.bits ls 16 i = y at *
  have hwt := hide (fun k => xtturned (hw.below (below_drewN (Below.refl _ w) k)) y x hL (by omega) (by omega))
  have hxb : ((x : Int) == 0) = false := by simp; omega
  have hBk := hide (fun k => below_drewN (Below.refl B w) k)
  clear hy hL h h15 hs hi
  go_enter Try.func74, Try.ntmps74
  go_wp2_with (first
    | (go_at_call 105; (with_reducible refine hof.out.mono ?_); rintro e w1 ⟨rfl, k1, rfl⟩)
    | (go_at_call 106; (with_reducible refine (hwt.out k1).mono ?_); rintro e w2 ⟨rfl, h2, hb2, hx2⟩))
  go_ret
  exact ⟨rfl, h2, (hBk.out k1).trans hb2, (KeepX.drewN w k1).trans hx2⟩

theorem write_no (g gw B0 : Nat) (ls : List Nat) (i : Int) (w : World) (h : CodeAt B0 w g ls) (hn : ls.length ≤ 288) (hi : i < 0 ∨ (ls.length : Int) ≤ i ∨ ∃ m : Nat, i = m ∧ ls[m]? = some 0) :
    Calls Try.prog 74 #[.pointer (some ⟨g, 0, none⟩), .pointer (some ⟨gw, 0, none⟩), .int .i64 i] w fun e w' => e = .returned (.int .i64 8) ∧ ∃ k, w' = w.drewN k := by
  have hof : ∃ y : Nat, Hid (Calls Try.prog 105 #[.pointer (some ⟨g, 0, none⟩), .int .i64 i] w fun e w' => e = .returned (.tuple #[.int .u32 (y : Int), .int .i64 0]) ∧ ∃ k, w' = w.drewN k) := by
    have key : i < 0 ∨ (ls.length : Int) ≤ i → ∃ y : Nat, Hid (Calls Try.prog 105 #[.pointer (some ⟨g, 0, none⟩), .int .i64 i] w fun e w' => e = .returned (.tuple #[.int .u32 (y : Int), .int .i64 0]) ∧ ∃ k, w' = w.drewN k) := by
      intro hi
      refine ⟨0, (of_out g ls i w B0 h hn hi).mono ?_⟩
      rintro e w' ⟨he, rfl⟩
      exact ⟨he, 0, rfl⟩
    rcases hi with hi | hi | ⟨m, rfl, hm⟩
    · exact key (.inl hi)
    · exact key (.inr hi)
    · obtain ⟨hml, hm0⟩ := List.getElem?_eq_some_iff.1 hm
      refine ⟨Huf.bits ls 16 m, ?_⟩
      have := of_in g ls m w B0 h hn hml
      rw [hm0] at this
      exact this
  obtain ⟨y, hof⟩ := hof
  clear h hn hi
  go_enter Try.func74, Try.ntmps74
  go_wp2_with (go_at_call 105; (with_reducible refine hof.out.mono ?_); rintro e w1 ⟨rfl, k1, rfl⟩)
  go_ret
  exact ⟨rfl, k1, rfl⟩

end Go.Proofs.Ythplpoijkebjbaa
