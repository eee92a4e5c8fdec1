/- Layer 4 (inflate): the unpacker's memory, and the walk of a code's Read with what it leaves alone. The conditions: where things lie. -/
import Derived.Test.YthplpoijkebjbaaHuffRW
import Derived.Test.YthplpoijkebjbaaInfLaw
namespace Go.Proofs.Ythplpoijkebjbaa
set_option linter.unusedVariables false
open Go.RowKit

set_option maxRecDepth 100000 in
set_option maxHeartbeats 2000000 in
theorem iread_any (g gr B0 B a : Nat) (Ab : Option Addr) (ls : List Nat) (bs : List UInt8) (w : World) (h : CodeAt B0 w g ls) (hr : RdIs w B gr Ab bs a) (hl : bs.length ≤ 1048576) (ha : a ≤ 8 * bs.length) (hn : ls.length ≤ 288) (hsl : Huf.sum ls ≤ 32768)
    (m x er : Nat) (hd : Huf.dec ls ((Bit.bitsOf bs).drop a) 15 0 0 = (m, x, er)) :
    Calls Try.prog 124 #[.pointer (some ⟨g, 0, none⟩), .pointer (some ⟨gr, 0, none⟩)] w fun e w' => e = .returned (.tuple #[.int .i64 (m : Int), .int .i64 (er : Int)]) ∧ RdIs w' B gr Ab bs (a + x) ∧ Chg (fun k => k = gr) w w' := by
  have hbl := Bit.bitsOf_length bs
  have hVs := hide (Huf.V_small ls hsl)
  replace h := hide h
  replace hr := hide hr
  replace hl := hide hl
  replace ha := hide ha
  replace hn := hide hn
  clear hsl
  obtain ⟨l, hlx⟩ : ∃ l, (Bit.bitsOf bs).drop a = l := ⟨_, rfl⟩
  have hll : Hid (l.length = 8 * bs.length - a) := hide (by rw [← hlx, List.length_drop, hbl])
  rw [hlx] at hd
  have hba := hide (fun s b (h : l[s]? = some b) => bit_at bs a s b (by rw [hlx]; exact h))
  replace hd := hide hd
  clear hbl hlx
  go_enter Try.func124, Try.ntmps124
  go_wp2
  go_loopw [6, 7] (fun v i wr => ∃ s V : Nat, s ≤ 15 ∧ i = .int .i64 ((s : Int) + 1) ∧ v = .int .u32 (V : Int) ∧ Hid (V < 2 ^ s) ∧ Hid (Huf.dec ls l (15 - s) s V = (m, x, er)) ∧ Hid (s ≤ l.length) ∧ Hid (RdIs wr B gr Ab bs (a + s)) ∧ Hid (CodeAt B0 wr g ls) ∧ Hid (Chg (fun k => k = gr) w wr)) (fun _ i _ => 17 - (intOf i).toNat)
  case atStart => exact ⟨0, 0, by omega, rfl, rfl, hide (by decide), hd, hide (Nat.zero_le _), hr, h, hide (Chg.refl _ _)⟩
  case round =>
    obtain ⟨s, V, hs15, rfl, rfl, hV, hd, hsl, hr, h, hb⟩ := hrel
    by_cases hs : s < 15
    · have hsI : (s : Int) ≤ 14 := by omega
      by_cases hsl2 : s < l.length
      · have hbit := hba.out s l[s] (List.getElem?_eq_getElem hsl2)
        have hrb := hide (rbits_ok gr Ab bs (a + s) 1 wr B hr.out (by have := hl.out; omega) (by omega) (by have := hll.out; have := ha.out; omega))
        rw [hbit, show ((1 : Nat) : Int) = 1 from rfl] at hrb
        have hVle : V ≤ 32767 := by
          have : 2 ^ s ≤ 2 ^ 14 := Nat.pow_le_pow_right (by omega) (by omega)
          have := hV.out
          omega
        have hbn : l[s].toNat ≤ 1 := by cases l[s] <;> decide
        have hor := or_bit1 V l[s].toNat hVle hbn
        have hmiss := hide (Huf.dec_miss ls l (14 - s) s V l[s] (List.getElem?_eq_getElem hsl2))
        have hhit := hide (Huf.dec_hit ls l (14 - s) s V l[s] (List.getElem?_eq_getElem hsl2))
        have hV2 : Hid (2 * V + l[s].toNat < 2 ^ (s + 1)) := hide (by rw [Nat.pow_succ]; have := hV.out; omega)
        generalize l[s].toNat = b at *
        obtain ⟨Y, hY⟩ : ∃ Y, 2 * V + b = Y := ⟨_, rfl⟩
        rw [hY] at hor hmiss hhit hV2
        have hYI : (Y : Int) ≤ 65535 := by omega
        have hVI : (V : Int) ≤ 32767 := by omega
        clear hY hVle hbit hbn
        go_upto_region 12 with (go_at_call 107; (with_reducible refine hrb.out.mono ?_); rintro e w1 ⟨rfl, h1, hb1⟩; have hx1 := KeepX.rd hr.out hb1; have h1 := hide h1; have hb1 := hide (hb.out.trans hb1 (fun _ _ h => h)); have hc1 := h.out.keep hx1; obtain ⟨Ab_, cb, Al, cl, Ao, co, hcd⟩ := hc1; have d2 := hcd.cellf (s + 1) (by omega); have d18 := hcd.cello (s + 1) (by omega); have hcd := hide hcd; clear hx1)
        have h14 : 15 - s = 14 - s + 1 := by omega
        have h14b : 14 - s = 15 - (s + 1) := by omega
        rw [h14] at hd
        have hfc := Huf.first_cnt ls (s + 1) (by omega)
        have hvs := hVs.out (s + 1) (by omega)
        have hll2 : (Huf.lists ls ls.length (s + 1)).length = Huf.cnt ls (s + 1) := by rw [Huf.lists_pos ls ls.length (s + 1) (by omega)]; rfl
        have hhd : Huf.hits ls (s + 1) Y = (decide (Huf.first ls (s + 1) ≤ Y) && decide (Y < Huf.first ls (s + 1) + Huf.cnt ls (s + 1))) := rfl
        rw [hll2] at d18
        have hoo : Hid (Ow w1 B0 3 (Ao (s + 1)) (Huf.cnt ls (s + 1)) (co (s + 1)) ((Huf.idx ls ls.length (s + 1)).map jv)) := hide (by
          have := hcd.out.oo (s + 1) (by omega)
          rw [hll2, Huf.lists_pos ls ls.length (s + 1) (by omega)] at this
          exact this)
        have hsymv : Hid (Huf.sym ls (s + 1) Y = (Huf.idx ls ls.length (s + 1)).getD (Y - Huf.first ls (s + 1)) 0) := hide rfl
        have hidl : Hid ((Huf.idx ls ls.length (s + 1)).length = Huf.cnt ls (s + 1)) := hide rfl
        have hcode := hide (show CodeAt B0 w1 g ls from ⟨Ab_, cb, Al, cl, Ao, co, hcd.out⟩)
        generalize Huf.first ls (s + 1) = F at *
        generalize Huf.cnt ls (s + 1) = N at *
        generalize Huf.V ls (s + 1) = VV at *
        have hFI : (F : Int) + N ≤ 32768 := by omega
        clear hll2 hcd
        by_cases hA : Y < F
        · have hAI : (Y : Int) + 1 ≤ F := by omega
          have hm : Huf.hits ls (s + 1) Y = false := by rw [hhd]; simp; omega
          have hd2 := hide (hmiss.out hm)
          rw [hd.out, h14b] at hd2
          clear hhd hm hA hfc hvs h14 h14b
          generalize Huf.hits ls (s + 1) Y = hh at *
          go_wp2
          go_roundw
          case rel => exact ⟨s + 1, Y, by omega, by go_num, rfl, hV2, hide hd2.out.symm, hide hsl2, h1, hcode, hb1⟩
          case measure => simp [intOf] <;> omega
        · have hAI : (F : Int) ≤ Y := by omega
          obtain ⟨q, hq⟩ : ∃ q, Y - F = q := ⟨_, rfl⟩
          have hqI : ((Y : Int) - F) % 4294967296 = q := by omega
          have hqI2 : (q : Int) ≤ 65535 := by omega
          by_cases hB : q < N
          · have hBI : (q : Int) < N := by omega
            have hm : Huf.hits ls (s + 1) Y = true := by rw [hhd]; simp; omega
            have hd2 := hhit.out hm
            rw [hd.out] at hd2
            injection hd2 with e1 e2
            injection e2 with e2 e3
            subst e2 e3
            rw [hsymv.out, hq] at e1
            have hql : q < (Huf.idx ls ls.length (s + 1)).length := by rw [hidl.out]; exact hB
            rw [List.getD_eq_getElem?_getD, List.getElem?_eq_getElem hql] at e1
            obtain ⟨ga, hAo, _, _⟩ := hoo.out.pos (by omega)
            rw [hAo] at hoo d18
            have e0 := hoo.out.cells (g := ga) rfl q (jv (Huf.idx ls ls.length (s + 1))[q]) (by rw [List.getElem?_map, List.getElem?_eq_getElem hql]; rfl)
            rw [Addr.add_mid, Nat.zero_add] at e0
            simp only [Option.getD_some] at e1
            unfold jv at e0
            rw [← e1] at e0
            clear hhd hm hA hfc hvs hq hql hB hoo e1 h14 h14b
            go_wp2
            go_ret2
            exact ⟨rfl, h1.out, hb1.out⟩
          · have hBI : (N : Int) ≤ q := by omega
            have hm : Huf.hits ls (s + 1) Y = false := by rw [hhd]; simp; omega
            have hd2 := hide (hmiss.out hm)
            rw [hd.out, h14b] at hd2
            clear hhd hm hA hfc hvs hq hB h14 h14b
            go_wp2
            go_roundw
            case rel => exact ⟨s + 1, Y, by omega, by go_num, rfl, hV2, hide hd2.out.symm, hide hsl2, h1, hcode, hb1⟩
            case measure => simp [intOf] <;> omega
      · have hrb := hide (rbits_short gr Ab bs (a + s) 1 wr B hr.out (by have := hl.out; omega) (by have := hll.out; have := hsl.out; have := ha.out; omega) (by omega) (by have := hll.out; have := hsl.out; have := ha.out; omega))
        have h14 : 15 - s = 14 - s + 1 := by omega
        have hd2 := Huf.dec_short ls l (14 - s) s V (by omega)
        rw [← h14, hd.out] at hd2
        injection hd2 with e1 e2
        injection e2 with e2 e3
        subst e1 e2 e3
        rw [show ((1 : Nat) : Int) = 1 from rfl] at hrb
        clear h14 hsl2
        have hVI : (V : Int) ≤ 32767 := by
          have : 2 ^ x ≤ 2 ^ 14 := Nat.pow_le_pow_right (by omega) (by omega)
          have := hV.out
          omega
        go_wp2_with (go_at_call 107; (with_reducible refine hrb.out.mono ?_); rintro e w1 ⟨rfl, k1, rfl⟩)
        go_ret2
        exact ⟨rfl, hr.out.below (below_drewN (Below.refl _ wr) k1), hb.out.drewN k1⟩
    · obtain rfl : s = 15 := by omega
      have hd2 := hd.out
      rw [Nat.sub_self, Huf.dec] at hd2
      injection hd2 with e1 e2
      injection e2 with e2 e3
      subst e1 e2 e3
      go_wp2
      go_ret2
      exact ⟨rfl, hr.out, hb.out⟩


/-- Every block that holds neither an unpacker, nor a reader, nor bytes, is as it was. -/
def KeepU (w w' : World) : Prop :=
  w.heap.size ≤ w'.heap.size ∧ ∀ (k : Nat) (cs : Array Value) (t : TypeId) (fz : Nat × Nat), w.heap[k]? = some (.cells cs t fz) → t ≠ 83 → t ≠ 111 → t ≠ 5 → w'.heap[k]? = some (.cells cs t fz)
theorem KeepU.refl (w : World) : KeepU w w := ⟨Nat.le_refl _, fun _ _ _ _ h _ _ _ => h⟩
theorem KeepU.trans {a b c : World} (h : KeepU a b) (k : KeepU b c) : KeepU a c := ⟨Nat.le_trans h.1 k.1, fun i cs t fz x h1 h2 h3 => k.2 i cs t fz (h.2 i cs t fz x h1 h2 h3) h1 h2 h3⟩
theorem KeepU.below {w w' : World} (h : Below w.heap.size w w') : KeepU w w' := ⟨h.size, fun k _ _ _ x _ _ _ => (h.block k (lt_of_block x)).trans x⟩
theorem KeepU.row {w w' : World} (h : KeepU w w') {g : Nat} {t : TypeId} {cs : Array Value} (hk : Blk w g t cs) (h1 : t ≠ 83) (h2 : t ≠ 111) (h3 : t ≠ 5) : Blk w' g t cs := h.2 g cs t (0, 0) hk h1 h2 h3
theorem KeepU.ow {w w' : World} (h : KeepU w w') {base n c : Nat} {e : TypeId} {A : Option Addr} {xs : List Value} (ho : Ow w base e A n c xs) (h1 : e ≠ 83) (h2 : e ≠ 111) (h3 : e ≠ 5) : Ow w' base e A n c xs := by
  refine ⟨ho.1, ?_⟩
  rcases ho.2 with h0 | ⟨g, cap, cur, hv, hb, hh, r⟩
  · exact .inl h0
  · exact .inr ⟨g, cap, cur, hv, hb, h.2 g cur e (0, 0) hh h1 h2 h3, r⟩
/-- Only blocks of those kinds, of those that were there, may have changed. -/
theorem KeepU.chg {R : Nat → Prop} {w w' : World} (h : Chg R w w') (hR : ∀ k cs t fz, R k → w.heap[k]? = some (.cells cs t fz) → t = 83 ∨ t = 111 ∨ t = 5) : KeepU w w' := by
  refine ⟨h.size, fun k cs t fz x h1 h2 h3 => (h.block k (lt_of_block x) fun hr => ?_).trans x⟩
  rcases hR k cs t fz hr x with h | h | h
  · exact h1 h
  · exact h2 h
  · exact h3 h
theorem KeepU.rd {w w' : World} {B gr a : Nat} {Ab : Option Addr} {bs : List UInt8} (hr : RdIs w B gr Ab bs a) (h : Chg (fun k => k = gr) w w') : KeepU w w' := by
  obtain ⟨c, hk, _⟩ := hr
  refine KeepU.chg h ?_
  rintro k cs t fz rfl x
  unfold Blk at hk
  rw [hk] at x
  injection x with x
  injection x with _ ht
  exact .inr (.inl ht.symm)
theorem Cd.keepU {w w' : World} {B g n : Nat} {Ab : Option Addr} {cb : Nat} {Al : Option Addr} {cl : Nat} {ls : List Nat} {fs : Nat → Nat} {Ao : Nat → Option Addr} {co : Nat → Nat} {os : Nat → List Nat} {bits : Nat → Nat}
    (h : Cd w B g n Ab cb Al cl ls fs Ao co os bits) (hx : KeepU w w') : Cd w' B g n Ab cb Al cl ls fs Ao co os bits := by
  obtain ⟨cs, hk, hr⟩ := h.cells
  exact ⟨⟨cs, hx.row hk (by decide) (by decide) (by decide), hr⟩, h.hg, hx.ow h.ob (by decide) (by decide) (by decide), hx.ow h.ol (by decide) (by decide) (by decide), fun s hs => hx.ow (h.oo s hs) (by decide) (by decide) (by decide), h.apart, h.apartL⟩
theorem CodeAt.keepU {B g : Nat} {w w' : World} {ls : List Nat} (h : CodeAt B w g ls) (hx : KeepU w w') : CodeAt B w' g ls := by
  obtain ⟨Ab, cb, Al, cl, Ao, co, h⟩ := h
  exact ⟨Ab, cb, Al, cl, Ao, co, h.keepU hx⟩

/-- The unpacker at block gu reads the bytes bs by the reader at block gr, at the bit a; its bytes are o. -/
def UAt (B gu gr most : Nat) (bs : List UInt8) (w : World) (a : Nat) (o : List UInt8) : Prop :=
  ∃ A c Ab, Blk w gu 83 #[.pointer (some ⟨gr, 0, none⟩), .slice A o.length c, .int .i64 (most : Int)] ∧ RdIs w B gr Ab bs a ∧ Ow w B 5 A o.length c (o.map bv) ∧ B ≤ gu ∧ B ≤ gr ∧ (∀ k, blk A = some k → blk Ab ≠ some k) ∧ a ≤ 8 * bs.length ∧ bs.length ≤ 1048576 ∧ o.length ≤ most ∧ most ≤ 1048576
section
variable {B gu gr most a : Nat} {bs o : List UInt8} {w w' : World}
theorem UAt.size (h : UAt B gu gr most bs w a o) : B ≤ w.heap.size := by
  obtain ⟨A, c, Ab, h1, _, _, h4, _⟩ := h
  have := h1.lt
  omega
theorem UAt.bounds (h : UAt B gu gr most bs w a o) : a ≤ 8 * bs.length ∧ bs.length ≤ 1048576 ∧ o.length ≤ most ∧ most ≤ 1048576 := by
  obtain ⟨A, c, Ab, _, _, _, _, _, _, h⟩ := h
  exact h
theorem UAt.below (h : UAt B gu gr most bs w a o) (hb : Below w.heap.size w w') : UAt B gu gr most bs w' a o := by
  obtain ⟨A, c, Ab, h1, h2, h3, h4, h5, h6⟩ := h
  exact ⟨A, c, Ab, h1.below hb h1.lt, h2.below hb, h3.below hb, h4, h5, h6⟩
/-- What changes neither unpackers, nor readers, nor bytes. -/
theorem UAt.calm {R : Nat → Prop} (h : UAt B gu gr most bs w a o) (hc : Chg R w w') (hR : ∀ k cs t fz, R k → w.heap[k]? = some (.cells cs t fz) → t ≠ 83 ∧ t ≠ 111 ∧ t ≠ 5) : UAt B gu gr most bs w' a o := by
  obtain ⟨A, c, Ab, h1, h2, h3, h4, h5, h6⟩ := h
  obtain ⟨cb, h7, h8⟩ := h2
  have hb : ∀ {base n c' : Nat} {A' : Option Addr} {xs : List Value}, Ow w base 5 A' n c' xs → ∀ g, blk A' = some g → ¬ R g := by
    intro base n c' A' xs ho g hg hr
    rcases ho.2 with ⟨hv, _⟩ | ⟨g', cap, cur, hv, _, hh, _⟩
    · injection hv with e1
      rw [e1] at hg
      simp [blk] at hg
    · injection hv with e1
      rw [e1] at hg
      have : g' = g := by simpa [blk] using hg
      subst this
      exact (hR _ _ _ _ hr hh).2.2 rfl
  exact ⟨A, c, Ab, h1.chg hc (fun hr => (hR _ _ _ _ hr h1).1 rfl), ⟨cb, h7.chg hc (fun hr => (hR _ _ _ _ hr h7).2.1 rfl), h8.chg hc (hb h8)⟩, h3.chg hc (hb h3), h4, h5, h6⟩
/-- The reader has moved. -/
theorem UAt.moved {A : Option Addr} {c : Nat} {Ab : Option Addr} (h1 : Blk w gu 83 #[.pointer (some ⟨gr, 0, none⟩), .slice A o.length c, .int .i64 (most : Int)]) (h2 : RdIs w B gr Ab bs a) (h3 : Ow w B 5 A o.length c (o.map bv)) (h4 : B ≤ gu) (h5 : B ≤ gr)
    (h6 : (∀ k, blk A = some k → blk Ab ≠ some k) ∧ a ≤ 8 * bs.length ∧ bs.length ≤ 1048576 ∧ o.length ≤ most ∧ most ≤ 1048576) {a' : Nat} (ha : a' ≤ 8 * bs.length) (hs : RdIs w' B gr Ab bs a') (hc : Chg (fun k => k = gr) w w') : UAt B gu gr most bs w' a' o ∧ Below B w w' ∧ KeepU w w' := by
  obtain ⟨cb, h7, h8⟩ := h2
  have hB : B ≤ w.heap.size := Nat.le_trans h4 (Nat.le_of_lt h1.lt)
  refine ⟨⟨A, c, Ab, h1.chg hc (fun hr => h1.same h7 (by decide) hr), hs, h3.chg hc ?_, h4, h5, h6.1, ha, h6.2.2⟩, hc.to_below hB (fun i hi => by omega), KeepU.rd ⟨cb, h7, h8⟩ hc⟩
  rintro k hk rfl
  exact h3.ne h7 (by decide) hk
/-- A byte was put behind the others. -/
theorem UAt.put {x : UInt8} {A : Option Addr} {c : Nat} {Ab : Option Addr} (h1 : Blk w gu 83 #[.pointer (some ⟨gr, 0, none⟩), .slice A o.length c, .int .i64 (most : Int)]) (h2 : RdIs w B gr Ab bs a) (h3 : Ow w B 5 A o.length c (o.map bv)) (h4 : B ≤ gu) (h5 : B ≤ gr)
    (h6 : (∀ k, blk A = some k → blk Ab ≠ some k) ∧ a ≤ 8 * bs.length ∧ bs.length ≤ 1048576 ∧ o.length ≤ most ∧ most ≤ 1048576) (hf : ¬ most ≤ o.length) {A3 : Option Addr} {c3 : Nat} {w3 : World} (ho : Ow w3 B 5 A3 (o.length + 1) c3 (o.map bv ++ [bv x])) (hg : Chg (fun k => blk A = some k) w w3)
    (hn : blk A3 = blk A ∨ ∃ k, w.heap.size ≤ k ∧ blk A3 = some k) : UAt B gu gr most bs (w3.setCell ⟨gu, 1, none⟩ (.slice A3 (o.length + 1) c3)) a (o ++ [x]) ∧ Below B w (w3.setCell ⟨gu, 1, none⟩ (.slice A3 (o.length + 1) c3)) ∧ KeepU w (w3.setCell ⟨gu, 1, none⟩ (.slice A3 (o.length + 1) c3)) := by
  obtain ⟨cb, h7, h8⟩ := h2
  have hB : B ≤ w.heap.size := Nat.le_trans h4 (Nat.le_of_lt h1.lt)
  have hA : ∀ k, blk A = some k → B ≤ k ∧ k < w.heap.size := fun k hk => h3.blk_lt k hk
  have hgu : ¬ blk A = some gu := h3.ne h1 (by decide)
  have hgr : ¬ blk A = some gr := h3.ne h7 (by decide)
  have hne : gr ≠ gu := fun e => h1.same h7 (by decide) e.symm
  have k1 := h1.chg hg hgu
  have k2 := h7.chg hg hgr
  have hgw : Chg (fun k => k = gu) w3 (w3.setCell ⟨gu, 1, none⟩ (.slice A3 (o.length + 1) c3)) := (Chg.refl (fun k => k = gu) w3).setCell (p := ⟨gu, 1, none⟩) (.inr rfl) _
  have hA3 : blk A3 ≠ some gu := ho.ne k1 (by decide)
  have hall : Chg (fun k => blk A = some k ∨ k = gu) w (w3.setCell ⟨gu, 1, none⟩ (.slice A3 (o.length + 1) c3)) := (hg.mono (fun _ _ h => .inl h)).trans hgw (fun _ _ h => .inr h)
  refine ⟨⟨A3, c3, Ab, ?_, ⟨cb, k2.far hne _, ?_⟩, ?_, h4, h5, ?_, h6.2.1, h6.2.2.1, by rw [List.length_append, List.length_singleton]; omega, h6.2.2.2.2⟩, hall.to_below hB ?_, KeepU.chg hall ?_⟩
  · have := k1.set 1 (.slice A3 (o.length + 1) c3)
    rw [List.length_append, List.length_singleton]
    exact this
  · refine h8.chg hall ?_
    rintro k hk (h | rfl)
    · exact h6.1 k h hk
    · exact h8.ne h1 (by decide) hk
  · rw [List.length_append, List.length_singleton, List.map_append]
    exact ho.chg hgw (fun k hk e => hA3 (by rw [hk, e]))
  · intro k hk hb
    rcases hn with hn | ⟨k', hk', hn⟩
    · exact h6.1 k (by rw [← hn]; exact hk) hb
    · have := (h8.blk_lt k hb).2
      rw [hn] at hk
      injection hk with hk
      omega
  · rintro k (h | rfl)
    · exact (hA k h).1
    · exact h4
  · rintro k cs t fz (h | rfl) hx
    · right
      right
      rcases h3.2 with ⟨hv, _⟩ | ⟨g', cap, cur, hv, _, hh, _⟩
      · injection hv with e1
        rw [e1] at h
        simp [blk] at h
      · injection hv with e1
        rw [e1] at h
        have : g' = k := by simpa [blk] using h
        subst this
        rw [hh] at hx
        injection hx with hx
        injection hx with _ ht
        exact ht.symm
    · left
      unfold Blk at h1
      rw [h1] at hx
      injection hx with hx
      injection hx with _ ht
      exact ht.symm
end

/-- What stops a block. -/
def stopE (e : Nat) : List PanicEntry := [{ v := .iface 85 (.agg #[.int .i64 (e : Int)]), recovered := false }]
/-- The end of a call on an unpacker. -/
def UP (B gu gr most : Nat) (bs : List UInt8) (w : World) {α : Type} (val : α → Value) (r : Inf.R α) (e : Ending) (w' : World) : Prop :=
  (∃ er, r = .inl er ∧ e = .panicked (stopE er) ∧ Below B w w' ∧ KeepU w w') ∨
  (∃ x a o, r = .inr (x, a, o) ∧ e = .returned (val x) ∧ UAt B gu gr most bs w' a o ∧ Below B w w' ∧ KeepU w w')

end Go.Proofs.Ythplpoijkebjbaa
