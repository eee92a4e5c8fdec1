/- Layers 4 and 5: what is packed is unpacked. The plain law. The condition: the bytes are not too many. -/
import Derived.Test.YthplpoijkebjbaaInfEnd
import Derived.Test.YthplpoijkebjbaaDefData
namespace Go.Proofs.Ythplpoijkebjbaa
set_option linter.unusedVariables false

/-! ### Reading a stream that is known from a place on -/
theorem drop_more {α : Type} {l x y : List α} {a : Nat} (h : l.drop a = x ++ y) : l.drop (a + x.length) = y := by
  rw [← List.drop_drop, h, List.drop_left]
theorem drop_le {α : Type} {l x y : List α} {a : Nat} (h : l.drop a = x ++ y) (ha : a ≤ l.length) : a + x.length ≤ l.length := by
  have := congrArg List.length h
  rw [List.length_drop, List.length_append] at this
  omega
theorem Inf.bits_at {l x y : List Bool} {a n : Nat} {o : List UInt8} (h : l.drop a = x ++ y) (ha : a ≤ l.length) (hn : x.length = n) : Inf.bits l n a o = .inr (Bit.num x, a + n, o) := by
  subst hn
  have hle := drop_le h ha
  unfold Inf.bits
  rw [if_pos hle, h, List.take_left]
theorem Inf.low_at {l y : List Bool} {a n v : Nat} {o : List UInt8} (h : l.drop a = Bit.low v n ++ y) (ha : a ≤ l.length) (hv : v < 2 ^ n) : Inf.bits l n a o = .inr (v, a + n, o) := by
  rw [Inf.bits_at h ha (Bit.low_length v n), Bit.num_low, Nat.mod_eq_of_lt hv]
theorem Inf.word_at {l y : List Bool} {a i x : Nat} {ls : List Nat} {o : List UInt8} (h : l.drop a = Huf.word (Huf.bits ls 16 i) x ++ y) (hi : ls[i]? = some x) (h1 : 1 ≤ x) (h15 : x ≤ 15) (hs : Huf.sum ls ≤ 32768) : Inf.sym l ls a o = .inr (i, a + x, o) := by
  have hb : Huf.bits ls 16 i = Huf.code ls i x := by
    unfold Huf.bits
    rw [List.getD_eq_getElem?_getD, hi, Option.getD_some, if_pos ⟨h1, by omega⟩]
  rw [hb] at h
  have hd := Huf.dec_word ls i x hi h1 h15 hs y
  rw [← h] at hd
  exact Inf.sym_ok hd

/-! ### The fixed codes -/
theorem lsF_at (i : Nat) (h : i < 288) : lsF[i]? = some (fixL i) := by
  unfold lsF
  rw [List.getElem?_map, List.getElem?_range h]
  rfl
theorem ls5_at (i : Nat) (h : i < 32) : (List.replicate 32 5)[i]? = some 5 := by
  rw [List.getElem?_replicate, if_pos h]
theorem Inf.lit_at {l y : List Bool} {a i : Nat} {o : List UInt8} (h : l.drop a = Def.litB i ++ y) (hi : i < 288) : Inf.sym l lsF a o = .inr (i, a + (Def.litB i).length, o) ∧ l.drop (a + (Def.litB i).length) = y := by
  refine ⟨?_, drop_more h⟩
  have h1 := fixL_le i
  rw [show (Def.litB i).length = fixL i from word_len _ _]
  exact Inf.word_at h (lsF_at i hi) (by omega) (by omega) lsF_sum
theorem Inf.dst_at {l y : List Bool} {a i : Nat} {o : List UInt8} (h : l.drop a = Def.dstC i ++ y) (hi : i < 32) : Inf.sym l (List.replicate 32 5) a o = .inr (i, a + (Def.dstC i).length, o) ∧ l.drop (a + (Def.dstC i).length) = y := by
  refine ⟨?_, drop_more h⟩
  rw [show (Def.dstC i).length = 5 from word_len _ _]
  exact Inf.word_at h (ls5_at i hi) (by omega) (by omega) ls5_sum
theorem Def.len_fits : ∀ n < 259, 3 ≤ n → n - Def.lenB (Def.top Def.lenB n 29) < 2 ^ Def.lenX (Def.top Def.lenB n 29) ∧ Def.lenB (Def.top Def.lenB n 29) ≤ n := by decide +kernel
theorem Def.dst_fits : ∀ n < 257, 1 ≤ n → n - Def.dstB (Def.top Def.dstB n 30) < 2 ^ Def.dstX (Def.top Def.dstB n 30) ∧ Def.dstB (Def.top Def.dstB n 30) ≤ n := by decide +kernel

/-! ### A copy -/
theorem Inf.put_ok {most a : Nat} {o : List UInt8} (c : UInt8) (h : o.length < most) : Inf.put most c a o = .inr ((), a, o ++ [c]) := if_neg (by omega)
theorem Def.lcp_runs (bs : List UInt8) (d : Nat) : ∀ (f p : Nat), Def.Runs bs p d (Def.lcp bs p d f) := by
  intro f
  induction f with
  | zero => intro p j hj; simp [Def.lcp] at hj
  | succ f ih =>
    intro p j hj
    rw [Def.lcp] at hj
    split at hj
    · rename_i h
      cases j with
      | zero => simpa using h
      | succ j =>
        have := ih (p + 1) j (by omega)
        rwa [show p + 1 + j = p + (j + 1) by omega] at this
    · omega
theorem Inf.back_is (bs : List UInt8) (most a d : Nat) : ∀ (n p : Nat), Def.Runs bs p d n → 1 ≤ d → d ≤ p → p + n ≤ bs.length → p + n ≤ most → Inf.back most d n a (bs.take p) = .inr ((), a, bs.take (p + n)) := by
  intro n
  induction n with
  | zero => intro p _ _ _ _ _; rfl
  | succ n ih =>
    intro p hr h1 hd hl hm
    have hp : (bs.take p).length = p := by rw [List.length_take]; omega
    have h0 := hr 0 (by omega)
    rw [Nat.add_zero] at h0
    have hg : (bs.take p).getD ((bs.take p).length - d) 0 = bs.getD p 0 := by
      rw [hp, h0.2, List.getD_eq_getElem?_getD, List.getD_eq_getElem?_getD, List.getElem?_take, if_pos (by omega)]
    rw [Inf.back]
    show Inf.bind (Inf.put most ((bs.take p).getD ((bs.take p).length - d) 0)) _ a (bs.take p) = _
    rw [Inf.bind_ok (Inf.put_ok _ (by rw [hp]; omega)), hg]
    have ht : bs.take p ++ [bs.getD p 0] = bs.take (p + 1) := by
      have hlt := h0.1
      rw [List.take_succ_eq_append_getElem hlt]
      congr 1
      rw [List.getD_eq_getElem?_getD, List.getElem?_eq_getElem hlt]
      rfl
    rw [ht, ih (p + 1) (fun j hj => by have := hr (j + 1) (by omega); rwa [show p + (j + 1) = p + 1 + j by omega] at this) h1 (by omega) (by omega) (by omega)]
    rw [show p + 1 + n = p + (n + 1) by omega]

/-! ### A block by the fixed codes -/
theorem Inf.symbols_is (bs : List UInt8) (most : Nat) (l y : List Bool) (hm : bs.length ≤ most) : ∀ (f p a : Nat), p ≤ bs.length → (Def.rest bs p).length < f → a ≤ l.length → l.drop a = (Def.rest bs p).flatMap Def.tokB ++ (Def.litB 256 ++ y) →
    Inf.symbols l most lsF (List.replicate 32 5) f a (bs.take p) = .inr ((), a + ((Def.rest bs p).flatMap Def.tokB).length + (Def.litB 256).length, bs) := by
  intro f
  induction f with
  | zero => intro p a _ h; omega
  | succ f ih =>
    intro p a hp hf ha h
    rw [Inf.symbols]
    have hpl : (bs.take p).length = p := by rw [List.length_take]; omega
    by_cases hlt : p < bs.length
    · have hst := Def.rest_step bs p hlt
      rw [hst] at h hf
      rw [List.flatMap_cons, List.append_assoc] at h
      rw [List.length_cons] at hf
      obtain ⟨hm1, hm2, hm3, hm4⟩ := Def.mt_len bs p hp
      have hg : bs.getD p 0 = bs[p] := by rw [List.getD_eq_getElem?_getD, List.getElem?_eq_getElem hlt]; rfl
      rw [hst, List.flatMap_cons, List.length_append]
      by_cases h0 : (Def.mt bs p).1 = 0
      · have htok : Def.tok bs p = (0, bs[p].toNat) := by unfold Def.tok; rw [if_pos h0, hg]
        rw [htok] at h hf ⊢
        rw [show Def.tokB (0, bs[p].toNat) = Def.litB bs[p].toNat from if_pos rfl] at h ⊢
        rw [show Def.stp (0, bs[p].toNat) = 1 from rfl] at h hf ⊢
        have hx := bs[p].toNat_lt
        obtain ⟨hs, hd⟩ := Inf.lit_at (o := bs.take p) h (by omega)
        rw [Inf.bind_ok hs, if_pos hx, Inf.bind_ok (Inf.put_ok _ (by rw [hpl]; omega))]
        have ht : bs.take p ++ [UInt8.ofNat bs[p].toNat] = bs.take (p + 1) := by
          rw [List.take_succ_eq_append_getElem hlt, UInt8.ofNat_toNat]
        rw [ht, ih (p + 1) _ (by omega) (by omega) (drop_le h ha) hd]
        simp only [Nat.add_assoc]
      · have htok : Def.tok bs p = Def.mt bs p := if_neg h0
        have hbst := Def.mt_best bs p
        rw [htok] at h hf ⊢
        obtain ⟨⟨n, d⟩, hmt⟩ : ∃ t, Def.mt bs p = t := ⟨_, rfl⟩
        rw [hmt] at h hf h0 hm1 hm2 hm3 hm4 hbst ⊢
        simp only at h0 hm1 hm2 hm3 hm4 hbst
        rw [show Def.stp (n, d) = n from if_neg h0] at h hf ⊢
        have hn3 : 3 ≤ n := by omega
        have hd1 : 1 ≤ d := by omega
        obtain ⟨hdp, hrun⟩ : d ≤ p ∧ Def.Runs bs p d n := by
          rcases hbst with ⟨h1, _⟩ | ⟨_, _, h2, h3, _⟩
          · exact absurd h1 h0
          · have := Def.lcp_runs bs d 258 p
            rw [show Def.lcp bs p d 258 = n from h3] at this
            exact ⟨by omega, this⟩
        have hT : Def.tokB (n, d) = Def.litB (257 + Def.top Def.lenB n 29) ++ Bit.low (n - Def.lenB (Def.top Def.lenB n 29)) (Def.lenX (Def.top Def.lenB n 29)) ++ Def.dstC (Def.top Def.dstB d 30) ++ Bit.low (d - Def.dstB (Def.top Def.dstB d 30)) (Def.dstX (Def.top Def.dstB d 30)) := if_neg h0
        have hk1 := Def.top_lt Def.lenB n 29 (by decide)
        have hk2 := Def.top_lt Def.dstB d 30 (by decide)
        obtain ⟨hf1, hg1⟩ := Def.len_fits n (by omega) hn3
        obtain ⟨hf2, hg2⟩ := Def.dst_fits d (by omega) hd1
        generalize Def.top Def.lenB n 29 = K1 at *
        generalize Def.top Def.dstB d 30 = K2 at *
        rw [hT] at h ⊢
        rw [List.append_assoc, List.append_assoc, List.append_assoc] at h
        obtain ⟨e1, g1⟩ := Inf.lit_at (o := bs.take p) h (by omega)
        have a1 := drop_le h ha
        rw [Inf.bind_ok e1, if_neg (by omega), if_neg (by omega)]
        have e2 := Inf.low_at (o := bs.take p) g1 a1 hf1
        have g2 := drop_more g1
        have a2 := drop_le g1 a1
        rw [Bit.low_length] at g2 a2
        obtain ⟨e3, g3⟩ := Inf.dst_at (o := bs.take p) g2 (by omega)
        have a3 := drop_le g2 a2
        have e4 := Inf.low_at (o := bs.take p) g3 a3 hf2
        have g4 := drop_more g3
        have a4 := drop_le g3 a3
        rw [Bit.low_length] at g4 a4
        have hcop : Inf.copied l most (List.replicate 32 5) (257 + K1) (a + (Def.litB (257 + K1)).length) (bs.take p) = .inr ((), a + (Def.litB (257 + K1)).length + Def.lenX K1 + (Def.dstC K2).length + Def.dstX K2, bs.take (p + n)) := by
          unfold Inf.copied
          rw [if_neg (by omega), show 257 + K1 - 257 = K1 from by omega, Inf.bind_ok e2, Inf.bind_ok e3, if_neg (by omega), Inf.bind_ok e4]
          unfold Inf.reach
          rw [hpl, show Def.dstB K2 + (d - Def.dstB K2) = d from by omega, show Def.lenB K1 + (n - Def.lenB K1) = n from by omega, if_neg (by omega)]
          exact Inf.back_is bs most _ d n p hrun hd1 hdp (by omega) (by omega)
        rw [Inf.bind_ok hcop, ih (p + n) _ (by omega) (by omega) a4 g4]
        simp only [List.length_append, Bit.low_length, Nat.add_assoc]
    · have hpe : p = bs.length := by omega
      rw [Def.rest_end bs p (by omega)] at h ⊢
      rw [List.flatMap_nil, List.nil_append] at h
      obtain ⟨hs, hd⟩ := Inf.lit_at (o := bs.take p) h (by decide)
      rw [Inf.bind_ok hs, if_neg (by decide), if_pos rfl, hpe, List.take_length]
      rfl

theorem Inf.block_fixed (bs : List UInt8) (most F : Nat) (l y : List Bool) (hm : bs.length ≤ most) (hF : bs.length < F) (h : l = Def.fixB bs ++ y) : Inf.block l most F 0 [] = .inr (true, (Def.fixB bs).length, bs) := by
  have h0 : l.drop 0 = [true] ++ ([true, false] ++ ((Def.rest bs 0).flatMap Def.tokB ++ (Def.litB 256 ++ y))) := by
    rw [List.drop_zero, h, Def.fixB, show Def.parse bs = Def.rest bs 0 from rfl]
    simp only [List.append_assoc, List.cons_append, List.nil_append]
  have e1 : Inf.bits l 1 0 [] = .inr (Bit.num [true], 0 + [true].length, []) := Inf.bits_at (o := []) h0 (Nat.zero_le _) (n := 1) rfl
  have g1 := drop_more h0
  have a1 := drop_le h0 (Nat.zero_le _)
  have e2 : Inf.bits l 2 (0 + [true].length) [] = .inr (Bit.num [true, false], 0 + [true].length + [true, false].length, []) := Inf.bits_at (o := []) g1 a1 (n := 2) rfl
  have g2 := drop_more g1
  have a2 := drop_le g1 a1
  have hlen := Def.toks_len bs bs.length 0
  have hs := Inf.symbols_is bs most l y hm F 0 _ (Nat.zero_le _) (by show (Def.toks bs (bs.length - 0) 0).length < F; rw [Nat.sub_zero]; omega) a2 g2
  unfold Inf.block
  rw [Inf.bind_ok e1, Inf.bind_ok e2, if_neg (by decide), if_pos (by decide)]
  rw [List.take_zero] at hs
  rw [Inf.bind_ok hs]
  have hl : 0 + [true].length + [true, false].length + ((Def.rest bs 0).flatMap Def.tokB).length + (Def.litB 256).length = (Def.fixB bs).length := by
    rw [Def.fixB, show Def.parse bs = Def.rest bs 0 from rfl]
    simp only [List.length_append, List.length_cons, List.length_nil]
  rw [hl]
  rfl
/-! ### A block as it is -/
theorem Inf.raw_is (most : Nat) (l y : List Bool) : ∀ (xs o : List UInt8) (a : Nat), o.length + xs.length ≤ most → a ≤ l.length → l.drop a = Def.bytB xs ++ y → Inf.raw l most xs.length a o = .inr ((), a + 8 * xs.length, o ++ xs) := by
  intro xs
  induction xs with
  | nil => intro o a _ _ _; rw [List.append_nil]; rfl
  | cons x xs ih =>
    intro o a hm ha h
    rw [List.length_cons] at hm ⊢
    have h' : l.drop a = Bit.low x.toNat 8 ++ (Def.bytB xs ++ y) := by rw [h, Def.bytB, List.flatMap_cons, List.append_assoc]; rfl
    have e1 := Inf.low_at (o := o) h' ha x.toNat_lt
    have g1 := drop_more h'
    have a1 := drop_le h' ha
    rw [Bit.low_length] at g1 a1
    rw [Inf.raw, Inf.bind_ok e1, Inf.bind_ok (Inf.put_ok _ (by omega)), UInt8.ofNat_toNat, ih _ _ (by rw [List.length_append, List.length_singleton]; omega) a1 g1, List.append_assoc]
    rw [show a + 8 + 8 * xs.length = a + 8 * (xs.length + 1) by omega]
    rfl
theorem Inf.block_stored (bs : List UInt8) (most F f : Nat) (l y : List Bool) (hm : bs.length ≤ most) (hb : bs.length ≤ 65535) (h : l = Def.stoB f bs ++ y) : Inf.block l most F 0 [] = .inr (true, (Def.stoB f bs).length, bs) := by
  have hs := Def.stoB_last f bs hb
  have h0 : l.drop 0 = [true] ++ ([false, false] ++ (List.replicate 5 false ++ (Bit.low bs.length 16 ++ (Bit.low (65535 - bs.length) 16 ++ (Def.bytB bs ++ y))))) := by
    rw [List.drop_zero, h, hs, Def.hdB, show Bit.low 1 3 = [true, false, false] from by decide]
    simp only [List.append_assoc, List.cons_append, List.nil_append]
  have e1 : Inf.bits l 1 0 [] = .inr (Bit.num [true], 0 + [true].length, []) := Inf.bits_at (o := []) h0 (Nat.zero_le _) (n := 1) rfl
  have g1 := drop_more h0
  have a1 := drop_le h0 (Nat.zero_le _)
  have e2 : Inf.bits l 2 (0 + [true].length) [] = .inr (Bit.num [false, false], 0 + [true].length + [false, false].length, []) := Inf.bits_at (o := []) g1 a1 (n := 2) rfl
  have g2 := drop_more g1
  have a2 := drop_le g1 a1
  have g3 := drop_more g2
  have a3 := drop_le g2 a2
  have e4 := Inf.low_at (o := []) g3 a3 (show bs.length < 2 ^ 16 by omega)
  have g4 := drop_more g3
  have a4 := drop_le g3 a3
  rw [Bit.low_length] at g4 a4
  have e5 := Inf.low_at (o := []) g4 a4 (show 65535 - bs.length < 2 ^ 16 by omega)
  have g5 := drop_more g4
  have a5 := drop_le g4 a4
  rw [Bit.low_length] at g5 a5
  have e6 := Inf.raw_is most l y bs [] _ (by simpa using hm) a5 g5
  unfold Inf.block
  rw [Inf.bind_ok e1, Inf.bind_ok e2, if_pos (by decide)]
  have hst : Inf.stored l most (0 + [true].length + [false, false].length) [] = .inr ((), (Def.stoB f bs).length, bs) := by
    unfold Inf.stored
    rw [Inf.bind_ok (show Inf.align (0 + [true].length + [false, false].length) [] = .inr ((), 0 + [true].length + [false, false].length + (List.replicate 5 false).length, []) from rfl), Inf.bind_ok e4, Inf.bind_ok e5, if_pos (by omega), e6, List.nil_append]
    rw [hs, List.length_append, Def.hdB_len, Def.bytB_len]
    rfl
  rw [Inf.bind_ok hst]
  rfl
/-- What is packed is unpacked, whatever is behind it. -/
theorem Inf.data_pack (pl : Bool) (bs more : List UInt8) (most f : Nat) (hm : bs.length ≤ most) (hb : bs.length ≤ 65535) (hF : bs.length < f + 1) : Inf.data (Bit.bitsOf (Def.outB pl bs ++ more)) most (f + 1) = .inr (bs, (Def.outB pl bs).length) := by
  refine Inf.data_ext (l' := Bit.bitsOf (Def.outB pl bs)) ?_ ?_ (by rw [Bit.bitsOf_length]; omega)
  · have hl : Bit.bitsOf (Def.outB pl bs) = Def.outL pl bs ++ List.replicate (Bit.gap (Def.outL pl bs).length) false := Bit.bitsOf_pack _
    have hbl : Inf.block (Bit.bitsOf (Def.outB pl bs)) most (f + 1) 0 [] = .inr (true, (Def.outL pl bs).length, bs) := by
      cases pl with
      | false => exact Inf.block_fixed bs most (f + 1) _ _ hm hF hl
      | true => exact Inf.block_stored bs most (f + 1) bs.length _ _ hm hb hl
    rw [Inf.data_fin, Inf.blocks, Inf.bind_ok hbl, if_pos rfl, show (Def.outB pl bs).length = Bit.size (Def.outL pl bs).length from Bit.pack_length _]
    show Sum.inr (bs, ((Def.outL pl bs).length + Bit.gap (Def.outL pl bs).length) / 8) = _
    rw [show ((Def.outL pl bs).length + Bit.gap (Def.outL pl bs).length) / 8 = Bit.size (Def.outL pl bs).length from by unfold Bit.gap Bit.size; omega]
  · have h : ∀ a b : List UInt8, Bit.bitsOf (a ++ b) = Bit.bitsOf a ++ Bit.bitsOf b := by
      intro a b
      induction a with
      | nil => rfl
      | cons x a ih => rw [List.cons_append, Bit.bitsOf, Bit.bitsOf, ih, List.append_assoc]
    rw [h]
    exact List.prefix_append _ _

end Go.Proofs.Ythplpoijkebjbaa
