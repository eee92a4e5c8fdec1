/- Layers 4 and 5: what is packed is unpacked. The plain law. The condition: the bytes are not too many. Layer 4 (inflate): the unpacker's codes: given, fixed, and told. The conditions: where things lie. Layer 4 (inflate): the codes that a block tells. The conditions: where things lie. Layer 4 (inflate): a block. The conditions: where things lie. Layer 4 (inflate): Data, walked. The conditions: where the bytes lie, and how many they are. Layer 4 (inflate): the law's own code and live. There is no condition. The laws InflateBehind and InflateShort: the walks. There is no condition. -/
import Derived.Test.YtaapjampmnanmaaGreatInfX
import Derived.Test.YtaapjampmnanmaaGreatDefX
import Derived.Deep.RegionWith
import Derived.Deep.DeepCutAuto
import Derived.Deep.CutBlock
import Derived.Deep.RegionHeld3
import Derived.Recover
import Derived.RegionTactic
import Derived.Laws.BytesArg
namespace Go.Proofs.YtaapjampmnanmaaGreat
set_option linter.unusedVariables false
/-! ### Reading a stream that is known from a place on -/
theorem drop_more {α : Type} {l x y : List α} {a : Nat} (h : l.drop a = x ++ y) : l.drop (a + x.length) = y := by
  rw [← List.drop_drop, h, List.drop_left]
theorem drop_le {α : Type} {l x y : List α} {a : Nat} (h : l.drop a = x ++ y) (ha : a ≤ l.length) : a + x.length ≤ l.length := by
  have := congrArg List.length h
  rw [List.length_drop, List.length_append] at this
  omega
theorem Inf.bits_at {l x y : List Bool} {a n : Nat} {o : List UInt8} (h : l.drop a = x ++ y) (ha : a ≤ l.length) (hn : x.length = n) : Inf.bits l n a o = .inr (Bit.num x, a + n, o) := by
  subst hn
  have hle := drop_le h ha
  unfold Inf.bits
  rw [if_pos hle, h, List.take_left]
theorem Inf.low_at {l y : List Bool} {a n v : Nat} {o : List UInt8} (h : l.drop a = Bit.low v n ++ y) (ha : a ≤ l.length) (hv : v < 2 ^ n) : Inf.bits l n a o = .inr (v, a + n, o) := by
  rw [Inf.bits_at h ha (Bit.low_length v n), Bit.num_low, Nat.mod_eq_of_lt hv]
theorem Inf.word_at {l y : List Bool} {a i x : Nat} {ls : List Nat} {o : List UInt8} (h : l.drop a = Huf.word (Huf.bits ls 16 i) x ++ y) (hi : ls[i]? = some x) (h1 : 1 ≤ x) (h15 : x ≤ 15) (hs : Huf.sum ls ≤ 32768) : Inf.sym l ls a o = .inr (i, a + x, o) := by
  have hb : Huf.bits ls 16 i = Huf.code ls i x := by
    unfold Huf.bits
    rw [List.getD_eq_getElem?_getD, hi, Option.getD_some, if_pos ⟨h1, by omega⟩]
  rw [hb] at h
  have hd := Huf.dec_word ls i x hi h1 h15 hs y
  rw [← h] at hd
  exact Inf.sym_ok hd
/-! ### The fixed codes -/
theorem lsF_at (i : Nat) (h : i < 288) : lsF[i]? = some (fixL i) := by
  unfold lsF
  rw [List.getElem?_map, List.getElem?_range h]
  rfl
theorem ls5_at (i : Nat) (h : i < 32) : (List.replicate 32 5)[i]? = some 5 := by
  rw [List.getElem?_replicate, if_pos h]
theorem Inf.lit_at {l y : List Bool} {a i : Nat} {o : List UInt8} (h : l.drop a = Def.litB i ++ y) (hi : i < 288) : Inf.sym l lsF a o = .inr (i, a + (Def.litB i).length, o) ∧ l.drop (a + (Def.litB i).length) = y := by
  refine ⟨?_, drop_more h⟩
  have h1 := fixL_le i
  rw [show (Def.litB i).length = fixL i from word_len _ _]
  exact Inf.word_at h (lsF_at i hi) (by omega) (by omega) lsF_sum
theorem Inf.dst_at {l y : List Bool} {a i : Nat} {o : List UInt8} (h : l.drop a = Def.dstC i ++ y) (hi : i < 32) : Inf.sym l (List.replicate 32 5) a o = .inr (i, a + (Def.dstC i).length, o) ∧ l.drop (a + (Def.dstC i).length) = y := by
  refine ⟨?_, drop_more h⟩
  rw [show (Def.dstC i).length = 5 from word_len _ _]
  exact Inf.word_at h (ls5_at i hi) (by omega) (by omega) ls5_sum
theorem Def.len_fits : ∀ n < 259, 3 ≤ n → n - Def.lenB (Def.top Def.lenB n 29) < 2 ^ Def.lenX (Def.top Def.lenB n 29) ∧ Def.lenB (Def.top Def.lenB n 29) ≤ n := by decide +kernel
theorem Def.dst_fits : ∀ n < 257, 1 ≤ n → n - Def.dstB (Def.top Def.dstB n 30) < 2 ^ Def.dstX (Def.top Def.dstB n 30) ∧ Def.dstB (Def.top Def.dstB n 30) ≤ n := by decide +kernel
/-! ### A copy -/
theorem Inf.put_ok {most a : Nat} {o : List UInt8} (c : UInt8) (h : o.length < most) : Inf.put most c a o = .inr ((), a, o ++ [c]) := if_neg (by omega)
theorem Def.lcp_runs (bs : List UInt8) (d : Nat) : ∀ (f p : Nat), Def.Runs bs p d (Def.lcp bs p d f) := by
  intro f
  induction f with
  | zero => intro p j hj; simp [Def.lcp] at hj
  | succ f ih =>
    intro p j hj
    rw [Def.lcp] at hj
    split at hj
    · rename_i h
      cases j with
      | zero => simpa using h
      | succ j =>
        have := ih (p + 1) j (by omega)
        rwa [show p + 1 + j = p + (j + 1) by omega] at this
    · omega
theorem Inf.back_is (bs : List UInt8) (most a d : Nat) : ∀ (n p : Nat), Def.Runs bs p d n → 1 ≤ d → d ≤ p → p + n ≤ bs.length → p + n ≤ most → Inf.back most d n a (bs.take p) = .inr ((), a, bs.take (p + n)) := by
  intro n
  induction n with
  | zero => intro p _ _ _ _ _; rfl
  | succ n ih =>
    intro p hr h1 hd hl hm
    have hp : (bs.take p).length = p := by rw [List.length_take]; omega
    have h0 := hr 0 (by omega)
    rw [Nat.add_zero] at h0
    have hg : (bs.take p).getD ((bs.take p).length - d) 0 = bs.getD p 0 := by
      rw [hp, h0.2, List.getD_eq_getElem?_getD, List.getD_eq_getElem?_getD, List.getElem?_take, if_pos (by omega)]
    rw [Inf.back]
    show Inf.bind (Inf.put most ((bs.take p).getD ((bs.take p).length - d) 0)) _ a (bs.take p) = _
    rw [Inf.bind_ok (Inf.put_ok _ (by rw [hp]; omega)), hg]
    have ht : bs.take p ++ [bs.getD p 0] = bs.take (p + 1) := by
      have hlt := h0.1
      rw [List.take_succ_eq_append_getElem hlt]
      congr 1
      rw [List.getD_eq_getElem?_getD, List.getElem?_eq_getElem hlt]
      rfl
    rw [ht, ih (p + 1) (fun j hj => by have := hr (j + 1) (by omega); rwa [show p + (j + 1) = p + 1 + j by omega] at this) h1 (by omega) (by omega) (by omega)]
    rw [show p + 1 + n = p + (n + 1) by omega]
/-! ### A block by the fixed codes -/
theorem Inf.symbols_is (bs : List UInt8) (most : Nat) (l y : List Bool) (hm : bs.length ≤ most) : ∀ (f p a : Nat), p ≤ bs.length → (Def.rest bs p).length < f → a ≤ l.length → l.drop a = (Def.rest bs p).flatMap Def.tokB ++ (Def.litB 256 ++ y) →
    Inf.symbols l most lsF (List.replicate 32 5) f a (bs.take p) = .inr ((), a + ((Def.rest bs p).flatMap Def.tokB).length + (Def.litB 256).length, bs) := by
  intro f
  induction f with
  | zero => intro p a _ h; omega
  | succ f ih =>
    intro p a hp hf ha h
    rw [Inf.symbols]
    have hpl : (bs.take p).length = p := by rw [List.length_take]; omega
    by_cases hlt : p < bs.length
    · have hst := Def.rest_step bs p hlt
      rw [hst] at h hf
      rw [List.flatMap_cons, List.append_assoc] at h
      rw [List.length_cons] at hf
      obtain ⟨hm1, hm2, hm3, hm4⟩ := Def.mt_len bs p hp
      have hg : bs.getD p 0 = bs[p] := by rw [List.getD_eq_getElem?_getD, List.getElem?_eq_getElem hlt]; rfl
      rw [hst, List.flatMap_cons, List.length_append]
      by_cases h0 : (Def.mt bs p).1 = 0
      · have htok : Def.tok bs p = (0, bs[p].toNat) := by unfold Def.tok; rw [if_pos h0, hg]
        rw [htok] at h hf ⊢
        rw [show Def.tokB (0, bs[p].toNat) = Def.litB bs[p].toNat from if_pos rfl] at h ⊢
        rw [show Def.stp (0, bs[p].toNat) = 1 from rfl] at h hf ⊢
        have hx := bs[p].toNat_lt
        obtain ⟨hs, hd⟩ := Inf.lit_at (o := bs.take p) h (by omega)
        rw [Inf.bind_ok hs, if_pos hx, Inf.bind_ok (Inf.put_ok _ (by rw [hpl]; omega))]
        have ht : bs.take p ++ [UInt8.ofNat bs[p].toNat] = bs.take (p + 1) := by
          rw [List.take_succ_eq_append_getElem hlt, UInt8.ofNat_toNat]
        rw [ht, ih (p + 1) _ (by omega) (by omega) (drop_le h ha) hd]
        simp only [Nat.add_assoc]
      · have htok : Def.tok bs p = Def.mt bs p := if_neg h0
        have hbst := Def.mt_best bs p
        rw [htok] at h hf ⊢
        obtain ⟨⟨n, d⟩, hmt⟩ : ∃ t, Def.mt bs p = t := ⟨_, rfl⟩
        rw [hmt] at h hf h0 hm1 hm2 hm3 hm4 hbst ⊢
        simp only at h0 hm1 hm2 hm3 hm4 hbst
        rw [show Def.stp (n, d) = n from if_neg h0] at h hf ⊢
        have hn3 : 3 ≤ n := by omega
        have hd1 : 1 ≤ d := by omega
        obtain ⟨hdp, hrun⟩ : d ≤ p ∧ Def.Runs bs p d n := by
          rcases hbst with ⟨h1, _⟩ | ⟨_, _, h2, h3, _⟩
          · exact absurd h1 h0
          · have := Def.lcp_runs bs d 258 p
            rw [show Def.lcp bs p d 258 = n from h3] at this
            exact ⟨by omega, this⟩
        have hT : Def.tokB (n, d) = Def.litB (257 + Def.top Def.lenB n 29) ++ Bit.low (n - Def.lenB (Def.top Def.lenB n 29)) (Def.lenX (Def.top Def.lenB n 29)) ++ Def.dstC (Def.top Def.dstB d 30) ++ Bit.low (d - Def.dstB (Def.top Def.dstB d 30)) (Def.dstX (Def.top Def.dstB d 30)) := if_neg h0
        have hk1 := Def.top_lt Def.lenB n 29 (by decide)
        have hk2 := Def.top_lt Def.dstB d 30 (by decide)
        obtain ⟨hf1, hg1⟩ := Def.len_fits n (by omega) hn3
        obtain ⟨hf2, hg2⟩ := Def.dst_fits d (by omega) hd1
        generalize Def.top Def.lenB n 29 = K1 at *
        generalize Def.top Def.dstB d 30 = K2 at *
        rw [hT] at h ⊢
        rw [List.append_assoc, List.append_assoc, List.append_assoc] at h
        obtain ⟨e1, g1⟩ := Inf.lit_at (o := bs.take p) h (by omega)
        have a1 := drop_le h ha
        rw [Inf.bind_ok e1, if_neg (by omega), if_neg (by omega)]
        have e2 := Inf.low_at (o := bs.take p) g1 a1 hf1
        have g2 := drop_more g1
        have a2 := drop_le g1 a1
        rw [Bit.low_length] at g2 a2
        obtain ⟨e3, g3⟩ := Inf.dst_at (o := bs.take p) g2 (by omega)
        have a3 := drop_le g2 a2
        have e4 := Inf.low_at (o := bs.take p) g3 a3 hf2
        have g4 := drop_more g3
        have a4 := drop_le g3 a3
        rw [Bit.low_length] at g4 a4
        have hcop : Inf.copied l most (List.replicate 32 5) (257 + K1) (a + (Def.litB (257 + K1)).length) (bs.take p) = .inr ((), a + (Def.litB (257 + K1)).length + Def.lenX K1 + (Def.dstC K2).length + Def.dstX K2, bs.take (p + n)) := by
          unfold Inf.copied
          rw [if_neg (by omega), show 257 + K1 - 257 = K1 from by omega, Inf.bind_ok e2, Inf.bind_ok e3, if_neg (by omega), Inf.bind_ok e4]
          unfold Inf.reach
          rw [hpl, show Def.dstB K2 + (d - Def.dstB K2) = d from by omega, show Def.lenB K1 + (n - Def.lenB K1) = n from by omega, if_neg (by omega)]
          exact Inf.back_is bs most _ d n p hrun hd1 hdp (by omega) (by omega)
        rw [Inf.bind_ok hcop, ih (p + n) _ (by omega) (by omega) a4 g4]
        simp only [List.length_append, Bit.low_length, Nat.add_assoc]
    · have hpe : p = bs.length := by omega
      rw [Def.rest_end bs p (by omega)] at h ⊢
      rw [List.flatMap_nil, List.nil_append] at h
      obtain ⟨hs, hd⟩ := Inf.lit_at (o := bs.take p) h (by decide)
      rw [Inf.bind_ok hs, if_neg (by decide), if_pos rfl, hpe, List.take_length]
      rfl
/-! ### A block as it is -/
end Go.Proofs.YtaapjampmnanmaaGreat
namespace Go.Proofs.YtaapjampmnanmaaGreat
open Go.RowKit
set_option linter.unusedVariables false
theorem ucode_ok (A : Option Addr) (n c : Nat) (ls : List Nat) (short : Bool) (w : World) (B0 : Nat) (hr : Rd w B0 A n ((nz ls).map iv)) (hB0 : B0 ≤ w.heap.size) (hn : n ≤ 288) (h15 : ∀ x ∈ ls, x ≤ 15) (hf : Huf.fits ls short) :
    Calls Tryz.prog 200 #[.slice A n c, .bool short] w fun e w' => ∃ g, e = .returned (.pointer (some ⟨g, 0, none⟩)) ∧ CodeAt w.heap.size w' g ls ∧ Below w.heap.size w w' := by
  have h := hide (new_ok A n c ls short w B0 hr hB0 hn h15 hf)
  clear hr hB0 hn h15 hf
  go_enter Tryz.func200, Tryz.ntmps200
  go_wp2_with fail
  refine h.out.mono ?_
  rintro e w1 ⟨g, rfl, h1, h2⟩
  have h1 := hide h1
  have h2 := hide h2
  go_wp2
  go_ret
  exact ⟨g, rfl, h1.out, h2.out⟩
theorem ucode_err (A : Option Addr) (n c : Nat) (ls : List Nat) (short : Bool) (w : World) (B0 : Nat) (hr : Rd w B0 A n ((nz ls).map iv)) (hn : n ≤ 288) (h15 : ∀ x ∈ ls, x ≤ 15) (hf : ¬ Huf.fits ls short) :
    Calls Tryz.prog 200 #[.slice A n c, .bool short] w fun e w' => e = .panicked (stopE 3) ∧ w = w' := by
  have h := hide (new_form A n c ls short w B0 hr hn h15 hf)
  clear hr hn h15 hf
  go_enter Tryz.func200, Tryz.ntmps200
  go_wp2_with fail
  refine h.out.mono ?_
  rintro e w1 ⟨rfl, rfl⟩
  go_wp2
  exact ⟨rfl, rfl, rfl⟩
set_option maxHeartbeats 2000000 in
theorem ufixed (w : World) : Calls Tryz.prog 177 #[] w fun e w' => ∃ g1 g2 B1 B2, e = .returned (.tuple #[.pointer (some ⟨g1, 0, none⟩), .pointer (some ⟨g2, 0, none⟩)]) ∧ CodeAt B1 w' g1 lsF ∧ CodeAt B2 w' g2 (List.replicate 32 5) ∧ Below w.heap.size w w' := by
  have hfix := hide (fixed_any w)
  go_enter Tryz.func177, Tryz.ntmps177
  go_wp2_with fail
  refine hfix.out.mono ?_
  rintro e w2 ⟨A1, c1, A2, c2, rfl, ho1, ho2, hb2⟩
  have hnew1 := hide (ucode_ok A1 288 c1 lsF false w2 w2.heap.size (by rw [← lsF_rd]; exact ho1.rd) (Nat.le_refl _) (by decide) lsF_le lsF_fits)
  replace ho1 := hide ho1
  replace ho2 := hide ho2
  replace hb2 := hide hb2
  go_wp2_with fail
  refine hnew1.out.mono ?_
  rintro e w3 ⟨g3, rfl, hc3, hb3⟩
  have hc3 := hide hc3
  have hb3 := hide hb3
  have hA2 := hide (show ∀ k, blk A2 = some k → w.heap.size ≤ k ∧ k < w2.heap.size from fun k hk => (ho2.out.blk_lt k hk))
  obtain ⟨w6, hw6⟩ : ∃ W, w3.alloc (.cells #[.int .i64 5, .int .i64 5] 3) = W := ⟨_, rfl⟩
  have be36 := hide (show Below w3.heap.size w3 w6 from by rw [← hw6]; exact (Below.refl _ w3).alloc (Nat.le_refl _) _)
  have ho6 := hide ((ho2.out.below hb3.out).below be36.out)
  have rd6 := hide (show Rd w6 (w3.heap.size + 1) (some ⟨w3.heap.size, 0, none⟩) 2 [jv 5, jv 5] from by rw [← hw6]; exact Rd.new w3 #[.int .i64 5, .int .i64 5] 3 (0, 0))
  have b26 := hide (hb3.out.trans (be36.out.mono hb3.out.size))
  have b6 := hide (hb2.out.trans (b26.out.mono hb2.out.size))
  have code6 := hide (hc3.out.below be36.out)
  go_wp2_with (first
    | (at_builtin; refine wpList_append_rd w6 rfl (.tmp 10) (.tmp 11) rfl elem_int rfl ho6.out rfl rd6.out (by intro u hu; simp at hu; subst hu; rfl) (by decide) (by decide) b6.out.size ?_; intro A7 c7 w7 ho7 hc7 hn7; have hc7 := hide hc7; have hnew2 := hide (ucode_ok A7 32 c7 (List.replicate 32 5) false w7 w7.heap.size (by rw [show (nz (List.replicate 32 5)).map iv = ((List.range 30).map fun _ => jv 5) ++ [jv 5, jv 5] from rfl]; exact ho7.rd) (Nat.le_refl _) (by decide) ls5_le ls5_fits); have ho7 := hide ho7)
    | (go_at_call 200; (with_reducible refine (hnew2.out).mono ?_); rintro e w8 ⟨g8, rfl, hc8, hb8⟩; have hc8 := hide hc8; have hb8 := hide hb8))
  go_ret2
  have code7 := code6.out.chg hc7.out (fun k hk hr => by have := (hA2.out k hr).2; omega)
  have b7 := b6.out.trans (hc7.out.to_below b6.out.size (fun k hr => (hA2.out k hr).1))
  exact ⟨g3, g8, _, _, rfl, code7.below hb8.out, hc8.out, b7.trans (hb8.out.mono b7.size)⟩
theorem Ow.type {w : World} {base n c k : Nat} {e t : TypeId} {A : Option Addr} {xs : List Value} {cs : Array Value} {fz : Nat × Nat} (h : Ow w base e A n c xs) (hk : blk A = some k) (hx : w.heap[k]? = some (.cells cs t fz)) : e = t := by
  rcases h.2 with ⟨hv, _⟩ | ⟨g', cap, cur, hv, _, hh, _⟩
  · injection hv with e1
    rw [e1] at hk
    simp [blk] at hk
  · injection hv with e1
    rw [e1] at hk
    have : g' = k := by simpa [blk] using hk
    subst this
    rw [hh] at hx
    injection hx with hx
    injection hx
theorem KeepU.past {R : Nat → Prop} {w a b : World} (h : KeepU w a) (hc : Chg R a b) (hR : ∀ k, R k → w.heap.size ≤ k) : KeepU w b := by
  refine ⟨Nat.le_trans h.1 hc.size, fun k cs t fz x h1 h2 h3 => ?_⟩
  have hk := lt_of_block x
  exact (hc.block k (Nat.lt_of_lt_of_le hk h.1) (fun hr => by have := hR k hr; omega)).trans (h.2 k cs t fz x h1 h2 h3)
section
variable {B gu gr most a : Nat} {bs o : List UInt8} {w : World}
set_option maxRecDepth 100000 in
set_option maxHeartbeats 4000000 in
theorem ulengths (h : UAt B gu gr most bs w a o) (gc B0 many : Nat) (ls : List Nat) (hc : CodeAt B0 w gc ls) (hn : ls.length ≤ 19) (hsum : Huf.sum ls ≤ 32768) (hm : many ≤ 1000) (R : Inf.R (List Nat)) (hR : Inf.lens (Bit.bitsOf bs) ls many (many + 1) [] a o = R) :
    Calls Tryz.prog 202 #[.pointer (some ⟨gu, 0, none⟩), .pointer (some ⟨gc, 0, none⟩), .int .i64 (many : Int)] w (UQ B gu gr most bs w (fun x v w' => ∃ A c, v = .slice A x.length c ∧ Ow w' w.heap.size 3 A x.length c (x.map jv)) R) := by
  have hsy := hide (fun (w' : World) (a' : Nat) (o' : List UInt8) (u : UAt B gu gr most bs w' a' o') (k : KeepU w w') => usym u gc B0 ls (hc.keepU k) (by omega) hsum)
  have hBw := hide (Below.refl B w)
  have hK := hide (KeepU.refl w)
  replace h := hide h
  replace hR := hide hR
  replace hn := hide hn
  have hBs := hide (show B ≤ w.heap.size from h.out.size)
  clear hc hsum
  go_enter Tryz.func202, Tryz.ntmps202
  go_wp2
  go_loopg [7] (many + 1) (fun gk s7 wr => ∃ (acc : List Nat) (a' : Nat) (o' : List UInt8) (A : Option Addr) (N c : Nat), s7 = .slice A N c ∧ N ≤ many ∧ Hid (acc.length = N) ∧ Hid (Inf.lens (Bit.bitsOf bs) ls many gk acc a' o' = R) ∧ Hid (many < gk + N) ∧ Hid (Ow wr w.heap.size 3 A N c (acc.map jv)) ∧ Hid (UAt B gu gr most bs wr a' o') ∧ Hid (Below B w wr) ∧ Hid (KeepU w wr))
  case atStart => exact ⟨[], a, o, none, 0, 0, rfl, Nat.zero_le _, hide rfl, hR, hide (by omega), hide (Ow.nil _ _ _), h, hBw, hK⟩
  case round =>
    clear hR h hBw hK
    obtain ⟨acc, a', o', A, N, c, rfl, hN, hacc, hR, hF, ho, u, b, k⟩ := hrel
    obtain ⟨wo, rfl⟩ : ∃ W, W = wr := ⟨_, rfl⟩
    obtain ⟨g, rfl⟩ : ∃ g, gk = g + 1 := ⟨gk - 1, by have := hF.out; omega⟩
    by_cases hlt : N < many
    · have hltI : (N : Int) < (many : Int) := by omega
      have hR1 := hide (show Inf.bind (Inf.sym (Bit.bitsOf bs) ls) (fun s => Inf.bind (Inf.often (Bit.bitsOf bs) acc s) fun nv =>
        if many - acc.length < nv.1 then Inf.err 3 else Inf.lens (Bit.bitsOf bs) ls many g (acc ++ List.replicate nv.1 nv.2)) a' o' = R from by
          have := hR.out
          rwa [Inf.lens, if_neg (by rw [hacc.out]; omega)] at this)
      have hs1 := hide (hsy.out _ _ _ u.out k.out)
      clear hR u
      go_wp2_with fail
      refine UP.go hs1.out (fun er w2 e2 b2 k2 => ⟨rfl, .inl ⟨er, hR1.out.symm.trans (Inf.bind_err e2), rfl, b.out.trans b2, k.out.trans k2⟩⟩) ?_
      intro t a2 o2 w2 e2 u2 b2 k2
      have hR2 := hide ((Inf.bind_ok e2).symm.trans hR1.out)
      obtain ⟨ht1, ht2, _⟩ := Inf.sym_is e2
      have htb : t ≤ 18 := by have := hn.out; omega
      have ho2 := hide (k2.ow ho.out (by decide) (by decide) (by decide))
      have b2 := hide (b.out.trans b2)
      have k2 := hide (k.out.trans k2)
      have u2 := hide u2
      clear e2 hR1 hs1 b k ht1 ht2 ho
      go_upto_block 2 with fail
      go_cut [9, 10] (fun s9 s10 wx => ∃ (n v a3 : Nat) (o3 : List UInt8), s9 = .int .i64 (n : Int) ∧ s10 = .int .i64 (v : Int) ∧ 1 ≤ n ∧ n ≤ 200 ∧ Hid ((if many - acc.length < n then Inf.err 3 else Inf.lens (Bit.bitsOf bs) ls many g (acc ++ List.replicate n v)) a3 o3 = R) ∧ Hid (UAt B gu gr most bs wx a3 o3) ∧ Hid (Ow wx w.heap.size 3 A N c (acc.map jv)) ∧ Hid (Below B w wx) ∧ Hid (KeepU w wx))
      case first =>
        by_cases h16 : t = 16
        · subst h16
          by_cases h0 : acc = []
          · have hN0 : N = 0 := by rw [← hacc.out, h0]; rfl
            have hR4 := hide (show Sum.inl 3 = R from by
              have h := hR2.out
              rw [Inf.bind_err (e := 3) (by unfold Inf.often; rw [if_pos rfl, if_pos h0]; rfl)] at h
              exact h)
            subst hN0
            clear h0 hR2 u2 ho2 hacc
            go_wp2
            exact ⟨rfl, .inl ⟨3, hR4.out.symm, rfl, b2.out, k2.out⟩⟩
          · have hN0 : 0 < N := by rw [← hacc.out]; exact List.length_pos_iff.2 h0
            have hNb : ((N : Int) == 0) = false := by simp; omega
            obtain ⟨q, hq⟩ : ∃ q, N - 1 = q := ⟨_, rfl⟩
            have hqI : (N : Int) - 1 = (q : Int) := by omega
            have hqw : IntKind.i64.wrap (q : Int) = (q : Int) := by rw [IntKind.wrap_i64]; omega
            have hq0 : (0 : Int) ≤ (q : Int) := by omega
            have hqN : (q : Int) < (N : Int) := by omega
            have hql : q < acc.length := by rw [hacc.out]; omega
            have hR4 := hide (show Inf.bind (Inf.bits (Bit.bitsOf bs) 2) (fun k => Inf.bind (Inf.ret (3 + k, acc.getD q 0)) fun nv => if many - acc.length < nv.1 then Inf.err 3 else Inf.lens (Bit.bitsOf bs) ls many g (acc ++ List.replicate nv.1 nv.2)) a2 o2 = R from by
              have h := hR2.out
              have e : Inf.often (Bit.bitsOf bs) acc 16 = Inf.bind (Inf.bits (Bit.bitsOf bs) 2) fun k => Inf.ret (3 + k, acc.getD q 0) := by unfold Inf.often; rw [if_pos rfl, if_neg h0, hacc.out, hq]
              rw [e] at h
              rw [← h]
              unfold Inf.bind
              cases Inf.bits (Bit.bitsOf bs) 2 a2 o2 <;> rfl)
            obtain ⟨v, hv⟩ : ∃ v, acc.getD q 0 = v := ⟨_, rfl⟩
            rw [hv] at hR4
            obtain ⟨ga, rfl, _, _⟩ := ho2.out.pos hN0
            have hcl := hide (fun (W : World) (hh : Ow W w.heap.size 3 (some ⟨ga, 0, none⟩) N c (acc.map jv)) => (show W.cell? ⟨ga, q, none⟩ = some (.int .i64 (v : Int)) from by
              have h := hh.cells (g := ga) rfl q (jv v) (by rw [List.getElem?_map, List.getElem?_eq_getElem hql, ← hv, List.getD_eq_getElem?_getD, List.getElem?_eq_getElem hql]; rfl)
              rwa [Addr.add_mid, Nat.zero_add] at h))
            have ud := hide (show UAt B gu gr most bs w2.drew a2 o2 from u2.out.below (below_drewN (Below.refl _ w2) 1))
            have hu3 := hide (ubits ud.out 2 (by decide))
            have z0 := hide (hcl.out w2.drew ho2.out.drew)
            have bd := hide (show Below B w w2.drew from below_drewN b2.out 1)
            have kd := hide (show KeepU w w2.drew from k2.out.trans (KeepU.below (below_drewN (Below.refl _ w2) 1)))
            clear hq hql h0 hv hR2 u2 ud b2 k2
            go_wp2
            have z0 := z0.out
            go_region_with (go_at_call 174; refine UP.go hu3.out (fun er w3 e3 b3 k3 => ⟨rfl, .inl ⟨er, hR4.out.symm.trans (Inf.bind_err e3), rfl, bd.out.trans b3, kd.out.trans k3⟩⟩) ?_; intro kk a3 o3 w3 e3 u3 b3 k3; have ho3 := hide (k3.ow ho2.out.drew (by decide) (by decide) (by decide)); have z1 := hcl.out w3 ho3.out; have hR5 := hide ((Inf.bind_ok e3).symm.trans hR4.out); have hk3 := (Inf.bits_is e3).1; have u3 := hide u3; have b3 := hide (bd.out.trans b3); have k3 := hide (kd.out.trans k3); clear e3)
            all_goals (
            have hkkw : IntKind.i64.wrap (3 + (kk : Int)) = 3 + (kk : Int) := by rw [IntKind.wrap_i64]; omega
            go_wp2
            go_meet
            exact ⟨3 + kk, v, a3, o3, int_eq (by push_cast; omega), rfl, by omega, by omega, hR5, u3, ho3, b3, k3⟩)
        · have h16b : ((t : Int) == 16) = false := by simp; omega
          have hR3 := hR2.out
          unfold Inf.often at hR3
          rw [if_neg h16] at hR3
          by_cases h17 : t = 17
          · rw [if_pos h17] at hR3
            subst h17
            have hR4 := hide (show Inf.bind (Inf.bits (Bit.bitsOf bs) 3) (fun k => Inf.bind (Inf.ret (3 + k, 0)) fun nv => if many - acc.length < nv.1 then Inf.err 3 else Inf.lens (Bit.bitsOf bs) ls many g (acc ++ List.replicate nv.1 nv.2)) a2 o2 = R from by
              rw [← hR3]
              unfold Inf.bind
              cases Inf.bits (Bit.bitsOf bs) 3 a2 o2 <;> rfl)
            have hu3 := hide (ubits u2.out 3 (by decide))
            clear hR2 hR3 u2 h16
            go_wp2_with fail
            refine UP.go hu3.out (fun er w3 e3 b3 k3 => ⟨rfl, .inl ⟨er, hR4.out.symm.trans (Inf.bind_err e3), rfl, b2.out.trans b3, k2.out.trans k3⟩⟩) ?_
            intro kk a3 o3 w3 e3 u3 b3 k3
            have ho3 := hide (k3.ow ho2.out (by decide) (by decide) (by decide))
            have hR5 := hide ((Inf.bind_ok e3).symm.trans hR4.out)
            have hk3 := (Inf.bits_is e3).1
            have u3 := hide u3
            have b3 := hide (b2.out.trans b3)
            have k3 := hide (k2.out.trans k3)
            have hkkw : IntKind.i64.wrap (3 + (kk : Int)) = 3 + (kk : Int) := by rw [IntKind.wrap_i64]; omega
            clear e3
            go_wp2
            go_meet
            exact ⟨3 + kk, 0, a3, o3, int_eq (by push_cast; omega), rfl, by omega, by omega, hR5, u3, ho3, b3, k3⟩
          · rw [if_neg h17] at hR3
            have h17b : ((t : Int) == 17) = false := by simp; omega
            by_cases h18 : t = 18
            · rw [if_pos h18] at hR3
              subst h18
              have hR4 := hide (show Inf.bind (Inf.bits (Bit.bitsOf bs) 7) (fun k => Inf.bind (Inf.ret (11 + k, 0)) fun nv => if many - acc.length < nv.1 then Inf.err 3 else Inf.lens (Bit.bitsOf bs) ls many g (acc ++ List.replicate nv.1 nv.2)) a2 o2 = R from by
                rw [← hR3]
                unfold Inf.bind
                cases Inf.bits (Bit.bitsOf bs) 7 a2 o2 <;> rfl)
              have hu3 := hide (ubits u2.out 7 (by decide))
              clear hR2 hR3 u2 h16 h17
              go_wp2_with fail
              refine UP.go hu3.out (fun er w3 e3 b3 k3 => ⟨rfl, .inl ⟨er, hR4.out.symm.trans (Inf.bind_err e3), rfl, b2.out.trans b3, k2.out.trans k3⟩⟩) ?_
              intro kk a3 o3 w3 e3 u3 b3 k3
              have ho3 := hide (k3.ow ho2.out (by decide) (by decide) (by decide))
              have hR5 := hide ((Inf.bind_ok e3).symm.trans hR4.out)
              have hk3 := (Inf.bits_is e3).1
              have u3 := hide u3
              have b3 := hide (b2.out.trans b3)
              have k3 := hide (k2.out.trans k3)
              have hkkw : IntKind.i64.wrap (11 + (kk : Int)) = 11 + (kk : Int) := by rw [IntKind.wrap_i64]; omega
              clear e3
              go_wp2
              go_meet
              exact ⟨11 + kk, 0, a3, o3, int_eq (by push_cast; omega), rfl, by omega, by omega, hR5, u3, ho3, b3, k3⟩
            · rw [if_neg h18] at hR3
              have h18b : ((t : Int) == 18) = false := by simp; omega
              have hR4 := hide (show (if many - acc.length < 1 then Inf.err 3 else Inf.lens (Bit.bitsOf bs) ls many g (acc ++ List.replicate 1 t)) a2 o2 = R from hR3)
              clear hR2 hR3 h16 h17 h18
              go_wp2
              go_meet
              exact ⟨1, t, a2, o2, rfl, rfl, by omega, by omega, hR4, u2, ho2, b2, k2⟩
      case rest =>
        clear hR2 u2 ho2 b2 k2
        obtain ⟨n, v, a3, o3, rfl, rfl, hn1, hn2, hR3, u3, ho3, b3, k3⟩ := hcut
        have hsub : IntKind.i64.wrap ((many : Int) - (N : Int)) = (many : Int) - (N : Int) := by rw [IntKind.wrap_i64]; omega
        by_cases hbig : many - N < n
        · have hbI : (many : Int) - (N : Int) < (n : Int) := by omega
          have hR4 := hide (show Sum.inl 3 = R from by have := hR3.out; rwa [if_pos (by rw [hacc.out]; exact hbig)] at this)
          clear hR3 hbig
          go_wp2
          exact ⟨rfl, .inl ⟨3, hR4.out.symm, rfl, b3.out, k3.out⟩⟩
        · have hbI : (n : Int) ≤ (many : Int) - (N : Int) := by omega
          have hbN : N + n ≤ many := by omega
          have hR4 := hide (show Inf.lens (Bit.bitsOf bs) ls many g (acc ++ List.replicate n v) a3 o3 = R from by have := hR3.out; rwa [if_neg (by rw [hacc.out]; exact hbig)] at this)
          have hn2I : (n : Int) ≤ 200 := by omega
          clear hR3 hbig
          go_wp2
          clear hbI hsub
          go_loopw [7, 62] (fun s7 s62 wr => ∃ (i M : Nat) (A : Option Addr) (c : Nat), i ≤ n ∧ s62 = .int .i64 (i : Int) ∧ s7 = .slice A M c ∧ M ≤ many ∧ Hid (M = N + i) ∧ Hid (Ow wr w.heap.size 3 A M c ((acc ++ List.replicate i v).map jv)) ∧ Hid (UAt B gu gr most bs wr a3 o3) ∧ Hid (Below B w wr) ∧ Hid (KeepU w wr)) (fun _ s62 _ => n - (intOf s62).toNat)
          case atStart => exact ⟨0, N, A, c, Nat.zero_le _, rfl, rfl, hN, hide rfl, hide (by simpa using ho3.out), u3, b3, k3⟩
          case round =>
            clear u3 ho3 b3 k3
            obtain ⟨i, M, A, c, hi, rfl, rfl, hMm, hM, ho, u, b, k⟩ := hrel
            by_cases hlt : i < n
            · have hltI : (i : Int) < (n : Int) := by omega
              have hsn := hide (show (acc ++ List.replicate i v).map jv ++ [jv v] = (acc ++ List.replicate (i + 1) v).map jv from by rw [List.replicate_succ', ← List.append_assoc, List.map_append (l₁ := acc ++ List.replicate i v)]; rfl)
              have hbase := hide k.out.1
              have hM1 := hide (show M + 1 ≤ many from by have := hM.out; omega)
              go_wp2_with (at_builtin; refine wpList_append_one wr rfl (.tmp 64) (.tmp 66) rfl elem_int rfl ho.out (jv v) 3 _ rfl rfl (by simp only [maxLen]; omega) (by omega) hbase.out ?_; intro A4 c4 w4 ho4 hg4 hn4; have hpast := fun k hk => (ho.out.blk_lt k hk).1; have u4 := hide (u.out.calm hg4 (fun k cs t fz hk hx => (by have := Ow.type ho.out hk hx; subst this; exact ⟨by decide, by decide, by decide⟩))); have k4 := hide (k.out.past hg4 hpast); have b4 := hide (b.out.trans (hg4.to_below (Nat.le_trans hBs.out hbase.out) (fun k hk => Nat.le_trans hBs.out (hpast k hk)))); rw [hsn.out] at ho4; have ho4 := hide ho4; clear hg4 hn4 hpast)
              go_roundw
              case rel => exact ⟨i + 1, M + 1, A4, c4, by omega, by go_num, rfl, hM1.out, hide (by have := hM.out; omega), ho4, u4, b4, k4⟩
              case measure => simp [intOf] <;> omega
            · obtain rfl : i = n := by omega
              have hacc2 := hide (show (acc ++ List.replicate i v).length = M from by rw [List.length_append, List.length_replicate, hacc.out, hM.out])
              have hF2 := hide (show many < g + M from by have := hF.out; have := hM.out; omega)
              go_wp2
              go_roundg g
              case rel => exact ⟨acc ++ List.replicate i v, a3, o3, A, M, c, rfl, hMm, hacc2, hR4, hF2, ho, u, b, k⟩
              case measure => omega
    · obtain rfl : N = many := by omega
      have hR' := hide (show Sum.inr (acc, a', o') = R from by have := hR.out; rwa [Inf.lens, if_pos (by rw [hacc.out]; exact Nat.le_refl _)] at this)
      go_wp2
      refine bodyPost_ret (v := .slice A N c) (by simp [results, Tryz.results202, go_sem]) rfl ?_
      exact .inr ⟨acc, a', o', _, hR'.out.symm, rfl, ⟨A, c, by rw [hacc.out], by rw [hacc.out]; exact ho.out⟩, u.out, b.out, k.out⟩
end
end Go.Proofs.YtaapjampmnanmaaGreat
namespace Go.Proofs.YtaapjampmnanmaaGreat
open Go.RowKit
set_option linter.unusedVariables false
theorem Inf.bind_assoc {α β γ : Type} (p : Inf.M α) (f : α → Inf.M β) (g : β → Inf.M γ) (a : Nat) (o : List UInt8) : Inf.bind (Inf.bind p f) g a o = Inf.bind p (fun x => Inf.bind (f x) g) a o := by
  unfold Inf.bind
  cases p a o <;> rfl
theorem Inf.bind_is {α β : Type} {p : Inf.M α} {f : α → Inf.M β} {a a' : Nat} {o o' : List UInt8} {y : β} (h : Inf.bind p f a o = .inr (y, a', o')) : ∃ x a1 o1, p a o = .inr (x, a1, o1) ∧ f x a1 o1 = .inr (y, a', o') := by
  cases hp : p a o with
  | inl e => rw [Inf.bind_err hp] at h; cases h
  | inr r =>
    obtain ⟨x, a1, o1⟩ := r
    exact ⟨x, a1, o1, rfl, by rwa [Inf.bind_ok hp] at h⟩
theorem Inf.often_is {l : List Bool} {acc : List Nat} {s n v a a' : Nat} {o o' : List UInt8} (h : Inf.often l acc s a o = .inr ((n, v), a', o')) (hs : s ≤ 18) (h15 : ∀ x ∈ acc, x ≤ 15) : v ≤ 15 := by
  unfold Inf.often at h
  split at h
  · split at h
    · cases h
    · rename_i h16 hne
      obtain ⟨k, a1, o1, _, h2⟩ := Inf.bind_is h
      cases h2
      have hl : 0 < acc.length := List.length_pos_iff.2 hne
      rw [List.getD_eq_getElem?_getD, List.getElem?_eq_getElem (by omega), Option.getD_some]
      exact h15 _ (List.getElem_mem _)
  · split at h
    · obtain ⟨k, a1, o1, _, h2⟩ := Inf.bind_is h
      cases h2
      exact Nat.zero_le _
    · split at h
      · obtain ⟨k, a1, o1, _, h2⟩ := Inf.bind_is h
        cases h2
        exact Nat.zero_le _
      · cases h
        omega
theorem Inf.lens_is {l : List Bool} {ls : List Nat} {many : Nat} (hl : ls.length ≤ 19) : ∀ (f : Nat) (acc : List Nat) (a a' : Nat) (o o' : List UInt8) (x : List Nat), Inf.lens l ls many f acc a o = .inr (x, a', o') → acc.length ≤ many → (∀ y ∈ acc, y ≤ 15) → x.length = many ∧ ∀ y ∈ x, y ≤ 15 := by
  intro f
  induction f with
  | zero => intro acc a a' o o' x h; cases h
  | succ f ih =>
    intro acc a a' o o' x h hacc h15
    rw [Inf.lens] at h
    split at h
    · cases h
      exact ⟨by omega, h15⟩
    · obtain ⟨s, a1, o1, hs, h⟩ := Inf.bind_is h
      obtain ⟨⟨n, v⟩, a2, o2, hv, h⟩ := Inf.bind_is h
      have hs18 : s ≤ 18 := by have := (Inf.sym_is hs).1; omega
      have hv15 := Inf.often_is hv hs18 h15
      simp only at h
      split at h
      · cases h
      · refine ih _ _ _ _ _ _ h (by rw [List.length_append, List.length_replicate]; omega) ?_
        intro y hy
        rcases List.mem_append.1 hy with hy | hy
        · exact h15 y hy
        · rw [(List.mem_replicate.1 hy).2]
          exact hv15
theorem Inf.order_le : ∀ i < 19, Inf.order.getD i 0 ≤ 18 := by decide
theorem nz_jv (ls : List Nat) : (nz ls).map iv = ls.map jv := by simp [nz, iv, jv, Function.comp_def]
theorem made_ints (n : Nat) : madeCells #[.int .i64 0] n = ((List.replicate n 0).map jv).toArray := by
  apply Array.toList_inj.1
  apply List.ext_getElem
  · simp [size_madeCells]
  · intro i h1 h2
    simp [madeCells, Nat.mod_one, jv]
def orderA : Array Value := (Inf.order.map jv).toArray
theorem order_any (w : World) : Calls Tryz.prog 201 #[] w fun e w' => e = .returned (.slice (some ⟨w.heap.size, 0, none⟩) 19 19) ∧ Blk w' w.heap.size 3 orderA ∧ Below w.heap.size w w' := by
  go_enter Tryz.func201, Tryz.ntmps201
  go_wp2
  go_ret
  exact ⟨rfl, Blk.new w 3 orderA, (Below.refl _ w).alloc (Nat.le_refl _) _⟩
theorem order_at (i : Nat) (h : i < 19) : orderA[i]? = some (.int .i64 ((Inf.order.getD i 0 : Nat) : Int)) := by
  unfold orderA
  rw [List.getElem?_toArray, List.getElem?_map, List.getD_eq_getElem?_getD, List.getElem?_eq_getElem (show i < Inf.order.length from h)]
  rfl
theorem Rd.blk {w : World} {g : Nat} {t : TypeId} {xs : List Value} (h : Blk w g t xs.toArray) : Rd w w.heap.size (some ⟨g, 0, none⟩) xs.length xs :=
  ⟨rfl, fun j _ => ⟨g, 0, rfl, h.lt, by rw [h.cell, Nat.zero_add, List.getElem?_toArray]⟩⟩
theorem Rd.part {w : World} {B n : Nat} {A : Option Addr} {xs : List Nat} (h : Rd w B A n (xs.map jv)) (k : Nat) (hk : k ≤ n) : Rd w B A k ((xs.take k).map jv) := by
  have := h.sub 0 k (by omega)
  rw [List.drop_zero, ← List.map_take] at this
  cases A with
  | none => exact this
  | some a => exact this
theorem Rd.past {w : World} {B n : Nat} {A : Option Addr} {xs : List Nat} (h : Rd w B A n (xs.map jv)) (k : Nat) (hk : k ≤ n) : Rd w B (A.map fun x => x.add k) (n - k) ((xs.drop k).map jv) := by
  have := h.sub k (n - k) (by omega)
  rw [← List.map_drop, List.take_of_length_le (by rw [List.length_map, List.length_drop]; have := h.1; rw [List.length_map] at this; omega)] at this
  exact this
theorem itake {P : Program} {ops : Array Oper} {md : Region.Mode} {Q : Exit → Act → World → Prop} {S : World → Prop} {i d : Nat} {oi : Oper} {v : Value} {fuel : Nat} {listed : Array Bool} {a : Act} {w : World} (hi : ops[i]? = some oi) (hd : oi.dst = some d)
    (hs : Region.noSelect ops = true) (hf : Region.free md ops listed i = true) (hr : (Region.ready md ops listed).contains i = true)
    (hQ : ∀ c a w, Q (.panic c) (a.put (some d) v) w → Q (.panic c) a w) (hy : YieldsIf P ops S oi v a) (hS : S w)
    (h : wpAnyH P md ops Q S fuel (listed.setIfInBounds i true) (a.put (some d) v) w) : wpAnyH P md ops Q S (fuel + 1) listed a w :=
  wpAnyH_take hi hs hf hr (by rw [hd]; exact hQ) hy hS (by rw [hd]; exact h)
section
variable {B gu gr most a : Nat} {bs o : List UInt8} {w : World}
def Told (x : List Nat × List Nat) (v : Value) (w' : World) : Prop :=
  ∃ g1 g2 B1 B2, v = .tuple #[.pointer (some ⟨g1, 0, none⟩), .pointer (some ⟨g2, 0, none⟩)] ∧ CodeAt B1 w' g1 x.1 ∧ CodeAt B2 w' g2 x.2 ∧ x.1.length ≤ 288 ∧ x.2.length ≤ 288 ∧ Huf.sum x.1 ≤ 32768 ∧ Huf.sum x.2 ≤ 32768
set_option maxRecDepth 100000 in
set_option maxHeartbeats 8000000 in
theorem udynamic (h : UAt B gu gr most bs w a o) (R : Inf.R (List Nat × List Nat)) (hR : Inf.dynamic (Bit.bitsOf bs) a o = R) :
    Calls Tryz.prog 178 #[.pointer (some ⟨gu, 0, none⟩)] w (UQ B gu gr most bs w Told R) := by
  have hBs := hide h.size
  have hu1 := hide (ubits h 5 (by decide))
  have hR1 := hide (show Inf.bind (Inf.bits (Bit.bitsOf bs) 5) _ a o = R from hR)
  clear h hR
  go_enter Tryz.func178, Tryz.ntmps178
  go_wp2_with fail
  refine UP.go hu1.out (fun er w2 e2 b2 k2 => ⟨rfl, .inl ⟨er, hR1.out.symm.trans (Inf.bind_err e2), rfl, b2, k2⟩⟩) ?_
  intro va a2 o2 w2 e2 u2 b2 k2
  have hR2 := hide ((Inf.bind_ok e2).symm.trans hR1.out)
  have hva := (Inf.bits_is e2).1
  have hu2 := hide (ubits u2 5 (by decide))
  have b2 := hide b2
  have k2 := hide k2
  obtain ⟨K, hK⟩ : ∃ K : Nat, va + 257 = K := ⟨_, rfl⟩
  have hwa : IntKind.i64.wrap (257 + (va : Int)) = (K : Int) := by rw [IntKind.wrap_i64]; omega
  clear e2 hR1 hu1 u2
  go_wp2_with fail
  refine UP.go hu2.out (fun er w3 e3 b3 k3 => ⟨rfl, .inl ⟨er, hR2.out.symm.trans (Inf.bind_err e3), rfl, b2.out.trans b3, k2.out.trans k3⟩⟩) ?_
  intro vb a3 o3 w3 e3 u3 b3 k3
  have hR3 := hide ((Inf.bind_ok e3).symm.trans hR2.out)
  have hvb := (Inf.bits_is e3).1
  have b3 := hide (b2.out.trans b3)
  have k3 := hide (k2.out.trans k3)
  obtain ⟨J, hJ⟩ : ∃ J : Nat, vb + 1 = J := ⟨_, rfl⟩
  have hwb : IntKind.i64.wrap (1 + (vb : Int)) = (J : Int) := by rw [IntKind.wrap_i64]; omega
  clear e3 hR2 hu2 b2 k2
  by_cases hab : 29 < va ∨ 29 < vb
  · have hR4 := hide (show Sum.inl 3 = R from by have := hR3.out; rwa [if_pos hab] at this)
    clear hR3 u3
    rcases hab with hab | hab
    · have t1 : (287 : Int) ≤ (K : Int) := by omega
      clear hab hK hJ
      go_wp2
      exact ⟨rfl, .inl ⟨3, hR4.out.symm, rfl, b3.out, k3.out⟩⟩
    · by_cases hab2 : 29 < va
      · have t1 : (287 : Int) ≤ (K : Int) := by omega
        clear hab hab2 hK hJ
        go_wp2
        exact ⟨rfl, .inl ⟨3, hR4.out.symm, rfl, b3.out, k3.out⟩⟩
      · have t1 : (K : Int) ≤ 286 := by omega
        have t2 : (31 : Int) ≤ (J : Int) := by omega
        clear hab hab2 hK hJ
        go_wp2
        exact ⟨rfl, .inl ⟨3, hR4.out.symm, rfl, b3.out, k3.out⟩⟩
  · have t1 : (K : Int) ≤ 286 := by omega
    have t2 : (J : Int) ≤ 30 := by omega
    have t1n : K ≤ 286 := by omega
    have t2n : J ≤ 30 := by omega
    have t5 : (257 : Int) ≤ (K : Int) := by omega
    have t6 : (1 : Int) ≤ (J : Int) := by omega
    have t7 : 257 ≤ K := by omega
    have t8 : 1 ≤ J := by omega
    rw [hK] at hR3
    have hKJ : va + vb + 258 = K + J := by omega
    have hKJ2 : va + vb + 259 = K + J + 1 := by omega
    have hKJ := hide hKJ
    have hKJ2 := hide hKJ2
    clear hK hJ
    have hR4 := hide (show Inf.bind (Inf.bits (Bit.bitsOf bs) 4) _ a3 o3 = R from by have := hR3.out; rw [if_neg hab] at this; exact this)
    have t3 : decide ((286 : Int) < (K : Int)) = false := by simp; omega
    have t4 : decide ((30 : Int) < (J : Int)) = false := by simp; omega
    have hu4 := hide (ubits u3 4 (by decide))
    clear hR3 u3 hab
    go_wp2_with fail
    refine UP.go hu4.out (fun er w4 e4 b4 k4 => ⟨rfl, .inl ⟨er, hR4.out.symm.trans (Inf.bind_err e4), rfl, b3.out.trans b4, k3.out.trans k4⟩⟩) ?_
    intro vm a4 o4 w4 e4 u4 b4 k4
    have hR5 := hide ((Inf.bind_ok e4).symm.trans hR4.out)
    have hvm := (Inf.bits_is e4).1
    have b4 := hide (b3.out.trans b4)
    have k4 := hide (k3.out.trans k4)
    obtain ⟨m, hm⟩ : ∃ m : Nat, vm + 4 = m := ⟨_, rfl⟩
    have hwm : IntKind.i64.wrap (4 + (vm : Int)) = (m : Int) := by rw [IntKind.wrap_i64]; omega
    have hm19 : m ≤ 19 := by omega
    have hmI : (m : Int) ≤ 19 := by omega
    rw [hm] at hR5
    clear hm hvm
    have u4 := hide u4
    have hmk : ∀ W : World, (Instr.makeSlice 138 (.int .i64 19) (.int .i64 19)).run Tryz.prog W = .ok (.slice (some ⟨W.heap.size, 0, none⟩) 19 19) (W.alloc (.cells (madeCells #[.int .i64 0] 19) 3)) := fun W => run_make_row' 138 3 (.int .i64 0) 8 Tryz.underlying138 (by kernel_rfl) rfl .i64 .i64 19 (by omega) (by omega) W
    clear e4 hR4 hu4 b3 k3
    obtain ⟨w5, hw5⟩ : ∃ W, w4.alloc (.cells (madeCells #[.int .i64 0] 19) 3) = W := ⟨_, rfl⟩
    obtain ⟨gl, hgl⟩ : ∃ G, w4.heap.size = G := ⟨_, rfl⟩
    have be45 := hide (show Below w4.heap.size w4 w5 from by rw [← hw5]; exact (Below.refl _ w4).alloc (Nat.le_refl _) _)
    have kl5 := hide (show Blk w5 gl 3 ((List.replicate 19 0).map jv).toArray from by rw [← hw5, ← hgl, ← made_ints]; exact Blk.new w4 _ _)
    have hgw := hide (show w.heap.size ≤ gl from by rw [← hgl]; exact k4.out.1)
    have ho5 := hide (order_any w5)
    go_wp2_with fail
    clear hmk
    refine ho5.out.mono ?_
    rintro e w6 ⟨rfl, kO6, b56⟩
    obtain ⟨gO, hgO⟩ : ∃ G, w5.heap.size = G := ⟨_, rfl⟩
    rw [hgO] at kO6
    rw [hgO]
    have hgO2 := hide (show w.heap.size ≤ gO from by rw [← hgO]; exact Nat.le_trans k4.out.1 be45.out.size)
    have hne := hide (show gl ≠ gO from by rw [← hgl, ← hgO, ← hw5]; simp)
    have kl6 := hide (kl5.out.below b56 kl5.out.lt)
    have u6 := hide ((u4.out.below be45.out).below b56)
    have b6 := hide (b4.out.trans ((be45.out.trans (b56.mono be45.out.size)).mono (Nat.le_trans hBs.out k4.out.1)))
    have k6 := hide ((k4.out.trans (KeepU.below be45.out)).trans (KeepU.below b56))
    have kO6 := hide kO6
    clear b56 hgO hw5 hgl kl5 ho5 u4 b4 k4 be45
    have hlenO : orderA.size = 19 := rfl
    clear hlenO
    obtain ⟨RS, hRS⟩ : ∃ RS : List Nat → Inf.M (List Nat × List Nat), (fun c => Inf.bind (Inf.need c false) fun _ => Inf.bind (Inf.lens (Bit.bitsOf bs) c (K + J) (K + J + 1) []) fun ls =>
        if ls.getD 256 0 = 0 then Inf.err 3
        else Inf.bind (Inf.need (ls.take K) false) fun _ => Inf.bind (Inf.need (ls.drop K) true) fun _ =>
          Inf.ret (ls.take K, ls.drop K)) = RS := ⟨_, rfl⟩
    have hR6 := hide (show Inf.bind (Inf.three (Bit.bitsOf bs) (m - 0) 0 (List.replicate 19 0)) RS a4 o4 = R from by
      rw [← hRS, Nat.sub_zero]
      have := hR5.out
      rw [hKJ.out, hKJ2.out] at this
      exact this)
    have hRS := hide hRS
    clear hR5
    go_wp2
    go_loopw [9, 33] (fun _ s33 wr => ∃ (i a' : Nat) (o' : List UInt8) (acc : List Nat), i ≤ m ∧ s33 = .int .i64 (i : Int) ∧ Hid (acc.length = 19) ∧ Hid (∀ y ∈ acc, y ≤ 15) ∧ Hid (Inf.bind (Inf.three (Bit.bitsOf bs) (m - i) i acc) RS a' o' = R) ∧ Hid (Blk wr gl 3 (acc.map jv).toArray) ∧ Hid (Blk wr gO 3 orderA) ∧ Hid (UAt B gu gr most bs wr a' o') ∧ Hid (Below B w wr) ∧ Hid (KeepU w wr)) (fun _ s33 _ => m - (intOf s33).toNat)
    case atStart => exact ⟨0, a4, o4, List.replicate 19 0, Nat.zero_le _, rfl, hide (by simp), hide (by intro y hy; rw [(List.mem_replicate.1 hy).2]; exact Nat.zero_le _), hR6, hide kl6, kO6, u6, b6, k6⟩
    case round =>
      clear hR6 kl6 kO6 u6 b6 k6
      obtain ⟨i, a', o', acc, hi, rfl, hal, h15, hR, kl, kO, u, b, k⟩ := hrel
      by_cases hlt : i < m
      · have hltI : (i : Int) < (m : Int) := by omega
        have hiI : (i : Int) ≤ 18 := by omega
        have hi0 : (0 : Int) ≤ (i : Int) := by omega
        have hq := Inf.order_le i (by omega)
        have cO : wr.cell? ⟨gO, i, none⟩ = some (.int .i64 ((Inf.order.getD i 0 : Nat) : Int)) := by rw [kO.out.cell, order_at i (by omega)]
        have hR7 := hide (show Inf.bind (Inf.bits (Bit.bitsOf bs) 3) (fun v => Inf.bind (Inf.three (Bit.bitsOf bs) (m - (i + 1)) (i + 1) (acc.set (Inf.order.getD i 0) v)) RS) a' o' = R from by
          have := hR.out
          rw [show m - i = m - (i + 1) + 1 from by omega, Inf.three, Inf.bind_assoc] at this
          exact this)
        generalize Inf.order.getD i 0 = q at *
        have hqI : (q : Int) ≤ 18 := by omega
        have hq0 : (0 : Int) ≤ (q : Int) := by omega
        have hu7 := hide (ubits u.out 3 (by decide))
        clear hR u
        go_wp2_with fail
        refine UP.go hu7.out (fun er w7 e7 b7 k7 => ⟨rfl, .inl ⟨er, hR7.out.symm.trans (Inf.bind_err e7), rfl, b.out.trans b7, k.out.trans k7⟩⟩) ?_
        intro v a7 o7 w7 e7 u7 b7 k7
        have hR8 := hide ((Inf.bind_ok e7).symm.trans hR7.out)
        have hv := (Inf.bits_is e7).1
        have kl7 := k7.row kl.out (by decide) (by decide) (by decide)
        have kO7 := hide (k7.row kO.out (by decide) (by decide) (by decide))
        have b7 := hide (b.out.trans b7)
        have k7 := hide (k.out.trans k7)
        have f7 := kl7.free q
        have c7 : ∃ z, w7.cell? ⟨gl, q, none⟩ = some z := by
          rw [kl7.cell, List.getElem?_toArray, List.getElem?_map, List.getElem?_eq_getElem (by rw [hal.out]; omega)]
          exact ⟨_, rfl⟩
        obtain ⟨z, c7⟩ := c7
        have kl7 := hide kl7
        have u7 := hide u7
        clear hR7 hu7 e7 b k kl kO cO
        go_wp2
        obtain ⟨w8, hw8⟩ : ∃ W, w7.setCell ⟨gl, q, none⟩ (.int .i64 (v : Int)) = W := ⟨_, rfl⟩
        rw [hw8]
        have hch := hide (show Chg (fun k => k = gl) w7 w8 from by rw [← hw8]; exact (Chg.refl (fun k => k = gl) w7).setCell (p := ⟨gl, q, none⟩) (.inr rfl) _)
        have kl8 := hide (show Blk w8 gl 3 ((acc.set q v).map jv).toArray from by
          have := kl7.out.set q (.int .i64 (v : Int))
          rw [hw8] at this
          rw [List.map_set, ← List.setIfInBounds_toArray]
          exact this)
        have kO8 := hide (kO7.out.chg hch.out (fun e => hne.out e.symm))
        have u8 := hide (u7.out.calm hch.out (fun k cs t fz hk hx => (by subst hk; have h1 := kl7.out; unfold Blk at h1; rw [h1] at hx; injection hx with hx; injection hx with _ ht; subst ht; exact ⟨by decide, by decide, by decide⟩)))
        have b8 := hide (b7.out.trans (hch.out.to_below (Nat.le_trans hBs.out k7.out.1) (fun k hk => by subst hk; exact Nat.le_trans hBs.out hgw.out)))
        have k8 := hide (k7.out.past hch.out (fun k hk => by subst hk; exact hgw.out))
        have hal8 := hide (show (acc.set q v).length = 19 from by rw [List.length_set]; exact hal.out)
        have h158 := hide (show ∀ y ∈ acc.set q v, y ≤ 15 from fun y hy => by
          rcases List.mem_or_eq_of_mem_set hy with h | h
          · exact h15.out y h
          · omega)
        clear hw8 hch kl7 kO7 u7 b7 k7 f7 c7
        go_roundw
        case rel => exact ⟨i + 1, a7, o7, acc.set q v, by omega, by go_num, hal8, h158, hR8, kl8, kO8, u8, b8, k8⟩
        case measure => simp [intOf] <;> omega
      · obtain rfl : i = m := by omega
        have hR7 := hide (show RS acc a' o' = R from by have := hR.out; rwa [Nat.sub_self] at this)
        rw [← hRS.out] at hR7
        have hR7' := hR7.out
        dsimp only at hR7'
        have hrd := Rd.blk kl.out
        rw [List.length_map, hal.out, ← nz_jv] at hrd
        by_cases hf : Huf.fits acc false
        · have hR8 := hide ((Inf.bind_ok (show Inf.need acc false a' o' = .inr ((), a', o') from if_pos hf)).symm.trans hR7')
          have hco := hide (ucode_ok (some ⟨gl, 0, none⟩) 19 19 acc false wr wr.heap.size hrd (Nat.le_refl _) (by decide) h15.out hf)
          have hsum := hide (show Huf.sum acc ≤ 32768 from by rcases hf with h | ⟨h, _⟩ <;> omega)
          obtain ⟨M, hM⟩ : ∃ M, K + J = M := ⟨_, rfl⟩
          have hMI : (K : Int) + (J : Int) = (M : Int) := by omega
          have hMw : IntKind.i64.wrap (M : Int) = (M : Int) := by rw [IntKind.wrap_i64]; omega
          have hM4 : M ≤ 400 := by omega
          have hM0 : K < M := by omega
          have hMJ : M - K = J := by omega
          rw [hM] at hR8
          clear hR hRS hR7 hR7' hrd hf hM hne hgO2 hKJ hKJ2 kl kO
          go_wp2_with fail
          refine hco.out.mono ?_
          rintro e w9 ⟨g9, rfl, hc9, hb9⟩
          have k9 := hide (k.out.trans (KeepU.below hb9))
          have b9 := hide (b.out.trans (hb9.mono (Nat.le_trans hBs.out k.out.1)))
          have hl9 := hide (ulengths (u.out.below hb9) g9 wr.heap.size M acc hc9 (by rw [hal.out]; exact Nat.le_refl _) hsum.out (by omega) _ rfl)
          clear hco hb9 hc9 k b u hsum
          go_wp2_with fail
          refine UQ.go hl9.out (fun er w10 e10 b10 k10 => ⟨rfl, .inl ⟨er, hR8.out.symm.trans (Inf.bind_err e10), rfl, b9.out.trans b10, k9.out.trans k10⟩⟩) ?_
          rintro ls a10 o10 v10 w10 e10 ⟨A, c, rfl, ho10⟩ u10 b10 k10
          have hR9 := (Inf.bind_ok e10).symm.trans hR8.out
          obtain ⟨hlsl, hls15⟩ := Inf.lens_is (by rw [hal.out]; exact Nat.le_refl _) _ _ _ _ _ _ _ e10 (Nat.zero_le _) (fun y hy => by cases hy)
          rw [hlsl] at ho10
          have b10 := hide (b9.out.trans b10)
          have k10 := hide (k9.out.trans k10)
          have u10 := hide u10
          have hsz := hide ho10.rd
          obtain ⟨ga, rfl, _, _⟩ := ho10.pos (by omega)
          have hMc : M ≤ c := by
            rcases ho10.form with ⟨h, _⟩ | ⟨_, _, _, _, h, _⟩
            · cases h
            · exact h
          have hcm : c ≤ 9223372036854775807 := by
            rcases ho10.form with ⟨h, _⟩ | ⟨_, _, _, _, _, h⟩
            · cases h
            · exact h
          obtain ⟨x256, hx⟩ : ∃ x, ls.getD 256 0 = x := ⟨_, rfl⟩
          have c256 : w10.cell? ⟨ga, 256, none⟩ = some (.int .i64 (x256 : Int)) := by
            have h := ho10.cells (g := ga) rfl 256 (jv x256) (by rw [List.getElem?_map, ← hx, List.getD_eq_getElem?_getD, List.getElem?_eq_getElem (by omega)]; rfl)
            rwa [Addr.add_mid] at h
          rw [hx] at hR9
          clear e10 hR8 hl9 b9 k9 hx ho10 hMI hMw
          by_cases hx0 : x256 = 0
          · subst hx0
            have hR10 := hide (show Sum.inl 3 = R from by rw [if_pos rfl] at hR9; exact hR9)
            clear hR9 hsz
            go_wp2
            exact ⟨rfl, .inl ⟨3, hR10.out.symm, rfl, b10.out, k10.out⟩⟩
          · have hxb : ((x256 : Int) == 0) = false := by simp; omega
            rw [if_neg hx0] at hR9
            have hR9 := hide hR9
            have hKc : K < c := by omega
            have hKcI : (K : Int) < (c : Int) := by omega
            have hKMI : (K : Int) < (M : Int) := by omega
            have hrd := hsz.out
            have hA := (hrd.part K (by omega))
            have hB := (hrd.past K (by omega))
            rw [← nz_jv] at hA hB
            rw [hMJ] at hB
            have hl1 : (ls.take K).length = K := by rw [List.length_take]; omega
            have hl2 : (ls.drop K).length = J := by rw [List.length_drop]; omega
            have h151 : ∀ y ∈ ls.take K, y ≤ 15 := fun y hy => hls15 y (List.mem_of_mem_take hy)
            have h152 : ∀ y ∈ ls.drop K, y ≤ 15 := fun y hy => hls15 y (List.mem_of_mem_drop hy)
            have hB1 : ∀ W, Below w10.heap.size w10 W → Rd W w10.heap.size (some ⟨ga, K, none⟩) J ((nz (ls.drop K)).map iv) := fun W hb => by
              have h := hB.below hb
              rw [Option.map_some, Addr.add_mid, Nat.zero_add] at h
              exact h
            have bw : Below w10.heap.size w10 w10.drew := below_drewN (Below.refl _ w10) 1
            clear hls15 hsz hrd hB
            by_cases f1 : Huf.fits (ls.take K) false
            · have hR10 := hide ((Inf.bind_ok (show Inf.need (ls.take K) false a10 o10 = .inr ((), a10, o10) from if_pos f1)).symm.trans hR9.out)
              have hs1 := hide (show Huf.sum (ls.take K) ≤ 32768 from by rcases f1 with h | ⟨h, _⟩ <;> omega)
              have hc1 := hide (ucode_ok (some ⟨ga, 0, none⟩) K c (ls.take K) false w10.drew w10.heap.size (hA.below bw) (Nat.le_refl _) (by omega) h151 f1)
              by_cases f2 : Huf.fits (ls.drop K) true
              · have hR11 := hide ((Inf.bind_ok (show Inf.need (ls.drop K) true a10 o10 = .inr ((), a10, o10) from if_pos f2)).symm.trans hR10.out)
                have hs2 := hide (show Huf.sum (ls.drop K) ≤ 32768 from by rcases f2 with h | ⟨h, _⟩ <;> omega)
                have hc2 := hide (fun W (hb : Below w10.heap.size w10 W) => ucode_ok (some ⟨ga, K, none⟩) J (c - K) (ls.drop K) true W w10.heap.size (hB1 W hb) hb.size (by omega) h152 f2)
                have bw := hide bw
                have hl1 := hide hl1
                have hl2 := hide hl2
                clear hR9 hR10 hA hB1 h151 h152 f1 f2
                go_wp2
                go_region_with (first
                  | (go_at_call 200; (with_reducible refine (hc1.out).mono ?_); rintro e w11 ⟨g11, rfl, hc11, hb11⟩; have hc22 := hide (hc2.out w11 (bw.out.trans (hb11.mono bw.out.size))); have hc11 := hide hc11; have hb11 := hide hb11)
                  | (go_at_call 200; (with_reducible refine (hc22.out).mono ?_); rintro e w12 ⟨g12, rfl, hc12, hb12⟩; have hc12 := hide hc12; have hb12 := hide hb12))
                all_goals (
                  go_wp2
                  go_ret2
                  have hb := (bw.out.trans (hb11.out.mono bw.out.size)).trans (hb12.out.mono (Nat.le_trans bw.out.size hb11.out.size))
                  refine .inr ⟨_, a10, o10, _, hR11.out.symm, rfl, ⟨g11, g12, _, _, rfl, hc11.out.below hb12.out, hc12.out, by rw [hl1.out]; omega, by rw [hl2.out]; omega, hs1.out, hs2.out⟩, u10.out.below hb, b10.out.trans (hb.mono (Nat.le_trans hBs.out k10.out.1)), k10.out.trans (KeepU.below hb)⟩)
              · have hR11 := hide ((Inf.bind_err (show Inf.need (ls.drop K) true a10 o10 = .inl 3 from if_neg f2)).symm.trans hR10.out)
                have hc2 := hide (fun W (hb : Below w10.heap.size w10 W) => ucode_err (some ⟨ga, K, none⟩) J (c - K) (ls.drop K) true W w10.heap.size (hB1 W hb) (by omega) h152 f2)
                have bw := hide bw
                clear hR9 hR10 hA hB1 h151 h152 f1 f2 hl1 hl2
                go_wp2
                refine wp_region_held_drew (S := fun _ => True) (by kernel_rfl) trivial ?_
                intro hS0
                refine itake (i := 0) (d := 56) (v := .slice (some ⟨ga, 0, none⟩) M c) rfl rfl (by kernel_rfl) (by kernel_rfl) (by kernel_rfl) (fun _ _ _ h => h) (Or.inl ⟨by rfl, by (intro W _; go_simp)⟩) trivial ?_
                simp only [Act.put, List.setIfInBounds_toArray, List.set_cons_zero, List.set_cons_succ]
                refine itake (i := 1) (d := 57) (v := .int .i64 (K : Int)) rfl rfl (by kernel_rfl) (by kernel_rfl) (by kernel_rfl) (fun _ _ _ h => h) (Or.inl ⟨by rfl, by (intro W _; go_simp)⟩) trivial ?_
                simp only [Act.put, List.setIfInBounds_toArray, List.set_cons_zero, List.set_cons_succ]
                refine itake (i := 2) (d := 58) (v := .slice (some ⟨ga, 0, none⟩) K c) rfl rfl (by kernel_rfl) (by kernel_rfl) (by kernel_rfl) (fun _ _ _ h => h) (Or.inl ⟨by rfl, by (intro W _; go_simp; exact fun h => absurd h (by omega))⟩) trivial ?_
                simp only [Act.put, List.setIfInBounds_toArray, List.set_cons_zero, List.set_cons_succ]
                refine itake (i := 4) (d := 60) (v := .slice (some ⟨ga, 0, none⟩) M c) rfl rfl (by kernel_rfl) (by kernel_rfl) (by kernel_rfl) (fun _ _ _ h => h) (Or.inl ⟨by rfl, by (intro W _; go_simp)⟩) trivial ?_
                simp only [Act.put, List.setIfInBounds_toArray, List.set_cons_zero, List.set_cons_succ]
                refine itake (i := 5) (d := 61) (v := .int .i64 (K : Int)) rfl rfl (by kernel_rfl) (by kernel_rfl) (by kernel_rfl) (fun _ _ _ h => h) (Or.inl ⟨by rfl, by (intro W _; go_simp)⟩) trivial ?_
                simp only [Act.put, List.setIfInBounds_toArray, List.set_cons_zero, List.set_cons_succ]
                refine itake (i := 6) (d := 62) (v := .slice (some ⟨ga, K, none⟩) J (c - K)) rfl rfl (by kernel_rfl) (by kernel_rfl) (by kernel_rfl) (fun _ _ _ h => h) (Or.inl ⟨by rfl, by (intro W _; go_simp; rw [if_pos (by omega), if_neg (by omega)])⟩) trivial ?_
                simp only [Act.put, List.setIfInBounds_toArray, List.set_cons_zero, List.set_cons_succ]
                refine wpAnyH_ready (rs := [3]) (by kernel_rfl) (by simp) ?_
                refine AllReadyH.cons rfl (fun K_ hK_ => ?_) AllReadyH.nil
                rw [if_pos (by rfl)]
                have hK_ := hide hK_
                go_simp
                (with_reducible refine (hc1.out).mono ?_)
                rintro e w11 ⟨g11, rfl, hc11, hb11⟩
                have hc22 := hide (hc2.out w11 (bw.out.trans (hb11.mono bw.out.size)))
                have hb := bw.out.trans (hb11.mono bw.out.size)
                clear hc11 hb11
                refine hK_.out _ _ trivial (fun _ => ?_)
                clear hK_
                refine wpAnyH_ready (rs := [7]) (by kernel_rfl) (by simp) ?_
                refine AllReadyH.cons rfl (fun K_ hK_ => ?_) AllReadyH.nil
                rw [if_pos (by rfl)]
                have hK_ := hide hK_
                have hb := hide hb
                go_simp
                (with_reducible refine (hc22.out).mono ?_)
                rintro e w12 ⟨rfl, rfl⟩
                exact ⟨rfl, .inl ⟨3, hR11.out.symm, rfl, b10.out.trans (hb.out.mono (Nat.le_trans hBs.out k10.out.1)), k10.out.trans (KeepU.below hb.out)⟩⟩
            · have hR10 := hide ((Inf.bind_err (show Inf.need (ls.take K) false a10 o10 = .inl 3 from if_neg f1)).symm.trans hR9.out)
              have hc1 := hide (ucode_err (some ⟨ga, 0, none⟩) K c (ls.take K) false w10.drew w10.heap.size (hA.below bw) (by omega) h151 f1)
              have bw := hide bw
              clear hR9 hA hB1 h151 h152 f1 hl1 hl2
              go_wp2
              refine wp_region_held_drew (S := fun _ => True) (by kernel_rfl) trivial ?_
              intro hS0
              refine itake (i := 0) (d := 56) (v := .slice (some ⟨ga, 0, none⟩) M c) rfl rfl (by kernel_rfl) (by kernel_rfl) (by kernel_rfl) (fun _ _ _ h => h) (Or.inl ⟨by rfl, by (intro W _; go_simp)⟩) trivial ?_
              simp only [Act.put, List.setIfInBounds_toArray, List.set_cons_zero, List.set_cons_succ]
              refine itake (i := 1) (d := 57) (v := .int .i64 (K : Int)) rfl rfl (by kernel_rfl) (by kernel_rfl) (by kernel_rfl) (fun _ _ _ h => h) (Or.inl ⟨by rfl, by (intro W _; go_simp)⟩) trivial ?_
              simp only [Act.put, List.setIfInBounds_toArray, List.set_cons_zero, List.set_cons_succ]
              refine itake (i := 2) (d := 58) (v := .slice (some ⟨ga, 0, none⟩) K c) rfl rfl (by kernel_rfl) (by kernel_rfl) (by kernel_rfl) (fun _ _ _ h => h) (Or.inl ⟨by rfl, by (intro W _; go_simp; exact fun h => absurd h (by omega))⟩) trivial ?_
              simp only [Act.put, List.setIfInBounds_toArray, List.set_cons_zero, List.set_cons_succ]
              refine itake (i := 4) (d := 60) (v := .slice (some ⟨ga, 0, none⟩) M c) rfl rfl (by kernel_rfl) (by kernel_rfl) (by kernel_rfl) (fun _ _ _ h => h) (Or.inl ⟨by rfl, by (intro W _; go_simp)⟩) trivial ?_
              simp only [Act.put, List.setIfInBounds_toArray, List.set_cons_zero, List.set_cons_succ]
              refine itake (i := 5) (d := 61) (v := .int .i64 (K : Int)) rfl rfl (by kernel_rfl) (by kernel_rfl) (by kernel_rfl) (fun _ _ _ h => h) (Or.inl ⟨by rfl, by (intro W _; go_simp)⟩) trivial ?_
              simp only [Act.put, List.setIfInBounds_toArray, List.set_cons_zero, List.set_cons_succ]
              refine itake (i := 6) (d := 62) (v := .slice (some ⟨ga, K, none⟩) J (c - K)) rfl rfl (by kernel_rfl) (by kernel_rfl) (by kernel_rfl) (fun _ _ _ h => h) (Or.inl ⟨by rfl, by (intro W _; go_simp; rw [if_pos (by omega), if_neg (by omega)])⟩) trivial ?_
              simp only [Act.put, List.setIfInBounds_toArray, List.set_cons_zero, List.set_cons_succ]
              refine wpAnyH_ready (rs := [3]) (by kernel_rfl) (by simp) ?_
              refine AllReadyH.cons rfl (fun K_ hK_ => ?_) AllReadyH.nil
              rw [if_pos (by rfl)]
              have hK_ := hide hK_
              go_simp
              (with_reducible refine (hc1.out).mono ?_)
              rintro e w11 ⟨rfl, rfl⟩
              exact ⟨rfl, .inl ⟨3, hR10.out.symm, rfl, b10.out.trans (bw.out.mono (Nat.le_trans hBs.out k10.out.1)), k10.out.trans (KeepU.below bw.out)⟩⟩
        · have hR8 := hide ((Inf.bind_err (show Inf.need acc false a' o' = .inl 3 from if_neg hf)).symm.trans hR7')
          have hco := hide (ucode_err (some ⟨gl, 0, none⟩) 19 19 acc false wr wr.heap.size hrd (by decide) h15.out hf)
          clear hR hRS hR7 hR7' hrd hf
          go_wp2_with fail
          refine hco.out.mono ?_
          rintro e w9 ⟨rfl, rfl⟩
          exact ⟨rfl, .inl ⟨3, hR8.out.symm, rfl, b.out, k.out⟩⟩
end
end Go.Proofs.YtaapjampmnanmaaGreat
namespace Go.Proofs.YtaapjampmnanmaaGreat
open Go.RowKit
set_option linter.unusedVariables false
section
variable {B gu gr most a : Nat} {bs o : List UInt8} {w : World}
set_option maxRecDepth 100000 in
set_option maxHeartbeats 8000000 in
theorem ublock (h : UAt B gu gr most bs w a o) (F : Nat) (hF : 8 * bs.length < a + F) (R : Inf.R Bool) (hR : Inf.block (Bit.bitsOf bs) most F a o = R) :
    Calls Tryz.prog 147 #[.pointer (some ⟨gu, 0, none⟩)] w (UP B gu gr most bs w (fun b : Bool => .bool b) R) := by
  have hu1 := hide (ubits h 1 (by decide))
  have hR1 := hide (show Inf.bind (Inf.bits (Bit.bitsOf bs) 1) _ a o = R from hR)
  have hBs := hide h.size
  have hF := hide hF
  clear h hR
  go_enter Tryz.func147, Tryz.ntmps147
  go_wp2_with fail
  refine UP.go hu1.out (fun er w2 e2 b2 k2 => ⟨rfl, .inl ⟨er, hR1.out.symm.trans (Inf.bind_err e2), rfl, b2, k2⟩⟩) ?_
  intro v a2 o2 w2 e2 u2 b2 k2
  have hR2 := (Inf.bind_ok e2).symm.trans hR1.out
  obtain ⟨hv, ha2, _, _⟩ := Inf.bits_is e2
  have hu2 := hide (ubits u2 2 (by decide))
  have b2 := hide b2
  have k2 := hide k2
  have hF2 := hide (show 8 * bs.length < a2 + F from by have := hF.out; omega)
  clear e2 hR1 hu1 u2 ha2 hF
  have hv2 : v = 0 ∨ v = 1 := by omega
  clear hv
  rcases hv2 with rfl | rfl
  all_goals (
    have hR2 := hide hR2
    go_wp2_with fail
    refine UP.go hu2.out (fun er w3 e3 b3 k3 => ⟨rfl, .inl ⟨er, hR2.out.symm.trans (Inf.bind_err e3), rfl, b2.out.trans b3, k2.out.trans k3⟩⟩) ?_
    intro k a3 o3 w3 e3 u3 b3 k3
    have hR3 := (Inf.bind_ok e3).symm.trans hR2.out
    obtain ⟨hk, ha3, _, _⟩ := Inf.bits_is e3
    have b3 := hide (b2.out.trans b3)
    have k3 := hide (k2.out.trans k3)
    have hF3 := hide (show 8 * bs.length < a3 + F from by have := hF2.out; omega)
    clear e3 hR2 hu2 ha3 hF2 b2 k2
    have hk4 : k = 0 ∨ k = 1 ∨ k = 2 ∨ k = 3 := by omega
    clear hk
    rcases hk4 with rfl | rfl | rfl | rfl
    · have hR4 := hide (show Inf.bind (Inf.stored (Bit.bitsOf bs) most) _ a3 o3 = R from by rw [if_pos rfl] at hR3; exact hR3)
      have hst := hide (ustored u3 _ rfl)
      clear hR3 u3 hF3
      go_wp2_with fail
      refine UP.go hst.out (fun er w4 e4 b4 k4 => ⟨rfl, .inl ⟨er, hR4.out.symm.trans (Inf.bind_err e4), rfl, b3.out.trans b4, k3.out.trans k4⟩⟩) ?_
      intro _ a4 o4 w4 e4 u4 b4 k4
      have hR5 := hide ((Inf.bind_ok e4).symm.trans hR4.out)
      have b4 := hide (b3.out.trans b4)
      have k4 := hide (k3.out.trans k4)
      have u4 := hide u4
      clear e4 hR4 hst b3 k3
      go_wp2
      go_ret
      exact .inr ⟨_, a4, o4, hR5.out.symm, rfl, u4.out, b4.out, k4.out⟩
    · have hR4 := hide (show Inf.bind (Inf.symbols (Bit.bitsOf bs) most lsF (List.replicate 32 5) F) _ a3 o3 = R from by rw [if_neg (by decide), if_pos rfl] at hR3; exact hR3)
      have hfx := hide (ufixed w3)
      have hsy := hide (fun (W : World) (hb : Below w3.heap.size w3 W) (g1 g2 B1 B2 : Nat) (h1 : CodeAt B1 W g1 lsF) (h2 : CodeAt B2 W g2 (List.replicate 32 5)) => usymbols (u3.below hb) g1 g2 B1 B2 F lsF (List.replicate 32 5) h1 h2 (by rw [lsF_len]; decide) lsF_sum (by decide) ls5_sum hF3.out _ rfl)
      clear hR3 u3 hF3
      go_wp2_with fail
      refine hfx.out.mono ?_
      rintro e w4 ⟨g1, g2, B1, B2, rfl, hc1, hc2, hb4⟩
      have hs4 := hide (hsy.out w4 hb4 g1 g2 B1 B2 hc1 hc2)
      have b4 := hide (b3.out.trans (hb4.mono (Nat.le_trans hBs.out k3.out.1)))
      have k4 := hide (k3.out.trans (KeepU.below hb4))
      clear hfx hsy hc1 hc2 hb4 b3 k3
      go_wp2_with fail
      refine UP.go hs4.out (fun er w5 e5 b5 k5 => ⟨rfl, .inl ⟨er, hR4.out.symm.trans (Inf.bind_err e5), rfl, b4.out.trans b5, k4.out.trans k5⟩⟩) ?_
      intro _ a5 o5 w5 e5 u5 b5 k5
      have hR5 := hide ((Inf.bind_ok e5).symm.trans hR4.out)
      have b5 := hide (b4.out.trans b5)
      have k5 := hide (k4.out.trans k5)
      have u5 := hide u5
      clear e5 hR4 hs4 b4 k4
      go_wp2
      go_ret
      exact .inr ⟨_, a5, o5, hR5.out.symm, rfl, u5.out, b5.out, k5.out⟩
    · have hR4 := hide (show Inf.bind (Inf.dynamic (Bit.bitsOf bs)) (fun c => Inf.bind (Inf.symbols (Bit.bitsOf bs) most c.1 c.2 F) _) a3 o3 = R from by rw [if_neg (by decide), if_neg (by decide), if_pos rfl] at hR3; exact hR3)
      have hdy := hide (udynamic u3 _ rfl)
      clear hR3 u3
      go_wp2_with fail
      refine UQ.go hdy.out (fun er w4 e4 b4 k4 => ⟨rfl, .inl ⟨er, hR4.out.symm.trans (Inf.bind_err e4), rfl, b3.out.trans b4, k3.out.trans k4⟩⟩) ?_
      rintro ⟨near, far⟩ a4 o4 v4 w4 e4 ⟨g1, g2, B1, B2, rfl, hc1, hc2, hn1, hn2, hs1, hs2⟩ u4 b4 k4
      have hR5 := hide ((Inf.bind_ok e4).symm.trans hR4.out)
      have hs4 := hide (usymbols u4 g1 g2 B1 B2 F near far hc1 hc2 hn1 hs1 hn2 hs2 (by have := Inf.Mono.dynamic.1 _ _ _ _ _ _ e4; have := hF3.out; omega) _ rfl)
      have b4 := hide (b3.out.trans b4)
      have k4 := hide (k3.out.trans k4)
      clear e4 hR4 hdy b3 k3 hF3 hc1 hc2 hn1 hn2 hs1 hs2 u4
      go_wp2_with fail
      refine UP.go hs4.out (fun er w5 e5 b5 k5 => ⟨rfl, .inl ⟨er, hR5.out.symm.trans (Inf.bind_err e5), rfl, b4.out.trans b5, k4.out.trans k5⟩⟩) ?_
      intro _ a5 o5 w5 e5 u5 b5 k5
      have hR6 := hide ((Inf.bind_ok e5).symm.trans hR5.out)
      have b5 := hide (b4.out.trans b5)
      have k5 := hide (k4.out.trans k5)
      have u5 := hide u5
      clear e5 hR5 hs4 b4 k4
      go_wp2
      go_ret
      exact .inr ⟨_, a5, o5, hR6.out.symm, rfl, u5.out, b5.out, k5.out⟩
    · have hR4 := hide (show Sum.inl 3 = R from by rw [if_neg (by decide), if_neg (by decide), if_neg (by decide)] at hR3; exact hR3)
      clear hR3 u3
      go_wp2
      exact ⟨rfl, .inl ⟨3, hR4.out.symm, rfl, b3.out, k3.out⟩⟩)
end
/-! ### What stops a block is caught -/
theorem assert_stop (v : Value) (W : World) : (Instr.typeAssert (.iface 216 v) 20 216 true).run Tryz.prog W = .ok (.tuple #[v, .bool true]) W := by kernel_rfl
theorem assert_nil (W : World) : (Instr.typeAssert .nilIface 20 216 true).run Tryz.prog W = .ok (.tuple #[.agg #[.int .i64 0], .bool false]) W := by kernel_rfl
set_option maxRecDepth 100000 in
theorem catch_stop (pa pb pc : Nat) (va vb vc : Value) (er : Nat) (older : List PanicEntry) (w : World) (ha : Blk w pa 22 #[va]) (hb : Blk w pb 3 #[vb]) (hc : Blk w pc 31 #[vc]) :
    CallsD Tryz.prog 146 #[.pointer (some ⟨pa, 0, none⟩), .pointer (some ⟨pb, 0, none⟩), .pointer (some ⟨pc, 0, none⟩)] (.panicking ({ v := .iface 216 (.agg #[.int .i64 (er : Int)]), recovered := false } :: older)) w fun e u' w' =>
      e = .returned (.tuple #[]) ∧ u' = .panicking ({ v := .iface 216 (.agg #[.int .i64 (er : Int)]), recovered := true } :: older) ∧ Blk w' pa 22 #[.slice none 0 0] ∧ Blk w' pb 3 #[.int .i64 0] ∧ Blk w' pc 31 #[.int .i64 (er : Int)] ∧ Chg (fun k => k = pa ∨ k = pb ∨ k = pc) w w' := by
  refine callsD_of_wpS Tryz.func146 rfl fun c₀ cs hu => ?_
  simp only [Tryz.ntmps146, List.size_toArray, List.length_cons, List.length_nil, Nat.reduceAdd, Nat.reduceSub, Array.replicate_succ, Array.replicate_zero, List.push_toArray, List.append_toArray, List.nil_append, List.cons_append]
  apply wpS_seq
  apply wpS_region
  simp [wpOpsS, go_sem, recoverD, hu, assert_stop, Exit.thenS]
  obtain ⟨G, hG⟩ : ∃ G, w.heap.size = G := ⟨_, rfl⟩
  obtain ⟨w1, hw1⟩ : ∃ W, w.alloc (.cells #[.int .i64 (er : Int)] 216) = W := ⟨_, rfl⟩
  have hb1 := hide (show Chg (fun k => k = pa ∨ k = pb ∨ k = pc) w w1 from by rw [← hw1]; exact (Chg.refl _ w).alloc _)
  have ka := hide (show Blk w1 pa 22 #[va] from by rw [← hw1]; exact ha.alloc _)
  have kb := hide (show Blk w1 pb 3 #[vb] from by rw [← hw1]; exact hb.alloc _)
  have kc := hide (show Blk w1 pc 31 #[vc] from by rw [← hw1]; exact hc.alloc _)
  have kg : Blk w1 G 216 #[.int .i64 (er : Int)] := by rw [← hw1, ← hG]; exact Blk.new w _ _
  have g0 := kg.cell 0
  have a0 := ka.out.cell 0
  have b0 := kb.out.cell 0
  have c0 := kc.out.cell 0
  have fa := ka.out.free 0
  have fb := kb.out.free 0
  have fc := kc.out.free 0
  have nab : pa ≠ pb := ha.same hb (by decide)
  have nac : pa ≠ pc := ha.same hc (by decide)
  have nbc : pb ≠ pc := hb.same hc (by decide)
  have nga : G ≠ pa := kg.same ka.out (by decide)
  have ngb : G ≠ pb := kg.same kb.out (by decide)
  have ngc : G ≠ pc := kg.same kc.out (by decide)
  rw [hw1, hG]
  clear hw1 hG kg ha hb hc
  refine wpS_of_wp ?_
  change Code.wp Tryz.prog _ _ { tmps := #[.pointer (some ⟨pa, 0, none⟩), .pointer (some ⟨pb, 0, none⟩), .pointer (some ⟨pc, 0, none⟩), .pointer (some ⟨G, 0, none⟩), .bool true, .tuple #[.agg #[.int .i64 (er : Int)], .bool true], .iface 216 (.agg #[.int .i64 (er : Int)]), .tuple #[.agg #[.int .i64 (er : Int)], .bool true], .agg #[.int .i64 (er : Int)], .bool true, undef, undef, undef], defers := [] } w1
  go_wp2
  go_region
  have hfin : Blk (((w1.setCell ⟨pa, 0, none⟩ (.slice none 0 0)).setCell ⟨pb, 0, none⟩ (.int .i64 0)).setCell ⟨pc, 0, none⟩ (.int .i64 (er : Int))).drew pa 22 #[.slice none 0 0] ∧ Blk (((w1.setCell ⟨pa, 0, none⟩ (.slice none 0 0)).setCell ⟨pb, 0, none⟩ (.int .i64 0)).setCell ⟨pc, 0, none⟩ (.int .i64 (er : Int))).drew pb 3 #[.int .i64 0] ∧ Blk (((w1.setCell ⟨pa, 0, none⟩ (.slice none 0 0)).setCell ⟨pb, 0, none⟩ (.int .i64 0)).setCell ⟨pc, 0, none⟩ (.int .i64 (er : Int))).drew pc 31 #[.int .i64 (er : Int)] ∧
      Chg (fun k => k = pa ∨ k = pb ∨ k = pc) w (((w1.setCell ⟨pa, 0, none⟩ (.slice none 0 0)).setCell ⟨pb, 0, none⟩ (.int .i64 0)).setCell ⟨pc, 0, none⟩ (.int .i64 (er : Int))).drew :=
    ⟨((ka.out.set 0 _).far nab _).far nac _, ((kb.out.far (Ne.symm nab) _).set 0 _).far nbc _, ((kc.out.far (Ne.symm nac) _).far (Ne.symm nbc) _).set 0 _,
      (((hb1.out.setCell (p := ⟨pa, 0, none⟩) (.inr (.inl rfl)) _).setCell (p := ⟨pb, 0, none⟩) (.inr (.inr (.inl rfl))) _).setCell (p := ⟨pc, 0, none⟩) (.inr (.inr (.inr rfl))) _).drew⟩
  exact ⟨rfl, _, rfl, _, results_none rfl _ _ _, rfl, rfl, hfin⟩
set_option maxRecDepth 100000 in
theorem catch_none (pa pb pc : Nat) (w : World) :
    CallsD Tryz.prog 146 #[.pointer (some ⟨pa, 0, none⟩), .pointer (some ⟨pb, 0, none⟩), .pointer (some ⟨pc, 0, none⟩)] .returning w fun e u' w' =>
      e = .returned (.tuple #[]) ∧ u' = .returning ∧ Below w.heap.size w w' := by
  refine callsD_of_wpS Tryz.func146 rfl fun c₀ cs hu => ?_
  simp only [Tryz.ntmps146, List.size_toArray, List.length_cons, List.length_nil, Nat.reduceAdd, Nat.reduceSub, Array.replicate_succ, Array.replicate_zero, List.push_toArray, List.append_toArray, List.nil_append, List.cons_append]
  apply wpS_seq
  apply wpS_region
  simp [wpOpsS, go_sem, recoverD, hu, assert_nil, Exit.thenS]
  refine wpS_of_wp ?_
  have hb := hide ((Below.refl _ w).alloc (Nat.le_refl _) (.cells #[.int .i64 0] 216))
  go_wp2
  exact ⟨rfl, .returning, by rw [← hu], _, results_none rfl _ _ _, rfl, rfl, hb.out⟩
end Go.Proofs.YtaapjampmnanmaaGreat
namespace Go.Proofs.YtaapjampmnanmaaGreat
open Go.RowKit
set_option linter.unusedVariables false
def InfPost (w : World) (r : Sum Nat (List UInt8 × Nat)) (e : Ending) (w' : World) : Prop :=
  Below w.heap.size w w' ∧
  ((∃ er, r = .inl er ∧ e = .returned (.tuple #[.slice none 0 0, .int .i64 0, .int .i64 (er : Int)])) ∨
   (∃ o used A c, r = .inr (o, used) ∧ e = .returned (.tuple #[.slice A o.length c, .int .i64 (used : Int), .int .i64 0]) ∧ Ow w' w.heap.size 5 A o.length c (o.map bv)))
theorem Inf.block_some {l : List Bool} {most F a a' : Nat} {o o' : List UInt8} {x : Bool} (h : Inf.block l most F a o = .inr (x, a', o')) : a < a' := by
  unfold Inf.block at h
  obtain ⟨v, a1, o1, h1, h⟩ := Inf.bind_is h
  have e1 := (Inf.bits_is h1).2.1
  obtain ⟨k, a2, o2, h2, h⟩ := Inf.bind_is h
  have e2 := (Inf.bits_is h2).2.1
  have h3 := (Inf.Mono.ite (c := k = 0) ((Inf.Mono.stored most).bind fun _ => Inf.Mono.ret (v == 1))
    (Inf.Mono.ite (c := k = 1) ((Inf.Mono.symbols most lsF (List.replicate 32 5) F).bind fun _ => Inf.Mono.ret (v == 1)) (Inf.Mono.ite (c := k = 2) (Inf.Mono.dynamic.bind fun c => (Inf.Mono.symbols most c.1 c.2 F).bind fun _ => Inf.Mono.ret (v == 1)) (Inf.Mono.err 3)))).1 l a2 o2 x a' o' h
  omega
theorem uat {B gu gr most a : Nat} {bs o : List UInt8} {w : World} (h : UAt B gu gr most bs w a o) : ∃ A c, w.cell? ⟨gu, 0, none⟩ = some (.pointer (some ⟨gr, 0, none⟩)) ∧ w.cell? ⟨gu, 1, none⟩ = some (.slice A o.length c) ∧ Ow w B 5 A o.length c (o.map bv) ∧ ∃ Ab, RdIs w B gr Ab bs a := by
  obtain ⟨A, c, Ab, h1, h2, h3, _⟩ := h
  exact ⟨A, c, h1.cell 0, h1.cell 1, h3, Ab, h2⟩
set_option maxRecDepth 100000 in
set_option maxHeartbeats 8000000 in
theorem idata_any (A : Option Addr) (c : Nat) (bs : List UInt8) (most F : Nat) (w : World) (hr : Rd w w.heap.size A bs.length (bs.map bv)) (hl : bs.length ≤ 1048576) (hm : most ≤ 1048576) (hF : 8 * bs.length < F) :
    Calls Tryz.prog 115 #[.slice A bs.length c, .int .i64 (most : Int)] w (InfPost w (Inf.data (Bit.bitsOf bs) most F)) := by
  have hm0 : (0 : Int) ≤ (most : Int) := by omega
  have hmI : (most : Int) ≤ 1048576 := by omega
  obtain ⟨G, hG⟩ : ∃ G, w.heap.size = G := ⟨_, rfl⟩
  obtain ⟨w1, hw1⟩ : ∃ W, w.alloc (.cells #[.slice none 0 0] 22) = W := ⟨_, rfl⟩
  obtain ⟨w2, hw2⟩ : ∃ W, w1.alloc (.cells #[.int .i64 0] 3) = W := ⟨_, rfl⟩
  obtain ⟨w3, hw3⟩ : ∃ W, w2.alloc (.cells #[.int .i64 0] 31) = W := ⟨_, rfl⟩
  have s1 : w1.heap.size = G + 1 := by rw [← hw1, ← hG]; simp
  have s2 : w2.heap.size = G + 1 + 1 := by rw [← hw2, ← s1]; simp
  have s3 := hide (show w3.heap.size = G + 1 + 1 + 1 from by rw [← hw3, ← s2]; simp)
  have ka3 := hide (show Blk w3 G 22 #[.slice none 0 0] from by rw [← hw3, ← hw2]; exact ((show Blk w1 G _ _ from by rw [← hw1, ← hG]; exact Blk.new w _ _).alloc _).alloc _)
  have kb3 := hide (show Blk w3 (G + 1) 3 #[.int .i64 0] from by rw [← hw3]; exact (show Blk w2 (G + 1) _ _ from by rw [← hw2, ← s1]; exact Blk.new w1 _ _).alloc _)
  have kc3 := hide (show Blk w3 (G + 1 + 1) 31 #[.int .i64 0] from by rw [← hw3, ← s2]; exact Blk.new w2 _ _)
  have b3 := hide (show Below G w w3 from by rw [← hw3, ← hw2, ← hw1, ← hG]; exact (((Below.refl _ w).alloc (Nat.le_refl _) _).alloc (by simp) _).alloc (by simp; omega) _)
  have hr3 := hide (hr.below (by rw [hG]; exact b3.out))
  have hnr := hide (newreader_any A c bs w3 w.heap.size hr3.out (by rw [s3.out, hG]; omega) (by omega))
  have hmf : ∀ (fn : Fn) (first cap : Array Value) (w : World), (Instr.makeFunc fn first cap).run Tryz.prog w = .ok (.func fn first cap) w := fun _ _ _ _ => rfl
  obtain ⟨R0, hR0⟩ : ∃ R0, Inf.blocks (Bit.bitsOf bs) most F F 0 [] = R0 := ⟨_, rfl⟩
  have hfin := Inf.data_fin (Bit.bitsOf bs) most F
  rw [hR0] at hfin
  generalize Inf.data (Bit.bitsOf bs) most F = RR at *
  replace hfin := hide hfin
  replace hR0 := hide hR0
  replace hF := hide hF
  replace hl := hide hl
  replace hm := hide hm
  have hd1 : decide ((most : Int) < 0) = false := by simp
  have hd2 : decide ((1048576 : Int) < (most : Int)) = false := by simp; omega
  clear hr
  go_enter_defers Tryz.func115, Tryz.ntmps115
  go_wp2_with fail
  clear hw1 hw2 hw3 s1 s2
  refine hnr.out.mono ?_
  rintro e w4 ⟨gr, Ab, rfl, hrd4, hb4, hgr⟩
  obtain ⟨B, hB⟩ : ∃ B, w3.heap.size = B := ⟨_, rfl⟩
  have hBG := hide (show B = G + 1 + 1 + 1 from by rw [← hB]; exact s3.out)
  rw [hB] at hrd4 hb4 hgr
  obtain ⟨gu, hgu⟩ : ∃ g, w4.heap.size = g := ⟨_, rfl⟩
  obtain ⟨w5, hw5⟩ : ∃ W, w4.alloc (.cells #[.pointer (some ⟨gr, 0, none⟩), .slice none 0 0, .int .i64 (most : Int)] 214) = W := ⟨_, rfl⟩
  have be45 := hide (show Below w4.heap.size w4 w5 from by rw [← hw5]; exact (Below.refl _ w4).alloc (Nat.le_refl _) _)
  have hB4 : B ≤ w4.heap.size := by rw [← hB]; exact hb4.size
  have u5 := hide (show UAt B gu gr most bs w5 0 [] from ⟨none, 0, Ab, by rw [← hw5, ← hgu]; exact Blk.new w4 _ _, hrd4.below be45.out, Ow.nil _ _ _, by rw [← hgu]; exact hB4, hgr, (fun k hk => by cases hk), Nat.zero_le _, hl.out, Nat.zero_le _, hm.out⟩)
  have b5 := hide (show Below B w3 w5 from hb4.trans (be45.out.mono hB4))
  clear hnr hrd4 hb4 hgr be45 hB4 hB
  go_wp2
  clear hw5 hgu hmf
  go_loopg [20] F (fun gk _ wr => ∃ (a' : Nat) (o' : List UInt8), Hid (Inf.blocks (Bit.bitsOf bs) most F gk a' o' = R0) ∧ Hid (8 * bs.length < a' + gk) ∧ Hid (UAt B gu gr most bs wr a' o') ∧ Hid (Below B w3 wr))
  case atStart => exact ⟨0, [], hR0, hide (by have := hF.out; omega), u5, b5⟩
  case round =>
    clear hR0 u5 b5
    obtain ⟨a', o', hR, hF', u, b⟩ := hrel
    obtain ⟨g, rfl⟩ : ∃ g, gk = g + 1 := ⟨gk - 1, by have := u.out.bounds.1; have := hF'.out; omega⟩
    have hR1 := hide (show Inf.bind (Inf.block (Bit.bitsOf bs) most F) (fun fin => if fin then Inf.ret () else Inf.blocks (Bit.bitsOf bs) most F g) a' o' = R0 from hR.out)
    have hbl := hide (ublock u.out F (by have := hF.out; omega) _ rfl)
    clear hR u
    go_wp2_with fail
    refine UP.go hbl.out (fun er w6 e6 b6 k6 => ?_) ?_
    · have hR2 := hR1.out.symm.trans (Inf.bind_err e6)
      have b6 := b.out.trans b6
      have ka6 := ka3.out.below b6 (by have := hBG.out; omega)
      have kb6 := kb3.out.below b6 (by have := hBG.out; omega)
      have kc6 := kc3.out.below b6 (by have := hBG.out; omega)
      have hRR : RR = .inl er := by rw [hfin.out, hR2]; rfl
      refine leaves_cons (f := 146) (args := #[.pointer (some ⟨G, 0, none⟩), .pointer (some ⟨G + 1, 0, none⟩), .pointer (some ⟨G + 1 + 1, 0, none⟩)]) (by simp) (by simp [go_sem]) ?_
      refine (catch_stop G (G + 1) (G + 1 + 1) _ _ _ er [] w6 ka6 kb6 kc6).mono ?_
      rintro e u' w8 ⟨rfl, rfl, ka, kb, kc, hc⟩
      have x0 := ka.cell 0
      have y0 := kb.cell 0
      have z0 := kc.cell 0
      have hbel : Below w.heap.size w w8 := by
        rw [hG]
        exact (b3.out.trans (b6.mono (by have := hBG.out; omega))).trans (hc.to_below (Nat.le_of_lt ka6.lt) (fun k hk => by omega))
      clear ka kb kc hc
      simp [Leaves, settle, results, Tryz.results115, go_sem, x0, y0, z0]
      exact ⟨hbel, .inl ⟨er, hRR, rfl⟩⟩
    · intro fin a6 o6 w6 e6 u6 b6 k6
      have hR2 := (Inf.bind_ok e6).symm.trans hR1.out
      have hF6 := hide (show 8 * bs.length < a6 + g from by
        have h1 := hF'.out
        have h2 := Inf.block_some e6
        omega)
      have b6 := hide (b.out.trans b6)
      have u6 := hide u6
      clear hR1 hbl e6 b hF' k6
      cases fin with
      | false =>
        have hR3 := hide (show Inf.blocks (Bit.bitsOf bs) most F g a6 o6 = R0 from hR2)
        clear hR2
        go_wp2
        go_roundg g
        case rel => exact ⟨a6, o6, hR3, hF6, u6, b6⟩
        case measure => omega
      | true =>
        have hR3 := hide (show Sum.inr ((), a6, o6) = R0 from hR2)
        clear hR2 hF6
        have hal := hide (ualign u6.out)
        have c0 := u6.out.cell0
        go_wp2_with fail
        refine hal.out.mono ?_
        rintro e w7 ⟨rfl, u7, b7, _⟩
        obtain ⟨A7, c7, d0, d1, ho7, Ab7, hrd7⟩ := uat u7
        have hAt := hide (rat_ok gr Ab7 bs _ w7.drew B (hrd7.below (below_drewN (Below.refl _ w7) 1)))
        have b7 := hide (b6.out.trans b7)
        have ka7 := ka3.out.below b7.out (by have := hBG.out; omega)
        have kb7 := kb3.out.below b7.out (by have := hBG.out; omega)
        have kc7 := kc3.out.below b7.out (by have := hBG.out; omega)
        have x0 := ka7.cell 0
        have y0 := kb7.cell 0
        have z0 := kc7.cell 0
        have fx := ka7.free 0
        have fy := kb7.free 0
        have fz := kc7.free 0
        have nga : gu ≠ G := by obtain ⟨_, _, _, h, _⟩ := u7; exact fun e => (h.same ka7 (by decide) e)
        have ngb : gu ≠ G + 1 := by obtain ⟨_, _, _, h, _⟩ := u7; exact fun e => (h.same kb7 (by decide) e)
        have ngc : gu ≠ G + 1 + 1 := by obtain ⟨_, _, _, h, _⟩ := u7; exact fun e => (h.same kc7 (by decide) e)
        have ka7 := hide ka7
        have kb7 := hide kb7
        have kc7 := hide kc7
        have u7 := hide u7
        have hBg := hide (show B ≤ w7.heap.size from u7.out.size)
        obtain ⟨N, hN⟩ : ∃ N, o6.length = N := ⟨_, rfl⟩
        rw [hN] at d1
        obtain ⟨X, hX⟩ : ∃ X, a6 + Bit.gap a6 = X := ⟨_, rfl⟩
        rw [hX] at hAt
        have hXb : X ≤ 8 * 1048576 := by have := u7.out.bounds; rw [hX] at this; omega
        have hXI : (X : Int) ≤ 8388608 := by omega
        obtain ⟨Q, hQ⟩ : ∃ Q, X / 8 = Q := ⟨_, rfl⟩
        have hRR : RR = .inr (o6, Q) := by rw [hfin.out, ← hR3.out, ← hQ, ← hX]; rfl
        have hq1 : (X : Int) / 8 = (Q : Int) := by omega
        have hq2 : IntKind.i64.wrap (Q : Int) = (Q : Int) := by rw [IntKind.wrap_i64]; omega
        obtain ⟨W, hW⟩ : ∃ W, (((w7.setCell ⟨G, 0, none⟩ (.slice A7 N c7)).setCell ⟨G + 1, 0, none⟩ (.int .i64 (Q : Int))).setCell ⟨G + 1 + 1, 0, none⟩ (.int .i64 0)).drew = W := ⟨_, rfl⟩
        have kaW := hide (show Blk W G 22 #[.slice A7 N c7] from by rw [← hW]; exact ((ka7.out.set 0 _).far (by simp) _).far (by simp; omega) _)
        have kbW := hide (show Blk W (G + 1) 3 #[.int .i64 (Q : Int)] from by rw [← hW]; exact ((kb7.out.far (by simp) _).set 0 _).far (by simp) _)
        have kcW := hide (show Blk W (G + 1 + 1) 31 #[.int .i64 0] from by rw [← hW]; exact ((kc7.out.far (by simp; omega) _).far (by simp) _).set 0 _)
        have bW := hide (show Below w.heap.size w W from by
          rw [hG, ← hW]
          exact ((((b3.out.trans (b7.out.mono (by have := hBG.out; omega))).setCell (by simp) _).setCell (by simp) _).setCell (by simp; omega) _).drew)
        have hoW := hide (show Ow W w.heap.size 5 A7 N c7 (o6.map bv) from by
          have hch : Chg (fun k => k = G ∨ k = G + 1 ∨ k = G + 1 + 1) w7 W := by
            rw [← hW]
            exact ((((Chg.refl _ w7).setCell (p := ⟨G, 0, none⟩) (.inr (.inl rfl)) _).setCell (p := ⟨G + 1, 0, none⟩) (.inr (.inr (.inl rfl))) _).setCell (p := ⟨G + 1 + 1, 0, none⟩) (.inr (.inr (.inr rfl))) _).drew
          have h1 := ho7
          rw [hN] at h1
          have h2 := h1.chg hch (by
            rintro k hk (h | h | h)
            · exact h1.ne ka7.out (by decide) (by rw [hk, h])
            · exact h1.ne kb7.out (by decide) (by rw [hk, h])
            · exact h1.ne kc7.out (by decide) (by rw [hk, h]))
          exact h2.base_le (fun g hg => by have := (h1.blk_lt g hg).1; have := hBG.out; omega))
        have hRR := hide hRR
        have ho7 := hide ho7
        have hN := hide hN
        clear hal c0 b6 u6 hrd7 hX hXb hR3 hQ
        go_wp2
        refine wp_region_noPanic ?_
        go_region_with (go_at_call 149; (with_reducible refine (hAt.out).mono ?_); rintro e w8 ⟨rfl, rfl⟩)
        all_goals (
          refine NoPanic.normal ?_
          try rw [hW]
          go_wp2
          refine leaves_cons (f := 146) (args := #[.pointer (some ⟨G, 0, none⟩), .pointer (some ⟨G + 1, 0, none⟩), .pointer (some ⟨G + 1 + 1, 0, none⟩)]) (by simp) (by simp [go_sem]) ?_
          refine (catch_none G (G + 1) (G + 1 + 1) _).mono ?_
          rintro e u' w9 ⟨rfl, rfl, hb9⟩
          have x9 := (kaW.out.below hb9 kaW.out.lt).cell 0
          have y9 := (kbW.out.below hb9 kbW.out.lt).cell 0
          have z9 := (kcW.out.below hb9 kcW.out.lt).cell 0
          have hbel : Below w.heap.size w w9 := bW.out.trans (hb9.mono bW.out.size)
          have ho9 := hoW.out.below hb9
          simp [Leaves, settle, results, Tryz.results115, go_sem, x9, y9, z9]
          exact ⟨hbel, .inr ⟨o6, Q, A7, c7, hRR.out, by rw [hN.out], by rw [hN.out]; exact ho9⟩⟩)
end Go.Proofs.YtaapjampmnanmaaGreat
namespace Go.Proofs.YtaapjampmnanmaaGreat
open Go.RowKit
set_option linter.unusedVariables false
theorem idata_at (A : Option Addr) (c n : Nat) (bs : List UInt8) (most F : Nat) (mi : Int) (w : World) (hmi : (most : Int) = mi) (hr : Rd w w.heap.size A n (bs.map bv)) (hl : n ≤ 1048576) (hm : most ≤ 1048576) (hF : 8 * n < F) :
    Calls Tryz.prog 115 #[.slice A n c, .int .i64 mi] w (InfPost w (Inf.data (Bit.bitsOf bs) most F)) := by
  obtain rfl : bs.length = n := hr.len
  subst hmi
  exact idata_any A c bs most F w hr hl hm hF
end Go.Proofs.YtaapjampmnanmaaGreat
namespace Go.Proofs.YtaapjampmnanmaaGreat
open Go.RowKit
set_option linter.unusedVariables false
theorem bits8 (bs : List UInt8) : (Bit.bitsOf bs).length % 8 = 0 := by rw [Bit.bitsOf_length]; omega
theorem Inf.data_pos (l : List Bool) (h8 : l.length % 8 = 0) (most F n : Nat) (o : List UInt8) (h : Inf.data l most (F + 1) = .inr (o, n)) : 1 ≤ n := by
  rcases Nat.eq_zero_or_pos n with h0 | h0
  · subst h0
    have h1 := (Inf.data_pre h (List.nil_prefix (l := l)) rfl).1 (Nat.zero_le _)
    have h2 : Inf.data [] most (F + 1) = .inl 2 := rfl
    rw [h2] at h1
    cases h1
  · exact h0
theorem Rd.upto {w : World} {B n : Nat} {A : Option Addr} {bs : List UInt8} (h : Rd w B A n (bs.map bv)) (k : Nat) (hk : k ≤ n) : Rd w B A k ((bs.take k).map bv) := by
  have := h.sub 0 k (by omega)
  rw [List.drop_zero, ← List.map_take] at this
  cases A with
  | none => exact this
  | some a => exact this
end Go.Proofs.YtaapjampmnanmaaGreat
