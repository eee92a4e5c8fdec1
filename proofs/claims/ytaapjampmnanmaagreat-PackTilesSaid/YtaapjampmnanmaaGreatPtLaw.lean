/- Layer 13 and 14: what is packed unpacks to what it was, wherever it lies; how long it is: plain law. The condition: at most 65535 bytes. Layer 13 (arch): the header that is read from a header's bytes is that header: plain law. The conditions: its numbers are in their ranges. Layer 14 (pack): an archive that is made tells each item's tile, the metadata, and nothing else: plain law. The conditions: the items are sorted and right; at most 40, of 3000 bytes together with the metadata. -/
import Derived.Test.YtaapjampmnanmaaGreatArchUn
import Derived.Test.YtaapjampmnanmaaGreatPkPacked
import Derived.Test.YtaapjampmnanmaaGreatInfY
import Derived.Test.YtaapjampmnanmaaGreatDirY
import Derived.Test.YtaapjampmnanmaaGreatArchY
import Derived.Test.YtaapjampmnanmaaGreatArchPH
import Derived.Test.YtaapjampmnanmaaGreatArchTl
import Derived.Test.YtaapjampmnanmaaGreatBdX
namespace Go.Proofs.YtaapjampmnanmaaGreat
open Go.RowKit Go.Shelf
set_option linter.unusedVariables false
set_option linter.unusedSimpArgs false
theorem Def.tokB_pos (t : Nat × Nat) : 1 ≤ (Def.tokB t).length := by
  have h : ∀ s, 1 ≤ (Def.litB s).length := fun s => by
    have := (fixL_le s).2
    rw [Def.litB, word_len]
    omega
  unfold Def.tokB
  split
  · exact h _
  · have := h (257 + Def.top Def.lenB t.1 29)
    simp only [List.length_append]
    omega
theorem Def.toksB_ge (l : List (Nat × Nat)) : l.length ≤ (l.flatMap Def.tokB).length := by
  induction l with
  | nil => simp
  | cons t l ih =>
    have := Def.tokB_pos t
    rw [List.flatMap_cons, List.length_append, List.length_cons]
    omega
theorem Def.fixB_ge (bs : List UInt8) : (Def.parse bs).length < (Def.fixB bs).length := by
  have := Def.toksB_ge (Def.parse bs)
  simp only [Def.fixB, List.length_append, List.length_cons, List.length_nil]
  omega
theorem Def.fixB_lin (bs : List UInt8) : (Def.fixB bs).length ≤ 63 + 60 * bs.length := by
  have h1 := Def.toksB_len (Def.parse bs)
  have h2 := Def.toks_len bs bs.length 0
  rw [show Def.toks bs bs.length 0 = Def.parse bs from rfl] at h2
  have h3 : (Def.litB 256).length ≤ 60 := by
    have h1 := (fixL_le 256).1
    rw [Def.litB, word_len]
    omega
  simp only [Def.fixB, List.length_append, List.length_cons, List.length_nil]
  omega
theorem Gz.wrap_lin (bs : List UInt8) : (Gz.wrap bs).length ≤ 28 + 8 * bs.length ∧ (Def.parse bs).length < 8 * (Gz.wrap bs).length := by
  have h0 := Gz.wrap_len bs
  have h1 := Def.fixB_ge bs
  have h2 := Def.fixB_lin bs
  have h3 : (Def.outB false bs).length = Bit.size (Def.fixB bs).length := Bit.pack_length _
  unfold Bit.size at h3
  omega
theorem pkd_lin (gz : Bool) (bs : List UInt8) : (pkd gz bs).length ≤ 28 + 8 * bs.length := by
  cases gz with
  | true => exact (Gz.wrap_lin bs).1
  | false => show bs.length ≤ _; omega
theorem Inf.block_fixed' (bs : List UInt8) (most F : Nat) (l y : List Bool) (hm : bs.length ≤ most) (hF : (Def.parse bs).length < F) (h : l = Def.fixB bs ++ y) : Inf.block l most F 0 [] = .inr (true, (Def.fixB bs).length, bs) := by
  have h0 : l.drop 0 = [true] ++ ([true, false] ++ ((Def.rest bs 0).flatMap Def.tokB ++ (Def.litB 256 ++ y))) := by
    rw [List.drop_zero, h, Def.fixB, show Def.parse bs = Def.rest bs 0 from rfl]
    simp only [List.append_assoc, List.cons_append, List.nil_append]
  have e1 : Inf.bits l 1 0 [] = .inr (Bit.num [true], 0 + [true].length, []) := Inf.bits_at (o := []) h0 (Nat.zero_le _) (n := 1) rfl
  have g1 := drop_more h0
  have a1 := drop_le h0 (Nat.zero_le _)
  have e2 : Inf.bits l 2 (0 + [true].length) [] = .inr (Bit.num [true, false], 0 + [true].length + [true, false].length, []) := Inf.bits_at (o := []) g1 a1 (n := 2) rfl
  have g2 := drop_more g1
  have a2 := drop_le g1 a1
  have hs := Inf.symbols_is bs most l y hm F 0 _ (Nat.zero_le _) hF a2 g2
  unfold Inf.block
  rw [Inf.bind_ok e1, Inf.bind_ok e2, if_neg (by decide), if_pos (by decide)]
  rw [List.take_zero] at hs
  rw [Inf.bind_ok hs]
  have hl : 0 + [true].length + [true, false].length + ((Def.rest bs 0).flatMap Def.tokB).length + (Def.litB 256).length = (Def.fixB bs).length := by
    rw [Def.fixB, show Def.parse bs = Def.rest bs 0 from rfl]
    simp only [List.length_append, List.length_cons, List.length_nil]
  rw [hl]
  rfl
theorem Inf.data_pack' (bs : List UInt8) (more : List UInt8) (most f : Nat) (hm : bs.length ≤ most) (hF : (Def.parse bs).length < f + 1) : Inf.data (Bit.bitsOf (Def.outB false bs ++ more)) most (f + 1) = .inr (bs, (Def.outB false bs).length) := by
  refine Inf.data_ext (l' := Bit.bitsOf (Def.outB false bs)) ?_ ?_ (by rw [Bit.bitsOf_length]; omega)
  · have hl : Bit.bitsOf (Def.outB false bs) = Def.outL false bs ++ List.replicate (Bit.gap (Def.outL false bs).length) false := Bit.bitsOf_pack _
    have hbl : Inf.block (Bit.bitsOf (Def.outB false bs)) most (f + 1) 0 [] = .inr (true, (Def.outL false bs).length, bs) := Inf.block_fixed' bs most (f + 1) _ _ hm hF hl
    rw [Inf.data_fin, Inf.blocks, Inf.bind_ok hbl, if_pos rfl, show (Def.outB false bs).length = Bit.size (Def.outL false bs).length from Bit.pack_length _]
    show Sum.inr (bs, ((Def.outL false bs).length + Bit.gap (Def.outL false bs).length) / 8) = _
    rw [show ((Def.outL false bs).length + Bit.gap (Def.outL false bs).length) / 8 = Bit.size (Def.outL false bs).length from by unfold Bit.gap Bit.size; omega]
  · have h : ∀ a b : List UInt8, Bit.bitsOf (a ++ b) = Bit.bitsOf a ++ Bit.bitsOf b := by
      intro a b
      induction a with
      | nil => rfl
      | cons x a ih => rw [List.cons_append, Bit.bitsOf, Bit.bitsOf, ih, List.append_assoc]
    rw [h]
    exact List.prefix_append _ _
theorem Gz.member_made' (bs more : List UInt8) (most f : Nat) (hm : bs.length ≤ most) (hF : (Def.parse bs).length < f + 1) : Gz.member (f + 1) most (Gz.wrap bs ++ more) = .inr (bs, (Gz.wrap bs).length) := by
  have h1 := Gz.head_made _ (Gz.wrap_take bs more)
  have h2 := Inf.data_pack' bs ((Gz.le (Crc.sum bs) ++ Gz.le bs.length) ++ more) most f hm hF
  have hl := Gz.wrap_len bs
  unfold Gz.member
  rw [h1]
  show Gz.body (f + 1) most (Gz.wrap bs ++ more) 10 = _
  unfold Gz.body
  rw [Gz.wrap_drop, h2]
  show Gz.bind (Gz.skip _ 8 (10 + (Def.outB false bs).length)) _ = _
  rw [show Gz.skip (Gz.wrap bs ++ more) 8 (10 + (Def.outB false bs).length) = .inr (10 + (Def.outB false bs).length + 8) from if_pos (by rw [List.length_append]; omega)]
  show (if ((Gz.wrap bs ++ more).drop (10 + (Def.outB false bs).length)).take 8 = _ then _ else _) = _
  rw [← List.drop_drop, Gz.wrap_drop, List.drop_left, List.take_append_of_le_length (by simp only [List.length_append, Gz.le_len]; omega), List.take_of_length_le (by simp only [List.length_append, Gz.le_len]; omega), if_pos rfl]
  rw [hl, show 10 + (Def.outB false bs).length + 8 = 18 + (Def.outB false bs).length from by omega]
theorem Gz.all_made (bs : List UInt8) (most n g : Nat) (hn : (Gz.wrap bs).length = n) (hm : bs.length ≤ most) : Gz.all (8 * n + 1) most (g + 1) [] (Gz.wrap bs) = .inr bs := by
  have h := Gz.member_made' bs [] most (8 * n) hm (by have := (Gz.wrap_lin bs).2; omega)
  rw [List.append_nil] at h
  unfold Gz.all
  rw [show most - ([] : List UInt8).length = most from rfl, h]
  show (if (Gz.wrap bs).drop _ = [] then _ else _) = _
  rw [List.drop_length, if_pos rfl]
  rfl
theorem Ar.part_mid {bs p x y : List UInt8} {a n : Nat} (hb : bs = p ++ (x ++ y)) (ha : p.length = a) (hn : x.length = n) : Ar.part bs a n = x ∧ Within a n bs.length := by
  subst hb ha hn
  refine ⟨?_, ?_⟩
  · unfold Ar.part
    rw [List.drop_left, List.take_left]
  · unfold Within
    simp only [List.length_append]
    omega
theorem Ar.unpack_pkd {bs p y : List UInt8} (d : List UInt8) {a n : Nat} {gz : Bool} (hb : bs = p ++ (pkd gz d ++ y)) (ha : p.length = a) (hn : (pkd gz d).length = n) (hd : d.length ≤ 65535) : Ar.unpack bs a n (if gz then 2 else 1) = .inr d := by
  obtain ⟨h1, h2⟩ := Ar.part_mid hb ha hn
  unfold Ar.unpack
  rw [if_pos h2, h1]
  cases gz with
  | true =>
    rw [if_neg (by decide)]
    exact Gz.all_made d 1048576 n n hn (by omega)
  | false =>
    have hn' : d.length = n := hn
    rw [if_pos (by decide), if_neg (by omega)]
    rfl
theorem DirR.pkd {bs p y : List UInt8} (es : List Ent) {a n : Nat} {gz : Bool} (hR : RightE es) (hf : es.length ≤ 40) (hb : bs = p ++ (pkd gz (putB es) ++ y)) (ha : p.length = a) (hn : (pkd gz (putB es)).length = n) : DirR bs (if gz then 2 else 1) a n (es, 0) := by
  have hu := Ar.unpack_pkd (putB es) hb ha hn (by have := putB_len es; omega)
  refine ⟨fun e h => ?_, fun d h => ?_⟩
  · rw [hu] at h; cases h
  · rw [hu] at h; cases h; exact getR_put hR
end Go.Proofs.YtaapjampmnanmaaGreat
namespace Go.Proofs.YtaapjampmnanmaaGreat
open Go.RowKit
set_option linter.unusedVariables false
set_option linter.unusedSimpArgs false
theorem byt_num (bs : List UInt8) (p : Nat) : byt bs p = (num bs p 1 : Int) := by
  unfold byt
  rw [num, num]
  simp
theorem num_skip (xs ys : List UInt8) (n k : Nat) (hn : xs.length = n) : ∀ p, n ≤ p → num (xs ++ ys) p k = num ys (p - n) k := by
  induction k with
  | zero => intro p _; rfl
  | succ k ih =>
    intro p hp
    rw [num, num, ih (p + 1) (by omega), show p + 1 - n = p - n + 1 by omega, List.getD_eq_getElem?_getD, List.getD_eq_getElem?_getD, List.getElem?_append_right (by omega), hn]
theorem num_le8 (v : Nat) (ys : List UInt8) (p k : Nat) (h : 8 ≤ p) : num (le 8 v ++ ys) p k = num ys (p - 8) k := num_skip _ ys 8 k (le_len 8 v) p h
theorem num_le4 (v : Nat) (ys : List UInt8) (p k : Nat) (h : 4 ≤ p) : num (le 4 v ++ ys) p k = num ys (p - 4) k := num_skip _ ys 4 k (le_len 4 v) p h
theorem num_mag (ys : List UInt8) (p k : Nat) (h : 8 ≤ p) : num (mag ++ ys) p k = num ys (p - 8) k := num_skip _ ys 8 k rfl p h
theorem num_cons (x : UInt8) (ys : List UInt8) (p k : Nat) (h : 1 ≤ p) : num (x :: ys) p k = num ys (p - 1) k := num_skip [x] ys 1 k rfl p h
theorem num_here (x : UInt8) (ys : List UInt8) : num (x :: ys) 0 1 = x.toNat := by rw [num, num]; simp
theorem le_getD (k v i : Nat) (ys : List UInt8) (h : i < k) : (le k v ++ ys).getD i 0 = leB v i := by
  rw [List.getD_eq_getElem?_getD, List.getElem?_append_left (by rw [le_len]; exact h)]
  unfold le
  rw [List.getElem?_map, List.getElem?_range h]
  rfl
theorem num_put (k v : Nat) (ys : List UInt8) : ∀ j, j ≤ k → num (le k v ++ ys) 0 j = v % 256 ^ j := by
  intro j
  induction j with
  | zero => intro _; simp [num, Nat.mod_one]
  | succ j ih =>
    intro hj
    rw [num_up, ih (by omega), Nat.zero_add, le_getD k v j ys (by omega), leB, UInt8.toNat_ofNat', Nat.mod_eq_of_lt (b := 2 ^ 8) (by omega), Nat.pow_succ, Nat.mod_mul, Nat.mul_comm (256 ^ j)]
theorem num_here8 (v : Nat) (ys : List UInt8) (h : v ≤ 18446744073709551615) : num (le 8 v ++ ys) 0 8 = v := by
  rw [num_put 8 v ys 8 (Nat.le_refl _), show (256 : Nat) ^ 8 = 18446744073709551616 from by decide]
  omega
theorem num_here4 (x : Int) (ys : List UInt8) : num (le 4 (um x) ++ ys) 0 4 = (x % 4294967296).toNat := by
  rw [num_put 4 _ ys 4 (Nat.le_refl _), show (256 : Nat) ^ 4 = 4294967296 from by decide]
  unfold um
  omega
theorem b8_nat (x : Int) (h : 0 ≤ x ∧ x ≤ 255) : ((b8 x).toNat : Int) = x := by
  unfold b8
  rw [UInt8.toNat_ofNat', Nat.mod_eq_of_lt (by omega)]
  omega
theorem sg_put (k : Nat) (x : Int) (h : -2147483648 ≤ x ∧ x ≤ 2147483647) (hk : k = (x % 4294967296).toNat) : (if 2147483648 ≤ k then (k : Int) - 4294967296 else (k : Int)) = x := by
  split <;> omega
theorem headB_row (h : Hd) (ys : List UInt8) : headB h ++ ys = mag ++ (le 8 h.r0 ++ (le 8 h.r1 ++ (le 8 h.m0 ++ (le 8 h.m1 ++ (le 8 h.l0 ++ (le 8 h.l1 ++ (le 8 h.d0 ++ (le 8 h.d1 ++ (le 8 h.c0 ++ (le 8 h.c1 ++ (le 8 h.c2 ++ ((if h.cl then 1 else 0) :: b8 h.inn :: b8 h.out :: b8 h.kind :: b8 h.minz :: b8 h.maxz :: (le 4 (um h.minx) ++ (le 4 (um h.miny) ++ (le 4 (um h.maxx) ++ (le 4 (um h.maxy) ++ (b8 h.at' :: (le 4 (um h.cx) ++ (le 4 (um h.cy) ++ ys))))))))))))))))))) := by
  simp only [headB, pts, sml, cnt, prt, List.append_assoc, List.cons_append, List.nil_append]
structure Hd.In (h : Hd) : Prop where
  ok : h.Ok
  cs : h.c0 ≤ 18446744073709551615 ∧ h.c1 ≤ 18446744073709551615 ∧ h.c2 ≤ 18446744073709551615
  a : FormA h
  b : FormB h
  c : FormC h
set_option maxRecDepth 100000 in
set_option maxHeartbeats 2000000 in
theorem headOf_put (h : Hd) (ys : List UInt8) (hi : h.In) : headOf (headB h ++ ys) = h := by
  obtain ⟨⟨u⟩, cs, ⟨a1, a2, a3⟩, ⟨z1, z2, z3, _⟩, ⟨s1, s2, s3, _, _⟩⟩ := hi
  have e := headB_row h ys
  rw [e]
  unfold Pack at a1 a2
  unfold Zoom at z1 z2 z3
  unfold Spot at s1 s2 s3
  obtain ⟨r0, r1, m0, m1, l0, l1, d0, d1, c0, c1, c2, cl, inn, out, kind, minz, maxz, minx, miny, maxx, maxy, cx, cy, at'⟩ := h
  simp only at *
  unfold headOf sg
  simp only [byt_num]
  simp (disch := decide) only [num_le8, num_le4, num_mag, num_cons, Nat.reduceSub]
  rw [num_here8 r0 _ (by omega), num_here8 r1 _ (by omega), num_here8 m0 _ (by omega), num_here8 m1 _ (by omega), num_here8 l0 _ (by omega), num_here8 l1 _ (by omega), num_here8 d0 _ (by omega), num_here8 d1 _ (by omega), num_here8 c0 _ (by omega), num_here8 c1 _ (by omega), num_here8 c2 _ (by omega)]
  simp only [num_here, num_here4]
  rw [b8_nat inn (by omega), b8_nat out (by omega), b8_nat kind (by omega), b8_nat minz (by omega), b8_nat maxz (by omega), b8_nat at' (by omega)]
  rw [sg_put _ minx (by omega) rfl, sg_put _ miny (by omega) rfl, sg_put _ maxx (by omega) rfl, sg_put _ maxy (by omega) rfl, sg_put _ cx (by omega) rfl, sg_put _ cy (by omega) rfl]
  congr 1
  cases cl <;> rfl
theorem headB_magic (h : Hd) (ys : List UInt8) : Magic (headB h ++ ys) := by
  have e := headB_row h ys
  rw [e]
  refine ⟨List.take_left' rfl, ?_⟩
  simp only [byt_num]
  simp (disch := decide) only [num_le8, num_le4, num_mag, num_cons, Nat.reduceSub]
  rw [num_here]
  cases h.cl <;> decide
theorem headV_put (h : Hd) (ys : List UInt8) (hi : h.In) (hn : (headB h ++ ys).length ≤ 4194304) (r : Int) (hr : RightR (headOf (headB h ++ ys)) (headB h ++ ys).length r) (hd : FormD h ((headB h ++ ys).length : Int)) : headV (headB h ++ ys) r = (h, 0) := by
  rw [headOf_put h ys hi] at hr
  have h0 : r = 0 := hr.2.2.2.2 hi.a hi.b hi.c hd
  have h1 : 127 ≤ (headB h ++ ys).length := by rw [List.length_append, headB_len]; omega
  rw [headV, if_neg (by omega), if_neg (by omega), if_pos (headB_magic h ys), if_pos h0, headOf_put h ys hi]
end Go.Proofs.YtaapjampmnanmaaGreat
namespace Go.Proofs.YtaapjampmnanmaaGreat
open Go.RowKit Go.Shelf
set_option linter.unusedVariables false
set_option linter.unusedSimpArgs false
/-! ### Which entry covers an item -/
structure EnS.Has (pk : List UInt8 → List UInt8) (X : Nat → It) (s : EnS) (k : Nat) : Prop where
  end' : ∀ e, s.out.getLast? = some e → e.off = EnS.off pk s.texts (EnS.at s.texts s.last) ∧ e.len = (pk s.last).length ∧ s.last ∈ s.texts
  cov : ∀ j, j < k → ∃ e ∈ s.out, e.id ≤ (X j).id ∧ (X j).id < e.id + e.run ∧ e.off = EnS.off pk s.texts (EnS.at s.texts (X j).bs) ∧ e.len = (pk (X j).bs).length ∧ (X j).bs ∈ s.texts
  only : ∀ e ∈ s.out, ∀ id, e.id ≤ id → id < e.id + e.run → ∃ j, j < k ∧ (X j).id = id
  txs : ∀ t ∈ s.texts, ∃ j, j < k ∧ (X j).bs = t
theorem EnS.at_more (texts : List (List UInt8)) (bs t : List UInt8) (h : t ∈ texts) : EnS.at (EnS.more texts bs) t = EnS.at texts t := by
  unfold EnS.more EnS.at
  split
  · rfl
  · rw [List.idxOf_append, if_pos h]
theorem EnS.at_le (texts : List (List UInt8)) (t : List UInt8) : EnS.at texts t ≤ texts.length := List.idxOf_le_length
theorem EnS.off_more (pk : List UInt8 → List UInt8) (texts : List (List UInt8)) (bs : List UInt8) (k : Nat) (hk : k ≤ texts.length) : EnS.off pk (EnS.more texts bs) k = EnS.off pk texts k := by
  unfold EnS.more
  split
  · rfl
  · exact EnS.off_snoc pk texts bs k hk
theorem EnS.mem_more (texts : List (List UInt8)) (bs : List UInt8) : bs ∈ EnS.more texts bs := by
  unfold EnS.more
  split
  · assumption
  · simp
theorem EnS.more_mem (texts : List (List UInt8)) (bs t : List UInt8) (h : t ∈ texts) : t ∈ EnS.more texts bs := by
  unfold EnS.more
  split
  · exact h
  · exact List.mem_append_left _ h
theorem EnS.at_new (texts : List (List UInt8)) (bs : List UInt8) : EnS.at (EnS.more texts bs) bs = EnS.at texts bs := by
  unfold EnS.more EnS.at
  split
  · rfl
  · rename_i h
    rw [List.idxOf_append, if_neg h, List.idxOf_eq_length h]
    simp
theorem EnS.has (pk : List UInt8 → List UInt8) (X : Nat → It) : ∀ k, (EnS.upto pk X k).Has pk X k := by
  intro k
  induction k with
  | zero => exact ⟨fun e h => by simp [EnS.upto] at h, fun j h => absurd h (Nat.not_lt_zero _), fun e h => by simp [EnS.upto] at h, fun t h => by simp [EnS.upto] at h⟩
  | succ k ih =>
    rw [EnS.upto]
    generalize EnS.upto pk X k = S at *
    by_cases hj : S.joins (X k).id (X k).bs
    · rw [EnS.step_join hj]
      obtain ⟨hlast, e, he, hs⟩ := hj
      have hne : S.out ≠ [] := by intro h; rw [h] at he; cases he
      obtain ⟨q, hq⟩ : ∃ q, S.out.length = q + 1 := ⟨S.out.length - 1, by have := List.length_pos_iff.2 hne; omega⟩
      have hql : q < S.out.length := by omega
      have hqe : S.out[q]? = some e := by rw [List.getLast?_eq_getElem?, hq, Nat.add_sub_cancel] at he; exact he
      have hout := EnS.join_out S e he
      rw [hq, Nat.add_sub_cancel] at hout
      have hnew : ({ e with run := e.run + 1 } : Ent) ∈ S.out.set q { e with run := e.run + 1 } := List.mem_iff_getElem?.2 ⟨q, List.getElem?_set_self hql⟩
      obtain ⟨e1, e2, e3⟩ := ih.end' e he
      refine ⟨?_, ?_, ?_, ?_⟩
      · intro x hx
        rw [hout, List.getLast?_eq_getElem?, List.length_set, hq, Nat.add_sub_cancel, List.getElem?_set_self hql] at hx
        injection hx with hx
        subst hx
        exact ⟨e1, e2, e3⟩
      · intro j hjk
        rw [hout]
        by_cases hjk' : j < k
        · obtain ⟨x, hx, h1, h2, h3, h4, h5⟩ := ih.cov j hjk'
          obtain ⟨i, hi⟩ := List.mem_iff_getElem?.1 hx
          by_cases hiq : i = q
          · rw [hiq, hqe] at hi
            injection hi with hi
            subst hi
            exact ⟨_, hnew, h1, Nat.lt_of_lt_of_le h2 (by simp only; omega), h3, h4, h5⟩
          · exact ⟨x, List.mem_iff_getElem?.2 ⟨i, by rw [List.getElem?_set_ne (by omega)]; exact hi⟩, h1, h2, h3, h4, h5⟩
        · obtain rfl : j = k := by omega
          rw [← hlast]
          exact ⟨_, hnew, by simp only; omega, by simp only; omega, e1, e2, e3⟩
      · intro x hx id h1 h2
        rw [hout] at hx
        rcases List.mem_or_eq_of_mem_set hx with h | rfl
        · obtain ⟨j, hj, he⟩ := ih.only x h id h1 h2
          exact ⟨j, by omega, he⟩
        · simp only at h1 h2
          by_cases h3 : id < e.id + e.run
          · obtain ⟨j, hj, he'⟩ := ih.only e (List.mem_of_getLast? he) id h1 h3
            exact ⟨j, by omega, he'⟩
          · exact ⟨k, by omega, by omega⟩
      · intro t ht
        obtain ⟨j, hj, he⟩ := ih.txs t ht
        exact ⟨j, by omega, he⟩
    · rw [EnS.step_add hj]
      refine ⟨?_, ?_, ?_, ?_⟩
      · intro x hx
        unfold EnS.add at hx ⊢
        simp only [List.getLast?_append, List.getLast?_singleton, Option.some_or, Option.some.injEq] at hx ⊢
        subst hx
        exact ⟨by rw [EnS.at_new, EnS.off_more _ _ _ _ (EnS.at_le _ _)], rfl, EnS.mem_more _ _⟩
      · intro j hjk
        by_cases hjk' : j < k
        · obtain ⟨x, hx, h1, h2, h3, h4, h5⟩ := ih.cov j hjk'
          exact ⟨x, List.mem_append_left _ hx, h1, h2, by rw [h3]; show _ = EnS.off pk (EnS.more _ _) (EnS.at (EnS.more _ _) _); rw [EnS.at_more _ _ _ h5, EnS.off_more _ _ _ _ (EnS.at_le _ _)], h4, EnS.more_mem _ _ _ h5⟩
        · obtain rfl : j = k := by omega
          exact ⟨_, List.mem_append_right _ (List.mem_singleton.2 rfl), Nat.le_refl _, Nat.lt_succ_self _, by show _ = EnS.off pk (EnS.more _ _) (EnS.at (EnS.more _ _) _); rw [EnS.at_new, EnS.off_more _ _ _ _ (EnS.at_le _ _)], rfl, EnS.mem_more _ _⟩
      · intro x hx id h1 h2
        rcases List.mem_append.1 hx with h | h
        · obtain ⟨j, hj, he⟩ := ih.only x h id h1 h2
          exact ⟨j, by omega, he⟩
        · obtain rfl := List.mem_singleton.1 h
          simp only at h1 h2
          exact ⟨k, by omega, by omega⟩
      · intro t ht
        have ht' : t ∈ EnS.more S.texts (X k).bs := ht
        unfold EnS.more at ht'
        split at ht'
        · obtain ⟨j, hj, he⟩ := ih.txs t ht'
          exact ⟨j, by omega, he⟩
        · rcases List.mem_append.1 ht' with h | h
          · obtain ⟨j, hj, he⟩ := ih.txs t h
            exact ⟨j, by omega, he⟩
          · exact ⟨k, by omega, (List.mem_singleton.1 h).symm⟩
/-! ### Lists of lists -/
theorem flat_split (L : List (List UInt8)) (i : Nat) (hi : i < L.length) : L.flatten = (L.take i).flatten ++ (L[i] ++ (L.drop (i + 1)).flatten) := by
  conv => lhs; rw [← List.take_append_drop i L, List.flatten_append, List.drop_eq_getElem_cons hi, List.flatten_cons]
theorem off_len (pk : List UInt8 → List UInt8) (texts : List (List UInt8)) (i : Nat) : (((texts.map pk).take i).flatten).length = EnS.off pk texts i := by
  unfold EnS.off
  rw [← List.map_take, List.length_flatten, List.map_map]
  rfl
/-! ### Which entry is found -/
theorem find_yes {es : List Ent} {id i : Nat} (hR : RightE es) (hi : i < es.length) (h1 : es[i].id ≤ id) (h2 : 0 < es[i].run → id < es[i].id + es[i].run) (h3 : ∀ h : i + 1 < es.length, id < es[i + 1].id) : FindR es id (es[i], true) := by
  refine ⟨fun h => absurd hR h, fun _ => ⟨i + 1, ⟨hi, fun j hj hji => ?_, fun j hj hij => ?_⟩, ?_⟩⟩
  · have := hR.asc j i hj hi (by omega)
    omega
  · have h4 := h3 (by omega)
    have := hR.asc (i + 1) j (by omega) hj hij
    omega
  · have hg : es.getD i Ent.zero = es[i] := by rw [List.getD_eq_getElem?_getD, List.getElem?_eq_getElem hi]; rfl
    unfold Fd
    rw [if_neg (by omega), Nat.add_sub_cancel, hg, if_neg]
    intro h
    have := h2 h.1
    omega
theorem find_run {es : List Ent} {id i : Nat} (hR : RightE es) (hi : i < es.length) (h1 : es[i].id ≤ id) (h2 : id < es[i].id + es[i].run) : FindR es id (es[i], true) := by
  refine find_yes hR hi h1 (fun _ => h2) (fun h => ?_)
  have h3 := hR.2.2.2 i h
  unfold Ent.next at h3
  omega
theorem find_no {es : List Ent} {id : Nat} (hR : RightE es) (hr : ∀ e ∈ es, 1 ≤ e.run) (hn : ∀ e ∈ es, e.id ≤ id → ¬ id < e.id + e.run) : FindR es id (Ent.zero, false) := by
  obtain ⟨i, hi⟩ := cut_ex es id hR.asc
  refine ⟨fun h => absurd hR h, fun _ => ⟨i, hi, ?_⟩⟩
  unfold Fd
  by_cases h0 : i = 0
  · rw [if_pos h0]
  · have hil : i - 1 < es.length := by have := hi.1; omega
    have hg : es.getD (i - 1) Ent.zero = es[i - 1] := by rw [List.getD_eq_getElem?_getD, List.getElem?_eq_getElem hil]; rfl
    have h1 := hi.2.1 (i - 1) hil (by omega)
    have h2 := hn _ (List.getElem_mem hil) h1
    have h3 := hr _ (List.getElem_mem hil)
    rw [if_neg h0, hg, if_pos ⟨by omega, by omega⟩]
theorem find_top {es : List Ent} (hR : RightE es) (hr : ∀ e ∈ es, e.run = 0) (id : Nat) : FindR es id (Ent.zero, false) ∨ ∃ j, ∃ hj : j < es.length, FindR es id (es[j], true) := by
  obtain ⟨i, hi⟩ := cut_ex es id hR.asc
  by_cases h0 : i = 0
  · exact .inl ⟨fun h => absurd hR h, fun _ => ⟨i, hi, by unfold Fd; rw [if_pos h0]⟩⟩
  · have hil : i - 1 < es.length := by have := hi.1; omega
    refine .inr ⟨i - 1, hil, fun h => absurd hR h, fun _ => ⟨i, hi, ?_⟩⟩
    have hg : es.getD (i - 1) Ent.zero = es[i - 1] := by rw [List.getD_eq_getElem?_getD, List.getElem?_eq_getElem hil]; rfl
    have h3 := hr _ (List.getElem_mem hil)
    unfold Fd
    rw [if_neg h0, hg, if_neg (by omega)]
end Go.Proofs.YtaapjampmnanmaaGreat
