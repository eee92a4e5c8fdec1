/- slices.Grow and slices.Concat on bytes. The condition: where the slices lie. The plain law of layer 6 (gzip), for frames that were made: they are unwrapped, and a frame that is cut off is refused. There is no condition. Layer 6 (gzip): Unwrap, walked. The conditions: where the bytes lie, and how many they are. Layer 6 (gzip): Wrap, walked. The conditions: where the bytes lie, and how many they are. Layer 6 (gzip): the law's own code and live; Unwrap where 'most' is refused. There is no condition. -/
import Derived.Test.YthplpoijkebjbaaAppendMake
import Derived.Test.YthplpoijkebjbaaGzA
import Derived.Test.YthplpoijkebjbaaGzB
import Derived.Test.YthplpoijkebjbaaInflateBehind
import Derived.Test.YthplpoijkebjbaaGzC
import Derived.Test.YthplpoijkebjbaaDefLive
namespace Go.Proofs.Ythplpoijkebjbaa
open Go.RowKit Go.Shelf
set_option linter.unusedVariables false
set_option linter.unusedSimpArgs false

theorem Ow.cut0 {w : World} {base n c : Nat} {e : TypeId} {A : Option Addr} {xs : List Value} (h : Ow w base e A n c xs) (hn : 0 < n) : Ow w base e A 0 c [] := by
  refine ⟨rfl, ?_⟩
  rcases h.2 with ⟨_, h0⟩ | ⟨g, cap, cur, hv, hb, hh, h1, h2, h3, _⟩
  · omega
  · injection hv with e1 e2 e3
    exact .inr ⟨g, cap, cur, by rw [e1, e3], hb, hh, by omega, h2, h3, by simp⟩

theorem zeros_byte (k : Nat) : ∀ u ∈ (Builtin.zeroCells (Value.int .u8 0).cells k).toList, u.oneCell' = true := by
  intro u hu
  simp only [Builtin.zeroCells, Array.toList_map, List.mem_map, Value.cells] at hu
  obtain ⟨i, _, rfl⟩ := hu
  simp [Nat.mod_one]
  rfl
set_option maxRecDepth 100000 in
set_option maxHeartbeats 1000000 in
theorem grow_any (k : Nat) (w : World) (hk : 0 < k) (hk2 : k ≤ 1000000000) :
    Calls Try.prog 83 #[.slice none 0 0, .int .i64 (k : Nat)] w fun e w' => ∃ A c, e = .returned (.slice A 0 c) ∧ Ow w' w.heap.size 5 A 0 c [] ∧ Below w.heap.size w w' := by
  have hkI : (0 : Int) < (k : Int) := by omega
  have hkw : IntKind.i64.wrap (k : Int) = (k : Int) := by rw [IntKind.wrap_i64]; omega
  have hng : decide ((k : Int) < 0) = false := by simp
  go_enter Try.func83, Try.ntmps83
  go_wp2_with (at_builtin; go_loud (refine wpList_append_zeros w rfl (.tmp 20) (.tmp 21) rfl elem_byte Try.underlying3 rfl (Ow.nil w w.heap.size _) .i64 k rfl (zeros_byte k) (by simp only [maxLen]; omega) (by omega) (Nat.le_refl _) ?_); intro A3 c3 w3 ho3 hg3; rw [Nat.zero_add] at ho3 ⊢; have ho3 := hide ho3; have hg3 := hide hg3)
  go_ret
  exact ⟨A3, c3, rfl, ho3.out.cut0 hk, hg3.out.to_below (Nat.le_refl _) (fun i hi => by simp [blk] at hi)⟩

theorem one_bv2 (bs : List UInt8) : ∀ u ∈ bs.map bv, u.oneCell' = true := by
  intro u hu
  obtain ⟨b, _, rfl⟩ := List.mem_map.mp hu
  rfl

set_option maxRecDepth 100000 in
set_option maxHeartbeats 2000000 in
theorem concat_any (g B n1 c1 n2 c2 : Nat) (A1 A2 : Option Addr) (xs ys : List UInt8) (w : World) (hk : Blk w g 22 #[.slice A1 n1 c1, .slice A2 n2 c2]) (hr1 : Rd w B A1 n1 (xs.map bv)) (hr2 : Rd w B A2 n2 (ys.map bv)) (hB : B ≤ w.heap.size) (h1 : 0 < n1) (hn1 : n1 ≤ 100000000) (hn2 : n2 ≤ 800000000) :
    Calls Try.prog 62 #[.slice (some ⟨g, 0, none⟩) 2 2] w fun e w' => ∃ A c, e = .returned (.slice A (n1 + n2) c) ∧ Ow w' w.heap.size 5 A (n1 + n2) c ((xs ++ ys).map bv) ∧ Below w.heap.size w w' := by
  have hg := hide (grow_any (n1 + n2) w (by omega) (by omega))
  have d0 := hk.cell 0
  have d1 := hk.cell 1
  simp only [List.getElem?_toArray, List.getElem?_cons_succ, List.getElem?_cons_zero] at d0 d1
  have hw1 : IntKind.i64.wrap (n1 : Int) = (n1 : Int) := by rw [IntKind.wrap_i64]; omega
  have hw2 : IntKind.i64.wrap ((n1 : Int) + (n2 : Int)) = ((n1 + n2 : Nat) : Int) := by rw [IntKind.wrap_i64]; omega
  have hs1 : decide ((n1 : Int) < 0) = false := by simp
  have hs2 : decide (((n1 + n2 : Nat) : Int) < 0) = false := by simp; omega
  replace hr1 := hide hr1
  replace hr2 := hide hr2
  replace hk := hide hk
  go_enter Try.func62, Try.ntmps62
  go_wp2
  refine wp_loop_rounds 3 ?_
  rw [rounds_succ]
  go_wp2
  rw [rounds_succ]
  go_wp2
  rw [rounds_succ]
  go_wp2_with fail
  refine hg.out.mono ?_
  rintro e w1 ⟨A3, c3, rfl, o3, b3⟩
  have k1 := hk.out.below b3 hk.out.lt
  have e0 := k1.cell 0
  have e1 := k1.cell 1
  simp only [List.getElem?_toArray, List.getElem?_cons_succ, List.getElem?_cons_zero] at e0 e1
  have q1 := hide (hr1.out.below (b3.mono hB))
  have q2 := hide (fun W (h : Below w.heap.size w W) => hr2.out.below (h.mono hB))
  have hBw1 := hide b3.size
  have o3 := hide o3
  have b3 := hide b3
  clear k1 hg d0 d1 hs1 hs2 hw1 hw2
  go_wp2
  refine wp_loop_rounds 3 ?_
  rw [rounds_succ]
  go_wp2_with (at_builtin; go_loud (refine wpList_append_rd w1 rfl (.tmp 31) (.tmp 32) rfl elem_byte rfl o3.out rfl q1.out (one_bv2 xs) (by simp only [maxLen]; omega) (by omega) hBw1.out ?_); intro A4 c4 w4 ho4 hc4 hn4; have b4 := hide (b3.out.trans (hc4.to_below hBw1.out (fun i hi => (o3.out.blk_lt i hi).1))); rw [Nat.zero_add, List.nil_append] at ho4; have ho4 := hide ho4; clear hc4 hn4)
  have e4 := hide (q2.out w4 b4.out)
  have hBw4 := hide b4.out.size
  clear e0 e1 b3 o3
  have e1 := (hk.out.below b4.out hk.out.lt).cell 1
  simp only [List.getElem?_toArray, List.getElem?_cons_succ, List.getElem?_cons_zero] at e1
  rw [rounds_succ]
  go_wp2_with (at_builtin; go_loud (refine wpList_append_rd w4 rfl (.tmp 31) (.tmp 32) rfl elem_byte rfl ho4.out rfl e4.out (one_bv2 ys) (by simp only [maxLen]; omega) (by omega) hBw4.out ?_); intro A5 c5 w5 ho5 hc5 hn5; have b5 := hide (b4.out.trans (hc5.to_below hBw4.out (fun i hi => (ho4.out.blk_lt i hi).1))); have ho5 := hide ho5; clear hc5 hn5)
  rw [rounds_succ]
  go_wp2
  go_ret
  exact ⟨A5, c5, rfl, by rw [List.map_append]; exact ho5.out, b5.out⟩

end Go.Proofs.Ythplpoijkebjbaa

namespace Go.Proofs.Ythplpoijkebjbaa
set_option linter.unusedVariables false
set_option linter.unusedSimpArgs false

theorem Gz.le_len (v : Nat) : (Gz.le v).length = 4 := rfl
theorem Gz.wrap_len (bs : List UInt8) : (Gz.wrap bs).length = 18 + (Def.outB false bs).length := by
  simp only [Gz.wrap, List.length_append, Gz.le_len, List.length_cons, List.length_nil]
  omega
theorem Gz.wrap_drop (bs more : List UInt8) : (Gz.wrap bs ++ more).drop 10 = Def.outB false bs ++ ((Gz.le (Crc.sum bs) ++ Gz.le bs.length) ++ more) := by
  unfold Gz.wrap
  simp only [List.append_assoc]
  rfl
theorem Gz.wrap_take (bs more : List UInt8) : (Gz.wrap bs ++ more).take 10 = [31, 139, 8, 0, 0, 0, 0, 0, 0, 255] := by
  unfold Gz.wrap
  simp only [List.append_assoc]
  rfl
theorem Gz.parts_zero (bs : List UInt8) (s : Sum Nat Nat) : Gz.parts bs 0 s = s := by
  simp [Gz.parts, Gz.part, Nat.zero_testBit]
theorem Gz.head_made (l : List UInt8) (h : l.take 10 = [31, 139, 8, 0, 0, 0, 0, 0, 0, 255]) : Gz.head l = .inr 10 := by
  have hl : 10 ≤ l.length := by
    have := congrArg List.length h
    rw [List.length_take] at this
    simp at this
    omega
  rw [Gz.head_long l hl, ← Gz.byte_take l 10 0 (by decide), ← Gz.byte_take l 10 1 (by decide), ← Gz.byte_take l 10 2 (by decide), ← Gz.byte_take l 10 3 (by decide), h]
  exact (if_pos ⟨⟨rfl, rfl⟩, rfl, by decide⟩).trans (Gz.parts_zero l _)
theorem Gz.is_made (bs : List UInt8) : Gz.is (Gz.wrap bs) = true := by
  have h := Gz.wrap_take bs []
  rw [List.append_nil] at h
  rw [Gz.is_long _ (by rw [Gz.wrap_len]; omega), ← Gz.byte_take _ 10 0 (by decide), ← Gz.byte_take _ 10 1 (by decide), h]
  rfl

theorem Gz.member_made (bs more : List UInt8) (most f : Nat) (hm : bs.length ≤ most) (hb : bs.length ≤ 65535) (hF : bs.length < f + 1) : Gz.member (f + 1) most (Gz.wrap bs ++ more) = .inr (bs, (Gz.wrap bs).length) := by
  have h1 := Gz.head_made _ (Gz.wrap_take bs more)
  have h2 := Inf.data_pack false bs ((Gz.le (Crc.sum bs) ++ Gz.le bs.length) ++ more) most f hm hb hF
  have hl := Gz.wrap_len bs
  unfold Gz.member
  rw [h1]
  show Gz.body (f + 1) most (Gz.wrap bs ++ more) 10 = _
  unfold Gz.body
  rw [Gz.wrap_drop, h2]
  show Gz.bind (Gz.skip _ 8 (10 + (Def.outB false bs).length)) _ = _
  rw [show Gz.skip (Gz.wrap bs ++ more) 8 (10 + (Def.outB false bs).length) = .inr (10 + (Def.outB false bs).length + 8) from if_pos (by rw [List.length_append]; omega)]
  show (if ((Gz.wrap bs ++ more).drop (10 + (Def.outB false bs).length)).take 8 = _ then _ else _) = _
  rw [← List.drop_drop, Gz.wrap_drop, List.drop_left, List.take_append_of_le_length (by simp only [List.length_append, Gz.le_len]; omega), List.take_of_length_le (by simp only [List.length_append, Gz.le_len]; omega), if_pos rfl]
  rw [hl, show 10 + (Def.outB false bs).length + 8 = 18 + (Def.outB false bs).length from by omega]

theorem Gz.all_one (bs out : List UInt8) (most f g : Nat) (hm : out.length + bs.length ≤ most) (hb : bs.length ≤ 65535) (hF : bs.length < f + 1) : Gz.all (f + 1) most (g + 1) out (Gz.wrap bs) = .inr (out ++ bs) := by
  have h := Gz.member_made bs [] (most - out.length) f (by omega) hb hF
  rw [List.append_nil] at h
  unfold Gz.all
  rw [h]
  show (if (Gz.wrap bs).drop _ = [] then _ else _) = _
  rw [List.drop_length, if_pos rfl]
theorem Gz.all_two (xs bs : List UInt8) (most f g : Nat) (hm : xs.length + bs.length ≤ most) (ha : xs.length ≤ 65535) (hb : bs.length ≤ 65535) (hFa : xs.length < f + 1) (hFb : bs.length < f + 1) : Gz.all (f + 1) most (g + 2) [] (Gz.wrap xs ++ Gz.wrap bs) = .inr (xs ++ bs) := by
  have h := Gz.member_made xs (Gz.wrap bs) (most - 0) f (by omega) ha hFa
  unfold Gz.all
  rw [show ([] : List UInt8).length = 0 from rfl, h]
  show (if (Gz.wrap xs ++ Gz.wrap bs).drop _ = [] then _ else _) = _
  rw [List.drop_left, if_neg (by intro e; have := congrArg List.length e; rw [Gz.wrap_len] at this; simp at this), List.nil_append]
  exact Gz.all_one bs xs most f g (by omega) hb hFb

theorem Gz.member_cut (bs : List UInt8) (most f k : Nat) (hm : bs.length ≤ most) (hb : bs.length ≤ 65535) (hF : bs.length < f + 1) (hk : k < (Gz.wrap bs).length) : Gz.member (f + 1) most ((Gz.wrap bs).take k) = .inl 2 := by
  have hl := Gz.wrap_len bs
  have hlk : ((Gz.wrap bs).take k).length = k := by rw [List.length_take]; omega
  unfold Gz.member
  by_cases h10 : k < 10
  · rw [Gz.head_short _ (by rw [hlk]; exact h10)]
    rfl
  · have ht := Gz.wrap_take bs []
    have hd := Gz.wrap_drop bs []
    rw [List.append_nil] at ht hd
    rw [List.append_nil] at hd
    have h2 := Inf.data_pack false bs (Gz.le (Crc.sum bs) ++ Gz.le bs.length) most f hm hb hF
    rw [Gz.head_made _ (by rw [List.take_take, Nat.min_eq_left (by omega)]; exact ht)]
    show Gz.body (f + 1) most ((Gz.wrap bs).take k) 10 = _
    unfold Gz.body
    rw [List.drop_take, hd]
    by_cases hc : k - 10 < (Def.outB false bs).length
    · rw [Inf.data_cut _ most (f + 1) _ _ bs h2 hc]
      rfl
    · rw [(Inf.data_pre h2 (bits_take _ (k - 10)) (bits8 _)).1 (by rw [Bit.bitsOf_length, List.length_take]; simp only [List.length_append, Gz.le_len]; omega)]
      show Gz.bind (Gz.skip _ 8 (10 + (Def.outB false bs).length)) _ = _
      rw [show Gz.skip ((Gz.wrap bs).take k) 8 (10 + (Def.outB false bs).length) = .inl 2 from if_neg (by rw [hlk]; omega)]
      rfl
theorem Gz.all_cut (bs : List UInt8) (most f g k : Nat) (hm : bs.length ≤ most) (hb : bs.length ≤ 65535) (hF : bs.length < f + 1) (hk : k < (Gz.wrap bs).length) : Gz.all (f + 1) most (g + 1) [] ((Gz.wrap bs).take k) = .inl 2 := by
  unfold Gz.all
  rw [show most - ([] : List UInt8).length = most from rfl, Gz.member_cut bs most f k hm hb hF hk]
  rfl

theorem Gz.out_len (pl : Bool) (bs : List UInt8) (h : bs.length ≤ 4000) : (Def.outB pl bs).length ≤ 40000 := by
  rw [show (Def.outB pl bs).length = Bit.size (Def.outL pl bs).length from Bit.pack_length _]
  have key : (Def.outL pl bs).length ≤ 300000 := by
    cases pl with
    | false =>
      have h1 := Def.toksB_len (Def.parse bs)
      have h2 := Def.toks_len bs bs.length 0
      rw [show Def.toks bs bs.length 0 = Def.parse bs from rfl] at h2
      have h3 : (Def.litB 256).length ≤ 60 := by
        have h1 := (fixL_le 256).1
        rw [Def.litB, word_len]
        omega
      show (Def.fixB bs).length ≤ _
      simp only [Def.fixB, List.length_append, List.length_cons, List.length_nil]
      omega
    | true =>
      show (Def.stoB bs.length bs).length ≤ _
      have := Def.stoB_len bs.length bs
      omega
  unfold Bit.size
  omega

end Go.Proofs.Ythplpoijkebjbaa

namespace Go.Proofs.Ythplpoijkebjbaa
open Go.RowKit Go.Shelf
set_option linter.unusedVariables false
set_option linter.unusedSimpArgs false

def UnPost (w : World) (r : Sum Nat (List UInt8)) (e : Ending) (w' : World) : Prop :=
  Below w.heap.size w w' ∧
  ((∃ er, r = .inl er ∧ 1 ≤ er ∧ e = .returned (.tuple #[.slice none 0 0, .int .i64 (er : Int)])) ∨
   (∃ o A c, r = .inr o ∧ e = .returned (.tuple #[.slice A o.length c, .int .i64 0]) ∧ Ow w' w.heap.size 5 A o.length c (o.map bv)))

theorem Gz.skip_pos {bs : List UInt8} {k p q : Nat} (h : Gz.skip bs k p = .inr q) : q = p + k ∧ p + k ≤ bs.length := by
  unfold Gz.skip at h
  split at h
  · cases h; exact ⟨rfl, by assumption⟩
  · cases h
theorem Gz.bind_some {α β : Type} {x : Sum Nat α} {f : α → Sum Nat β} {b : β} (h : Gz.bind x f = .inr b) : ∃ a, x = .inr a ∧ f a = .inr b := by
  cases x with
  | inl e => cases h
  | inr a => exact ⟨a, rfl, h⟩
theorem Gz.body_some {F most p q : Nat} {bs o : List UInt8} (h : Gz.body F most bs p = .inr (o, q)) : ∃ u, Inf.data (Bit.bitsOf (bs.drop p)) most F = .inr (o, u) ∧ q = p + u + 8 ∧ q ≤ bs.length ∧ (bs.drop (p + u)).take 8 = Gz.le (Crc.sum o) ++ Gz.le o.length := by
  obtain ⟨⟨o', u⟩, h1, h⟩ := Gz.bind_some h
  obtain ⟨q', h2, h⟩ := Gz.bind_some h
  obtain ⟨rfl, h3⟩ := Gz.skip_pos h2
  split at h
  · rename_i hc
    cases h
    exact ⟨u, h1, rfl, h3, hc⟩
  · cases h
theorem Gz.member_some {F most q : Nat} {bs o : List UInt8} (h : Gz.member F most bs = .inr (o, q)) : 8 ≤ q ∧ q ≤ bs.length ∧ o.length ≤ most := by
  obtain ⟨p, h1, h⟩ := Gz.bind_some h
  obtain ⟨u, h2, h3, h4, _⟩ := Gz.body_some h
  exact ⟨by omega, h4, Inf.data_most h2⟩

theorem Rd.none8 {W : World} {B n : Nat} {A : Option Addr} {bs : List UInt8} (h : Rd W B A n (bs.map bv)) (p k : Nat) (hk : k = 0) (hp : n ≤ p) : Rd W B A k ((bs.drop p).map bv) := by
  subst hk
  have hl : bs.length = n := h.len
  rw [List.drop_of_length_le (by omega)]
  exact Rd.nil _ _ _
/-- A round of Unwrap: what is left, and what was found. -/
def UnRel (w : World) (n most F gk : Nat) (R : Sum Nat (List UInt8)) (s0 s6 s7 : Value) (wr : World) : Prop :=
  ∃ (A0 : Option Addr) (n0 c0 : Nat) (A6 : Option Addr) (n6 c6 : Nat) (bs0 out : List UInt8) (first : Bool), s0 = .slice A0 n0 c0 ∧ s6 = .slice A6 n6 c6 ∧ s7 = .bool first ∧ Hid (n0 ≤ c0) ∧ Hid (n0 ≤ n) ∧ Hid (n0 < gk) ∧ Hid (out.length = n6) ∧ Hid (n6 ≤ most) ∧ Hid (Rd wr w.heap.size A0 n0 (bs0.map bv)) ∧ Hid (Ow wr w.heap.size 5 A6 n6 c6 (out.map bv)) ∧ Hid (Below w.heap.size w wr) ∧ ((first || decide (0 < (n0 : Int))) = true ∧ Hid (Gz.all F most gk out bs0 = R) ∨ first = false ∧ n0 = 0 ∧ Hid (R = .inr out))
theorem UnRel.next {w wr : World} {n most F g n0 n6 m3 q3 n' c' c8 : Nat} {R : Sum Nat (List UInt8)} {A' A8 : Option Addr} {bs0 out o3 : List UInt8} (hn' : n' = n0 - q3) (hc : n' ≤ c') (hn : n0 ≤ n) (hg : n0 < g + 1) (h8 : 8 ≤ q3) (hq : q3 ≤ n0) (hl : bs0.length = n0) (ho : out.length = n6) (ho3 : o3.length = m3) (hm : n6 + m3 ≤ most)
    (hr : Rd wr w.heap.size A' n' ((bs0.drop q3).map bv)) (h6 : Ow wr w.heap.size 5 A8 (n6 + m3) c8 (out.map bv ++ o3.map bv)) (hb : Below w.heap.size w wr) (hR : (if bs0.drop q3 = [] then .inr (out ++ o3) else Gz.all F most g (out ++ o3) (bs0.drop q3)) = R) :
    UnRel w n most F g R (.slice A' n' c') (.slice A8 (n6 + m3) c8) (.bool false) wr := by
  have hd : bs0.drop q3 = [] ↔ n' = 0 := by
    rw [← List.length_eq_zero_iff, List.length_drop, hl, hn']
  refine ⟨A', n', c', A8, n6 + m3, c8, bs0.drop q3, out ++ o3, false, rfl, rfl, rfl, hc, hide (by omega), hide (by omega), hide (by rw [List.length_append, ho, ho3]), hm, hr, hide (by rw [List.map_append]; exact h6), hb, ?_⟩
  by_cases h0 : n' = 0
  · rw [if_pos (hd.2 h0)] at hR
    exact .inr ⟨rfl, h0, hR.symm⟩
  · rw [if_neg (fun h => h0 (hd.1 h))] at hR
    exact .inl ⟨by simp; omega, hR⟩

set_option maxRecDepth 100000 in
set_option maxHeartbeats 4000000 in
theorem unwrap_any (A : Option Addr) (n c most F f : Nat) (bs : List UInt8) (w : World) (hr : Rd w w.heap.size A n (bs.map bv)) (hc : n ≤ c) (hn : n ≤ 1048576) (hm : most ≤ 1048576) (hF : 8 * n < F) (hf : n < f) :
    Calls Try.prog 38 #[.slice A n c, .int .i64 (most : Nat)] w (UnPost w (Gz.all F most f [] bs)) := by
  obtain ⟨R, hR⟩ : ∃ R, Gz.all F most f [] bs = R := ⟨_, rfl⟩
  rw [hR]
  replace hR := hide hR
  replace hr := hide hr
  have hmI : (most : Int) ≤ 1048576 := by omega
  have hm0 : (0 : Int) ≤ (most : Int) := by omega
  have hm1 : decide ((most : Int) < 0) = false := by simp
  have hm2 : decide ((1048576 : Int) < (most : Int)) = false := by simp; omega
  replace hF := hide hF
  replace hm := hide hm
  replace hf := hide hf
  replace hn := hide hn
  replace hc := hide hc
  go_enter Try.func38, Try.ntmps38
  go_upto_region 3 with fail
  clear hm1 hm2 hmI hm0
  go_wp2
  go_loopg [0, 6, 7, 8, 9] f (fun gk s0 s6 s7 s8 s9 wr => UnRel w n most F gk R s0 s6 s7 wr)
  case atStart => exact ⟨A, n, c, none, 0, 0, bs, [], true, rfl, rfl, rfl, hc, hide (Nat.le_refl _), hf, hide rfl, hide (Nat.zero_le _), hr, hide (Ow.nil _ _ _), hide (Below.refl _ _), .inl ⟨rfl, hR⟩⟩
  case round =>
    clear hR hr hc hf
    obtain ⟨A0, n0, c0, A6, n6, c6, bs0, out, first, rfl, rfl, rfl, hc, hn0, hg, ho, hom, hr, hw6, hb, ⟨hfirst, hR⟩ | ⟨rfl, rfl, hR⟩⟩ := hrel
    · obtain ⟨g, rfl⟩ : ∃ g, gk = g + 1 := ⟨gk - 1, by have := hg.out; omega⟩
      obtain ⟨mt, hmt⟩ : ∃ mt, most - n6 = mt := ⟨_, rfl⟩
      have hR1 := hide (show Gz.bind (Gz.member F mt bs0) (fun (o, q) => if bs0.drop q = [] then .inr (out ++ o) else Gz.all F most g (out ++ o) (bs0.drop q)) = R from by rw [← hmt, ← ho.out]; exact hR.out)
      have hmI : (most : Int) - (n6 : Int) = (mt : Int) := by have := hom.out; omega
      have hmt2 := hide (show mt ≤ most from by omega)
      have hmw : IntKind.i64.wrap (mt : Int) = (mt : Int) := by rw [IntKind.wrap_i64]; have := hm.out; have := hmt2.out; omega
      obtain ⟨gm, hgm⟩ : ∃ k, wr.heap.size = k := ⟨_, rfl⟩
      obtain ⟨w1, hw1⟩ : ∃ w1, wr.alloc (.cells #[.slice A0 n0 c0, .int .i64 0, .int .i64 0] 93) = w1 := ⟨_, rfl⟩
      have hBg := hide (show w.heap.size ≤ gm from by rw [← hgm]; exact hb.out.size)
      have m1 := hide (show MAt w.heap.size w1 gm A0 n0 c0 (.inr 0) from ⟨hBg.out, Nat.zero_le _, by rw [← hw1, ← hgm]; exact Blk.new wr _ _⟩)
      have r1 := hide (show Rd w1 w.heap.size A0 n0 (bs0.map bv) from by rw [← hw1]; exact hr.out.alloc hb.out.size _)
      have o1 := hide (show Ow w1 w.heap.size 5 A6 n6 c6 (out.map bv) from by rw [← hw1]; exact hw6.out.alloc _)
      have b1 := hide (show Below w.heap.size w w1 from by rw [← hw1]; exact hb.out.alloc hb.out.size _)
      have hne := hide (show ∀ k, blk A6 = some k → k ≠ gm from fun k hk => by have := (hw6.out.blk_lt k hk).2; omega)
      have hbn := hide (show n0 ≤ 1048576 from by have := hn0.out; have := hn.out; omega)
      have hhd := hide (head_any w.heap.size gm A0 n0 c0 bs0 w1 m1.out r1.out hc.out hbn.out)
      have hdt := hide (fun W (h1 : MAt w.heap.size W gm A0 n0 c0 (Gz.head bs0)) (h2 : KG gm w1 W) => data_any w.heap.size gm A0 n0 c0 mt F (Gz.head bs0) bs0 W h1 (r1.out.below (h2.below hBg.out b1.out.size)) hc.out hbn.out (by have := hm.out; have := hmt2.out; omega) (by have := hF.out; have := hn0.out; omega))
      replace hR := hide hR
      clear hr hw6 hb m1
      have hlq := hide (show bs0.length = n0 from r1.out.len)
      have hmem : Gz.member F mt bs0 = Gz.bodyS F mt bs0 (Gz.head bs0) := rfl
      rw [hmem] at hR1
      clear hmem
      have hsm := hide (show ∀ o q, Gz.bodyS F mt bs0 (Gz.head bs0) = .inr (o, q) → 8 ≤ q ∧ o.length ≤ mt from fun o q h => by have := Gz.member_some (F := F) (most := mt) (bs := bs0) h; exact ⟨this.1, this.2.2⟩)
      generalize Gz.bodyS F mt bs0 (Gz.head bs0) = RB at *
      have hfs : first = true ∨ first = false ∧ 0 < n0 := by
        cases first
        · exact .inr ⟨rfl, by simpa using hfirst⟩
        · exact .inl rfl
      clear hfirst
      rcases hfs with rfl | ⟨rfl, hfirst⟩
      all_goals (
        go_wp2_with (first
          | (go_at_call 64; (with_reducible refine (hhd.out).mono ?_); rintro e w2 ⟨⟨v2, rfl⟩, h2, b2⟩; have hdt := hide (hdt.out w2 h2 b2); clear h2; have b2 := hide b2)
          | (go_at_call 65; (with_reducible refine (hdt.out).mono ?_); rintro e w3 ⟨k3, h3⟩; have k3 := hide (b2.out.trans k3); have b3 := hide (b1.out.trans (k3.out.below hBg.out b1.out.size)); (rcases h3 with ⟨er, v3, e3, rfl, _, her, _, p3, hp3, h3⟩ | ⟨o3, q3, A3, c3, e3, rfl, r3, _, hq3, h3⟩); all_goals (have x2 := h3.cell 2; have x1 := h3.cell 1; simp only [List.getElem?_toArray, List.getElem?_cons_succ, List.getElem?_cons_zero] at x1 x2; have h3 := hide h3)))
        skip)
      rotate_left 1
      rotate_right 1
      all_goals first
        | (have hRR : R = .inl er := hR1.out.symm.trans (by rw [e3]; rfl)
           obtain ⟨E, hE⟩ : ∃ E : Int, (er : Int) = E := ⟨_, rfl⟩
           rw [hE] at x2
           go_quiet (fail)
           go_wp2
           go_ret2
           exact ⟨below_drewN b3.out _, .inl ⟨er, hRR, her, by rw [hE]; rfl⟩⟩)
        | (have hsm := hsm.out o3 q3 e3
           have hR2 := hide (show (if bs0.drop q3 = [] then .inr (out ++ o3) else Gz.all F most g (out ++ o3) (bs0.drop q3)) = R from by rw [← hR1.out, e3]; rfl)
           obtain ⟨m3, hm3⟩ : ∃ m, o3.length = m := ⟨_, rfl⟩
           rw [hm3] at r3 hsm ⊢
           have hk3 := hide (k3.out.drewN 1)
           have o4 := hide (show Ow w3.drew w.heap.size 5 A6 n6 c6 (out.map bv) from o1.out.chg (k3.out.drewN 1) (fun k h1 h2 => hne.out k h1 h2))
           have r4 := hide (show Rd w3.drew w3.heap.size A3 m3 (o3.map bv) from r3.below (below_drewN (Below.refl _ w3) 1))
           have r5 := hide (show Rd w3.drew w.heap.size A0 n0 (bs0.map bv) from (r1.out.below (k3.out.below hBg.out b1.out.size)).below (below_drewN (Below.refl _ w3) 1))
           have b4 := hide (show Below w.heap.size w w3.drew from below_drewN b3.out 1)
           have y1 := hide (show w3.drew.cell? ⟨gm, 1, none⟩ = some (.int .i64 (q3 : Int)) from x1)
           have hs1 := hide (show n6 + m3 ≤ maxLen from by have := hmt2.out; have := hm.out; simp only [maxLen]; omega)
           have hs2 := hide (show (n6 + m3) * 1 ≤ 140737488355328 from by have := hmt2.out; have := hm.out; omega)
           have hqI : (q3 : Int) ≤ (n0 : Int) := by omega
           have hcI : (n0 : Int) ≤ (c0 : Int) := by have := hc.out; omega
           have hsm := hide hsm
           have hR1 := hide hR1
           have hm3 := hide hm3
           clear r3 hdt hhd x2
           replace hmI := hide hmI
           replace hmw := hide hmw
           rcases (show c0 = q3 ∨ c0 ≠ q3 by omega) with hcq | hcq
           all_goals (
             go_region_law (refine step_append_rd _ (by rfl) (.tmp 42) (.tmp 43) (by rfl) elem_byte (by first | (simp [go_sem]; done) | (simp [go_sem]; rfl)) o4.out (by first | (simp [go_sem]; done) | (simp [go_sem]; rfl)) r4.out (one_bv2 o3) hs1.out hs2.out b4.out.size ?_; intro A8 c8 w8 o8 k8 n8; have y1 := k8.cell y1.out (fun h => hne.out _ h rfl); have k9 := k8.to_below b4.out.size (fun i hi => (o4.out.blk_lt i hi).1); have b8 := hide (b4.out.trans k9); have r8 := hide (r5.out.below k9); have o8 := hide o8; clear k8 n8 k9)
             all_goals (
               go_wp2_with fail
               go_roundg g
               case measure => omega
               case rel => exact UnRel.next (by omega) (by omega) hn0.out hg.out hsm.out.1 hq3 hlq.out ho.out hm3.out (by have := hsm.out.2; have := hom.out; omega) (by first | exact r8.out.rest q3 hq3 | exact r8.out.none8 q3 _ (by omega) (by omega)) o8.out b8.out hR2.out)))
    · have ho2 := ho.out
      have hz : decide (0 < (0 : Int)) = false := rfl
      subst ho2
      go_wp2_with fail
      go_ret2
      exact ⟨hb.out, .inr ⟨out, A6, c6, hR.out, rfl, hw6.out⟩⟩

end Go.Proofs.Ythplpoijkebjbaa

namespace Go.Proofs.Ythplpoijkebjbaa
open Go.RowKit Go.Shelf
set_option linter.unusedVariables false
set_option linter.unusedSimpArgs false

def Gz.hd : List UInt8 := [31, 139, 8, 0, 0, 0, 0, 0, 0, 255]
set_option maxRecDepth 100000 in
set_option maxHeartbeats 2000000 in
theorem wrap_any (A : Option Addr) (n c : Nat) (bs : List UInt8) (w : World) (hr : Rd w w.heap.size A n (bs.map bv)) (hc : n ≤ c) (hn : n ≤ 4000) :
    Calls Try.prog 37 #[.slice A n c] w fun e w' => ∃ A' c', e = .returned (.tuple #[.slice A' (Gz.wrap bs).length c', .int .i64 0]) ∧ Ow w' w.heap.size 5 A' (Gz.wrap bs).length c' ((Gz.wrap bs).map bv) ∧ Below w.heap.size w w' := by
  have hl : bs.length = n := hr.len
  have hd := hide (ddata_any A n c bs false w hr hc (by omega))
  have hDl := Gz.out_len false bs (by omega)
  have hlen := Gz.wrap_len bs
  obtain ⟨m, hm⟩ : ∃ m, (Def.outB false bs).length = m := ⟨_, rfl⟩
  rw [hm] at hd hDl hlen
  obtain ⟨D, hD⟩ : ∃ D, Def.outB false bs = D := ⟨_, rfl⟩
  rw [hD] at hd
  have hres := hide (show Gz.wrap bs = Gz.hd ++ D ++ Gz.le (Crc.sum bs) ++ Gz.le n from by rw [← hD, ← hl]; rfl)
  rw [hlen, show 18 + m = 10 + m + 4 + 4 from by omega]
  generalize Gz.wrap bs = WR at *
  obtain ⟨Sm, hSm⟩ : ∃ Sm, Crc.sum bs = Sm := ⟨_, rfl⟩
  have hSl := Crc.sum_lt bs
  have hof := hide (fun W (h : Below w.heap.size w W) => of_any A n c bs W w.heap.size (hr.below h) h.size (by omega))
  rw [hSm] at hSl hof hres
  have hnu : IntKind.u32.wrap (n : Int) = (n : Int) := by rw [IntKind.wrap_u32]; omega
  replace hr := hide hr
  go_enter Try.func37, Try.ntmps37
  go_wp2_with fail
  refine hd.out.mono ?_
  rintro e w1 ⟨A1, c1, rfl, o1, b1⟩
  have o1 := hide o1
  have b1 := hide b1
  obtain ⟨g2, hg2⟩ : ∃ k, w1.heap.size = k := ⟨_, rfl⟩
  obtain ⟨w2, hw2⟩ : ∃ W, w1.alloc (.cells #[.int .u8 31, .int .u8 139, .int .u8 8, .int .u8 0, .int .u8 0, .int .u8 0, .int .u8 0, .int .u8 0, .int .u8 0, .int .u8 255] 5) = W := ⟨_, rfl⟩
  obtain ⟨g3, hg3⟩ : ∃ k, w2.heap.size = k := ⟨_, rfl⟩
  obtain ⟨w3, hw3⟩ : ∃ W, w2.alloc (.cells #[.slice (some ⟨g2, 0, none⟩) 10 10, .slice A1 m c1] 22) = W := ⟨_, rfl⟩
  have s2 : w2.heap.size = g2 + 1 := by rw [← hw2, ← hg2]; simp
  have h2 := hide (show Rd w2 w2.heap.size (some ⟨g2, 0, none⟩) 10 (Gz.hd.map bv) from by rw [s2, ← hw2, ← hg2]; exact Rd.new w1 #[.int .u8 31, .int .u8 139, .int .u8 8, .int .u8 0, .int .u8 0, .int .u8 0, .int .u8 0, .int .u8 0, .int .u8 0, .int .u8 255] _ _)
  have o2 := hide (show Ow w2 w.heap.size 5 A1 m c1 (D.map bv) from by rw [← hw2]; exact o1.out.alloc _)
  have k3 := hide (show Blk w3 g3 22 #[.slice (some ⟨g2, 0, none⟩) 10 10, .slice A1 m c1] from by rw [← hw3, ← hg3]; exact Blk.new w2 _ _)
  have b3 := hide (show Below w.heap.size w w3 from by rw [← hw3, ← hw2]; exact (b1.out.alloc b1.out.size _).alloc (by have := b1.out.size; simp; omega) _)
  have h3 := hide (show Rd w3 w2.heap.size (some ⟨g2, 0, none⟩) 10 (Gz.hd.map bv) from by rw [← hw3]; exact h2.out.alloc (Nat.le_refl _) _)
  have o3 := hide (show Rd w3 w2.heap.size A1 m (D.map bv) from by rw [← hw3]; exact o2.out.rd.alloc (Nat.le_refl _) _)
  have hcat := hide (show Calls Try.prog 62 #[.slice (some ⟨g3, 0, none⟩) 2 2] w3 fun e w' => ∃ A c, e = .returned (.slice A (10 + m) c) ∧ Ow w' w.heap.size 5 A (10 + m) c ((Gz.hd ++ D).map bv) ∧ Below w.heap.size w w' from (concat_any g3 w2.heap.size 10 10 m c1 (some ⟨g2, 0, none⟩) A1 Gz.hd D w3 k3.out h3.out o3.out (by rw [← hw3]; simp) (by decide) (by decide) (by omega)).mono (by
    rintro e w' ⟨A4, c4, rfl, o4, b4⟩
    exact ⟨A4, c4, rfl, o4.base_le (fun k hk => Nat.le_trans b3.out.size (o4.blk_lt k hk).1), b3.out.trans (b4.mono b3.out.size)⟩))
  have hl1 := hide (fun (A4 : Option Addr) (c4 : Nat) (W : World) (h : Ow W w.heap.size 5 A4 (10 + m) c4 ((Gz.hd ++ D).map bv)) (hb : Below w.heap.size w W) => low4_any A4 (10 + m) c4 Sm w.heap.size (Gz.hd ++ D) W h hb.size (by omega) (by omega))
  have hl2 := hide (fun (A4 : Option Addr) (c4 : Nat) (W : World) (h : Ow W w.heap.size 5 A4 (10 + m + 4) c4 ((Gz.hd ++ D ++ Gz.le Sm).map bv)) (hb : Below w.heap.size w W) => low4_any A4 (10 + m + 4) c4 n w.heap.size (Gz.hd ++ D ++ Gz.le Sm) W h hb.size (by omega) (by omega))
  clear h2 o2 h3 o3 k3 o1
  go_wp2_with (first
    | (go_at_call 62; (with_reducible refine (hcat.out).mono ?_); rintro e w4 ⟨A4, c4, rfl, o4, b4⟩; have hof := hide (hof.out w4 b4); have o4 := hide o4; have b4 := hide b4)
    | (go_at_call 63; (with_reducible refine (hof.out).mono ?_); rintro e w5 ⟨rfl, b5⟩; have hl1 := hide (hl1.out A4 c4 w5 (o4.out.below b5) (b4.out.trans (b5.mono b4.out.size))); have b5 := hide (b4.out.trans (b5.mono b4.out.size)))
    | (go_at_call 61; (with_reducible refine (hl1.out).mono ?_); rintro e w6 ⟨A6, c6, rfl, o6, k6⟩; have b6 := b5.out.trans (k6.to_below b5.out.size (fun i hi => by have := (o4.out.blk_lt i hi).1; exact this)); have hl2 := hide (hl2.out A6 c6 w6 o6 b6); have b6 := hide b6; have o6 := hide o6; clear k6)
    | (go_at_call 61; (with_reducible refine (hl2.out).mono ?_); rintro e w7 ⟨A7, c7, rfl, o7, k7⟩; have b7 := b6.out.trans (k7.to_below b6.out.size (fun i hi => by have := (o6.out.blk_lt i hi).1; exact this)); have b7 := hide b7; have o7 := hide o7; clear k7))
  go_ret2
  exact ⟨A7, c7, rfl, by rw [hres.out]; exact o7.out, b7.out⟩

end Go.Proofs.Ythplpoijkebjbaa

namespace Go.Proofs.Ythplpoijkebjbaa
open Go.RowKit Go.Shelf
set_option linter.unusedVariables false
set_option linter.unusedSimpArgs false

theorem g6code_any (v : Int) (w : World) : Calls Try.prog 39 #[.int .i64 v] w fun e w' => e = .returned (.int .i64 v) ∧ w = w' := by
  go_enter Try.func39, Try.ntmps39
  go_wp2
  go_ret
  exact ⟨rfl, rfl⟩
set_option maxRecDepth 100000 in
theorem unwrap_arg (A : Option Addr) (n c : Nat) (most : Int) (w : World) (h : most < 0 ∨ 1048576 < most) :
    Calls Try.prog 38 #[.slice A n c, .int .i64 most] w fun e w' => e = .returned (.tuple #[.slice none 0 0, .int .i64 1]) ∧ w = w' := by
  rcases h with h | h
  all_goals (
    go_enter Try.func38, Try.ntmps38
    go_wp2
    go_ret2
    exact ⟨rfl, rfl⟩)
theorem unwrap_at (A : Option Addr) (n c most : Nat) (m : Int) (r : Sum Nat (List UInt8)) (bs : List UInt8) (w : World) (hm : (most : Int) = m) (hr : Rd w w.heap.size A n (bs.map bv)) (hc : n ≤ c) (hn : n ≤ 1048576) (hm2 : most ≤ 1048576) (hX : ∀ F f, 8 * n < F + 1 → n < f + 2 → Gz.all (F + 1) most (f + 2) [] bs = r) :
    Calls Try.prog 38 #[.slice A n c, .int .i64 m] w (UnPost w r) := by
  subst hm
  rw [← hX (8 * n) n (by omega) (by omega)]
  exact unwrap_any A n c most (8 * n + 1) (n + 2) bs w hr hc hn hm2 (by omega) (by omega)

set_option maxRecDepth 100000 in
set_option maxHeartbeats 1000000 in
theorem g6live_any (w : World) : Calls Try.prog 36 #[] w fun e w' => e = .returned (.bool true) ∧ Below w.heap.size w w' := by
  have hc := hide (fun (v : Int) W => g6code_any v W)
  have hcv : (convert 22 22 (.slice (some ⟨w.heap.size, 0, none⟩) 3 3)).run Try.prog (w.alloc (.cells #[.int .u8 97, .int .u8 98, .int .u8 99] 5)) = .ok (.slice (some ⟨w.heap.size, 0, none⟩) 3 3) (w.alloc (.cells #[.int .u8 97, .int .u8 98, .int .u8 99] 5 (3, 4))) := Go.Lib.run_convert_bytes_const w _ _ #[.int .u8 97, .int .u8 98, .int .u8 99] 3 3 Try.underlying22 Try.underlying5
  obtain ⟨w2, hw2⟩ : ∃ W, w.alloc (.cells #[.int .u8 97, .int .u8 98, .int .u8 99] 5 (3, 4)) = W := ⟨_, rfl⟩
  have s2 : w2.heap.size = w.heap.size + 1 := by rw [← hw2]; simp
  have r2 : Rd w2 w2.heap.size (some ⟨w.heap.size, 0, none⟩) 3 ([(97 : UInt8), 98, 99].map bv) := by rw [s2, ← hw2]; exact Rd.new w #[.int .u8 97, .int .u8 98, .int .u8 99] 5 (3, 4)
  have hb2 := hide (show Below w.heap.size w w2 from by rw [← hw2]; exact (Below.refl _ w).alloc (Nat.le_refl _) _)
  have hd := hide (wrap_any (some ⟨w.heap.size, 0, none⟩) 3 3 [97, 98, 99] w2 r2 (by decide) (by decide))
  rw [show (Gz.wrap [97, 98, 99]).length = 23 from by rw [Gz.wrap_len, Def.live_eq]; rfl] at hd
  have hun := hide (fun A1 c1 W (h : Rd W W.heap.size A1 23 ((Gz.wrap [97, 98, 99]).map bv)) (hc : 23 ≤ c1) => unwrap_at A1 23 c1 100 100 (.inr [97, 98, 99]) (Gz.wrap [97, 98, 99]) W rfl h hc (by decide) (by decide) (fun F f hF _ => Gz.all_one [97, 98, 99] [] 100 F (f + 1) (by decide) (by decide) (by show 3 < F + 1; omega)))
  rw [hw2] at hcv
  generalize Gz.wrap [97, 98, 99] = WR at *
  go_enter Try.func36, Try.ntmps36
  go_wp2_with (first
    | (go_at_call 37; go_loud (refine hd.out.mono ?_); rintro e w3 ⟨A3, c3, rfl, o3, b3⟩; go_loud (have hun := hide (hun.out A3 c3 w3 o3.rd (by rcases o3.form with ⟨_, h, _⟩ | ⟨_, _, _, _, h, _⟩; cases h; exact h))); have b3 := hide (hb2.out.trans (b3.mono hb2.out.size)); clear o3)
    | (go_at_call 38; (with_reducible refine hun.out.mono ?_); rintro e w4 ⟨b4, ⟨er, h4, _⟩ | ⟨o4, A4, c4, h4, rfl, o4⟩⟩; (cases h4); cases h4; have ks := str_of_rd (show Rd w4 w4.heap.size A4 3 ([(97 : UInt8), 98, 99].map bv) from o4.rd) c4; have b4 := hide (b3.out.trans (b4.mono b3.out.size)); clear o4)
    | (go_at_call 39; (with_reducible refine (hc.out _ _).mono ?_); rintro e w' ⟨rfl, rfl⟩))
  go_ret
  exact ⟨rfl, b4.out⟩

end Go.Proofs.Ythplpoijkebjbaa
