/- The plain law of layer 6 (gzip): what bytes hold, as frames. There is no condition. Layer 6 (gzip): a member in memory, and its way on: skip. The condition: where the bytes lie. Layer 6 (gzip): the parts of a header: extra, text, sum. The condition: where the bytes lie. Layer 6 (gzip): the header's own sum. The condition: where the bytes lie. -/
import Derived.Test.YthplpoijkebjbaaCrcLaw
import Derived.Test.YthplpoijkebjbaaInfPack
import Derived.Test.YthplpoijkebjbaaCrc
import Derived.Test.YthplpoijkebjbaaInfData
import Derived.Test.YthplpoijkebjbaaDefSto
import Derived.StillTailTactics
import Derived.Shelf.Bytes.SlIndexAt
import Derived.Test.YthplpoijkebjbaaInflateBehind
namespace Go.Proofs.Ythplpoijkebjbaa
set_option linter.unusedVariables false

def Gz.bind {α β : Type} (x : Sum Nat α) (f : α → Sum Nat β) : Sum Nat β := match x with | .inl e => .inl e | .inr a => f a
def Gz.byte (bs : List UInt8) (i : Nat) : Nat := (bs.getD i 0).toNat
def Gz.skip (bs : List UInt8) (k p : Nat) : Sum Nat Nat := if p + k ≤ bs.length then .inr (p + k) else .inl 2
def Gz.extra (bs : List UInt8) (p : Nat) : Sum Nat Nat := Gz.bind (Gz.skip bs 2 p) fun q => Gz.skip bs (Gz.byte bs p + 256 * Gz.byte bs (p + 1)) q
def Gz.text (bs : List UInt8) (p : Nat) : Sum Nat Nat := match (bs.drop p).findIdx? (· == 0) with | none => .inl 2 | some i => .inr (p + (i + 1))
def Gz.sum (bs : List UInt8) (p : Nat) : Sum Nat Nat := Gz.bind (Gz.skip bs 2 p) fun q => if Gz.byte bs p + 256 * Gz.byte bs (p + 1) = Crc.sum (bs.take p) % 65536 then .inr q else .inl 4
def Gz.part (c : Bool) (f : Nat → Sum Nat Nat) (s : Sum Nat Nat) : Sum Nat Nat := if c then Gz.bind s f else s
def Gz.parts (bs : List UInt8) (f : Nat) (s : Sum Nat Nat) : Sum Nat Nat :=
  Gz.part (f.testBit 1) (Gz.sum bs) (Gz.part (f.testBit 4) (Gz.text bs) (Gz.part (f.testBit 3) (Gz.text bs) (Gz.part (f.testBit 2) (Gz.extra bs) s)))
/-- A header: the place behind it. -/
def Gz.head (bs : List UInt8) : Sum Nat Nat :=
  Gz.bind (Gz.skip bs 10 0) fun p => if Gz.byte bs 0 = 31 ∧ Gz.byte bs 1 = 139 ∧ Gz.byte bs 2 = 8 ∧ Gz.byte bs 3 < 32 then Gz.parts bs (Gz.byte bs 3) (.inr p) else .inl 3
def Gz.le (n : Nat) : List UInt8 := [UInt8.ofNat (n % 256), UInt8.ofNat (n / 256 % 256), UInt8.ofNat (n / 65536 % 256), UInt8.ofNat (n / 16777216 % 256)]
/-- What is packed, and the place behind the sums. -/
def Gz.body (F most : Nat) (bs : List UInt8) (p : Nat) : Sum Nat (List UInt8 × Nat) :=
  Gz.bind (Inf.data (Bit.bitsOf (bs.drop p)) most F) fun (o, u) =>
  Gz.bind (Gz.skip bs 8 (p + u)) fun q => if (bs.drop (p + u)).take 8 = Gz.le (Crc.sum o) ++ Gz.le o.length then .inr (o, q) else .inl 4
def Gz.member (F most : Nat) (bs : List UInt8) : Sum Nat (List UInt8 × Nat) := Gz.bind (Gz.head bs) fun p => Gz.body F most bs p
def Gz.all (F most : Nat) : Nat → List UInt8 → List UInt8 → Sum Nat (List UInt8)
  | 0, out, bs => .inl 3
  | f + 1, out, bs => Gz.bind (Gz.member F (most - out.length) bs) fun (o, q) => if bs.drop q = [] then .inr (out ++ o) else Gz.all F most f (out ++ o) (bs.drop q)
def Gz.wrap (bs : List UInt8) : List UInt8 := [31, 139, 8, 0, 0, 0, 0, 0, 0, 255] ++ Def.outB false bs ++ Gz.le (Crc.sum bs) ++ Gz.le bs.length
def Gz.is (bs : List UInt8) : Bool := decide (2 ≤ bs.length) && (Gz.byte bs 0 == 31 && Gz.byte bs 1 == 139)

end Go.Proofs.Ythplpoijkebjbaa

namespace Go.Proofs.Ythplpoijkebjbaa
open Go.RowKit Go.Shelf
set_option linter.unusedVariables false

theorem Rd.none0 {W : World} {B n : Nat} {A : Option Addr} {xs : List Value} (h : Rd W B A n xs) (p k : Nat) (hk : k = 0) : Rd W B A k ((xs.drop p).take k) := by
  subst hk
  rw [List.take_zero]
  exact Rd.nil _ _ _
/-- Nothing that was there is changed but block g. -/
def KG (g : Nat) (W W' : World) : Prop := Chg (fun i => i = g) W W'
theorem KG.refl (g : Nat) (W : World) : KG g W W := Chg.refl _ _
theorem KG.trans {g : Nat} {W W' W'' : World} (h : KG g W W') (k : KG g W' W'') : KG g W W'' := Chg.trans h k (fun _ _ h => h)
theorem KG.drewN {g : Nat} {W W' : World} (h : KG g W W') (n : Nat) : KG g W (W'.drewN n) := Chg.drewN h n
theorem KG.setCell {g : Nat} {W W' : World} (h : KG g W W') {i : Nat} (v : Value) : KG g W (W'.setCell ⟨g, i, none⟩ v) := Chg.setCell h (p := ⟨g, i, none⟩) (.inr rfl) v
theorem KG.of_below {g : Nat} {W W' : World} (h : Below W.heap.size W W') : KG g W W' := (Chg.of_below h).mono (fun i hi h => absurd h (by omega))
theorem KG.below {g B : Nat} {W W' : World} (h : KG g W W') (hB : B ≤ g) (hW : B ≤ W.heap.size) : Below B W W' := Chg.to_below h hW (fun i hi => by rw [hi]; exact hB)
/-- A member in block g: its bytes, and the place or the error. -/
def MAt (B : Nat) (W : World) (g : Nat) (A : Option Addr) (n c : Nat) (s : Sum Nat Nat) : Prop :=
  B ≤ g ∧ match s with
  | .inl e => 1 ≤ e ∧ True ∧ ∃ p, p ≤ n ∧ Blk W g 93 #[.slice A n c, .int .i64 (p : Nat), .int .i64 (e : Nat)]
  | .inr p => p ≤ n ∧ Blk W g 93 #[.slice A n c, .int .i64 (p : Nat), .int .i64 0]

set_option maxHeartbeats 1000000 in
theorem skip_err (B g : Nat) (A : Option Addr) (n c er : Nat) (k : Int) (W : World) (h : MAt B W g A n c (.inl er)) :
    Calls Try.prog 86 #[.pointer (some ⟨g, 0, none⟩), .int .i64 k] W fun e w' => e = .returned (.slice none 0 0) ∧ Below W.heap.size W w' := by
  obtain ⟨hB, h1, h7, p, hp, hb⟩ := h
  have c2 := hb.cell 2
  simp only [List.getElem?_toArray, List.getElem?_cons_succ, List.getElem?_cons_zero] at c2
  obtain ⟨E, hE⟩ : ∃ E : Int, (er : Int) = E := ⟨_, rfl⟩
  rw [hE] at c2
  have hne : (E == 0) = false := by simp; omega
  have hne2 : (E != 0) = true := by simp; omega
  go_enter Try.func86, Try.ntmps86
  go_wp2
  go_quiet (fail)
  go_wp2
  go_ret
  exact ⟨rfl, below_drewN (Below.refl _ W) _⟩

set_option maxHeartbeats 1000000 in
theorem skip_short (B g : Nat) (A : Option Addr) (n c p k : Nat) (W : World) (h : MAt B W g A n c (.inr p)) (hn : n ≤ 1048576) (hk : n < p + k) (hk2 : k ≤ 1048576) :
    Calls Try.prog 86 #[.pointer (some ⟨g, 0, none⟩), .int .i64 (k : Int)] W fun e w' => e = .returned (.slice none 0 0) ∧ MAt B w' g A n c (.inl 2) ∧ KG g W w' := by
  obtain ⟨hB, hp, hb⟩ := h
  have c0 := hb.cell 0
  have c1 := hb.cell 1
  have c2 := hb.cell 2
  have f2 := hb.free 2
  simp only [List.getElem?_toArray, List.getElem?_cons_succ, List.getElem?_cons_zero] at c0 c1 c2
  have hlt : (n : Int) - (p : Int) < (k : Int) := by omega
  have hng : ¬ ((k : Int) ≤ (n : Int) - (p : Int)) := by omega
  obtain ⟨w2, hw2⟩ : ∃ w2, (W.setCell ⟨g, 2, none⟩ (.int .i64 2)) = w2 := ⟨_, rfl⟩
  go_enter Try.func86, Try.ntmps86
  go_wp2
  go_quiet (fail)
  go_wp2
  go_ret
  exact ⟨rfl, ⟨hB, by decide, by decide, p, hp, (hb.drewN nq).set 2 _⟩, ((KG.refl g W).drewN nq).setCell _⟩

set_option maxHeartbeats 1000000 in
theorem skip_ok (B g : Nat) (A : Option Addr) (n c p k : Nat) (bs : List UInt8) (W : World) (h : MAt B W g A n c (.inr p)) (hr : Rd W B A n (bs.map bv)) (hc : n ≤ c) (hn : n ≤ 1048576) (hk : p + k ≤ n) :
    Calls Try.prog 86 #[.pointer (some ⟨g, 0, none⟩), .int .i64 (k : Int)] W fun e w' => (∃ A2 c2, e = .returned (.slice A2 k c2) ∧ k ≤ c2 ∧ Rd w' B A2 k (((bs.drop p).take k).map bv)) ∧ MAt B w' g A n c (.inr (p + k)) ∧ KG g W w' := by
  obtain ⟨hB, hp, hb⟩ := h
  have c0 := hb.cell 0
  have c1 := hb.cell 1
  have c2 := hb.cell 2
  have f1 := hb.free 1
  simp only [List.getElem?_toArray, List.getElem?_cons_succ, List.getElem?_cons_zero] at c0 c1 c2
  have hlt : ¬ (n : Int) - (p : Int) < (k : Int) := by omega
  have hng : ((k : Int) ≤ (n : Int) - (p : Int)) := by omega
  go_enter Try.func86, Try.ntmps86
  go_wp2
  go_quiet (fail)
  go_wp2
  have hb2 : Blk ((W.drewN nq).setCell ⟨g, 1, none⟩ (.int .i64 ((p : Int) + (k : Int)))) g 93 #[.slice A n c, .int .i64 ((p : Int) + (k : Int)), .int .i64 0] := (hb.drewN nq).set 1 _
  have b2 : KG g W ((W.drewN nq).setCell ⟨g, 1, none⟩ (.int .i64 ((p : Int) + (k : Int)))) := ((KG.refl g W).drewN nq).setCell _
  generalize (W.drewN nq).setCell ⟨g, 1, none⟩ (.int .i64 ((p : Int) + (k : Int))) = W2 at hb2 b2 ⊢
  have r2 := hide (hr.below (b2.below hB (by have := hb.lt; omega)))
  have d0 := hb2.cell 0
  have d1 := hb2.cell 1
  simp only [List.getElem?_toArray, List.getElem?_cons_succ, List.getElem?_cons_zero] at d0 d1
  have hb2 := hide hb2
  have b2 := hide b2
  clear c0 c1 c2 f1 hb hr
  have hpn : (p : Int) + (k : Int) ≤ (c : Int) := by omega
  go_quiet (fail)
  go_wp2
  all_goals (
    have hb3 := hide (hb2.out.drewN nq)
    have b3 := hide (b2.out.drewN nq)
    have r3 := hide (r2.out.below (below_drewN (Below.refl B W2) nq))
    rw [show (p : Int) + (k : Int) = ((p + k : Nat) : Int) from by omega] at hb3
    generalize W2.drewN nq = W3 at hb3 b3 r3 ⊢)
  · have hcp : c = p := by assumption
    rw [hcp] at hb3
    go_ret
    exact ⟨⟨_, _, rfl, by omega, r3.out.none0 p k (by omega)⟩, ⟨hB, hk, hb3.out⟩, b3.out⟩
  · go_ret
    exact ⟨⟨_, _, rfl, by omega, r3.out.sub p k hk⟩, ⟨hB, hk, hb3.out⟩, b3.out⟩

end Go.Proofs.Ythplpoijkebjbaa

namespace Go.Proofs.Ythplpoijkebjbaa
open Go.RowKit Go.Shelf
set_option linter.unusedVariables false

theorem ofI64 (a : Nat) (ha : a < 9223372036854775808) : (BitVec.ofInt 64 (a : Int)).toNat = a := by
  rw [BitVec.ofInt_natCast, BitVec.toNat_ofNat, Nat.mod_eq_of_lt (by omega)]
theorem or_byte (x y : Nat) (hx : x < 256) (hy : y < 256) : bits .or .i64 (x : Int) ((y : Int) * 256) = ((x + 256 * y : Nat) : Int) := by
  have h1 : x ||| y * 256 = x + 256 * y := by rw [Nat.or_comm, show y * 256 = 2 ^ 8 * y from by omega, nat_join 8 (2 ^ 8 * y) x (Nat.mul_mod_right _ _) (by omega)]; omega
  have hx := Nat.or_lt_two_pow (x := x) (y := y * 256) (n := 16) (by omega) (by omega)
  rw [show (y : Int) * 256 = ((y * 256 : Nat) : Int) from (Int.natCast_mul y 256).symm, ← h1]
  show IntKind.i64.wrap ((BitVec.ofInt 64 (x : Int) ||| BitVec.ofInt 64 ((y * 256 : Nat) : Int)).toNat : Int) = _
  rw [BitVec.toNat_or, ofI64 x (by omega), ofI64 (y * 256) (by omega), IntKind.wrap_i64]
  omega
theorem Rd.gz {W : World} {B p k : Nat} {A : Option Addr} {bs : List UInt8} (h : Rd W B A k (((bs.drop p).take k).map bv)) (i : Nat) (hi : i < k) : ∃ b o, A = some ⟨b, o, none⟩ ∧ b < B ∧ W.cell? ⟨b, o + i, none⟩ = some (.int .u8 (Gz.byte bs (p + i) : Nat)) := by
  obtain ⟨b, o, hA, hb, hc⟩ := h.byte (j := i) hi
  refine ⟨b, o, hA, hb, ?_⟩
  rw [hc]
  have hl := h.len
  rw [List.length_take, List.length_drop] at hl
  congr 3
  unfold Gz.byte
  rw [List.getElem_take, List.getElem_drop, List.getD_eq_getElem?_getD, List.getElem?_eq_getElem (by omega)]
  rfl
theorem Rd.gz2 {W : World} {B p : Nat} {A : Option Addr} {bs : List UInt8} (h : Rd W B A 2 (((bs.drop p).take 2).map bv)) : ∃ b o, A = some ⟨b, o, none⟩ ∧ b < B ∧ W.cell? ⟨b, o, none⟩ = some (.int .u8 (Gz.byte bs p : Nat)) ∧ W.cell? ⟨b, o + 1, none⟩ = some (.int .u8 (Gz.byte bs (p + 1) : Nat)) := by
  obtain ⟨b, o, hA, hb, e0⟩ := h.gz 0 (by decide)
  obtain ⟨b', o', hA', _, e1⟩ := h.gz 1 (by decide)
  rw [hA] at hA'
  injection hA' with h1
  injection h1 with h2 h3
  subst h2 h3
  exact ⟨b, o, hA, hb, e0, e1⟩
theorem Gz.byte_lt (bs : List UInt8) (i : Nat) : Gz.byte bs i < 256 := UInt8.toNat_lt _
theorem Gz.skip_le {bs : List UInt8} {k p q : Nat} (h : Gz.skip bs k p = .inr q) : q = p + k ∧ p + k ≤ bs.length := by
  unfold Gz.skip at h
  split at h
  · injection h with h; exact ⟨h.symm, by assumption⟩
  · cases h
theorem skip_any (B g : Nat) (A : Option Addr) (n c k : Nat) (s : Sum Nat Nat) (bs : List UInt8) (W : World) (h : MAt B W g A n c s) (hr : Rd W B A n (bs.map bv)) (hc : n ≤ c) (hn : n ≤ 1048576) (hk : k ≤ 1048576) :
    Calls Try.prog 86 #[.pointer (some ⟨g, 0, none⟩), .int .i64 (k : Int)] W fun e w' => (∃ v, e = .returned v) ∧ MAt B w' g A n c (Gz.bind s (Gz.skip bs k)) ∧ KG g W w' := by
  have hl : bs.length = n := hr.len
  cases s with
  | inl e =>
    refine (skip_err B g A n c e k W h).mono ?_
    rintro e' w' ⟨rfl, hb⟩
    obtain ⟨hB, h1, h7, p, hp, hk⟩ := h
    have hlt := hk.lt
    exact ⟨⟨_, rfl⟩, ⟨hB, h1, h7, p, hp, hk.below hb hlt⟩, KG.of_below hb⟩
  | inr p =>
    by_cases hpk : p + k ≤ n
    · refine (skip_ok B g A n c p k bs W h hr hc hn hpk).mono ?_
      rintro e' w' ⟨⟨A2, c2, rfl, _, _⟩, h2, h3⟩
      exact ⟨⟨_, rfl⟩, by rw [show Gz.bind (.inr p) (Gz.skip bs k) = .inr (p + k) from if_pos (by omega)]; exact h2, h3⟩
    · refine (skip_short B g A n c p k W h hn (by omega) hk).mono ?_
      rintro e' w' ⟨rfl, h2, h3⟩
      exact ⟨⟨_, rfl⟩, by rw [show Gz.bind (.inr p) (Gz.skip bs k) = .inl 2 from if_neg (by omega)]; exact h2, h3⟩

set_option maxRecDepth 100000 in
set_option maxHeartbeats 1000000 in
theorem extra_any (B g : Nat) (A : Option Addr) (n c : Nat) (s : Sum Nat Nat) (bs : List UInt8) (W : World) (h : MAt B W g A n c s) (hr : Rd W B A n (bs.map bv)) (hc : n ≤ c) (hn : n ≤ 1048576) :
    Calls Try.prog 88 #[.pointer (some ⟨g, 0, none⟩)] W fun e w' => (∃ v, e = .returned v) ∧ MAt B w' g A n c (Gz.bind s (Gz.extra bs)) ∧ KG g W w' := by
  have hl : bs.length = n := hr.len
  cases s with
  | inl er =>
    have hs := hide (skip_err B g A n c er 2 W h)
    obtain ⟨hB, h1, h7, p, hp, hk⟩ := h
    have hk := hide hk
    obtain ⟨E, hE⟩ : ∃ E : Int, (er : Int) = E := ⟨_, rfl⟩
    have hne : (E == 0) = false := by simp; omega
    go_enter Try.func88, Try.ntmps88
    go_wp2_with (go_at_call 86; (with_reducible refine (hs.out).mono ?_); rintro e w' ⟨rfl, hb⟩; have k2 := hide (hk.out.below hb hk.out.lt); have c2 := k2.out.cell 2; simp only [List.getElem?_toArray, List.getElem?_cons_succ, List.getElem?_cons_zero, hE] at c2; have hb := hide hb)
    refine bodyPost_end (results_none rfl _ _ _) rfl ?_
    exact ⟨⟨_, rfl⟩, ⟨hB, h1, h7, p, hp, k2.out⟩, KG.of_below hb.out⟩
  | inr p =>
    by_cases hp2 : p + 2 ≤ n
    · have hs := hide (show Calls Try.prog 86 #[.pointer (some ⟨g, 0, none⟩), .int .i64 2] W _ from skip_ok B g A n c p 2 bs W h hr hc hn hp2)
      have hr := hide hr
      obtain ⟨x, hx⟩ : ∃ x, Gz.byte bs p = x := ⟨_, rfl⟩
      obtain ⟨y, hy⟩ : ∃ y, Gz.byte bs (p + 1) = y := ⟨_, rfl⟩
      have hx8 : x < 256 := by rw [← hx]; exact Gz.byte_lt _ _
      have hy8 : y < 256 := by rw [← hy]; exact Gz.byte_lt _ _
      have hor := or_byte x y hx8 hy8
      obtain ⟨K, hK⟩ : ∃ K, x + 256 * y = K := ⟨_, rfl⟩
      have hK6 : K ≤ 65535 := by omega
      have hres := hide (show Gz.bind (.inr p) (Gz.extra bs) = Gz.bind (.inr (p + 2)) (Gz.skip bs K) from by
        show Gz.bind (Gz.skip bs 2 p) _ = _
        rw [show Gz.skip bs 2 p = .inr (p + 2) from if_pos (by omega), ← hK, ← hx, ← hy])
      rw [hK] at hor
      have hw1 : IntKind.i64.wrap (x : Int) = (x : Int) := by rw [IntKind.wrap_i64]; omega
      have hw2 : IntKind.i64.wrap (y : Int) = (y : Int) := by rw [IntKind.wrap_i64]; omega
      have hw3 : IntKind.i64.wrap ((y : Int) * 256) = (y : Int) * 256 := by rw [IntKind.wrap_i64]; omega
      have hBg := h.1
      have hBW := h.2.2.lt
      clear h hK
      go_enter Try.func88, Try.ntmps88
      go_upto_region 2 with (go_at_call 86; (with_reducible refine (hs.out).mono ?_); rintro e w1 ⟨⟨A2, c2, rfl, hc2, r2⟩, h2, b1⟩; obtain ⟨b, o, rfl, hbb, e0, e1⟩ := r2.gz2; rw [hx] at e0; rw [hy] at e1; have k2 := h2.2.2.cell 2; simp only [List.getElem?_toArray, List.getElem?_cons_succ, List.getElem?_cons_zero] at k2; have h2 := hide h2; have b1 := hide b1; have hbb := hide hbb; clear r2)
      have h2d := hide (skip_any B g A n c K (.inr (p + 2)) bs w1.drew (by obtain ⟨q1, q2, q3⟩ := h2.out; exact ⟨q1, q2, q3.drew⟩) ((hr.out.below (b1.out.below hBg (by omega))).below (below_drewN (Below.refl _ w1) 1)) hc hn (by omega))
      rw [← hres.out] at h2d
      have bd := hide (b1.out.drewN 1)
      go_still_tail 11, (by kernel_rfl)
      change wpList _ _ _ _ _ w1.drew
      go_wp2_with (go_at_call 86; (with_reducible refine (h2d.out).mono ?_); rintro e w3 ⟨⟨v, rfl⟩, h3, b3⟩; have h3 := hide h3; have b3 := hide b3)
      refine bodyPost_end (results_none rfl _ _ _) rfl ?_
      exact ⟨⟨_, rfl⟩, h3.out, bd.out.trans b3.out⟩
    · have hs := hide (show Calls Try.prog 86 #[.pointer (some ⟨g, 0, none⟩), .int .i64 2] W _ from skip_short B g A n c p 2 W h hn (by omega) (by decide))
      have hres := hide (show Gz.bind (.inr p) (Gz.extra bs) = .inl 2 from by
        show Gz.bind (Gz.skip bs 2 p) _ = _
        rw [show Gz.skip bs 2 p = .inl 2 from if_neg (by omega)]
        rfl)
      clear h
      go_enter Try.func88, Try.ntmps88
      go_wp2_with (go_at_call 86; (with_reducible refine (hs.out).mono ?_); rintro e w1 ⟨rfl, h2, b1⟩; obtain ⟨q, hq, kq⟩ := show ∃ p, p ≤ n ∧ Blk w1 g 93 #[.slice A n c, .int .i64 (p : Nat), .int .i64 (2 : Nat)] from h2.2.2.2; have k2 := kq.cell 2; simp only [List.getElem?_toArray, List.getElem?_cons_succ, List.getElem?_cons_zero] at k2; have h2 := hide h2; have b1 := hide b1; clear kq)
      refine bodyPost_end (results_none rfl _ _ _) rfl ?_
      exact ⟨⟨_, rfl⟩, by rw [hres.out]; exact h2.out, b1.out⟩

def Gz.idxV (l : List UInt8) : Int := match l.findIdx? (· == 0) with | none => -1 | some i => (i : Int)
theorem Gz.idx_lib (l : List UInt8) : Lib.indexByte l 0 = Gz.idxV l := by
  unfold Gz.idxV
  induction l with
  | nil => rfl
  | cons b l ih =>
    rw [Lib.indexByte, List.findIdx?_cons]
    by_cases hb : (b == 0) = true
    · rw [if_pos hb, if_pos hb]; rfl
    · rw [if_neg hb, if_neg hb, ih]
      cases l.findIdx? (· == 0) with
      | none => rfl
      | some i => simp

set_option maxRecDepth 100000 in
set_option maxHeartbeats 1000000 in
theorem index_any (A : Option Addr) (n c B : Nat) (bs : List UInt8) (W : World) (hr : Rd W B A n (bs.map bv)) :
    Calls Try.prog 114 #[.slice A n c, .int .u8 0] W fun e w' => e = .returned (.int .i64 (Gz.idxV bs)) ∧ W = w' := by
  have hl : bs.length = n := hr.len
  have hrun : (Extern.BytealgIndexByte.indexByte #[.slice A n c, .int .u8 0]).run Try.prog W = .ok (.int .i64 (Gz.idxV bs)) W := by
    cases A with
    | none =>
      have hn : n = 0 := by
        rcases Nat.eq_zero_or_pos n with h | h
        · exact h
        · obtain ⟨b, o, hA, _⟩ := hr.2 0 h
          cases hA
      subst hn
      have hbs : bs = [] := List.eq_nil_of_length_eq_zero hl
      subst hbs
      exact Lib.run_indexByteNil W 0 c 0
    | some a =>
      have h := Lib.run_indexByteAt (P := Try.prog) W a n c (bs.map fun x => (x.toNat : Int)) (by rw [List.length_map]; exact hl) (fun i hi => by
        obtain ⟨b, o, hA, _, hc⟩ := hr.byte (j := i) hi
        injection hA with hA
        subst hA
        rw [Addr.add_mid, hc]
        congr 2
        rw [List.getD_eq_getElem?_getD, List.getElem?_map, List.getElem?_eq_getElem (by omega)]
        rfl) 0
      rw [show Lib.bytesOf (bs.map fun x => (x.toNat : Int)) = bs from by simp [Lib.bytesOf, List.map_map, Function.comp_def]] at h
      exact h.trans (by rw [show ((0 : Int).toNat.toUInt8) = 0 from rfl, Gz.idx_lib])
  go_enter Try.func114, Try.ntmps114
  go_wp2
  rw [run_callFunc_extern Try.func125 (by kernel_rfl) (by kernel_rfl) (by kernel_rfl) (e := Extern.BytealgIndexByte.indexByte) (by kernel_rfl), hrun]
  simp only [Result.andThen]
  rw [Oper.upon_value]
  go_wp2
  go_ret
  exact ⟨rfl, rfl⟩

theorem Rd.rest {W : World} {B n : Nat} {A : Option Addr} {bs : List UInt8} (h : Rd W B A n (bs.map bv)) (p : Nat) (hp : p ≤ n) : Rd W B (A.map fun x => x.add p) (n - p) ((bs.drop p).map bv) := by
  have h1 := h.sub p (n - p) (by omega)
  have hl : bs.length = n := h.len
  rwa [← List.map_drop, List.take_of_length_le (by rw [List.length_map, List.length_drop]; omega)] at h1
theorem MAt.drewN {B : Nat} {W : World} {g : Nat} {A : Option Addr} {n c : Nat} {s : Sum Nat Nat} (h : MAt B W g A n c s) (k : Nat) : MAt B (W.drewN k) g A n c s := by
  cases s with
  | inl e => exact ⟨h.1, h.2.1, h.2.2.1, h.2.2.2.choose, h.2.2.2.choose_spec.1, h.2.2.2.choose_spec.2.drewN k⟩
  | inr p => exact ⟨h.1, h.2.1, h.2.2.drewN k⟩

/-- What comes behind the search for the byte 0. -/
theorem text_in (B g : Nat) (A : Option Addr) (n c p : Nat) (bs : List UInt8) (W : World) (h : MAt B W g A n c (.inr p)) (hr : Rd W B A n (bs.map bv)) (hc : n ≤ c) (hn : n ≤ 1048576) :
    (Gz.idxV (bs.drop p) = -1 ∧ Gz.bind (.inr p) (Gz.text bs) = .inl 2) ∨ ∃ i : Nat, Gz.idxV (bs.drop p) = (i : Int) ∧ p + (i + 1) ≤ n ∧ Gz.bind (.inr p) (Gz.text bs) = .inr (p + (i + 1)) := by
  have hl : bs.length = n := hr.len
  show (_ ∧ Gz.text bs p = _) ∨ ∃ i : Nat, _ ∧ _ ∧ Gz.text bs p = _
  unfold Gz.idxV Gz.text
  cases hf : (bs.drop p).findIdx? (· == 0) with
  | none => exact .inl ⟨rfl, rfl⟩
  | some i =>
    refine .inr ⟨i, rfl, ?_, rfl⟩
    have h1 := (List.findIdx?_eq_some_iff_getElem.1 hf).1
    rw [List.length_drop] at h1
    omega

set_option maxRecDepth 100000 in
set_option maxHeartbeats 1000000 in
theorem text_any (B g : Nat) (A : Option Addr) (n c : Nat) (s : Sum Nat Nat) (bs : List UInt8) (W : World) (h : MAt B W g A n c s) (hr : Rd W B A n (bs.map bv)) (hc : n ≤ c) (hn : n ≤ 1048576) :
    Calls Try.prog 89 #[.pointer (some ⟨g, 0, none⟩)] W fun e w' => (∃ v, e = .returned v) ∧ MAt B w' g A n c (Gz.bind s (Gz.text bs)) ∧ KG g W w' := by
  have hl : bs.length = n := hr.len
  cases s with
  | inl er =>
    obtain ⟨hB, h1, h7, p, hp, hk⟩ := h
    have hk := hide hk
    obtain ⟨E, hE⟩ : ∃ E : Int, (er : Int) = E := ⟨_, rfl⟩
    have hne : (E != 0) = true := by simp; omega
    have c2 := hk.out.cell 2
    simp only [List.getElem?_toArray, List.getElem?_cons_succ, List.getElem?_cons_zero, hE] at c2
    go_enter Try.func89, Try.ntmps89
    go_wp2
    refine bodyPost_ret (results_none rfl _ _ _) rfl ?_
    exact ⟨⟨_, rfl⟩, ⟨hB, h1, h7, p, hp, hk.out⟩, KG.refl _ _⟩
  | inr p =>
    have hin := text_in B g A n c p bs W h hr hc hn
    have hp := h.2.1
    have h' := hide h
    have hr' := hide hr
    have c0 := h.2.2.cell 0
    have c1 := h.2.2.cell 1
    have c2 := h.2.2.cell 2
    have f2 := h.2.2.free 2
    simp only [List.getElem?_toArray, List.getElem?_cons_succ, List.getElem?_cons_zero] at c0 c1 c2
    have hq : ∀ (A1 : Option Addr) (m c1 : Nat), Rd W B A1 m ((bs.drop p).map bv) → ∀ k, Calls Try.prog 114 #[.slice A1 m c1, .int .u8 0] (W.drewN k) fun e w' => e = .returned (.int .i64 (Gz.idxV (bs.drop p))) ∧ W.drewN k = w' := fun A1 m c1 h k => index_any A1 m c1 B (bs.drop p) (W.drewN k) (h.below (below_drewN (Below.refl _ W) k))
    have hnp : (p : Int) ≤ (n : Int) := by omega
    have hnc : (n : Int) ≤ (c : Int) := by omega
    rcases (show c = p ∨ c ≠ p by omega) with hcp | hcp
    · obtain rfl : p = n := by omega
      obtain rfl : c = p := by omega
      have hq1 := hide (hq A 0 0 (by rw [List.drop_of_length_le (by omega)]; exact Rd.nil _ _ _))
      obtain ⟨V, hV⟩ : ∃ V, Gz.idxV (bs.drop c) = V := ⟨_, rfl⟩
      rw [hV] at hq1 hin
      clear hq h hr
      go_enter Try.func89, Try.ntmps89
      go_upto_region 1 with fail
      go_quiet ((go_at_call 114; exact quiet_left (hq1.out _)))
      rcases hin with ⟨rfl, hres⟩ | ⟨i, rfl, hin, hres⟩
      · replace hres := hide hres
        have h3 := hide (h'.out.drewN nq)
        have b3 := hide ((KG.refl g W).drewN nq)
        have d2 := h3.out.2.2.cell 2
        have f3 := h3.out.2.2.free 2
        simp only [List.getElem?_toArray, List.getElem?_cons_succ, List.getElem?_cons_zero] at d2
        generalize W.drewN nq = W3 at h3 b3 d2 f3 ⊢
        clear c0 c1 c2 f2 hq1 h' hr'
        go_wp2
        refine bodyPost_ret (results_none rfl _ _ _) rfl ?_
        exact ⟨⟨_, rfl⟩, by rw [hres.out]; exact ⟨h3.out.1, by decide, by decide, c, hp, h3.out.2.2.set 2 _⟩, b3.out.setCell _⟩
      · exact absurd hin (by omega)
    · have hq1 := hide (hq _ _ (c - p) (hr.rest p hp))
      obtain ⟨V, hV⟩ : ∃ V, Gz.idxV (bs.drop p) = V := ⟨_, rfl⟩
      rw [hV] at hq1 hin
      clear hq h hr
      go_enter Try.func89, Try.ntmps89
      go_upto_region 1 with fail
      go_quiet ((go_at_call 114; exact quiet_left (hq1.out _)))
      rcases hin with ⟨rfl, hres⟩ | ⟨i, rfl, hin, hres⟩
      · replace hres := hide hres
        have h3 := hide (h'.out.drewN nq)
        have b3 := hide ((KG.refl g W).drewN nq)
        have d2 := h3.out.2.2.cell 2
        have f3 := h3.out.2.2.free 2
        simp only [List.getElem?_toArray, List.getElem?_cons_succ, List.getElem?_cons_zero] at d2
        generalize W.drewN nq = W3 at h3 b3 d2 f3 ⊢
        clear c0 c1 c2 f2 hq1 h' hr'
        go_wp2
        refine bodyPost_ret (results_none rfl _ _ _) rfl ?_
        exact ⟨⟨_, rfl⟩, by rw [hres.out]; exact ⟨h3.out.1, by decide, by decide, p, hp, h3.out.2.2.set 2 _⟩, b3.out.setCell _⟩
      · replace hres := hide hres
        have h3 := h'.out.drewN nq
        have b3 := hide ((KG.refl g W).drewN nq)
        have r3 := hr'.out.below (below_drewN (Below.refl B W) nq)
        have hs := hide (show Calls Try.prog 86 #[.pointer (some ⟨g, 0, none⟩), .int .i64 ((i : Int) + 1)] (W.drewN nq) _ from skip_any B g A n c (i + 1) (.inr p) bs (W.drewN nq) h3 r3 hc hn (by omega))
        have hres2 := hide (show Gz.bind (.inr p) (Gz.skip bs (i + 1)) = Gz.bind (.inr p) (Gz.text bs) from by rw [hres.out]; exact if_pos (by omega))
        generalize W.drewN nq = W3 at h3 b3 hs ⊢
        clear c0 c1 c2 f2 hq1 h' hr' h3 r3
        go_wp2_with (go_at_call 86; (with_reducible refine (hs.out).mono ?_); rintro e w3 ⟨⟨v, rfl⟩, h4, b4⟩; have h4 := hide h4; have b4 := hide b4)
        refine bodyPost_end (results_none rfl _ _ _) rfl ?_
        exact ⟨⟨_, rfl⟩, by rw [← hres2.out]; exact h4.out, b3.out.trans b4.out⟩

end Go.Proofs.Ythplpoijkebjbaa

namespace Go.Proofs.Ythplpoijkebjbaa
open Go.RowKit Go.Shelf
set_option linter.unusedVariables false

theorem MAt.below {B : Nat} {W W' : World} {g : Nat} {A : Option Addr} {n c : Nat} {s : Sum Nat Nat} (h : MAt B W g A n c s) (hb : Below W.heap.size W W') : MAt B W' g A n c s := by
  cases s with
  | inl e => exact ⟨h.1, h.2.1, h.2.2.1, h.2.2.2.choose, h.2.2.2.choose_spec.1, h.2.2.2.choose_spec.2.below hb h.2.2.2.choose_spec.2.lt⟩
  | inr p => exact ⟨h.1, h.2.1, h.2.2.below hb h.2.2.lt⟩
theorem MAt.some {B : Nat} {W : World} {g : Nat} {A : Option Addr} {n c : Nat} {s : Sum Nat Nat} (h : MAt B W g A n c s) : ∃ (p : Nat) (E : Int), p ≤ n ∧ Blk W g 93 #[.slice A n c, .int .i64 (p : Nat), .int .i64 E] ∧ (∀ q, s = .inr q → p = q) := by
  cases s with
  | inl e => exact ⟨_, _, h.2.2.2.choose_spec.1, h.2.2.2.choose_spec.2, fun q h => by cases h⟩
  | inr p => exact ⟨p, 0, h.2.1, h.2.2, fun q h => by injection h⟩
theorem MAt.lt {B : Nat} {W : World} {g : Nat} {A : Option Addr} {n c : Nat} {s : Sum Nat Nat} (h : MAt B W g A n c s) : B ≤ W.heap.size := by
  obtain ⟨p, E, _, hb, _⟩ := h.some
  have := hb.lt
  have := h.1
  omega
theorem or_byte16 (x y : Nat) (hx : x < 256) (hy : y < 256) : bits .or .u16 (x : Int) ((y : Int) * 256) = ((x + 256 * y : Nat) : Int) := by
  have h1 : x ||| y * 256 = x + 256 * y := by rw [Nat.or_comm, show y * 256 = 2 ^ 8 * y from by omega, nat_join 8 (2 ^ 8 * y) x (Nat.mul_mod_right _ _) (by omega)]; omega
  rw [show (y : Int) * 256 = ((y * 256 : Nat) : Int) from (Int.natCast_mul y 256).symm, u16_or_nat x (y * 256) (by omega) (by omega), h1]

set_option maxRecDepth 100000 in
set_option maxHeartbeats 1000000 in
theorem msum_any (B g : Nat) (A : Option Addr) (n c : Nat) (s : Sum Nat Nat) (bs : List UInt8) (W : World) (h : MAt B W g A n c s) (hr : Rd W B A n (bs.map bv)) (hc : n ≤ c) (hn : n ≤ 1048576) :
    Calls Try.prog 90 #[.pointer (some ⟨g, 0, none⟩)] W fun e w' => (∃ v, e = .returned v) ∧ MAt B w' g A n c (Gz.bind s (Gz.sum bs)) ∧ KG g W w' := by
  have hl : bs.length = n := hr.len
  obtain ⟨p, E0, hp, hb0, hpq⟩ := h.some
  have c0 := hb0.cell 0
  have c1 := hb0.cell 1
  simp only [List.getElem?_toArray, List.getElem?_cons_succ, List.getElem?_cons_zero] at c0 c1
  have hpI : (p : Int) ≤ (c : Int) := by omega
  have hof := hide (of_any A p c (bs.take p) W.drew B ((hr.below (below_drewN (Below.refl _ W) 1)).upto p hp) h.lt (by omega))
  have hd := hide (h.drewN 1)
  have hrd := hide (hr.below (below_drewN (Below.refl _ W) 1))
  have hBl := hide h.lt
  replace hpq := hide hpq
  obtain ⟨Sm, hSm⟩ : ∃ Sm, Crc.sum (bs.take p) = Sm := ⟨_, rfl⟩
  rw [hSm] at hof
  clear h hr hb0
  go_enter Try.func90, Try.ntmps90
  go_wp2
  go_still_tail 9, (by kernel_rfl)
  change wpList _ _ _ _ _ W.drew
  go_upto_region 1 with (go_at_call 63; (with_reducible refine (hof.out).mono ?_); rintro e w1 ⟨rfl, hb1⟩; have hb1 := hide hb1)
  have m1 := hide ((hd.out : MAt B W.drew g A n c s).below hb1.out)
  have b1 := hide (show KG g W w1 from KG.trans ((KG.refl g W).drewN 1) (KG.of_below hb1.out))
  have r1 := hide (hrd.out.below (hb1.out.mono hBl.out))
  clear hof hd hrd hb1 c0 c1
  cases s with
  | inl er =>
    have hs := hide (skip_err B g A n c er 2 w1 m1.out)
    obtain ⟨hB, h1, h7, q, hq, hk⟩ := m1.out
    have hk := hide hk
    obtain ⟨E, hE⟩ : ∃ E : Int, (er : Int) = E := ⟨_, rfl⟩
    have hne : (E == 0) = false := by simp; omega
    clear m1
    go_upto_region 2 with (go_at_call 86; (with_reducible refine (hs.out).mono ?_); rintro e w2 ⟨rfl, hb⟩; have k2 := hide (hk.out.below hb hk.out.lt); have c2 := k2.out.cell 2; simp only [List.getElem?_toArray, List.getElem?_cons_succ, List.getElem?_cons_zero, hE] at c2; have b2 := hide (b1.out.trans (KG.of_below hb)); clear hb)
    go_quiet (fail)
    go_wp2
    refine bodyPost_end (results_none rfl _ _ _) rfl ?_
    exact ⟨⟨_, rfl⟩, ⟨hB, h1, h7, q, hq, k2.out.drewN nq⟩, b2.out.drewN nq⟩
  | inr p' =>
    obtain rfl := hpq.out p' rfl
    by_cases hp2 : p + 2 ≤ n
    · have hs := hide (show Calls Try.prog 86 #[.pointer (some ⟨g, 0, none⟩), .int .i64 2] w1 _ from skip_ok B g A n c p 2 bs w1 m1.out r1.out hc hn hp2)
      obtain ⟨x, hx⟩ : ∃ x, Gz.byte bs p = x := ⟨_, rfl⟩
      obtain ⟨y, hy⟩ : ∃ y, Gz.byte bs (p + 1) = y := ⟨_, rfl⟩
      have hx8 : x < 256 := by rw [← hx]; exact Gz.byte_lt _ _
      have hy8 : y < 256 := by rw [← hy]; exact Gz.byte_lt _ _
      have hor := or_byte16 x y hx8 hy8
      obtain ⟨K, hK⟩ : ∃ K, x + 256 * y = K := ⟨_, rfl⟩
      obtain ⟨T, hT⟩ : ∃ T, Sm % 65536 = T := ⟨_, rfl⟩
      have hwT : IntKind.u16.wrap (Sm : Int) = (T : Int) := by rw [IntKind.wrap_u16]; omega
      have hres := hide (show Gz.bind (.inr p) (Gz.sum bs) = if K = T then .inr (p + 2) else .inl 4 from by
        show Gz.bind (Gz.skip bs 2 p) _ = _
        rw [show Gz.skip bs 2 p = .inr (p + 2) from if_pos (by omega), ← hK, ← hT, ← hSm, ← hx, ← hy]
        rfl)
      rw [hK] at hor
      have hw1 : IntKind.u16.wrap (x : Int) = (x : Int) := by rw [IntKind.wrap_u16]; omega
      have hw2 : IntKind.u16.wrap (y : Int) = (y : Int) := by rw [IntKind.wrap_u16]; omega
      have hw3 : IntKind.u16.wrap ((y : Int) * 256) = (y : Int) * 256 := by rw [IntKind.wrap_u16]; omega
      clear hK hT hSm
      go_upto_region 2 with (go_at_call 86; (with_reducible refine (hs.out).mono ?_); rintro e w2 ⟨⟨A2, c2, rfl, hc2, r2⟩, h2, b2⟩; obtain ⟨b, o, rfl, hbb, e0, e1⟩ := r2.gz2; rw [hx] at e0; rw [hy] at e1; have k2 := h2.2.2.cell 2; simp only [List.getElem?_toArray, List.getElem?_cons_succ, List.getElem?_cons_zero] at k2; have h2 := hide h2; have b2 := hide (b1.out.trans b2); have hbb := hide hbb; clear r2)
      rcases (show K = T ∨ K ≠ T by omega) with hKT | hKT
      · have hneq : ((K : Int) != (T : Int)) = false := by simp; omega
        go_quiet (fail)
        go_wp2
        refine bodyPost_end (results_none rfl _ _ _) rfl ?_
        exact ⟨⟨_, rfl⟩, by rw [hres.out, if_pos hKT]; exact h2.out.drewN nq, b2.out.drewN nq⟩
      · have hneq : ((K : Int) != (T : Int)) = true := by simp; omega
        go_quiet (fail)
        have h3 := hide (h2.out.drewN nq)
        have b3 := hide (b2.out.drewN nq)
        have d2 := h3.out.2.2.cell 2
        have f3 := h3.out.2.2.free 2
        simp only [List.getElem?_toArray, List.getElem?_cons_succ, List.getElem?_cons_zero] at d2
        generalize w2.drewN nq = W3 at h3 b3 d2 f3 ⊢
        clear k2 e0 e1
        go_wp2
        refine bodyPost_end (results_none rfl _ _ _) rfl ?_
        exact ⟨⟨_, rfl⟩, by rw [hres.out, if_neg hKT]; exact ⟨h3.out.1, by decide, by decide, p + 2, hp2, h3.out.2.2.set 2 _⟩, b3.out.setCell _⟩
    · have hs := hide (show Calls Try.prog 86 #[.pointer (some ⟨g, 0, none⟩), .int .i64 2] w1 _ from skip_short B g A n c p 2 w1 m1.out hn (by omega) (by decide))
      have hres := hide (show Gz.bind (.inr p) (Gz.sum bs) = .inl 2 from by
        show Gz.bind (Gz.skip bs 2 p) _ = _
        rw [show Gz.skip bs 2 p = .inl 2 from if_neg (by omega)]
        rfl)
      go_upto_region 2 with (go_at_call 86; (with_reducible refine (hs.out).mono ?_); rintro e w2 ⟨rfl, h2, b2⟩; obtain ⟨q, hq, kq⟩ := show ∃ p, p ≤ n ∧ Blk w2 g 93 #[.slice A n c, .int .i64 (p : Nat), .int .i64 (2 : Nat)] from h2.2.2.2; have k2 := kq.cell 2; simp only [List.getElem?_toArray, List.getElem?_cons_succ, List.getElem?_cons_zero] at k2; have h2 := hide h2; have b2 := hide (b1.out.trans b2); clear kq)
      go_quiet (fail)
      go_wp2
      refine bodyPost_end (results_none rfl _ _ _) rfl ?_
      exact ⟨⟨_, rfl⟩, by rw [hres.out]; exact h2.out.drewN nq, b2.out.drewN nq⟩

end Go.Proofs.Ythplpoijkebjbaa
