/- The plain law of layer 6 (gzip): what bytes hold, as frames. There is no condition. Layer 6 (gzip): a member in memory, and its way on: skip. The condition: where the bytes lie. Layer 6 (gzip): the parts of a header: extra, text, sum. The condition: where the bytes lie. Layer 6 (gzip): the header's own sum. The condition: where the bytes lie. Layer 6 (gzip): the header. The condition: where the bytes lie. Layer 6 (gzip): the whole header. The condition: where the bytes lie. Layer 6 (gzip): a number as four bytes; two slices' bytes compared. The conditions: where the bytes lie. Layer 6 (gzip): what a member holds, and its sums. The condition: where the bytes lie. Layer 4 (inflate): no more bytes than asked for. There is no condition. Layer 6 (gzip): what a member holds, where it can be unpacked. The condition: where the bytes lie. Layer 6 (gzip): what a member holds, whole. -/
import Derived.Test.YtaapjampmnanmaaGreatCrcX
import Derived.Test.YtaapjampmnanmaaGreatInfY
import Derived.Test.YtaapjampmnanmaaGreatDefX
import Derived.StillTailTactics
import Derived.Shelf.Bytes.SlIndexAt
import Derived.Deep.DeepCutAuto
import Derived.Deep.CutBlock
import Derived.Test.YtaapjampmnanmaaGreatInfX
import Derived.Test.YtaapjampmnanmaaGreatAppendMake
import Derived.Test.YtaapjampmnanmaaGreatMem
import Derived.OwnWalkIn
import Derived.Test.YtaapjampmnanmaaGreatHuffX
import Derived.Test.YtaapjampmnanmaaGreatBitX
import Derived.Deep.LoopGhost
import Derived.Deep.RegionWith
import Derived.Deep.RegionHeld3
namespace Go.Proofs.YtaapjampmnanmaaGreat
set_option linter.unusedVariables false
def Gz.bind {α β : Type} (x : Sum Nat α) (f : α → Sum Nat β) : Sum Nat β := match x with | .inl e => .inl e | .inr a => f a
def Gz.byte (bs : List UInt8) (i : Nat) : Nat := (bs.getD i 0).toNat
def Gz.skip (bs : List UInt8) (k p : Nat) : Sum Nat Nat := if p + k ≤ bs.length then .inr (p + k) else .inl 2
def Gz.extra (bs : List UInt8) (p : Nat) : Sum Nat Nat := Gz.bind (Gz.skip bs 2 p) fun q => Gz.skip bs (Gz.byte bs p + 256 * Gz.byte bs (p + 1)) q
def Gz.text (bs : List UInt8) (p : Nat) : Sum Nat Nat := match (bs.drop p).findIdx? (· == 0) with | none => .inl 2 | some i => .inr (p + (i + 1))
def Gz.sum (bs : List UInt8) (p : Nat) : Sum Nat Nat := Gz.bind (Gz.skip bs 2 p) fun q => if Gz.byte bs p + 256 * Gz.byte bs (p + 1) = Crc.sum (bs.take p) % 65536 then .inr q else .inl 4
def Gz.part (c : Bool) (f : Nat → Sum Nat Nat) (s : Sum Nat Nat) : Sum Nat Nat := if c then Gz.bind s f else s
def Gz.parts (bs : List UInt8) (f : Nat) (s : Sum Nat Nat) : Sum Nat Nat :=
  Gz.part (f.testBit 1) (Gz.sum bs) (Gz.part (f.testBit 4) (Gz.text bs) (Gz.part (f.testBit 3) (Gz.text bs) (Gz.part (f.testBit 2) (Gz.extra bs) s)))
def Gz.head (bs : List UInt8) : Sum Nat Nat :=
  Gz.bind (Gz.skip bs 10 0) fun p => if Gz.byte bs 0 = 31 ∧ Gz.byte bs 1 = 139 ∧ Gz.byte bs 2 = 8 ∧ Gz.byte bs 3 < 32 then Gz.parts bs (Gz.byte bs 3) (.inr p) else .inl 3
def Gz.le (n : Nat) : List UInt8 := [UInt8.ofNat (n % 256), UInt8.ofNat (n / 256 % 256), UInt8.ofNat (n / 65536 % 256), UInt8.ofNat (n / 16777216 % 256)]
def Gz.body (F most : Nat) (bs : List UInt8) (p : Nat) : Sum Nat (List UInt8 × Nat) :=
  Gz.bind (Inf.data (Bit.bitsOf (bs.drop p)) most F) fun (o, u) =>
  Gz.bind (Gz.skip bs 8 (p + u)) fun q => if (bs.drop (p + u)).take 8 = Gz.le (Crc.sum o) ++ Gz.le o.length then .inr (o, q) else .inl 4
def Gz.member (F most : Nat) (bs : List UInt8) : Sum Nat (List UInt8 × Nat) := Gz.bind (Gz.head bs) fun p => Gz.body F most bs p
def Gz.all (F most : Nat) : Nat → List UInt8 → List UInt8 → Sum Nat (List UInt8)
  | 0, out, bs => .inl 3
  | f + 1, out, bs => Gz.bind (Gz.member F (most - out.length) bs) fun (o, q) => if bs.drop q = [] then .inr (out ++ o) else Gz.all F most f (out ++ o) (bs.drop q)
def Gz.wrap (bs : List UInt8) : List UInt8 := [31, 139, 8, 0, 0, 0, 0, 0, 0, 255] ++ Def.outB false bs ++ Gz.le (Crc.sum bs) ++ Gz.le bs.length
def Gz.is (bs : List UInt8) : Bool := decide (2 ≤ bs.length) && (Gz.byte bs 0 == 31 && Gz.byte bs 1 == 139)
end Go.Proofs.YtaapjampmnanmaaGreat
namespace Go.Proofs.YtaapjampmnanmaaGreat
open Go.RowKit Go.Shelf
set_option linter.unusedVariables false
theorem Rd.none0 {W : World} {B n : Nat} {A : Option Addr} {xs : List Value} (h : Rd W B A n xs) (p k : Nat) (hk : k = 0) : Rd W B A k ((xs.drop p).take k) := by
  subst hk
  rw [List.take_zero]
  exact Rd.nil _ _ _
def KG (g : Nat) (W W' : World) : Prop := Chg (fun i => i = g) W W'
theorem KG.refl (g : Nat) (W : World) : KG g W W := Chg.refl _ _
theorem KG.trans {g : Nat} {W W' W'' : World} (h : KG g W W') (k : KG g W' W'') : KG g W W'' := Chg.trans h k (fun _ _ h => h)
theorem KG.drewN {g : Nat} {W W' : World} (h : KG g W W') (n : Nat) : KG g W (W'.drewN n) := Chg.drewN h n
theorem KG.setCell {g : Nat} {W W' : World} (h : KG g W W') {i : Nat} (v : Value) : KG g W (W'.setCell ⟨g, i, none⟩ v) := Chg.setCell h (p := ⟨g, i, none⟩) (.inr rfl) v
theorem KG.of_below {g : Nat} {W W' : World} (h : Below W.heap.size W W') : KG g W W' := (Chg.of_below h).mono (fun i hi h => absurd h (by omega))
theorem KG.below {g B : Nat} {W W' : World} (h : KG g W W') (hB : B ≤ g) (hW : B ≤ W.heap.size) : Below B W W' := Chg.to_below h hW (fun i hi => by rw [hi]; exact hB)
def MAt (B : Nat) (W : World) (g : Nat) (A : Option Addr) (n c : Nat) (s : Sum Nat Nat) : Prop :=
  B ≤ g ∧ match s with
  | .inl e => 1 ≤ e ∧ True ∧ ∃ p, p ≤ n ∧ Blk W g 143 #[.slice A n c, .int .i64 (p : Nat), .int .i64 (e : Nat)]
  | .inr p => p ≤ n ∧ Blk W g 143 #[.slice A n c, .int .i64 (p : Nat), .int .i64 0]
set_option maxHeartbeats 1000000 in
theorem skip_err (B g : Nat) (A : Option Addr) (n c er : Nat) (k : Int) (W : World) (h : MAt B W g A n c (.inl er)) :
    Calls Tryz.prog 109 #[.pointer (some ⟨g, 0, none⟩), .int .i64 k] W fun e w' => e = .returned (.slice none 0 0) ∧ Below W.heap.size W w' := by
  obtain ⟨hB, h1, h7, p, hp, hb⟩ := h
  have c2 := hb.cell 2
  simp only [List.getElem?_toArray, List.getElem?_cons_succ, List.getElem?_cons_zero] at c2
  obtain ⟨E, hE⟩ : ∃ E : Int, (er : Int) = E := ⟨_, rfl⟩
  rw [hE] at c2
  have hne : (E == 0) = false := by simp; omega
  have hne2 : (E != 0) = true := by simp; omega
  go_enter Tryz.func109, Tryz.ntmps109
  go_wp2
  go_quiet (fail)
  go_wp2
  go_ret
  exact ⟨rfl, below_drewN (Below.refl _ W) _⟩
set_option maxHeartbeats 1000000 in
theorem skip_short (B g : Nat) (A : Option Addr) (n c p k : Nat) (W : World) (h : MAt B W g A n c (.inr p)) (hn : n ≤ 1048576) (hk : n < p + k) (hk2 : k ≤ 1048576) :
    Calls Tryz.prog 109 #[.pointer (some ⟨g, 0, none⟩), .int .i64 (k : Int)] W fun e w' => e = .returned (.slice none 0 0) ∧ MAt B w' g A n c (.inl 2) ∧ KG g W w' := by
  obtain ⟨hB, hp, hb⟩ := h
  have c0 := hb.cell 0
  have c1 := hb.cell 1
  have c2 := hb.cell 2
  have f2 := hb.free 2
  simp only [List.getElem?_toArray, List.getElem?_cons_succ, List.getElem?_cons_zero] at c0 c1 c2
  have hlt : (n : Int) - (p : Int) < (k : Int) := by omega
  have hng : ¬ ((k : Int) ≤ (n : Int) - (p : Int)) := by omega
  obtain ⟨w2, hw2⟩ : ∃ w2, (W.setCell ⟨g, 2, none⟩ (.int .i64 2)) = w2 := ⟨_, rfl⟩
  go_enter Tryz.func109, Tryz.ntmps109
  go_wp2
  go_quiet (fail)
  go_wp2
  go_ret
  exact ⟨rfl, ⟨hB, by decide, by decide, p, hp, (hb.drewN nq).set 2 _⟩, ((KG.refl g W).drewN nq).setCell _⟩
set_option maxHeartbeats 1000000 in
theorem skip_ok (B g : Nat) (A : Option Addr) (n c p k : Nat) (bs : List UInt8) (W : World) (h : MAt B W g A n c (.inr p)) (hr : Rd W B A n (bs.map bv)) (hc : n ≤ c) (hn : n ≤ 1048576) (hk : p + k ≤ n) :
    Calls Tryz.prog 109 #[.pointer (some ⟨g, 0, none⟩), .int .i64 (k : Int)] W fun e w' => (∃ A2 c2, e = .returned (.slice A2 k c2) ∧ k ≤ c2 ∧ Rd w' B A2 k (((bs.drop p).take k).map bv)) ∧ MAt B w' g A n c (.inr (p + k)) ∧ KG g W w' := by
  obtain ⟨hB, hp, hb⟩ := h
  have c0 := hb.cell 0
  have c1 := hb.cell 1
  have c2 := hb.cell 2
  have f1 := hb.free 1
  simp only [List.getElem?_toArray, List.getElem?_cons_succ, List.getElem?_cons_zero] at c0 c1 c2
  have hlt : ¬ (n : Int) - (p : Int) < (k : Int) := by omega
  have hng : ((k : Int) ≤ (n : Int) - (p : Int)) := by omega
  go_enter Tryz.func109, Tryz.ntmps109
  go_wp2
  go_quiet (fail)
  go_wp2
  have hb2 : Blk ((W.drewN nq).setCell ⟨g, 1, none⟩ (.int .i64 ((p : Int) + (k : Int)))) g 143 #[.slice A n c, .int .i64 ((p : Int) + (k : Int)), .int .i64 0] := (hb.drewN nq).set 1 _
  have b2 : KG g W ((W.drewN nq).setCell ⟨g, 1, none⟩ (.int .i64 ((p : Int) + (k : Int)))) := ((KG.refl g W).drewN nq).setCell _
  generalize (W.drewN nq).setCell ⟨g, 1, none⟩ (.int .i64 ((p : Int) + (k : Int))) = W2 at hb2 b2 ⊢
  have r2 := hide (hr.below (b2.below hB (by have := hb.lt; omega)))
  have d0 := hb2.cell 0
  have d1 := hb2.cell 1
  simp only [List.getElem?_toArray, List.getElem?_cons_succ, List.getElem?_cons_zero] at d0 d1
  have hb2 := hide hb2
  have b2 := hide b2
  clear c0 c1 c2 f1 hb hr
  have hpn : (p : Int) + (k : Int) ≤ (c : Int) := by omega
  go_quiet (fail)
  go_wp2
  all_goals (
    have hb3 := hide (hb2.out.drewN nq)
    have b3 := hide (b2.out.drewN nq)
    have r3 := hide (r2.out.below (below_drewN (Below.refl B W2) nq))
    rw [show (p : Int) + (k : Int) = ((p + k : Nat) : Int) from by omega] at hb3
    generalize W2.drewN nq = W3 at hb3 b3 r3 ⊢)
  · have hcp : c = p := by assumption
    rw [hcp] at hb3
    go_ret
    exact ⟨⟨_, _, rfl, by omega, r3.out.none0 p k (by omega)⟩, ⟨hB, hk, hb3.out⟩, b3.out⟩
  · go_ret
    exact ⟨⟨_, _, rfl, by omega, r3.out.sub p k hk⟩, ⟨hB, hk, hb3.out⟩, b3.out⟩
end Go.Proofs.YtaapjampmnanmaaGreat
namespace Go.Proofs.YtaapjampmnanmaaGreat
open Go.RowKit Go.Shelf
set_option linter.unusedVariables false
theorem ofI64 (a : Nat) (ha : a < 9223372036854775808) : (BitVec.ofInt 64 (a : Int)).toNat = a := by
  rw [BitVec.ofInt_natCast, BitVec.toNat_ofNat, Nat.mod_eq_of_lt (by omega)]
theorem or_byte (x y : Nat) (hx : x < 256) (hy : y < 256) : bits .or .i64 (x : Int) ((y : Int) * 256) = ((x + 256 * y : Nat) : Int) := by
  have h1 : x ||| y * 256 = x + 256 * y := by rw [Nat.or_comm, show y * 256 = 2 ^ 8 * y from by omega, nat_join 8 (2 ^ 8 * y) x (Nat.mul_mod_right _ _) (by omega)]; omega
  have hx := Nat.or_lt_two_pow (x := x) (y := y * 256) (n := 16) (by omega) (by omega)
  rw [show (y : Int) * 256 = ((y * 256 : Nat) : Int) from (Int.natCast_mul y 256).symm, ← h1]
  show IntKind.i64.wrap ((BitVec.ofInt 64 (x : Int) ||| BitVec.ofInt 64 ((y * 256 : Nat) : Int)).toNat : Int) = _
  rw [BitVec.toNat_or, ofI64 x (by omega), ofI64 (y * 256) (by omega), IntKind.wrap_i64]
  omega
theorem Rd.gz {W : World} {B p k : Nat} {A : Option Addr} {bs : List UInt8} (h : Rd W B A k (((bs.drop p).take k).map bv)) (i : Nat) (hi : i < k) : ∃ b o, A = some ⟨b, o, none⟩ ∧ b < B ∧ W.cell? ⟨b, o + i, none⟩ = some (.int .u8 (Gz.byte bs (p + i) : Nat)) := by
  obtain ⟨b, o, hA, hb, hc⟩ := h.byte (j := i) hi
  refine ⟨b, o, hA, hb, ?_⟩
  rw [hc]
  have hl := h.len
  rw [List.length_take, List.length_drop] at hl
  congr 3
  unfold Gz.byte
  rw [List.getElem_take, List.getElem_drop, List.getD_eq_getElem?_getD, List.getElem?_eq_getElem (by omega)]
  rfl
theorem Rd.gz2 {W : World} {B p : Nat} {A : Option Addr} {bs : List UInt8} (h : Rd W B A 2 (((bs.drop p).take 2).map bv)) : ∃ b o, A = some ⟨b, o, none⟩ ∧ b < B ∧ W.cell? ⟨b, o, none⟩ = some (.int .u8 (Gz.byte bs p : Nat)) ∧ W.cell? ⟨b, o + 1, none⟩ = some (.int .u8 (Gz.byte bs (p + 1) : Nat)) := by
  obtain ⟨b, o, hA, hb, e0⟩ := h.gz 0 (by decide)
  obtain ⟨b', o', hA', _, e1⟩ := h.gz 1 (by decide)
  rw [hA] at hA'
  injection hA' with h1
  injection h1 with h2 h3
  subst h2 h3
  exact ⟨b, o, hA, hb, e0, e1⟩
theorem Gz.byte_lt (bs : List UInt8) (i : Nat) : Gz.byte bs i < 256 := UInt8.toNat_lt _
theorem skip_any (B g : Nat) (A : Option Addr) (n c k : Nat) (s : Sum Nat Nat) (bs : List UInt8) (W : World) (h : MAt B W g A n c s) (hr : Rd W B A n (bs.map bv)) (hc : n ≤ c) (hn : n ≤ 1048576) (hk : k ≤ 1048576) :
    Calls Tryz.prog 109 #[.pointer (some ⟨g, 0, none⟩), .int .i64 (k : Int)] W fun e w' => (∃ v, e = .returned v) ∧ MAt B w' g A n c (Gz.bind s (Gz.skip bs k)) ∧ KG g W w' := by
  have hl : bs.length = n := hr.len
  cases s with
  | inl e =>
    refine (skip_err B g A n c e k W h).mono ?_
    rintro e' w' ⟨rfl, hb⟩
    obtain ⟨hB, h1, h7, p, hp, hk⟩ := h
    have hlt := hk.lt
    exact ⟨⟨_, rfl⟩, ⟨hB, h1, h7, p, hp, hk.below hb hlt⟩, KG.of_below hb⟩
  | inr p =>
    by_cases hpk : p + k ≤ n
    · refine (skip_ok B g A n c p k bs W h hr hc hn hpk).mono ?_
      rintro e' w' ⟨⟨A2, c2, rfl, _, _⟩, h2, h3⟩
      exact ⟨⟨_, rfl⟩, by rw [show Gz.bind (.inr p) (Gz.skip bs k) = .inr (p + k) from if_pos (by omega)]; exact h2, h3⟩
    · refine (skip_short B g A n c p k W h hn (by omega) hk).mono ?_
      rintro e' w' ⟨rfl, h2, h3⟩
      exact ⟨⟨_, rfl⟩, by rw [show Gz.bind (.inr p) (Gz.skip bs k) = .inl 2 from if_neg (by omega)]; exact h2, h3⟩
set_option maxRecDepth 100000 in
set_option maxHeartbeats 1000000 in
theorem extra_any (B g : Nat) (A : Option Addr) (n c : Nat) (s : Sum Nat Nat) (bs : List UInt8) (W : World) (h : MAt B W g A n c s) (hr : Rd W B A n (bs.map bv)) (hc : n ≤ c) (hn : n ≤ 1048576) :
    Calls Tryz.prog 112 #[.pointer (some ⟨g, 0, none⟩)] W fun e w' => (∃ v, e = .returned v) ∧ MAt B w' g A n c (Gz.bind s (Gz.extra bs)) ∧ KG g W w' := by
  have hl : bs.length = n := hr.len
  cases s with
  | inl er =>
    have hs := hide (skip_err B g A n c er 2 W h)
    obtain ⟨hB, h1, h7, p, hp, hk⟩ := h
    have hk := hide hk
    obtain ⟨E, hE⟩ : ∃ E : Int, (er : Int) = E := ⟨_, rfl⟩
    have hne : (E == 0) = false := by simp; omega
    go_enter Tryz.func112, Tryz.ntmps112
    go_wp2_with (go_at_call 109; (with_reducible refine (hs.out).mono ?_); rintro e w' ⟨rfl, hb⟩; have k2 := hide (hk.out.below hb hk.out.lt); have c2 := k2.out.cell 2; simp only [List.getElem?_toArray, List.getElem?_cons_succ, List.getElem?_cons_zero, hE] at c2; have hb := hide hb)
    refine bodyPost_end (results_none rfl _ _ _) rfl ?_
    exact ⟨⟨_, rfl⟩, ⟨hB, h1, h7, p, hp, k2.out⟩, KG.of_below hb.out⟩
  | inr p =>
    by_cases hp2 : p + 2 ≤ n
    · have hs := hide (show Calls Tryz.prog 109 #[.pointer (some ⟨g, 0, none⟩), .int .i64 2] W _ from skip_ok B g A n c p 2 bs W h hr hc hn hp2)
      have hr := hide hr
      obtain ⟨x, hx⟩ : ∃ x, Gz.byte bs p = x := ⟨_, rfl⟩
      obtain ⟨y, hy⟩ : ∃ y, Gz.byte bs (p + 1) = y := ⟨_, rfl⟩
      have hx8 : x < 256 := by rw [← hx]; exact Gz.byte_lt _ _
      have hy8 : y < 256 := by rw [← hy]; exact Gz.byte_lt _ _
      have hor := or_byte x y hx8 hy8
      obtain ⟨K, hK⟩ : ∃ K, x + 256 * y = K := ⟨_, rfl⟩
      have hK6 : K ≤ 65535 := by omega
      have hres := hide (show Gz.bind (.inr p) (Gz.extra bs) = Gz.bind (.inr (p + 2)) (Gz.skip bs K) from by
        show Gz.bind (Gz.skip bs 2 p) _ = _
        rw [show Gz.skip bs 2 p = .inr (p + 2) from if_pos (by omega), ← hK, ← hx, ← hy])
      rw [hK] at hor
      have hw1 : IntKind.i64.wrap (x : Int) = (x : Int) := by rw [IntKind.wrap_i64]; omega
      have hw2 : IntKind.i64.wrap (y : Int) = (y : Int) := by rw [IntKind.wrap_i64]; omega
      have hw3 : IntKind.i64.wrap ((y : Int) * 256) = (y : Int) * 256 := by rw [IntKind.wrap_i64]; omega
      have hBg := h.1
      have hBW := h.2.2.lt
      clear h hK
      go_enter Tryz.func112, Tryz.ntmps112
      go_upto_region 2 with (go_at_call 109; (with_reducible refine (hs.out).mono ?_); rintro e w1 ⟨⟨A2, c2, rfl, hc2, r2⟩, h2, b1⟩; obtain ⟨b, o, rfl, hbb, e0, e1⟩ := r2.gz2; rw [hx] at e0; rw [hy] at e1; have k2 := h2.2.2.cell 2; simp only [List.getElem?_toArray, List.getElem?_cons_succ, List.getElem?_cons_zero] at k2; have h2 := hide h2; have b1 := hide b1; have hbb := hide hbb; clear r2)
      have h2d := hide (skip_any B g A n c K (.inr (p + 2)) bs w1.drew (by obtain ⟨q1, q2, q3⟩ := h2.out; exact ⟨q1, q2, q3.drew⟩) ((hr.out.below (b1.out.below hBg (by omega))).below (below_drewN (Below.refl _ w1) 1)) hc hn (by omega))
      rw [← hres.out] at h2d
      have bd := hide (b1.out.drewN 1)
      go_still_tail 11, (by kernel_rfl)
      change wpList _ _ _ _ _ w1.drew
      go_wp2_with (go_at_call 109; (with_reducible refine (h2d.out).mono ?_); rintro e w3 ⟨⟨v, rfl⟩, h3, b3⟩; have h3 := hide h3; have b3 := hide b3)
      refine bodyPost_end (results_none rfl _ _ _) rfl ?_
      exact ⟨⟨_, rfl⟩, h3.out, bd.out.trans b3.out⟩
    · have hs := hide (show Calls Tryz.prog 109 #[.pointer (some ⟨g, 0, none⟩), .int .i64 2] W _ from skip_short B g A n c p 2 W h hn (by omega) (by decide))
      have hres := hide (show Gz.bind (.inr p) (Gz.extra bs) = .inl 2 from by
        show Gz.bind (Gz.skip bs 2 p) _ = _
        rw [show Gz.skip bs 2 p = .inl 2 from if_neg (by omega)]
        rfl)
      clear h
      go_enter Tryz.func112, Tryz.ntmps112
      go_wp2_with (go_at_call 109; (with_reducible refine (hs.out).mono ?_); rintro e w1 ⟨rfl, h2, b1⟩; obtain ⟨q, hq, kq⟩ := show ∃ p, p ≤ n ∧ Blk w1 g 143 #[.slice A n c, .int .i64 (p : Nat), .int .i64 (2 : Nat)] from h2.2.2.2; have k2 := kq.cell 2; simp only [List.getElem?_toArray, List.getElem?_cons_succ, List.getElem?_cons_zero] at k2; have h2 := hide h2; have b1 := hide b1; clear kq)
      refine bodyPost_end (results_none rfl _ _ _) rfl ?_
      exact ⟨⟨_, rfl⟩, by rw [hres.out]; exact h2.out, b1.out⟩
def Gz.idxV (l : List UInt8) : Int := match l.findIdx? (· == 0) with | none => -1 | some i => (i : Int)
theorem Gz.idx_lib (l : List UInt8) : Lib.indexByte l 0 = Gz.idxV l := by
  unfold Gz.idxV
  induction l with
  | nil => rfl
  | cons b l ih =>
    rw [Lib.indexByte, List.findIdx?_cons]
    by_cases hb : (b == 0) = true
    · rw [if_pos hb, if_pos hb]; rfl
    · rw [if_neg hb, if_neg hb, ih]
      cases l.findIdx? (· == 0) with
      | none => rfl
      | some i => simp
set_option maxRecDepth 100000 in
set_option maxHeartbeats 1000000 in
theorem index_any (A : Option Addr) (n c B : Nat) (bs : List UInt8) (W : World) (hr : Rd W B A n (bs.map bv)) :
    Calls Tryz.prog 144 #[.slice A n c, .int .u8 0] W fun e w' => e = .returned (.int .i64 (Gz.idxV bs)) ∧ W = w' := by
  have hl : bs.length = n := hr.len
  have hrun : (Extern.BytealgIndexByte.indexByte #[.slice A n c, .int .u8 0]).run Tryz.prog W = .ok (.int .i64 (Gz.idxV bs)) W := by
    cases A with
    | none =>
      have hn : n = 0 := by
        rcases Nat.eq_zero_or_pos n with h | h
        · exact h
        · obtain ⟨b, o, hA, _⟩ := hr.2 0 h
          cases hA
      subst hn
      have hbs : bs = [] := List.eq_nil_of_length_eq_zero hl
      subst hbs
      exact Lib.run_indexByteNil W 0 c 0
    | some a =>
      have h := Lib.run_indexByteAt (P := Tryz.prog) W a n c (bs.map fun x => (x.toNat : Int)) (by rw [List.length_map]; exact hl) (fun i hi => by
        obtain ⟨b, o, hA, _, hc⟩ := hr.byte (j := i) hi
        injection hA with hA
        subst hA
        rw [Addr.add_mid, hc]
        congr 2
        rw [List.getD_eq_getElem?_getD, List.getElem?_map, List.getElem?_eq_getElem (by omega)]
        rfl) 0
      rw [show Lib.bytesOf (bs.map fun x => (x.toNat : Int)) = bs from by simp [Lib.bytesOf, List.map_map, Function.comp_def]] at h
      exact h.trans (by rw [show ((0 : Int).toNat.toUInt8) = 0 from rfl, Gz.idx_lib])
  go_enter Tryz.func144, Tryz.ntmps144
  go_wp2
  rw [run_callFunc_extern Tryz.func173 (by kernel_rfl) (by kernel_rfl) (by kernel_rfl) (e := Extern.BytealgIndexByte.indexByte) (by kernel_rfl), hrun]
  simp only [Result.andThen]
  rw [Oper.upon_value]
  go_wp2
  go_ret
  exact ⟨rfl, rfl⟩
theorem Rd.rest {W : World} {B n : Nat} {A : Option Addr} {bs : List UInt8} (h : Rd W B A n (bs.map bv)) (p : Nat) (hp : p ≤ n) : Rd W B (A.map fun x => x.add p) (n - p) ((bs.drop p).map bv) := by
  have h1 := h.sub p (n - p) (by omega)
  have hl : bs.length = n := h.len
  rwa [← List.map_drop, List.take_of_length_le (by rw [List.length_map, List.length_drop]; omega)] at h1
theorem MAt.drewN {B : Nat} {W : World} {g : Nat} {A : Option Addr} {n c : Nat} {s : Sum Nat Nat} (h : MAt B W g A n c s) (k : Nat) : MAt B (W.drewN k) g A n c s := by
  cases s with
  | inl e => exact ⟨h.1, h.2.1, h.2.2.1, h.2.2.2.choose, h.2.2.2.choose_spec.1, h.2.2.2.choose_spec.2.drewN k⟩
  | inr p => exact ⟨h.1, h.2.1, h.2.2.drewN k⟩
theorem text_in (B g : Nat) (A : Option Addr) (n c p : Nat) (bs : List UInt8) (W : World) (h : MAt B W g A n c (.inr p)) (hr : Rd W B A n (bs.map bv)) (hc : n ≤ c) (hn : n ≤ 1048576) :
    (Gz.idxV (bs.drop p) = -1 ∧ Gz.bind (.inr p) (Gz.text bs) = .inl 2) ∨ ∃ i : Nat, Gz.idxV (bs.drop p) = (i : Int) ∧ p + (i + 1) ≤ n ∧ Gz.bind (.inr p) (Gz.text bs) = .inr (p + (i + 1)) := by
  have hl : bs.length = n := hr.len
  show (_ ∧ Gz.text bs p = _) ∨ ∃ i : Nat, _ ∧ _ ∧ Gz.text bs p = _
  unfold Gz.idxV Gz.text
  cases hf : (bs.drop p).findIdx? (· == 0) with
  | none => exact .inl ⟨rfl, rfl⟩
  | some i =>
    refine .inr ⟨i, rfl, ?_, rfl⟩
    have h1 := (List.findIdx?_eq_some_iff_getElem.1 hf).1
    rw [List.length_drop] at h1
    omega
set_option maxRecDepth 100000 in
set_option maxHeartbeats 1000000 in
theorem text_any (B g : Nat) (A : Option Addr) (n c : Nat) (s : Sum Nat Nat) (bs : List UInt8) (W : World) (h : MAt B W g A n c s) (hr : Rd W B A n (bs.map bv)) (hc : n ≤ c) (hn : n ≤ 1048576) :
    Calls Tryz.prog 113 #[.pointer (some ⟨g, 0, none⟩)] W fun e w' => (∃ v, e = .returned v) ∧ MAt B w' g A n c (Gz.bind s (Gz.text bs)) ∧ KG g W w' := by
  have hl : bs.length = n := hr.len
  cases s with
  | inl er =>
    obtain ⟨hB, h1, h7, p, hp, hk⟩ := h
    have hk := hide hk
    obtain ⟨E, hE⟩ : ∃ E : Int, (er : Int) = E := ⟨_, rfl⟩
    have hne : (E != 0) = true := by simp; omega
    have c2 := hk.out.cell 2
    simp only [List.getElem?_toArray, List.getElem?_cons_succ, List.getElem?_cons_zero, hE] at c2
    go_enter Tryz.func113, Tryz.ntmps113
    go_wp2
    refine bodyPost_ret (results_none rfl _ _ _) rfl ?_
    exact ⟨⟨_, rfl⟩, ⟨hB, h1, h7, p, hp, hk.out⟩, KG.refl _ _⟩
  | inr p =>
    have hin := text_in B g A n c p bs W h hr hc hn
    have hp := h.2.1
    have h' := hide h
    have hr' := hide hr
    have c0 := h.2.2.cell 0
    have c1 := h.2.2.cell 1
    have c2 := h.2.2.cell 2
    have f2 := h.2.2.free 2
    simp only [List.getElem?_toArray, List.getElem?_cons_succ, List.getElem?_cons_zero] at c0 c1 c2
    have hq : ∀ (A1 : Option Addr) (m c1 : Nat), Rd W B A1 m ((bs.drop p).map bv) → ∀ k, Calls Tryz.prog 144 #[.slice A1 m c1, .int .u8 0] (W.drewN k) fun e w' => e = .returned (.int .i64 (Gz.idxV (bs.drop p))) ∧ W.drewN k = w' := fun A1 m c1 h k => index_any A1 m c1 B (bs.drop p) (W.drewN k) (h.below (below_drewN (Below.refl _ W) k))
    have hnp : (p : Int) ≤ (n : Int) := by omega
    have hnc : (n : Int) ≤ (c : Int) := by omega
    rcases (show c = p ∨ c ≠ p by omega) with hcp | hcp
    · obtain rfl : p = n := by omega
      obtain rfl : c = p := by omega
      have hq1 := hide (hq A 0 0 (by rw [List.drop_of_length_le (by omega)]; exact Rd.nil _ _ _))
      obtain ⟨V, hV⟩ : ∃ V, Gz.idxV (bs.drop c) = V := ⟨_, rfl⟩
      rw [hV] at hq1 hin
      clear hq h hr
      go_enter Tryz.func113, Tryz.ntmps113
      go_upto_region 1 with fail
      go_quiet ((go_at_call 144; exact quiet_left (hq1.out _)))
      rcases hin with ⟨rfl, hres⟩ | ⟨i, rfl, hin, hres⟩
      · replace hres := hide hres
        have h3 := hide (h'.out.drewN nq)
        have b3 := hide ((KG.refl g W).drewN nq)
        have d2 := h3.out.2.2.cell 2
        have f3 := h3.out.2.2.free 2
        simp only [List.getElem?_toArray, List.getElem?_cons_succ, List.getElem?_cons_zero] at d2
        generalize W.drewN nq = W3 at h3 b3 d2 f3 ⊢
        clear c0 c1 c2 f2 hq1 h' hr'
        go_wp2
        refine bodyPost_ret (results_none rfl _ _ _) rfl ?_
        exact ⟨⟨_, rfl⟩, by rw [hres.out]; exact ⟨h3.out.1, by decide, by decide, c, hp, h3.out.2.2.set 2 _⟩, b3.out.setCell _⟩
      · exact absurd hin (by omega)
    · have hq1 := hide (hq _ _ (c - p) (hr.rest p hp))
      obtain ⟨V, hV⟩ : ∃ V, Gz.idxV (bs.drop p) = V := ⟨_, rfl⟩
      rw [hV] at hq1 hin
      clear hq h hr
      go_enter Tryz.func113, Tryz.ntmps113
      go_upto_region 1 with fail
      go_quiet ((go_at_call 144; exact quiet_left (hq1.out _)))
      rcases hin with ⟨rfl, hres⟩ | ⟨i, rfl, hin, hres⟩
      · replace hres := hide hres
        have h3 := hide (h'.out.drewN nq)
        have b3 := hide ((KG.refl g W).drewN nq)
        have d2 := h3.out.2.2.cell 2
        have f3 := h3.out.2.2.free 2
        simp only [List.getElem?_toArray, List.getElem?_cons_succ, List.getElem?_cons_zero] at d2
        generalize W.drewN nq = W3 at h3 b3 d2 f3 ⊢
        clear c0 c1 c2 f2 hq1 h' hr'
        go_wp2
        refine bodyPost_ret (results_none rfl _ _ _) rfl ?_
        exact ⟨⟨_, rfl⟩, by rw [hres.out]; exact ⟨h3.out.1, by decide, by decide, p, hp, h3.out.2.2.set 2 _⟩, b3.out.setCell _⟩
      · replace hres := hide hres
        have h3 := h'.out.drewN nq
        have b3 := hide ((KG.refl g W).drewN nq)
        have r3 := hr'.out.below (below_drewN (Below.refl B W) nq)
        have hs := hide (show Calls Tryz.prog 109 #[.pointer (some ⟨g, 0, none⟩), .int .i64 ((i : Int) + 1)] (W.drewN nq) _ from skip_any B g A n c (i + 1) (.inr p) bs (W.drewN nq) h3 r3 hc hn (by omega))
        have hres2 := hide (show Gz.bind (.inr p) (Gz.skip bs (i + 1)) = Gz.bind (.inr p) (Gz.text bs) from by rw [hres.out]; exact if_pos (by omega))
        generalize W.drewN nq = W3 at h3 b3 hs ⊢
        clear c0 c1 c2 f2 hq1 h' hr' h3 r3
        go_wp2_with (go_at_call 109; (with_reducible refine (hs.out).mono ?_); rintro e w3 ⟨⟨v, rfl⟩, h4, b4⟩; have h4 := hide h4; have b4 := hide b4)
        refine bodyPost_end (results_none rfl _ _ _) rfl ?_
        exact ⟨⟨_, rfl⟩, by rw [← hres2.out]; exact h4.out, b3.out.trans b4.out⟩
end Go.Proofs.YtaapjampmnanmaaGreat
namespace Go.Proofs.YtaapjampmnanmaaGreat
open Go.RowKit Go.Shelf
set_option linter.unusedVariables false
theorem MAt.below {B : Nat} {W W' : World} {g : Nat} {A : Option Addr} {n c : Nat} {s : Sum Nat Nat} (h : MAt B W g A n c s) (hb : Below W.heap.size W W') : MAt B W' g A n c s := by
  cases s with
  | inl e => exact ⟨h.1, h.2.1, h.2.2.1, h.2.2.2.choose, h.2.2.2.choose_spec.1, h.2.2.2.choose_spec.2.below hb h.2.2.2.choose_spec.2.lt⟩
  | inr p => exact ⟨h.1, h.2.1, h.2.2.below hb h.2.2.lt⟩
theorem MAt.some {B : Nat} {W : World} {g : Nat} {A : Option Addr} {n c : Nat} {s : Sum Nat Nat} (h : MAt B W g A n c s) : ∃ (p : Nat) (E : Int), p ≤ n ∧ Blk W g 143 #[.slice A n c, .int .i64 (p : Nat), .int .i64 E] ∧ (∀ q, s = .inr q → p = q) := by
  cases s with
  | inl e => exact ⟨_, _, h.2.2.2.choose_spec.1, h.2.2.2.choose_spec.2, fun q h => by cases h⟩
  | inr p => exact ⟨p, 0, h.2.1, h.2.2, fun q h => by injection h⟩
theorem MAt.lt {B : Nat} {W : World} {g : Nat} {A : Option Addr} {n c : Nat} {s : Sum Nat Nat} (h : MAt B W g A n c s) : B ≤ W.heap.size := by
  obtain ⟨p, E, _, hb, _⟩ := h.some
  have := hb.lt
  have := h.1
  omega
theorem or_byte16 (x y : Nat) (hx : x < 256) (hy : y < 256) : bits .or .u16 (x : Int) ((y : Int) * 256) = ((x + 256 * y : Nat) : Int) := by
  have h1 : x ||| y * 256 = x + 256 * y := by rw [Nat.or_comm, show y * 256 = 2 ^ 8 * y from by omega, nat_join 8 (2 ^ 8 * y) x (Nat.mul_mod_right _ _) (by omega)]; omega
  rw [show (y : Int) * 256 = ((y * 256 : Nat) : Int) from (Int.natCast_mul y 256).symm, u16_or_nat x (y * 256) (by omega) (by omega), h1]
set_option maxRecDepth 100000 in
set_option maxHeartbeats 1000000 in
theorem msum_any (B g : Nat) (A : Option Addr) (n c : Nat) (s : Sum Nat Nat) (bs : List UInt8) (W : World) (h : MAt B W g A n c s) (hr : Rd W B A n (bs.map bv)) (hc : n ≤ c) (hn : n ≤ 1048576) :
    Calls Tryz.prog 114 #[.pointer (some ⟨g, 0, none⟩)] W fun e w' => (∃ v, e = .returned v) ∧ MAt B w' g A n c (Gz.bind s (Gz.sum bs)) ∧ KG g W w' := by
  have hl : bs.length = n := hr.len
  obtain ⟨p, E0, hp, hb0, hpq⟩ := h.some
  have c0 := hb0.cell 0
  have c1 := hb0.cell 1
  simp only [List.getElem?_toArray, List.getElem?_cons_succ, List.getElem?_cons_zero] at c0 c1
  have hpI : (p : Int) ≤ (c : Int) := by omega
  have hof := hide (of_any A p c (bs.take p) W.drew B ((hr.below (below_drewN (Below.refl _ W) 1)).upto p hp) h.lt (by omega))
  have hd := hide (h.drewN 1)
  have hrd := hide (hr.below (below_drewN (Below.refl _ W) 1))
  have hBl := hide h.lt
  replace hpq := hide hpq
  obtain ⟨Sm, hSm⟩ : ∃ Sm, Crc.sum (bs.take p) = Sm := ⟨_, rfl⟩
  rw [hSm] at hof
  clear h hr hb0
  go_enter Tryz.func114, Tryz.ntmps114
  go_wp2
  go_still_tail 9, (by kernel_rfl)
  change wpList _ _ _ _ _ W.drew
  go_upto_region 1 with (go_at_call 106; (with_reducible refine (hof.out).mono ?_); rintro e w1 ⟨rfl, hb1⟩; have hb1 := hide hb1)
  have m1 := hide ((hd.out : MAt B W.drew g A n c s).below hb1.out)
  have b1 := hide (show KG g W w1 from KG.trans ((KG.refl g W).drewN 1) (KG.of_below hb1.out))
  have r1 := hide (hrd.out.below (hb1.out.mono hBl.out))
  clear hof hd hrd hb1 c0 c1
  cases s with
  | inl er =>
    have hs := hide (skip_err B g A n c er 2 w1 m1.out)
    obtain ⟨hB, h1, h7, q, hq, hk⟩ := m1.out
    have hk := hide hk
    obtain ⟨E, hE⟩ : ∃ E : Int, (er : Int) = E := ⟨_, rfl⟩
    have hne : (E == 0) = false := by simp; omega
    clear m1
    go_upto_region 2 with (go_at_call 109; (with_reducible refine (hs.out).mono ?_); rintro e w2 ⟨rfl, hb⟩; have k2 := hide (hk.out.below hb hk.out.lt); have c2 := k2.out.cell 2; simp only [List.getElem?_toArray, List.getElem?_cons_succ, List.getElem?_cons_zero, hE] at c2; have b2 := hide (b1.out.trans (KG.of_below hb)); clear hb)
    go_quiet (fail)
    go_wp2
    refine bodyPost_end (results_none rfl _ _ _) rfl ?_
    exact ⟨⟨_, rfl⟩, ⟨hB, h1, h7, q, hq, k2.out.drewN nq⟩, b2.out.drewN nq⟩
  | inr p' =>
    obtain rfl := hpq.out p' rfl
    by_cases hp2 : p + 2 ≤ n
    · have hs := hide (show Calls Tryz.prog 109 #[.pointer (some ⟨g, 0, none⟩), .int .i64 2] w1 _ from skip_ok B g A n c p 2 bs w1 m1.out r1.out hc hn hp2)
      obtain ⟨x, hx⟩ : ∃ x, Gz.byte bs p = x := ⟨_, rfl⟩
      obtain ⟨y, hy⟩ : ∃ y, Gz.byte bs (p + 1) = y := ⟨_, rfl⟩
      have hx8 : x < 256 := by rw [← hx]; exact Gz.byte_lt _ _
      have hy8 : y < 256 := by rw [← hy]; exact Gz.byte_lt _ _
      have hor := or_byte16 x y hx8 hy8
      obtain ⟨K, hK⟩ : ∃ K, x + 256 * y = K := ⟨_, rfl⟩
      obtain ⟨T, hT⟩ : ∃ T, Sm % 65536 = T := ⟨_, rfl⟩
      have hwT : IntKind.u16.wrap (Sm : Int) = (T : Int) := by rw [IntKind.wrap_u16]; omega
      have hres := hide (show Gz.bind (.inr p) (Gz.sum bs) = if K = T then .inr (p + 2) else .inl 4 from by
        show Gz.bind (Gz.skip bs 2 p) _ = _
        rw [show Gz.skip bs 2 p = .inr (p + 2) from if_pos (by omega), ← hK, ← hT, ← hSm, ← hx, ← hy]
        rfl)
      rw [hK] at hor
      have hw1 : IntKind.u16.wrap (x : Int) = (x : Int) := by rw [IntKind.wrap_u16]; omega
      have hw2 : IntKind.u16.wrap (y : Int) = (y : Int) := by rw [IntKind.wrap_u16]; omega
      have hw3 : IntKind.u16.wrap ((y : Int) * 256) = (y : Int) * 256 := by rw [IntKind.wrap_u16]; omega
      clear hK hT hSm
      go_upto_region 2 with (go_at_call 109; (with_reducible refine (hs.out).mono ?_); rintro e w2 ⟨⟨A2, c2, rfl, hc2, r2⟩, h2, b2⟩; obtain ⟨b, o, rfl, hbb, e0, e1⟩ := r2.gz2; rw [hx] at e0; rw [hy] at e1; have k2 := h2.2.2.cell 2; simp only [List.getElem?_toArray, List.getElem?_cons_succ, List.getElem?_cons_zero] at k2; have h2 := hide h2; have b2 := hide (b1.out.trans b2); have hbb := hide hbb; clear r2)
      rcases (show K = T ∨ K ≠ T by omega) with hKT | hKT
      · have hneq : ((K : Int) != (T : Int)) = false := by simp; omega
        go_quiet (fail)
        go_wp2
        refine bodyPost_end (results_none rfl _ _ _) rfl ?_
        exact ⟨⟨_, rfl⟩, by rw [hres.out, if_pos hKT]; exact h2.out.drewN nq, b2.out.drewN nq⟩
      · have hneq : ((K : Int) != (T : Int)) = true := by simp; omega
        go_quiet (fail)
        have h3 := hide (h2.out.drewN nq)
        have b3 := hide (b2.out.drewN nq)
        have d2 := h3.out.2.2.cell 2
        have f3 := h3.out.2.2.free 2
        simp only [List.getElem?_toArray, List.getElem?_cons_succ, List.getElem?_cons_zero] at d2
        generalize w2.drewN nq = W3 at h3 b3 d2 f3 ⊢
        clear k2 e0 e1
        go_wp2
        refine bodyPost_end (results_none rfl _ _ _) rfl ?_
        exact ⟨⟨_, rfl⟩, by rw [hres.out, if_neg hKT]; exact ⟨h3.out.1, by decide, by decide, p + 2, hp2, h3.out.2.2.set 2 _⟩, b3.out.setCell _⟩
    · have hs := hide (show Calls Tryz.prog 109 #[.pointer (some ⟨g, 0, none⟩), .int .i64 2] w1 _ from skip_short B g A n c p 2 w1 m1.out hn (by omega) (by decide))
      have hres := hide (show Gz.bind (.inr p) (Gz.sum bs) = .inl 2 from by
        show Gz.bind (Gz.skip bs 2 p) _ = _
        rw [show Gz.skip bs 2 p = .inl 2 from if_neg (by omega)]
        rfl)
      go_upto_region 2 with (go_at_call 109; (with_reducible refine (hs.out).mono ?_); rintro e w2 ⟨rfl, h2, b2⟩; obtain ⟨q, hq, kq⟩ := show ∃ p, p ≤ n ∧ Blk w2 g 143 #[.slice A n c, .int .i64 (p : Nat), .int .i64 (2 : Nat)] from h2.2.2.2; have k2 := kq.cell 2; simp only [List.getElem?_toArray, List.getElem?_cons_succ, List.getElem?_cons_zero] at k2; have h2 := hide h2; have b2 := hide (b1.out.trans b2); clear kq)
      go_quiet (fail)
      go_wp2
      refine bodyPost_end (results_none rfl _ _ _) rfl ?_
      exact ⟨⟨_, rfl⟩, by rw [hres.out]; exact h2.out.drewN nq, b2.out.drewN nq⟩
end Go.Proofs.YtaapjampmnanmaaGreat
namespace Go.Proofs.YtaapjampmnanmaaGreat
open Go.RowKit Go.Shelf
set_option linter.unusedVariables false
set_option linter.unusedSimpArgs false
theorem flag4 : ∀ f < 256, (bits .and .u8 (f : Nat) 4 != 0) = Nat.testBit f 2 := by decide +kernel
theorem flag8 : ∀ f < 256, (bits .and .u8 (f : Nat) 8 != 0) = Nat.testBit f 3 := by decide +kernel
theorem flag16 : ∀ f < 256, (bits .and .u8 (f : Nat) 16 != 0) = Nat.testBit f 4 := by decide +kernel
theorem flag2 : ∀ f < 256, (bits .and .u8 (f : Nat) 2 != 0) = Nat.testBit f 1 := by decide +kernel
theorem flags : ∀ f < 256, (bits .and .u8 (f : Nat) 224 != 0) = !decide (f < 32) := by decide +kernel
def HAt (B : Nat) (W : World) (gh : Nat) (x : Nat) : Prop := ∃ A2 c2 b o, Blk W gh 22 #[.slice A2 10 c2] ∧ A2 = some ⟨b, o, none⟩ ∧ b < B ∧ B ≤ gh ∧ W.cell? ⟨b, o + 3, none⟩ = some (.int .u8 (x : Nat))
set_option maxRecDepth 100000 in
set_option maxHeartbeats 1000000 in
theorem part_extra (B g gh x : Nat) (A : Option Addr) (n c : Nat) (s : Sum Nat Nat) (bs : List UInt8) (W : World) (hx : x < 256) (hh : HAt B W gh x) (h : MAt B W g A n c s) (hr : Rd W B A n (bs.map bv)) (hc : n ≤ c) (hn : n ≤ 1048576) :
    Calls Tryz.prog 111 #[.int .u8 4, .func (.func 112) #[.pointer (some ⟨g, 0, none⟩)] #[], .pointer (some ⟨gh, 0, none⟩)] W fun e w' => (∃ v, e = .returned v) ∧ MAt B w' g A n c (Gz.part (x.testBit 2) (Gz.extra bs) s) ∧ KG g W w' := by
  obtain ⟨A2, c2, b, o, hk, rfl, hb, hBg, e3⟩ := hh
  have k0 := hk.cell 0
  simp only [List.getElem?_toArray, List.getElem?_cons_succ, List.getElem?_cons_zero] at k0
  have hfl := flag4 x hx
  have hs := hide (extra_any B g A n c s bs W h hr hc hn)
  have h' := hide h
  clear h hr
  go_enter Tryz.func111, Tryz.ntmps111
  cases hb2 : x.testBit 2
  · rw [hb2] at hfl
    go_wp2
    refine bodyPost_end (results_none rfl _ _ _) rfl ?_
    exact ⟨⟨_, rfl⟩, h'.out, KG.refl _ _⟩
  · rw [hb2] at hfl
    go_wp2_with (go_at_call 112; (with_reducible refine (hs.out).mono ?_); rintro e w1 ⟨⟨v, rfl⟩, h1, b1⟩; have h1 := hide h1; have b1 := hide b1)
    refine bodyPost_end (results_none rfl _ _ _) rfl ?_
    exact ⟨⟨_, rfl⟩, h1.out, b1.out⟩
set_option maxRecDepth 100000 in
set_option maxHeartbeats 1000000 in
theorem part_name (B g gh x : Nat) (A : Option Addr) (n c : Nat) (s : Sum Nat Nat) (bs : List UInt8) (W : World) (hx : x < 256) (hh : HAt B W gh x) (h : MAt B W g A n c s) (hr : Rd W B A n (bs.map bv)) (hc : n ≤ c) (hn : n ≤ 1048576) :
    Calls Tryz.prog 111 #[.int .u8 8, .func (.func 113) #[.pointer (some ⟨g, 0, none⟩)] #[], .pointer (some ⟨gh, 0, none⟩)] W fun e w' => (∃ v, e = .returned v) ∧ MAt B w' g A n c (Gz.part (x.testBit 3) (Gz.text bs) s) ∧ KG g W w' := by
  obtain ⟨A2, c2, b, o, hk, rfl, hb, hBg, e3⟩ := hh
  have k0 := hk.cell 0
  simp only [List.getElem?_toArray, List.getElem?_cons_succ, List.getElem?_cons_zero] at k0
  have hfl := flag8 x hx
  have hs := hide (text_any B g A n c s bs W h hr hc hn)
  have h' := hide h
  clear h hr
  go_enter Tryz.func111, Tryz.ntmps111
  cases hb2 : x.testBit 3
  · rw [hb2] at hfl
    go_wp2
    refine bodyPost_end (results_none rfl _ _ _) rfl ?_
    exact ⟨⟨_, rfl⟩, h'.out, KG.refl _ _⟩
  · rw [hb2] at hfl
    go_wp2_with (go_at_call 113; (with_reducible refine (hs.out).mono ?_); rintro e w1 ⟨⟨v, rfl⟩, h1, b1⟩; have h1 := hide h1; have b1 := hide b1)
    refine bodyPost_end (results_none rfl _ _ _) rfl ?_
    exact ⟨⟨_, rfl⟩, h1.out, b1.out⟩
set_option maxRecDepth 100000 in
set_option maxHeartbeats 1000000 in
theorem part_comment (B g gh x : Nat) (A : Option Addr) (n c : Nat) (s : Sum Nat Nat) (bs : List UInt8) (W : World) (hx : x < 256) (hh : HAt B W gh x) (h : MAt B W g A n c s) (hr : Rd W B A n (bs.map bv)) (hc : n ≤ c) (hn : n ≤ 1048576) :
    Calls Tryz.prog 111 #[.int .u8 16, .func (.func 113) #[.pointer (some ⟨g, 0, none⟩)] #[], .pointer (some ⟨gh, 0, none⟩)] W fun e w' => (∃ v, e = .returned v) ∧ MAt B w' g A n c (Gz.part (x.testBit 4) (Gz.text bs) s) ∧ KG g W w' := by
  obtain ⟨A2, c2, b, o, hk, rfl, hb, hBg, e3⟩ := hh
  have k0 := hk.cell 0
  simp only [List.getElem?_toArray, List.getElem?_cons_succ, List.getElem?_cons_zero] at k0
  have hfl := flag16 x hx
  have hs := hide (text_any B g A n c s bs W h hr hc hn)
  have h' := hide h
  clear h hr
  go_enter Tryz.func111, Tryz.ntmps111
  cases hb2 : x.testBit 4
  · rw [hb2] at hfl
    go_wp2
    refine bodyPost_end (results_none rfl _ _ _) rfl ?_
    exact ⟨⟨_, rfl⟩, h'.out, KG.refl _ _⟩
  · rw [hb2] at hfl
    go_wp2_with (go_at_call 113; (with_reducible refine (hs.out).mono ?_); rintro e w1 ⟨⟨v, rfl⟩, h1, b1⟩; have h1 := hide h1; have b1 := hide b1)
    refine bodyPost_end (results_none rfl _ _ _) rfl ?_
    exact ⟨⟨_, rfl⟩, h1.out, b1.out⟩
set_option maxRecDepth 100000 in
set_option maxHeartbeats 1000000 in
theorem part_sum (B g gh x : Nat) (A : Option Addr) (n c : Nat) (s : Sum Nat Nat) (bs : List UInt8) (W : World) (hx : x < 256) (hh : HAt B W gh x) (h : MAt B W g A n c s) (hr : Rd W B A n (bs.map bv)) (hc : n ≤ c) (hn : n ≤ 1048576) :
    Calls Tryz.prog 111 #[.int .u8 2, .func (.func 114) #[.pointer (some ⟨g, 0, none⟩)] #[], .pointer (some ⟨gh, 0, none⟩)] W fun e w' => (∃ v, e = .returned v) ∧ MAt B w' g A n c (Gz.part (x.testBit 1) (Gz.sum bs) s) ∧ KG g W w' := by
  obtain ⟨A2, c2, b, o, hk, rfl, hb, hBg, e3⟩ := hh
  have k0 := hk.cell 0
  simp only [List.getElem?_toArray, List.getElem?_cons_succ, List.getElem?_cons_zero] at k0
  have hfl := flag2 x hx
  have hs := hide (msum_any B g A n c s bs W h hr hc hn)
  have h' := hide h
  clear h hr
  go_enter Tryz.func111, Tryz.ntmps111
  cases hb2 : x.testBit 1
  · rw [hb2] at hfl
    go_wp2
    refine bodyPost_end (results_none rfl _ _ _) rfl ?_
    exact ⟨⟨_, rfl⟩, h'.out, KG.refl _ _⟩
  · rw [hb2] at hfl
    go_wp2_with (go_at_call 114; (with_reducible refine (hs.out).mono ?_); rintro e w1 ⟨⟨v, rfl⟩, h1, b1⟩; have h1 := hide h1; have b1 := hide b1)
    refine bodyPost_end (results_none rfl _ _ _) rfl ?_
    exact ⟨⟨_, rfl⟩, h1.out, b1.out⟩
set_option maxHeartbeats 1000000 in
theorem is_any (A : Option Addr) (n c B : Nat) (bs : List UInt8) (W : World) (hr : Rd W B A n (bs.map bv)) (hn : n ≤ 1048576) :
    Calls Tryz.prog 110 #[.slice A n c] W fun e w' => e = .returned (.bool (Gz.is bs)) ∧ W = w' := by
  have hl : bs.length = n := hr.len
  by_cases h2 : 2 ≤ n
  · obtain ⟨b, o, rfl, hbB, e0⟩ := hr.byte (j := 0) (by omega)
    obtain ⟨b', o', hA, _, e1⟩ := hr.byte (j := 1) (by omega)
    injection hA with hA
    injection hA with q1 q2
    subst q1 q2
    have h2I : (2 : Int) ≤ (n : Int) := by omega
    have hx0 : Gz.byte bs 0 = bs[0].toNat := by unfold Gz.byte; rw [List.getD_eq_getElem?_getD, List.getElem?_eq_getElem (by omega)]; rfl
    have hx1 : Gz.byte bs 1 = bs[1].toNat := by unfold Gz.byte; rw [List.getD_eq_getElem?_getD, List.getElem?_eq_getElem (by omega)]; rfl
    rw [Nat.add_zero, ← hx0] at e0
    rw [← hx1] at e1
    have hres : Gz.is bs = ((Gz.byte bs 0 == 31) && (Gz.byte bs 1 == 139)) := by
      unfold Gz.is
      rw [decide_eq_true (by omega), Bool.true_and]
    rw [hres]
    generalize Gz.byte bs 0 = x at *
    generalize Gz.byte bs 1 = y at *
    clear hx0 hx1 hres
    by_cases hx : x = 31
    · subst hx
      by_cases hy : y = 139
      · subst hy
        go_enter Tryz.func110, Tryz.ntmps110
        go_wp2
        go_ret
        exact ⟨rfl, rfl⟩
      · have hyI : ((y : Int) == 139) = false := by simp; omega
        rw [show (y == 139) = false from by simpa using hy]
        go_enter Tryz.func110, Tryz.ntmps110
        go_wp2
        go_ret
        exact ⟨rfl, rfl⟩
    · have hxI : ((x : Int) == 31) = false := by simp; omega
      rw [show (x == 31) = false from by simpa using hx, Bool.false_and]
      go_enter Tryz.func110, Tryz.ntmps110
      go_wp2
      go_ret
      exact ⟨rfl, rfl⟩
  · have h2I : ¬ (2 : Int) ≤ (n : Int) := by omega
    have hres : Gz.is bs = false := by
      unfold Gz.is
      rw [decide_eq_false (by omega), Bool.false_and]
    rw [hres]
    go_enter Tryz.func110, Tryz.ntmps110
    go_wp2
    go_ret
    exact ⟨rfl, rfl⟩
end Go.Proofs.YtaapjampmnanmaaGreat
namespace Go.Proofs.YtaapjampmnanmaaGreat
open Go.RowKit Go.Shelf
set_option linter.unusedVariables false
set_option linter.unusedSimpArgs false
theorem HAt.kg {B g gh x : Nat} {W W' : World} (h : HAt B W gh x) (hk : KG g W W') (hg : B ≤ g) (hne : gh ≠ g) : HAt B W' gh x := by
  obtain ⟨A2, c2, b, o, h1, h2, h3, h4, h5⟩ := h
  exact ⟨A2, c2, b, o, Blk.chg h1 hk hne, h2, h3, h4, Chg.cell hk h5 (by show b ≠ g; omega)⟩
theorem Gz.byte_take (bs : List UInt8) (k i : Nat) (h : i < k) : Gz.byte (bs.take k) i = Gz.byte bs i := by
  unfold Gz.byte
  rw [List.getD_eq_getElem?_getD, List.getD_eq_getElem?_getD, List.getElem?_take, if_pos h]
theorem Gz.head_short (bs : List UInt8) (h : bs.length < 10) : Gz.head bs = .inl 2 := by
  unfold Gz.head
  rw [show Gz.skip bs 10 0 = .inl 2 from if_neg (by omega)]
  rfl
theorem Gz.head_long (bs : List UInt8) (h : 10 ≤ bs.length) : Gz.head bs = if (Gz.byte bs 0 = 31 ∧ Gz.byte bs 1 = 139) ∧ Gz.byte bs 2 = 8 ∧ Gz.byte bs 3 < 32 then Gz.parts bs (Gz.byte bs 3) (.inr 10) else .inl 3 := by
  unfold Gz.head
  rw [show Gz.skip bs 10 0 = .inr 10 from if_pos (by omega)]
  show (if _ then _ else _) = _
  simp only [and_assoc]
theorem Gz.is_long (bs : List UInt8) (h : 2 ≤ bs.length) : Gz.is bs = decide (Gz.byte bs 0 = 31 ∧ Gz.byte bs 1 = 139) := by
  unfold Gz.is
  rw [decide_eq_true h, Bool.true_and, Bool.decide_and, Bool.beq_eq_decide_eq, Bool.beq_eq_decide_eq]
set_option maxRecDepth 100000 in
set_option maxHeartbeats 2000000 in
theorem head_any (B g : Nat) (A : Option Addr) (n c : Nat) (bs : List UInt8) (W : World) (h : MAt B W g A n c (.inr 0)) (hr : Rd W B A n (bs.map bv)) (hc : n ≤ c) (hn : n ≤ 1048576) :
    Calls Tryz.prog 89 #[.pointer (some ⟨g, 0, none⟩)] W fun e w' => (∃ v, e = .returned v) ∧ MAt B w' g A n c (Gz.head bs) ∧ KG g W w' := by
  have hl : bs.length = n := hr.len
  by_cases h10 : 10 ≤ n
  · have hs := hide (show Calls Tryz.prog 109 #[.pointer (some ⟨g, 0, none⟩), .int .i64 10] W _ from skip_ok B g A n c 0 10 bs W h hr hc hn (by omega))
    have hres := hide (Gz.head_long bs (by omega))
    have hBg := h.1
    have hgW := h.2.2.lt
    replace hr := hide hr
    clear h
    go_enter Tryz.func89, Tryz.ntmps89
    go_wp2_with fail
    refine (hs.out).mono ?_
    rintro e w1 ⟨⟨A2, c2, rfl, hc2, r2⟩, h1, b1⟩
    obtain ⟨b, o, rfl, hbB, e2⟩ := r2.gz 2 (by decide)
    obtain ⟨b', o', hA, _, e3⟩ := r2.gz 3 (by decide)
    injection hA with hA
    injection hA with q1 q2
    subst q1 q2
    have hsz := h1.2.2.lt
    obtain ⟨gh, hgh⟩ : ∃ k, w1.heap.size = k := ⟨_, rfl⟩
    obtain ⟨w2, hw2⟩ : ∃ w2, w1.alloc (.cells #[.slice none 0 0] 22) = w2 := ⟨_, rfl⟩
    obtain ⟨w3, hw3⟩ : ∃ w3, w2.setCell ⟨gh, 0, none⟩ (.slice (some ⟨b, o, none⟩) 10 c2) = w3 := ⟨_, rfl⟩
    have k2 : Blk w2 gh 22 #[.slice none 0 0] := by rw [← hw2, ← hgh]; exact Blk.new w1 _ _
    have k3 : Blk w3 gh 22 #[.slice (some ⟨b, o, none⟩) 10 c2] := by rw [← hw3]; exact k2.set 0 _
    have be : Below w1.heap.size w1 w3 := by rw [← hw3, ← hw2]; exact ((Below.refl _ w1).alloc (Nat.le_refl _) _).setCell (by simp; omega) _
    have h3 := h1.below be
    have b3 := hide (b1.trans (KG.of_below be))
    have x2 := k2.cell 0
    have f2 := k2.free 0
    have x3 := k3.cell 0
    simp only [List.getElem?_toArray, List.getElem?_cons_succ, List.getElem?_cons_zero] at x2 x3
    have r3 := (r2.below (be.mono (by omega)) : Rd w3 B (some ⟨b, o, none⟩) 10 _)
    have r4 := hide (hr.out.below (b3.out.below hBg (by omega)))
    replace e2 := (be.cell (p := ⟨b, o + 2, none⟩) (by show b < _; omega)).trans e2
    replace e3 := (be.cell (p := ⟨b, o + 3, none⟩) (by show b < _; omega)).trans e3
    rw [List.drop_zero] at r3
    have his := hide (is_any (some ⟨b, o, none⟩) 10 c2 B (bs.take 10) w3 r3 (by decide))
    rw [Gz.is_long (bs.take 10) (by rw [List.length_take]; omega), Gz.byte_take _ _ _ (by decide), Gz.byte_take _ _ _ (by decide)] at his
    have hx8 := Gz.byte_lt bs 3
    have hhat := hide (show HAt B w3 gh (Gz.byte bs 3) from ⟨_, c2, b, o, k3, rfl, hbB, by omega, by simpa using e3⟩)
    rw [show 0 + 2 = 2 from rfl] at e2
    rw [show 0 + 3 = 3 from rfl] at e3
    have d2 := h3.2.2.cell 2
    have df := h3.2.2.free 2
    simp only [List.getElem?_toArray, List.getElem?_cons_succ, List.getElem?_cons_zero] at d2
    replace h3 := hide h3
    have hne := hide (show gh ≠ g from by omega)
    have hfl := flags (Gz.byte bs 3) hx8
    generalize Gz.byte bs 2 = y2 at *
    generalize Gz.byte bs 3 = x at *
    obtain ⟨I, hI⟩ : ∃ I, decide (Gz.byte bs 0 = 31 ∧ Gz.byte bs 1 = 139) = I := ⟨_, rfl⟩
    rw [hI] at his
    clear r2 r3 h1 b1 be hr k2 k3 hs hsz hgW
    cases I with
    | false =>
      have hres2 := hide (show Gz.head bs = .inl 3 from by rw [hres.out]; exact if_neg (fun h => of_decide_eq_false hI h.1))
      go_wp2_with (go_at_call 110; (with_reducible refine (his.out).mono ?_); rintro e w' ⟨rfl, rfl⟩)
      refine bodyPost_ret (results_none rfl _ _ _) rfl ?_
      exact ⟨⟨_, rfl⟩, by rw [hres2.out]; exact ⟨hBg, by decide, by decide, 10, h10, h3.out.2.2.set 2 _⟩, b3.out.setCell _⟩
    | true =>
      by_cases hy : y2 = 8
      · subst hy
        by_cases hx32 : x < 32
        · have hres2 := hide (show Gz.head bs = Gz.parts bs x (.inr 10) from by rw [hres.out]; exact if_pos ⟨of_decide_eq_true hI, rfl, hx32⟩)
          rw [decide_eq_true hx32, Bool.not_true] at hfl
          have hp1 := hide (part_extra B g gh x A n c (.inr 10) bs w3 hx8 hhat.out h3.out r4.out hc hn)
          have hp2 := hide (fun W4 s4 (h : MAt B W4 g A n c s4) (hk : KG g w3 W4) => part_name B g gh x A n c s4 bs W4 hx8 (hhat.out.kg hk hBg hne.out) h (r4.out.below (hk.below hBg h3.out.lt)) hc hn)
          have hp3 := hide (fun W4 s4 (h : MAt B W4 g A n c s4) (hk : KG g w3 W4) => part_comment B g gh x A n c s4 bs W4 hx8 (hhat.out.kg hk hBg hne.out) h (r4.out.below (hk.below hBg h3.out.lt)) hc hn)
          have hp4 := hide (fun W4 s4 (h : MAt B W4 g A n c s4) (hk : KG g w3 W4) => part_sum B g gh x A n c s4 bs W4 hx8 (hhat.out.kg hk hBg hne.out) h (r4.out.below (hk.below hBg h3.out.lt)) hc hn)
          clear hx8
          replace hx32 := hide hx32
          go_wp2_with (first
            | (go_at_call 110; (with_reducible refine (his.out).mono ?_); rintro e w' ⟨rfl, rfl⟩)
            | (go_at_call 111; (with_reducible refine (hp1.out).mono ?_); rintro e w4 ⟨⟨v4, rfl⟩, h4, b4⟩; have hp2 := hide (hp2.out _ _ h4 b4); have b4 := hide b4; clear h4)
            | (go_at_call 111; (with_reducible refine (hp2.out).mono ?_); rintro e w5 ⟨⟨v5, rfl⟩, h5, b5⟩; have b5 := hide (b4.out.trans b5); have hp3 := hide (hp3.out _ _ h5 b5.out); clear h5)
            | (go_at_call 111; (with_reducible refine (hp3.out).mono ?_); rintro e w6 ⟨⟨v6, rfl⟩, h6, b6⟩; have b6 := hide (b5.out.trans b6); have hp4 := hide (hp4.out _ _ h6 b6.out); clear h6)
            | (go_at_call 111; (with_reducible refine (hp4.out).mono ?_); rintro e w7 ⟨⟨v7, rfl⟩, h7, b7⟩; have b7 := hide (b6.out.trans b7); have h7 := hide h7))
          refine bodyPost_end (results_none rfl _ _ _) rfl ?_
          exact ⟨⟨_, rfl⟩, by rw [hres2.out]; exact h7.out, b3.out.trans b7.out⟩
        · have hres2 := hide (show Gz.head bs = .inl 3 from by rw [hres.out]; exact if_neg (fun h => hx32 h.2.2))
          rw [decide_eq_false hx32, Bool.not_false] at hfl
          clear hx8
          replace hx32 := hide hx32
          go_wp2_with (go_at_call 110; (with_reducible refine (his.out).mono ?_); rintro e w' ⟨rfl, rfl⟩)
          refine bodyPost_ret (results_none rfl _ _ _) rfl ?_
          exact ⟨⟨_, rfl⟩, by rw [hres2.out]; exact ⟨hBg, by decide, by decide, 10, h10, h3.out.2.2.set 2 _⟩, b3.out.setCell _⟩
      · have hres2 := hide (show Gz.head bs = .inl 3 from by rw [hres.out]; exact if_neg (fun h => hy h.2.1))
        have hyI : ((y2 : Int) != 8) = true := by simp; omega
        clear hx8 hfl
        go_wp2_with (go_at_call 110; (with_reducible refine (his.out).mono ?_); rintro e w' ⟨rfl, rfl⟩)
        refine bodyPost_ret (results_none rfl _ _ _) rfl ?_
        exact ⟨⟨_, rfl⟩, by rw [hres2.out]; exact ⟨hBg, by decide, by decide, 10, h10, h3.out.2.2.set 2 _⟩, b3.out.setCell _⟩
  · have hs := hide (show Calls Tryz.prog 109 #[.pointer (some ⟨g, 0, none⟩), .int .i64 10] W _ from skip_short B g A n c 0 10 W h hn (by omega) (by decide))
    have hres := hide (Gz.head_short bs (by omega))
    go_enter Tryz.func89, Tryz.ntmps89
    go_wp2_with fail
    refine (hs.out).mono ?_
    rintro e w1 ⟨rfl, h1, b1⟩
    obtain ⟨q, hq, kq⟩ := show ∃ p, p ≤ n ∧ Blk w1 g 143 #[.slice A n c, .int .i64 (p : Nat), .int .i64 (2 : Nat)] from h1.2.2.2
    have hsz := kq.lt
    obtain ⟨gh, hgh⟩ : ∃ k, w1.heap.size = k := ⟨_, rfl⟩
    obtain ⟨w2, hw2⟩ : ∃ w2, w1.alloc (.cells #[.slice none 0 0] 22) = w2 := ⟨_, rfl⟩
    obtain ⟨w3, hw3⟩ : ∃ w3, w2.setCell ⟨gh, 0, none⟩ (.slice none 0 0) = w3 := ⟨_, rfl⟩
    have k2 : Blk w2 gh 22 #[.slice none 0 0] := by rw [← hw2, ← hgh]; exact Blk.new w1 _ _
    have be : Below w1.heap.size w1 w3 := by rw [← hw3, ← hw2]; exact ((Below.refl _ w1).alloc (Nat.le_refl _) _).setCell (by simp; omega) _
    have h3 := hide (h1.below be)
    have b3 := hide (b1.trans (KG.of_below be))
    have x2 := k2.cell 0
    have f2 := k2.free 0
    have d2 := (kq.below be hsz).cell 2
    simp only [List.getElem?_toArray, List.getElem?_cons_succ, List.getElem?_cons_zero] at x2 d2
    clear be h1 b1 kq hs
    go_wp2
    refine bodyPost_ret (results_none rfl _ _ _) rfl ?_
    exact ⟨⟨_, rfl⟩, by rw [hres.out]; exact h3.out, b3.out⟩
end Go.Proofs.YtaapjampmnanmaaGreat
namespace Go.Proofs.YtaapjampmnanmaaGreat
open Go.RowKit Go.Shelf
set_option linter.unusedVariables false
set_option linter.unusedSimpArgs false
set_option maxHeartbeats 1000000 in
theorem low4_any (A : Option Addr) (n c v B : Nat) (xs : List UInt8) (W : World) (ho : Ow W B 5 A n c (xs.map bv)) (hB : B ≤ W.heap.size) (hn : n ≤ 1000000000) (hv : v ≤ 4294967295) :
    Calls Tryz.prog 105 #[.slice A n c, .int .u32 (v : Nat)] W fun e w' => ∃ A' c', e = .returned (.slice A' (n + 4) c') ∧ Ow w' B 5 A' (n + 4) c' ((xs ++ Gz.le v).map bv) ∧ Chg (fun k => blk A = some k) W w' := by
  have hle := hide (show (Gz.le v).map bv = [.int .u8 ((v : Int) % 256), .int .u8 ((v : Int) / 256 % 256), .int .u8 ((v : Int) / 65536 % 256), .int .u8 ((v : Int) / 16777216)] from by
    simp only [Gz.le, List.map_cons, List.map_nil, bv, UInt8.toNat_ofNat']
    simp
    omega)
  go_enter Tryz.func105, Tryz.ntmps105
  go_wp2_with (at_builtin; refine wpList_append_rd (W.alloc (.cells #[.int .u8 ((v : Int) % 256), .int .u8 ((v : Int) / 256 % 256), .int .u8 ((v : Int) / 65536 % 256), .int .u8 ((v : Int) / 16777216)] 5)) rfl (.tmp 5) (.tmp 17) rfl elem_byte (m := 4) rfl (ho.alloc _) rfl (Rd.new W _ _ _) (by intro u hu; simp at hu; rcases hu with rfl | rfl | rfl | rfl <;> rfl) (by simp only [maxLen]; omega) (by omega) (by simp; omega) ?_; intro A3 c3 w3 ho3 hg3 _; have ho3 := hide ho3; have hg3 := hide hg3)
  go_ret
  exact ⟨_, _, rfl, by rw [hle.out]; exact ho3.out, Chg.trans ((Chg.refl _ W).alloc _) hg3.out (fun _ _ h => h)⟩
set_option maxHeartbeats 1000000 in
theorem equal_any (A A2 : Option Addr) (n c n2 c2 B B2 : Nat) (xs ys : List UInt8) (W : World) (hr : Rd W B A n (xs.map bv)) (hr2 : Rd W B2 A2 n2 (ys.map bv)) :
    Calls Tryz.prog 116 #[.slice A n c, .slice A2 n2 c2] W fun e w' => e = .returned (.bool (xs == ys)) ∧ W = w' := by
  have k1 := str_of_rd hr c
  have k2 := str_of_rd hr2 c2
  go_enter Tryz.func116, Tryz.ntmps116
  go_wp2
  go_ret
  exact ⟨rfl, rfl⟩
end Go.Proofs.YtaapjampmnanmaaGreat
namespace Go.Proofs.YtaapjampmnanmaaGreat
open Go.RowKit Go.Shelf
set_option linter.unusedVariables false
set_option linter.unusedSimpArgs false
def Gz.bodyS (F most : Nat) (bs : List UInt8) (s : Sum Nat Nat) : Sum Nat (List UInt8 × Nat) := Gz.bind s fun p => Gz.body F most bs p
def DPost (B g : Nat) (A : Option Addr) (n c : Nat) (W : World) (r : Sum Nat (List UInt8 × Nat)) (e : Ending) (w' : World) : Prop :=
  KG g W w' ∧ ((∃ er v, r = .inl er ∧ e = .returned v ∧ MAt B w' g A n c (.inl er)) ∨
   (∃ o q A2 c2, r = .inr (o, q) ∧ e = .returned (.slice A2 o.length c2) ∧ Rd w' w'.heap.size A2 o.length (o.map bv) ∧ MAt B w' g A n c (.inr q)))
set_option maxRecDepth 100000 in
set_option maxHeartbeats 2000000 in
theorem data_bad (B g : Nat) (A : Option Addr) (n c most F er : Nat) (bs : List UInt8) (W : World) (h : MAt B W g A n c (.inl er)) (hr : Rd W B A n (bs.map bv)) (hc : n ≤ c) (hn : n ≤ 1048576) (hm : most ≤ 1048576) (hF : 8 * n < F) :
    Calls Tryz.prog 90 #[.pointer (some ⟨g, 0, none⟩), .int .i64 (most : Nat)] W (DPost B g A n c W (Gz.bodyS F most bs (.inl er))) := by
  obtain ⟨hB, h1, h7, p, hp, hk⟩ := h
  have hk := hide hk
  obtain ⟨E, hE⟩ : ∃ E : Int, (er : Int) = E := ⟨_, rfl⟩
  have hne : (E != 0) = true := by simp; omega
  have c2 := hk.out.cell 2
  simp only [List.getElem?_toArray, List.getElem?_cons_succ, List.getElem?_cons_zero, hE] at c2
  go_enter Tryz.func90, Tryz.ntmps90
  go_wp2
  go_ret
  exact ⟨KG.refl _ _, .inl ⟨er, _, rfl, rfl, ⟨hB, h1, h7, p, hp, hk.out⟩⟩⟩
set_option maxRecDepth 100000 in
set_option maxHeartbeats 2000000 in
theorem data_err (B g : Nat) (A : Option Addr) (n c most F p er : Nat) (bs : List UInt8) (W : World) (h : MAt B W g A n c (.inr p)) (hr : Rd W B A n (bs.map bv)) (hc : n ≤ c) (hn : n ≤ 1048576) (hm : most ≤ 1048576) (hF : 8 * n < F) (hX : Inf.data (Bit.bitsOf (bs.drop p)) most F = .inl er) :
    Calls Tryz.prog 90 #[.pointer (some ⟨g, 0, none⟩), .int .i64 (most : Nat)] W (DPost B g A n c W (Gz.bodyS F most bs (.inr p))) := by
  have hl : bs.length = n := hr.len
  have hp := h.2.1
  have hBg := h.1
  have hBW := hide h.lt
  have c0 := h.2.2.cell 0
  have c1 := h.2.2.cell 1
  have c2 := h.2.2.cell 2
  simp only [List.getElem?_toArray, List.getElem?_cons_succ, List.getElem?_cons_zero] at c0 c1 c2
  have hd := hide (h.drewN 1)
  have hrd := hide (hr.below (below_drewN (Below.refl _ W) 1))
  have hpI : (p : Int) ≤ (n : Int) := by omega
  have hnI : (n : Int) ≤ (c : Int) := by omega
  have hq : ∀ (A1 : Option Addr) (m c1 : Nat), m ≤ 1048576 → 8 * m < F → Rd W B A1 m ((bs.drop p).map bv) → Calls Tryz.prog 115 #[.slice A1 m c1, .int .i64 (most : Nat)] W.drew (InfPost W.drew (Inf.data (Bit.bitsOf (bs.drop p)) most F)) := fun A1 m c1 hm1 hF1 h1 => idata_at A1 c1 m (bs.drop p) most F (most : Nat) W.drew rfl ((h1.below (below_drewN (Below.refl _ W) 1)).mono hBW.out) hm1 hm hF1
  rw [hX] at hq
  have hres := hide (show Gz.bodyS F most bs (.inr p) = .inl er from by
    show Gz.bind (Inf.data _ _ _) _ = _
    rw [hX]; rfl)
  have her := Inf.data_nz hX
  have hqe : ∀ (A1 : Option Addr) (m c1 : Nat), m ≤ 1048576 → 8 * m < F → Rd W B A1 m ((bs.drop p).map bv) → Calls Tryz.prog 115 #[.slice A1 m c1, .int .i64 (most : Nat)] W.drew fun e w' => e = .returned (.tuple #[.slice none 0 0, .int .i64 0, .int .i64 (er : Nat)]) ∧ KG g W w' ∧ MAt B w' g A n c (.inr p) := fun A1 m c1 h1 h2 h3 => (hq A1 m c1 h1 h2 h3).mono (by
    rintro e w' ⟨hb, ⟨er', he, rfl⟩ | ⟨_, _, _, _, he, _⟩⟩
    · cases he; exact ⟨rfl, KG.trans ((KG.refl g W).drewN 1) (KG.of_below hb), hd.out.below hb⟩
    · cases he)
  obtain ⟨E, hE⟩ : ∃ E : Int, (er : Int) = E := ⟨_, rfl⟩
  rw [hE] at hqe
  have hne : (E != 0) = true := by simp; omega
  replace h := hide h
  rcases (show c = p ∨ c ≠ p by omega) with hcp | hcp
  · obtain rfl : p = n := by omega
    obtain rfl : c = p := by omega
    have hq1 := hide (hqe A 0 0 (by omega) (by omega) (by rw [List.drop_of_length_le (by omega)]; exact Rd.nil _ _ _))
    clear hq hqe
    go_enter Tryz.func90, Tryz.ntmps90
    go_upto_region 3 with fail
    go_cut [5, 6, 7] (fun s5 s6 s7 wx => Hid (KG g W wx) ∧ s5 = .slice none 0 0 ∧ s6 = .int .i64 0 ∧ s7 = .int .i64 E ∧ Hid (MAt B wx g A c c (.inr c)))
    case first =>
      go_region_with (go_at_call 115; (with_reducible refine (hq1.out).mono ?_); rintro e w2 ⟨rfl, hk2, hm2⟩; have hk2 := hide hk2; have hm2 := hide hm2)
      all_goals (go_wp2; go_meet; exact ⟨hk2, rfl, rfl, rfl, hm2⟩)
    case rest =>
      obtain ⟨hk, rfl, rfl, rfl, hm⟩ := hcut
      have d2 := hm.out.2.2.cell 2
      have f2 := hm.out.2.2.free 2
      simp only [List.getElem?_toArray, List.getElem?_cons_succ, List.getElem?_cons_zero] at d2
      clear c0 c1 c2
      go_wp2
      go_ret
      exact ⟨hk.out.setCell _, .inl ⟨er, _, hres.out, rfl, ⟨hBg, by omega, trivial, _, hp, by rw [hE]; exact hm.out.2.2.set 2 _⟩⟩⟩
  · have hq1 := hide (hqe _ _ (c - p) (by omega) (by omega) (hr.rest p hp))
    clear hq hqe
    go_enter Tryz.func90, Tryz.ntmps90
    go_upto_region 3 with fail
    go_cut [5, 6, 7] (fun s5 s6 s7 wx => Hid (KG g W wx) ∧ s5 = .slice none 0 0 ∧ s6 = .int .i64 0 ∧ s7 = .int .i64 E ∧ Hid (MAt B wx g A n c (.inr p)))
    case first =>
      go_region_with (go_at_call 115; (with_reducible refine (hq1.out).mono ?_); rintro e w2 ⟨rfl, hk2, hm2⟩; have hk2 := hide hk2; have hm2 := hide hm2)
      all_goals (go_wp2; go_meet; exact ⟨hk2, rfl, rfl, rfl, hm2⟩)
    case rest =>
      obtain ⟨hk, rfl, rfl, rfl, hm⟩ := hcut
      have d2 := hm.out.2.2.cell 2
      have f2 := hm.out.2.2.free 2
      simp only [List.getElem?_toArray, List.getElem?_cons_succ, List.getElem?_cons_zero] at d2
      clear c0 c1 c2
      go_wp2
      go_ret
      exact ⟨hk.out.setCell _, .inl ⟨er, _, hres.out, rfl, ⟨hBg, by omega, trivial, _, hp, by rw [hE]; exact hm.out.2.2.set 2 _⟩⟩⟩
end Go.Proofs.YtaapjampmnanmaaGreat
namespace Go.Proofs.YtaapjampmnanmaaGreat
set_option linter.unusedVariables false
def Inf.Top {α : Type} (most : Nat) (p : Inf.M α) : Prop := ∀ a o x a' o', o.length ≤ most → p a o = .inr (x, a', o') → o'.length ≤ most
theorem Inf.Top.ret {α : Type} (most : Nat) (x : α) : Inf.Top most (Inf.ret x) := fun a o x' a' o' ho h => by cases h; exact ho
theorem Inf.Top.err {α : Type} (most e : Nat) : Inf.Top most (Inf.err e : Inf.M α) := fun a o x a' o' ho h => by cases h
theorem Inf.Top.bind {α β : Type} {most : Nat} {p : Inf.M α} {f : α → Inf.M β} (hp : Inf.Top most p) (hf : ∀ x, Inf.Top most (f x)) : Inf.Top most (Inf.bind p f) := fun a o x a' o' ho h => by
  cases hr : p a o with
  | inl e' =>
    rw [Inf.bind_err hr] at h
    cases h
  | inr r =>
    obtain ⟨y, a1, o1⟩ := r
    rw [Inf.bind_ok hr] at h
    exact hf y a1 o1 x a' o' (hp a o y a1 o1 ho hr) h
theorem Inf.Top.ite {α : Type} {most : Nat} {c : Prop} [Decidable c] {p q : Inf.M α} (hp : Inf.Top most p) (hq : Inf.Top most q) : Inf.Top most (if c then p else q) := by
  by_cases h : c
  · rwa [if_pos h]
  · rwa [if_neg h]
section
variable (l : List Bool) (most : Nat)
theorem Inf.Top.bits (n : Nat) : Inf.Top most (Inf.bits l n) := fun a o x a' o' ho h => by
  unfold Inf.bits at h
  split at h
  · cases h; exact ho
  · cases h
theorem Inf.Top.align : Inf.Top most Inf.align := fun a o x a' o' ho h => by cases h; exact ho
theorem Inf.Top.sym (ls : List Nat) : Inf.Top most (Inf.sym l ls) := fun a o x a' o' ho h => by
  unfold Inf.sym at h
  split at h
  · cases h; exact ho
  · cases h
theorem Inf.Top.put (c : UInt8) : Inf.Top most (Inf.put most c) := fun a o x a' o' ho h => by
  unfold Inf.put at h
  split at h
  · cases h
  · cases h
    rw [List.length_append, List.length_singleton]
    omega
theorem Inf.Top.raw (n : Nat) : Inf.Top most (Inf.raw l most n) := by
  induction n with
  | zero => exact Inf.Top.ret most ()
  | succ n ih => exact (Inf.Top.bits l most 8).bind fun c => (Inf.Top.put most _).bind fun _ => ih
theorem Inf.Top.stored : Inf.Top most (Inf.stored l most) := (Inf.Top.align most).bind fun _ => (Inf.Top.bits l most 16).bind fun n => (Inf.Top.bits l most 16).bind fun m => Inf.Top.ite (Inf.Top.raw l most n) (Inf.Top.err most 3)
theorem Inf.Top.back (d n : Nat) : Inf.Top most (Inf.back most d n) := by
  induction n with
  | zero => exact Inf.Top.ret most ()
  | succ n ih => exact fun a o x a' o' ho h => ((Inf.Top.put most (o.getD (o.length - d) 0)).bind fun _ => ih) a o x a' o' ho h
theorem Inf.Top.reach (d n : Nat) : Inf.Top most (Inf.reach most d n) := fun a o x a' o' ho h => by
  unfold Inf.reach at h
  split at h
  · cases h
  · exact Inf.Top.back most d n a o x a' o' ho h
theorem Inf.Top.copied (far : List Nat) (s : Nat) : Inf.Top most (Inf.copied l most far s) :=
  Inf.Top.ite (Inf.Top.err most 3) ((Inf.Top.bits l most _).bind fun _ => (Inf.Top.sym l most far).bind fun t => Inf.Top.ite (Inf.Top.err most 3) ((Inf.Top.bits l most _).bind fun _ => Inf.Top.reach most _ _))
theorem Inf.Top.symbols (near far : List Nat) (f : Nat) : Inf.Top most (Inf.symbols l most near far f) := by
  induction f with
  | zero => exact Inf.Top.err most 3
  | succ f ih => exact (Inf.Top.sym l most near).bind fun s => Inf.Top.ite ((Inf.Top.put most _).bind fun _ => ih) (Inf.Top.ite (Inf.Top.ret most ()) ((Inf.Top.copied l most far s).bind fun _ => ih))
theorem Inf.Top.often (acc : List Nat) (s : Nat) : Inf.Top most (Inf.often l acc s) :=
  Inf.Top.ite (Inf.Top.ite (Inf.Top.err most 3) ((Inf.Top.bits l most 2).bind fun _ => Inf.Top.ret most _)) (Inf.Top.ite ((Inf.Top.bits l most 3).bind fun _ => Inf.Top.ret most _) (Inf.Top.ite ((Inf.Top.bits l most 7).bind fun _ => Inf.Top.ret most _) (Inf.Top.ret most _)))
theorem Inf.Top.lens (ls : List Nat) (many f : Nat) : ∀ acc, Inf.Top most (Inf.lens l ls many f acc) := by
  induction f with
  | zero => intro acc; exact Inf.Top.err most 3
  | succ f ih => intro acc; exact Inf.Top.ite (Inf.Top.ret most acc) ((Inf.Top.sym l most ls).bind fun s => (Inf.Top.often l most acc s).bind fun nv => Inf.Top.ite (Inf.Top.err most 3) (ih _))
theorem Inf.Top.need (ls : List Nat) (short : Bool) : Inf.Top most (Inf.need ls short) := fun a o x a' o' ho h => by
  unfold Inf.need at h
  split at h
  · cases h; exact ho
  · cases h
theorem Inf.Top.three (n : Nat) : ∀ i acc, Inf.Top most (Inf.three l n i acc) := by
  induction n with
  | zero => intro i acc; exact Inf.Top.ret most acc
  | succ n ih => intro i acc; exact (Inf.Top.bits l most 3).bind fun v => ih _ _
theorem Inf.Top.dynamic : Inf.Top most (Inf.dynamic l) :=
  (Inf.Top.bits l most 5).bind fun a => (Inf.Top.bits l most 5).bind fun b => Inf.Top.ite (Inf.Top.err most 3) ((Inf.Top.bits l most 4).bind fun m => (Inf.Top.three l most _ _ _).bind fun c =>
    (Inf.Top.need most c false).bind fun _ => (Inf.Top.lens l most c _ _ _).bind fun ls => Inf.Top.ite (Inf.Top.err most 3) ((Inf.Top.need most _ false).bind fun _ => (Inf.Top.need most _ true).bind fun _ => Inf.Top.ret most _))
theorem Inf.Top.block (F : Nat) : Inf.Top most (Inf.block l most F) :=
  (Inf.Top.bits l most 1).bind fun fin => (Inf.Top.bits l most 2).bind fun k => Inf.Top.ite ((Inf.Top.stored l most).bind fun _ => Inf.Top.ret most _)
    (Inf.Top.ite ((Inf.Top.symbols l most _ _ F).bind fun _ => Inf.Top.ret most _) (Inf.Top.ite ((Inf.Top.dynamic l most).bind fun c => (Inf.Top.symbols l most _ _ F).bind fun _ => Inf.Top.ret most _) (Inf.Top.err most 3)))
theorem Inf.Top.blocks (F f : Nat) : Inf.Top most (Inf.blocks l most F f) := by
  induction f with
  | zero => exact Inf.Top.err most 3
  | succ f ih => exact (Inf.Top.block l most F).bind fun fin => Inf.Top.ite (Inf.Top.ret most ()) ih
end
theorem Inf.data_most {l : List Bool} {most F n : Nat} {o : List UInt8} (h : Inf.data l most F = .inr (o, n)) : o.length ≤ most := by
  obtain ⟨a, h1, _⟩ := Inf.data_some h
  exact Inf.Top.blocks l most F F 0 [] () a o (Nat.zero_le _) h1
end Go.Proofs.YtaapjampmnanmaaGreat
namespace Go.Proofs.YtaapjampmnanmaaGreat
open Go.RowKit Go.Shelf
set_option linter.unusedVariables false
set_option linter.unusedSimpArgs false
theorem skip_either (B g : Nat) (A : Option Addr) (n c p : Nat) (bs : List UInt8) (W : World) (h : MAt B W g A n c (.inr p)) (hr : Rd W B A n (bs.map bv)) (hc : n ≤ c) (hn : n ≤ 1048576) :
    Calls Tryz.prog 109 #[.pointer (some ⟨g, 0, none⟩), .int .i64 8] W fun e w' => KG g W w' ∧ ((p + 8 ≤ n ∧ ∃ A2 c2, e = .returned (.slice A2 8 c2) ∧ Rd w' B A2 8 (((bs.drop p).take 8).map bv) ∧ MAt B w' g A n c (.inr (p + 8))) ∨ (n < p + 8 ∧ e = .returned (.slice none 0 0) ∧ MAt B w' g A n c (.inl 2))) := by
  by_cases hp : p + 8 ≤ n
  · refine (show Calls Tryz.prog 109 #[.pointer (some ⟨g, 0, none⟩), .int .i64 8] W _ from skip_ok B g A n c p 8 bs W h hr hc hn hp).mono ?_
    rintro e w' ⟨⟨A2, c2, rfl, _, h1⟩, h2, h3⟩
    exact ⟨h3, .inl ⟨hp, A2, c2, rfl, h1, h2⟩⟩
  · refine (show Calls Tryz.prog 109 #[.pointer (some ⟨g, 0, none⟩), .int .i64 8] W _ from skip_short B g A n c p 8 W h hn (by omega) (by decide)).mono ?_
    rintro e w' ⟨rfl, h2, h3⟩
    exact ⟨h3, .inr ⟨by omega, rfl, h2⟩⟩
set_option maxRecDepth 100000 in
set_option maxHeartbeats 2000000 in
theorem data_ok (B g : Nat) (A : Option Addr) (n c most F p u : Nat) (o : List UInt8) (bs : List UInt8) (W : World) (h : MAt B W g A n c (.inr p)) (hr : Rd W B A n (bs.map bv)) (hc : n ≤ c) (hn : n ≤ 1048576) (hm : most ≤ 1048576) (hF : 8 * n < F) (hX : Inf.data (Bit.bitsOf (bs.drop p)) most F = .inr (o, u)) :
    Calls Tryz.prog 90 #[.pointer (some ⟨g, 0, none⟩), .int .i64 (most : Nat)] W (DPost B g A n c W (Gz.bodyS F most bs (.inr p))) := by
  have hl : bs.length = n := hr.len
  have hp := h.2.1
  have hBg := h.1
  have hBW := hide h.lt
  have c0 := h.2.2.cell 0
  have c1 := h.2.2.cell 1
  have c2 := h.2.2.cell 2
  simp only [List.getElem?_toArray, List.getElem?_cons_succ, List.getElem?_cons_zero] at c0 c1 c2
  have hd := hide (h.drewN 1)
  have hrd := hide (hr.below (below_drewN (Below.refl _ W) 1))
  have hpI : (p : Int) ≤ (n : Int) := by omega
  have hnI : (n : Int) ≤ (c : Int) := by omega
  have hq : ∀ (A1 : Option Addr) (m c1 : Nat), m ≤ 1048576 → 8 * m < F → Rd W B A1 m ((bs.drop p).map bv) → Calls Tryz.prog 115 #[.slice A1 m c1, .int .i64 (most : Nat)] W.drew (InfPost W.drew (Inf.data (Bit.bitsOf (bs.drop p)) most F)) := fun A1 m c1 hm1 hF1 h1 => idata_at A1 c1 m (bs.drop p) most F (most : Nat) W.drew rfl ((h1.below (below_drewN (Below.refl _ W) 1)).mono hBW.out) hm1 hm hF1
  rw [hX] at hq
  have hres := hide (show Gz.bodyS F most bs (.inr p) = Gz.bind (Gz.skip bs 8 (p + u)) (fun q => if (bs.drop (p + u)).take 8 = Gz.le (Crc.sum o) ++ Gz.le o.length then .inr (o, q) else .inl 4) from by
    show Gz.bind (Inf.data _ _ _) _ = _
    rw [hX]; rfl)
  have hu8 := Inf.data_le hX (bits8 _)
  rw [Bit.bitsOf_length, List.length_drop] at hu8
  have hpu : p + u ≤ n := by omega
  have hol := hide (Inf.data_most hX)
  obtain ⟨m2, hm2⟩ : ∃ m, o.length = m := ⟨_, rfl⟩
  have hqe : ∀ (A1 : Option Addr) (m c1 : Nat), m ≤ 1048576 → 8 * m < F → Rd W B A1 m ((bs.drop p).map bv) → Calls Tryz.prog 115 #[.slice A1 m c1, .int .i64 (most : Nat)] W.drew fun e w' => ∃ A2 c2, e = .returned (.tuple #[.slice A2 m2 c2, .int .i64 (u : Nat), .int .i64 0]) ∧ KG g W w' ∧ MAt B w' g A n c (.inr p) ∧ Ow w' W.heap.size 5 A2 m2 c2 (o.map bv) := fun A1 m c1 h1 h2 h3 => (hq A1 m c1 h1 h2 h3).mono (by
    rintro e w' ⟨hb, ⟨er', he, rfl⟩ | ⟨o', u', A2, c2, he, rfl, ho⟩⟩
    · cases he
    · cases he
      rw [← hm2]
      exact ⟨A2, c2, rfl, KG.trans ((KG.refl g W).drewN 1) (KG.of_below hb), hd.out.below hb, ho⟩)
  replace h := hide h
  rcases (show c = p ∨ c ≠ p by omega) with hcp | hcp
  · exfalso
    obtain ⟨F', rfl⟩ : ∃ F', F = F' + 1 := ⟨F - 1, by omega⟩
    have := Inf.data_pos _ (bits8 _) most F' u o hX
    omega
  · have hq1 := hide (hqe _ _ (c - p) (by omega) (by omega) (hr.rest p hp))
    clear hq hqe
    go_enter Tryz.func90, Tryz.ntmps90
    go_upto_region 3 with fail
    go_cut [5, 6, 7] (fun s5 s6 s7 wx => Hid (KG g W wx) ∧ s6 = .int .i64 (u : Int) ∧ s7 = .int .i64 0 ∧ Hid (MAt B wx g A n c (.inr p)) ∧ ∃ A2 c2, s5 = .slice A2 m2 c2 ∧ Hid (Ow wx W.heap.size 5 A2 m2 c2 (o.map bv)))
    case first =>
      go_region_with (go_at_call 115; (with_reducible refine (hq1.out).mono ?_); rintro e w2 ⟨A7, c7, rfl, hk2, hmm2, ho2⟩; have hk2 := hide hk2; have hmm2 := hide hmm2; have ho2 := hide ho2)
      all_goals (go_wp2; go_meet; exact ⟨hk2, rfl, rfl, hmm2, A7, c7, rfl, ho2⟩)
    case rest =>
      obtain ⟨hk, rfl, rfl, hm, A5, c5, rfl, ho⟩ := hcut
      have d1 := hm.out.2.2.cell 1
      have f1 := hm.out.2.2.free 1
      simp only [List.getElem?_toArray, List.getElem?_cons_succ, List.getElem?_cons_zero] at d1
      obtain ⟨w4, hw4⟩ : ∃ w4, wc.setCell ⟨g, 1, none⟩ (.int .i64 ((p : Int) + (u : Int))) = w4 := ⟨_, rfl⟩
      have m4 := hide (show MAt B w4 g A n c (.inr (p + u)) from by
        rw [← hw4]
        refine ⟨hBg, hpu, ?_⟩
        have h1 := hm.out.2.2.set 1 (.int .i64 ((p + u : Nat) : Int))
        rw [Int.natCast_add] at h1 ⊢
        exact h1)
      have k4 := hide (show KG g W w4 from by rw [← hw4]; exact hk.out.setCell _)
      have o4 := hide (show Ow w4 W.heap.size 5 A5 m2 c5 (o.map bv) from by
        rw [← hw4]
        exact ho.out.chg ((KG.refl g wc).setCell _) (fun k hk1 hk2 => ho.out.ne hm.out.2.2 (by decide) (by rw [hk1, hk2])))
      have hs := hide (skip_either B g A n c (p + u) bs w4 m4.out (hr.below (k4.out.below hBg hBW.out)) hc hn)
      clear c0 c1 c2 hk hm ho
      go_upto_region 8 with fail
      clear d1 f1 hw4
      go_wp2_with fail
      refine hs.out.mono ?_
      rintro e w5 ⟨k5, ⟨hp8, A6, c6, rfl, r6, m6⟩ | ⟨hp8, rfl, m6⟩⟩
      · have d2 := m6.2.2.cell 2
        simp only [List.getElem?_toArray, List.getElem?_cons_succ, List.getElem?_cons_zero] at d2
        have m6 := hide m6
        have k6 := hide (k4.out.trans k5)
        have o6 := hide (show Ow w5 W.heap.size 5 A5 m2 c5 (o.map bv) from o4.out.chg k5 (fun k hk1 hk2 => o4.out.ne m4.out.2.2 (by decide) (by rw [hk1, hk2])))
        have r6 := hide r6
        have hBw5 := hide (show B ≤ w5.heap.size from m6.out.lt)
        have hm20 : m2 ≤ 1048576 := by have := hol.out; omega
        have hm2u : IntKind.u32.wrap (m2 : Int) = (m2 : Int) := by rw [IntKind.wrap_u32]; omega
        obtain ⟨Sm, hSm⟩ : ∃ Sm, Crc.sum o = Sm := ⟨_, rfl⟩
        have hSl := Crc.sum_lt o
        rw [hSm] at hSl
        have hof := hide (of_any A5 m2 c5 o w5 w5.heap.size o6.out.rd (Nat.le_refl _) (by omega))
        rw [hSm] at hof
        have hl1 := hide (fun W1 => low4_any none 0 0 Sm W1.heap.size [] W1 (Ow.nil _ _ _) (Nat.le_refl _) (by decide) (by omega))
        have hl2 := hide (fun (A7 : Option Addr) (c7 B7 : Nat) (W1 : World) (ho : Ow W1 B7 5 A7 4 c7 ((Gz.le Sm).map bv)) (hB : B7 ≤ W1.heap.size) => low4_any A7 4 c7 m2 B7 (Gz.le Sm) W1 ho hB (by decide) (by omega))
        obtain ⟨TT, hTT⟩ : ∃ T, (bs.drop (p + u)).take 8 = T := ⟨_, rfl⟩
        obtain ⟨LL, hLL⟩ : ∃ T, Gz.le Sm ++ Gz.le m2 = T := ⟨_, rfl⟩
        rw [hTT] at r6
        rw [hLL] at hl2
        obtain ⟨I, hI⟩ : ∃ I, (TT == LL) = I := ⟨_, rfl⟩
        have heq := hide (fun (A8 : Option Addr) (c8 B8 : Nat) (W1 : World) (h1 : Rd W1 B A6 8 (TT.map bv)) (h2 : Rd W1 B8 A8 8 (LL.map bv)) => equal_any A6 A8 8 c6 8 c8 B B8 TT LL W1 h1 h2)
        rw [hI] at heq
        clear k5 m4 o4 k4 hs
        cases I
        all_goals go_wp2_with (first
          | (go_at_call 106; (with_reducible refine (hof.out).mono ?_); rintro e w7 ⟨rfl, b7⟩; have b7 := hide b7; have hl1 := hide (hl1.out w7))
          | (go_at_call 105; (with_reducible refine (hl1.out).mono ?_); rintro e w8 ⟨A8, c8, rfl, o8, g8⟩; have b8 := hide (show Below w7.heap.size w7 w8 from g8.to_below (Nat.le_refl _) (by rintro i hi; cases hi)); rw [List.nil_append] at o8; have hl2 := hide (hl2.out A8 c8 w7.heap.size w8 o8 b8.out.size); have o8 := hide o8)
          | (go_at_call 105; (with_reducible refine (hl2.out).mono ?_); rintro e w9 ⟨A9, c9, rfl, o9, g9⟩; have b9 := hide (show Below w7.heap.size w8 w9 from g9.to_below b8.out.size (fun i hi => (o8.out.blk_lt i hi).1)); have b79 := hide (b8.out.trans b9.out); have b59 := hide (b7.out.trans (b79.out.mono b7.out.size)); have heq := hide (heq.out A9 c9 w9.heap.size w9 (r6.out.below (b59.out.mono hBw5.out)) o9.rd); clear o9 g9)
          | (go_at_call 116; (with_reducible refine (heq.out).mono ?_); rintro e w10 ⟨rfl, rfl⟩; have m9 := hide (m6.out.below b59.out); have k9 := hide (k6.out.trans (KG.of_below b59.out)); have o9 := hide (o6.out.below b59.out); have d9 := m9.out.2.2.cell 2; have f9 := m9.out.2.2.free 2; simp only [List.getElem?_toArray, List.getElem?_cons_succ, List.getElem?_cons_zero] at d9; clear d2))
        · go_ret
          refine ⟨k9.out.setCell _, .inl ⟨4, _, ?_, rfl, ⟨hBg, by decide, trivial, p + u + 8, hp8, m9.out.2.2.set 2 _⟩⟩⟩
          rw [hres.out, show Gz.skip bs 8 (p + u) = .inr (p + u + 8) from if_pos (by omega)]
          show (if _ then _ else _) = _
          rw [hTT, hSm, hm2, hLL, if_neg (by simpa using hI)]
        · go_ret
          refine ⟨k9.out, .inr ⟨o, p + u + 8, A5, c5, ?_, by rw [hm2]; rfl, ?_, m9.out⟩⟩
          · rw [hres.out, show Gz.skip bs 8 (p + u) = .inr (p + u + 8) from if_pos (by omega)]
            show (if _ then _ else _) = _
            rw [hTT, hSm, hm2, hLL, if_pos (by simpa using hI)]
          · rw [hm2]
            exact o9.out.rd
      · obtain ⟨q, hq, kq⟩ := show ∃ p, p ≤ n ∧ Blk w5 g 143 #[.slice A n c, .int .i64 (p : Nat), .int .i64 (2 : Nat)] from m6.2.2.2
        have d2 := kq.cell 2
        simp only [List.getElem?_toArray, List.getElem?_cons_succ, List.getElem?_cons_zero] at d2
        have m6 := hide m6
        have k6 := hide (k4.out.trans k5)
        clear kq k5
        go_wp2
        go_ret
        exact ⟨k6.out, .inl ⟨2, _, by rw [hres.out, show Gz.skip bs 8 (p + u) = .inl 2 from if_neg (by omega)]; rfl, rfl, m6.out⟩⟩
end Go.Proofs.YtaapjampmnanmaaGreat
namespace Go.Proofs.YtaapjampmnanmaaGreat
open Go.RowKit Go.Shelf
set_option linter.unusedVariables false
theorem data_any (B g : Nat) (A : Option Addr) (n c most F : Nat) (s : Sum Nat Nat) (bs : List UInt8) (W : World) (h : MAt B W g A n c s) (hr : Rd W B A n (bs.map bv)) (hc : n ≤ c) (hn : n ≤ 1048576) (hm : most ≤ 1048576) (hF : 8 * n < F) :
    Calls Tryz.prog 90 #[.pointer (some ⟨g, 0, none⟩), .int .i64 (most : Nat)] W (DPost B g A n c W (Gz.bodyS F most bs s)) := by
  cases s with
  | inl er => exact data_bad B g A n c most F er bs W h hr hc hn hm hF
  | inr p =>
    cases hX : Inf.data (Bit.bitsOf (bs.drop p)) most F with
    | inl er => exact data_err B g A n c most F p er bs W h hr hc hn hm hF hX
    | inr r =>
      obtain ⟨o, u⟩ := r
      exact data_ok B g A n c most F p u o bs W h hr hc hn hm hF hX
end Go.Proofs.YtaapjampmnanmaaGreat
namespace Go.Proofs.YtaapjampmnanmaaGreat
open Go.RowKit Go.Shelf
set_option linter.unusedVariables false
set_option linter.unusedSimpArgs false
theorem Ow.cut0 {w : World} {base n c : Nat} {e : TypeId} {A : Option Addr} {xs : List Value} (h : Ow w base e A n c xs) (hn : 0 < n) : Ow w base e A 0 c [] := by
  refine ⟨rfl, ?_⟩
  rcases h.2 with ⟨_, h0⟩ | ⟨g, cap, cur, hv, hb, hh, h1, h2, h3, _⟩
  · omega
  · injection hv with e1 e2 e3
    exact .inr ⟨g, cap, cur, by rw [e1, e3], hb, hh, by omega, h2, h3, by simp⟩
theorem zeros_byte (k : Nat) : ∀ u ∈ (Builtin.zeroCells (Value.int .u8 0).cells k).toList, u.oneCell' = true := by
  intro u hu
  simp only [Builtin.zeroCells, Array.toList_map, List.mem_map, Value.cells] at hu
  obtain ⟨i, _, rfl⟩ := hu
  simp [Nat.mod_one]
  rfl
set_option maxRecDepth 100000 in
set_option maxHeartbeats 1000000 in
theorem grow_any (k : Nat) (w : World) (hk : 0 < k) (hk2 : k ≤ 1000000000) :
    Calls Tryz.prog 81 #[.slice none 0 0, .int .i64 (k : Nat)] w fun e w' => ∃ A c, e = .returned (.slice A 0 c) ∧ Ow w' w.heap.size 5 A 0 c [] ∧ Below w.heap.size w w' := by
  have hkI : (0 : Int) < (k : Int) := by omega
  have hkw : IntKind.i64.wrap (k : Int) = (k : Int) := by rw [IntKind.wrap_i64]; omega
  have hng : decide ((k : Int) < 0) = false := by simp
  go_enter Tryz.func81, Tryz.ntmps81
  go_wp2_with (at_builtin; go_loud (refine wpList_append_zeros w rfl (.tmp 20) (.tmp 21) rfl elem_byte Tryz.underlying3 rfl (Ow.nil w w.heap.size _) .i64 k rfl (zeros_byte k) (by simp only [maxLen]; omega) (by omega) (Nat.le_refl _) ?_); intro A3 c3 w3 ho3 hg3; rw [Nat.zero_add] at ho3 ⊢; have ho3 := hide ho3; have hg3 := hide hg3)
  go_ret
  exact ⟨A3, c3, rfl, ho3.out.cut0 hk, hg3.out.to_below (Nat.le_refl _) (fun i hi => by simp [blk] at hi)⟩
theorem one_bv2 (bs : List UInt8) : ∀ u ∈ bs.map bv, u.oneCell' = true := by
  intro u hu
  obtain ⟨b, _, rfl⟩ := List.mem_map.mp hu
  rfl
set_option maxRecDepth 100000 in
set_option maxHeartbeats 2000000 in
theorem concat_any (g B n1 c1 n2 c2 : Nat) (A1 A2 : Option Addr) (xs ys : List UInt8) (w : World) (hk : Blk w g 22 #[.slice A1 n1 c1, .slice A2 n2 c2]) (hr1 : Rd w B A1 n1 (xs.map bv)) (hr2 : Rd w B A2 n2 (ys.map bv)) (hB : B ≤ w.heap.size) (h1 : 0 < n1) (hn1 : n1 ≤ 100000000) (hn2 : n2 ≤ 800000000) :
    Calls Tryz.prog 43 #[.slice (some ⟨g, 0, none⟩) 2 2] w fun e w' => ∃ A c, e = .returned (.slice A (n1 + n2) c) ∧ Ow w' w.heap.size 5 A (n1 + n2) c ((xs ++ ys).map bv) ∧ Below w.heap.size w w' := by
  have hg := hide (grow_any (n1 + n2) w (by omega) (by omega))
  have d0 := hk.cell 0
  have d1 := hk.cell 1
  simp only [List.getElem?_toArray, List.getElem?_cons_succ, List.getElem?_cons_zero] at d0 d1
  have hw1 : IntKind.i64.wrap (n1 : Int) = (n1 : Int) := by rw [IntKind.wrap_i64]; omega
  have hw2 : IntKind.i64.wrap ((n1 : Int) + (n2 : Int)) = ((n1 + n2 : Nat) : Int) := by rw [IntKind.wrap_i64]; omega
  have hs1 : decide ((n1 : Int) < 0) = false := by simp
  have hs2 : decide (((n1 + n2 : Nat) : Int) < 0) = false := by simp; omega
  replace hr1 := hide hr1
  replace hr2 := hide hr2
  replace hk := hide hk
  go_enter Tryz.func43, Tryz.ntmps43
  go_wp2
  refine wp_loop_rounds 3 ?_
  rw [rounds_succ]
  go_wp2
  rw [rounds_succ]
  go_wp2
  rw [rounds_succ]
  go_wp2_with fail
  refine hg.out.mono ?_
  rintro e w1 ⟨A3, c3, rfl, o3, b3⟩
  have k1 := hk.out.below b3 hk.out.lt
  have e0 := k1.cell 0
  have e1 := k1.cell 1
  simp only [List.getElem?_toArray, List.getElem?_cons_succ, List.getElem?_cons_zero] at e0 e1
  have q1 := hide (hr1.out.below (b3.mono hB))
  have q2 := hide (fun W (h : Below w.heap.size w W) => hr2.out.below (h.mono hB))
  have hBw1 := hide b3.size
  have o3 := hide o3
  have b3 := hide b3
  clear k1 hg d0 d1 hs1 hs2 hw1 hw2
  go_wp2
  refine wp_loop_rounds 3 ?_
  rw [rounds_succ]
  go_wp2_with (at_builtin; go_loud (refine wpList_append_rd w1 rfl (.tmp 31) (.tmp 32) rfl elem_byte rfl o3.out rfl q1.out (one_bv2 xs) (by simp only [maxLen]; omega) (by omega) hBw1.out ?_); intro A4 c4 w4 ho4 hc4 hn4; have b4 := hide (b3.out.trans (hc4.to_below hBw1.out (fun i hi => (o3.out.blk_lt i hi).1))); rw [Nat.zero_add, List.nil_append] at ho4; have ho4 := hide ho4; clear hc4 hn4)
  have e4 := hide (q2.out w4 b4.out)
  have hBw4 := hide b4.out.size
  clear e0 e1 b3 o3
  have e1 := (hk.out.below b4.out hk.out.lt).cell 1
  simp only [List.getElem?_toArray, List.getElem?_cons_succ, List.getElem?_cons_zero] at e1
  rw [rounds_succ]
  go_wp2_with (at_builtin; go_loud (refine wpList_append_rd w4 rfl (.tmp 31) (.tmp 32) rfl elem_byte rfl ho4.out rfl e4.out (one_bv2 ys) (by simp only [maxLen]; omega) (by omega) hBw4.out ?_); intro A5 c5 w5 ho5 hc5 hn5; have b5 := hide (b4.out.trans (hc5.to_below hBw4.out (fun i hi => (ho4.out.blk_lt i hi).1))); have ho5 := hide ho5; clear hc5 hn5)
  rw [rounds_succ]
  go_wp2
  go_ret
  exact ⟨A5, c5, rfl, by rw [List.map_append]; exact ho5.out, b5.out⟩
end Go.Proofs.YtaapjampmnanmaaGreat
namespace Go.Proofs.YtaapjampmnanmaaGreat
set_option linter.unusedVariables false
set_option linter.unusedSimpArgs false
theorem Gz.le_len (v : Nat) : (Gz.le v).length = 4 := rfl
theorem Gz.wrap_len (bs : List UInt8) : (Gz.wrap bs).length = 18 + (Def.outB false bs).length := by
  simp only [Gz.wrap, List.length_append, Gz.le_len, List.length_cons, List.length_nil]
  omega
theorem Gz.wrap_drop (bs more : List UInt8) : (Gz.wrap bs ++ more).drop 10 = Def.outB false bs ++ ((Gz.le (Crc.sum bs) ++ Gz.le bs.length) ++ more) := by
  unfold Gz.wrap
  simp only [List.append_assoc]
  rfl
theorem Gz.wrap_take (bs more : List UInt8) : (Gz.wrap bs ++ more).take 10 = [31, 139, 8, 0, 0, 0, 0, 0, 0, 255] := by
  unfold Gz.wrap
  simp only [List.append_assoc]
  rfl
theorem Gz.parts_zero (bs : List UInt8) (s : Sum Nat Nat) : Gz.parts bs 0 s = s := by
  simp [Gz.parts, Gz.part, Nat.zero_testBit]
theorem Gz.head_made (l : List UInt8) (h : l.take 10 = [31, 139, 8, 0, 0, 0, 0, 0, 0, 255]) : Gz.head l = .inr 10 := by
  have hl : 10 ≤ l.length := by
    have := congrArg List.length h
    rw [List.length_take] at this
    simp at this
    omega
  rw [Gz.head_long l hl, ← Gz.byte_take l 10 0 (by decide), ← Gz.byte_take l 10 1 (by decide), ← Gz.byte_take l 10 2 (by decide), ← Gz.byte_take l 10 3 (by decide), h]
  exact (if_pos ⟨⟨rfl, rfl⟩, rfl, by decide⟩).trans (Gz.parts_zero l _)
theorem Gz.out_big (bs : List UInt8) (h : bs.length ≤ 1048576) : (Def.outB false bs).length ≤ 10000000 := by
  rw [show (Def.outB false bs).length = Bit.size (Def.outL false bs).length from Bit.pack_length _]
  have key : (Def.outL false bs).length ≤ 70000000 := by
    have h1 := Def.toksB_len (Def.parse bs)
    have h2 := Def.toks_len bs bs.length 0
    rw [show Def.toks bs bs.length 0 = Def.parse bs from rfl] at h2
    have h3 : (Def.litB 256).length ≤ 60 := by
      have h1 := (fixL_le 256).1
      rw [Def.litB, word_len]
      omega
    show (Def.fixB bs).length ≤ _
    simp only [Def.fixB, List.length_append, List.length_cons, List.length_nil]
    omega
  unfold Bit.size
  omega
theorem Gz.out_len (pl : Bool) (bs : List UInt8) (h : bs.length ≤ 4000) : (Def.outB pl bs).length ≤ 40000 := by
  rw [show (Def.outB pl bs).length = Bit.size (Def.outL pl bs).length from Bit.pack_length _]
  have key : (Def.outL pl bs).length ≤ 300000 := by
    cases pl with
    | false =>
      have h1 := Def.toksB_len (Def.parse bs)
      have h2 := Def.toks_len bs bs.length 0
      rw [show Def.toks bs bs.length 0 = Def.parse bs from rfl] at h2
      have h3 : (Def.litB 256).length ≤ 60 := by
        have h1 := (fixL_le 256).1
        rw [Def.litB, word_len]
        omega
      show (Def.fixB bs).length ≤ _
      simp only [Def.fixB, List.length_append, List.length_cons, List.length_nil]
      omega
    | true =>
      show (Def.stoB bs.length bs).length ≤ _
      have := Def.stoB_len bs.length bs
      omega
  unfold Bit.size
  omega
end Go.Proofs.YtaapjampmnanmaaGreat
namespace Go.Proofs.YtaapjampmnanmaaGreat
open Go.RowKit Go.Shelf
set_option linter.unusedVariables false
set_option linter.unusedSimpArgs false
def UnPost (w : World) (r : Sum Nat (List UInt8)) (e : Ending) (w' : World) : Prop :=
  Below w.heap.size w w' ∧
  ((∃ er, r = .inl er ∧ 1 ≤ er ∧ e = .returned (.tuple #[.slice none 0 0, .int .i64 (er : Int)])) ∨
   (∃ o A c, r = .inr o ∧ e = .returned (.tuple #[.slice A o.length c, .int .i64 0]) ∧ Ow w' w.heap.size 5 A o.length c (o.map bv)))
theorem Gz.skip_pos {bs : List UInt8} {k p q : Nat} (h : Gz.skip bs k p = .inr q) : q = p + k ∧ p + k ≤ bs.length := by
  unfold Gz.skip at h
  split at h
  · cases h; exact ⟨rfl, by assumption⟩
  · cases h
theorem Gz.bind_some {α β : Type} {x : Sum Nat α} {f : α → Sum Nat β} {b : β} (h : Gz.bind x f = .inr b) : ∃ a, x = .inr a ∧ f a = .inr b := by
  cases x with
  | inl e => cases h
  | inr a => exact ⟨a, rfl, h⟩
theorem Gz.body_some {F most p q : Nat} {bs o : List UInt8} (h : Gz.body F most bs p = .inr (o, q)) : ∃ u, Inf.data (Bit.bitsOf (bs.drop p)) most F = .inr (o, u) ∧ q = p + u + 8 ∧ q ≤ bs.length ∧ (bs.drop (p + u)).take 8 = Gz.le (Crc.sum o) ++ Gz.le o.length := by
  obtain ⟨⟨o', u⟩, h1, h⟩ := Gz.bind_some h
  obtain ⟨q', h2, h⟩ := Gz.bind_some h
  obtain ⟨rfl, h3⟩ := Gz.skip_pos h2
  split at h
  · rename_i hc
    cases h
    exact ⟨u, h1, rfl, h3, hc⟩
  · cases h
theorem Gz.member_some {F most q : Nat} {bs o : List UInt8} (h : Gz.member F most bs = .inr (o, q)) : 8 ≤ q ∧ q ≤ bs.length ∧ o.length ≤ most := by
  obtain ⟨p, h1, h⟩ := Gz.bind_some h
  obtain ⟨u, h2, h3, h4, _⟩ := Gz.body_some h
  exact ⟨by omega, h4, Inf.data_most h2⟩
theorem Rd.none8 {W : World} {B n : Nat} {A : Option Addr} {bs : List UInt8} (h : Rd W B A n (bs.map bv)) (p k : Nat) (hk : k = 0) (hp : n ≤ p) : Rd W B A k ((bs.drop p).map bv) := by
  subst hk
  have hl : bs.length = n := h.len
  rw [List.drop_of_length_le (by omega)]
  exact Rd.nil _ _ _
def UnRel (w : World) (n most F gk : Nat) (R : Sum Nat (List UInt8)) (s0 s6 s7 : Value) (wr : World) : Prop :=
  ∃ (A0 : Option Addr) (n0 c0 : Nat) (A6 : Option Addr) (n6 c6 : Nat) (bs0 out : List UInt8) (first : Bool), s0 = .slice A0 n0 c0 ∧ s6 = .slice A6 n6 c6 ∧ s7 = .bool first ∧ Hid (n0 ≤ c0) ∧ Hid (n0 ≤ n) ∧ Hid (n0 < gk) ∧ Hid (out.length = n6) ∧ Hid (n6 ≤ most) ∧ Hid (Rd wr w.heap.size A0 n0 (bs0.map bv)) ∧ Hid (Ow wr w.heap.size 5 A6 n6 c6 (out.map bv)) ∧ Hid (Below w.heap.size w wr) ∧ ((first || decide (0 < (n0 : Int))) = true ∧ Hid (Gz.all F most gk out bs0 = R) ∨ first = false ∧ n0 = 0 ∧ Hid (R = .inr out))
theorem UnRel.next {w wr : World} {n most F g n0 n6 m3 q3 n' c' c8 : Nat} {R : Sum Nat (List UInt8)} {A' A8 : Option Addr} {bs0 out o3 : List UInt8} (hn' : n' = n0 - q3) (hc : n' ≤ c') (hn : n0 ≤ n) (hg : n0 < g + 1) (h8 : 8 ≤ q3) (hq : q3 ≤ n0) (hl : bs0.length = n0) (ho : out.length = n6) (ho3 : o3.length = m3) (hm : n6 + m3 ≤ most)
    (hr : Rd wr w.heap.size A' n' ((bs0.drop q3).map bv)) (h6 : Ow wr w.heap.size 5 A8 (n6 + m3) c8 (out.map bv ++ o3.map bv)) (hb : Below w.heap.size w wr) (hR : (if bs0.drop q3 = [] then .inr (out ++ o3) else Gz.all F most g (out ++ o3) (bs0.drop q3)) = R) :
    UnRel w n most F g R (.slice A' n' c') (.slice A8 (n6 + m3) c8) (.bool false) wr := by
  have hd : bs0.drop q3 = [] ↔ n' = 0 := by
    rw [← List.length_eq_zero_iff, List.length_drop, hl, hn']
  refine ⟨A', n', c', A8, n6 + m3, c8, bs0.drop q3, out ++ o3, false, rfl, rfl, rfl, hc, hide (by omega), hide (by omega), hide (by rw [List.length_append, ho, ho3]), hm, hr, hide (by rw [List.map_append]; exact h6), hb, ?_⟩
  by_cases h0 : n' = 0
  · rw [if_pos (hd.2 h0)] at hR
    exact .inr ⟨rfl, h0, hR.symm⟩
  · rw [if_neg (fun h => h0 (hd.1 h))] at hR
    exact .inl ⟨by simp; omega, hR⟩
set_option maxRecDepth 100000 in
set_option maxHeartbeats 4000000 in
theorem unwrap_any (A : Option Addr) (n c most F f : Nat) (bs : List UInt8) (w : World) (hr : Rd w w.heap.size A n (bs.map bv)) (hc : n ≤ c) (hn : n ≤ 1048576) (hm : most ≤ 1048576) (hF : 8 * n < F) (hf : n < f) :
    Calls Tryz.prog 67 #[.slice A n c, .int .i64 (most : Nat)] w (UnPost w (Gz.all F most f [] bs)) := by
  obtain ⟨R, hR⟩ : ∃ R, Gz.all F most f [] bs = R := ⟨_, rfl⟩
  rw [hR]
  replace hR := hide hR
  replace hr := hide hr
  have hmI : (most : Int) ≤ 1048576 := by omega
  have hm0 : (0 : Int) ≤ (most : Int) := by omega
  have hm1 : decide ((most : Int) < 0) = false := by simp
  have hm2 : decide ((1048576 : Int) < (most : Int)) = false := by simp; omega
  replace hF := hide hF
  replace hm := hide hm
  replace hf := hide hf
  replace hn := hide hn
  replace hc := hide hc
  go_enter Tryz.func67, Tryz.ntmps67
  go_upto_region 3 with fail
  clear hm1 hm2 hmI hm0
  go_wp2
  go_loopg [0, 6, 7, 8, 9] f (fun gk s0 s6 s7 s8 s9 wr => UnRel w n most F gk R s0 s6 s7 wr)
  case atStart => exact ⟨A, n, c, none, 0, 0, bs, [], true, rfl, rfl, rfl, hc, hide (Nat.le_refl _), hf, hide rfl, hide (Nat.zero_le _), hr, hide (Ow.nil _ _ _), hide (Below.refl _ _), .inl ⟨rfl, hR⟩⟩
  case round =>
    clear hR hr hc hf
    obtain ⟨A0, n0, c0, A6, n6, c6, bs0, out, first, rfl, rfl, rfl, hc, hn0, hg, ho, hom, hr, hw6, hb, ⟨hfirst, hR⟩ | ⟨rfl, rfl, hR⟩⟩ := hrel
    · obtain ⟨g, rfl⟩ : ∃ g, gk = g + 1 := ⟨gk - 1, by have := hg.out; omega⟩
      obtain ⟨mt, hmt⟩ : ∃ mt, most - n6 = mt := ⟨_, rfl⟩
      have hR1 := hide (show Gz.bind (Gz.member F mt bs0) (fun (o, q) => if bs0.drop q = [] then .inr (out ++ o) else Gz.all F most g (out ++ o) (bs0.drop q)) = R from by rw [← hmt, ← ho.out]; exact hR.out)
      have hmI : (most : Int) - (n6 : Int) = (mt : Int) := by have := hom.out; omega
      have hmt2 := hide (show mt ≤ most from by omega)
      have hmw : IntKind.i64.wrap (mt : Int) = (mt : Int) := by rw [IntKind.wrap_i64]; have := hm.out; have := hmt2.out; omega
      obtain ⟨gm, hgm⟩ : ∃ k, wr.heap.size = k := ⟨_, rfl⟩
      obtain ⟨w1, hw1⟩ : ∃ w1, wr.alloc (.cells #[.slice A0 n0 c0, .int .i64 0, .int .i64 0] 143) = w1 := ⟨_, rfl⟩
      have hBg := hide (show w.heap.size ≤ gm from by rw [← hgm]; exact hb.out.size)
      have m1 := hide (show MAt w.heap.size w1 gm A0 n0 c0 (.inr 0) from ⟨hBg.out, Nat.zero_le _, by rw [← hw1, ← hgm]; exact Blk.new wr _ _⟩)
      have r1 := hide (show Rd w1 w.heap.size A0 n0 (bs0.map bv) from by rw [← hw1]; exact hr.out.alloc hb.out.size _)
      have o1 := hide (show Ow w1 w.heap.size 5 A6 n6 c6 (out.map bv) from by rw [← hw1]; exact hw6.out.alloc _)
      have b1 := hide (show Below w.heap.size w w1 from by rw [← hw1]; exact hb.out.alloc hb.out.size _)
      have hne := hide (show ∀ k, blk A6 = some k → k ≠ gm from fun k hk => by have := (hw6.out.blk_lt k hk).2; omega)
      have hbn := hide (show n0 ≤ 1048576 from by have := hn0.out; have := hn.out; omega)
      have hhd := hide (head_any w.heap.size gm A0 n0 c0 bs0 w1 m1.out r1.out hc.out hbn.out)
      have hdt := hide (fun W (h1 : MAt w.heap.size W gm A0 n0 c0 (Gz.head bs0)) (h2 : KG gm w1 W) => data_any w.heap.size gm A0 n0 c0 mt F (Gz.head bs0) bs0 W h1 (r1.out.below (h2.below hBg.out b1.out.size)) hc.out hbn.out (by have := hm.out; have := hmt2.out; omega) (by have := hF.out; have := hn0.out; omega))
      replace hR := hide hR
      clear hr hw6 hb m1
      have hlq := hide (show bs0.length = n0 from r1.out.len)
      have hmem : Gz.member F mt bs0 = Gz.bodyS F mt bs0 (Gz.head bs0) := rfl
      rw [hmem] at hR1
      clear hmem
      have hsm := hide (show ∀ o q, Gz.bodyS F mt bs0 (Gz.head bs0) = .inr (o, q) → 8 ≤ q ∧ o.length ≤ mt from fun o q h => by have := Gz.member_some (F := F) (most := mt) (bs := bs0) h; exact ⟨this.1, this.2.2⟩)
      generalize Gz.bodyS F mt bs0 (Gz.head bs0) = RB at *
      have hfs : first = true ∨ first = false ∧ 0 < n0 := by
        cases first
        · exact .inr ⟨rfl, by simpa using hfirst⟩
        · exact .inl rfl
      clear hfirst
      rcases hfs with rfl | ⟨rfl, hfirst⟩
      all_goals (
        go_wp2_with (first
          | (go_at_call 89; (with_reducible refine (hhd.out).mono ?_); rintro e w2 ⟨⟨v2, rfl⟩, h2, b2⟩; have hdt := hide (hdt.out w2 h2 b2); clear h2; have b2 := hide b2)
          | (go_at_call 90; (with_reducible refine (hdt.out).mono ?_); rintro e w3 ⟨k3, h3⟩; have k3 := hide (b2.out.trans k3); have b3 := hide (b1.out.trans (k3.out.below hBg.out b1.out.size)); (rcases h3 with ⟨er, v3, e3, rfl, _, her, _, p3, hp3, h3⟩ | ⟨o3, q3, A3, c3, e3, rfl, r3, _, hq3, h3⟩); all_goals (have x2 := h3.cell 2; have x1 := h3.cell 1; simp only [List.getElem?_toArray, List.getElem?_cons_succ, List.getElem?_cons_zero] at x1 x2; have h3 := hide h3)))
        skip)
      rotate_left 1
      rotate_right 1
      all_goals first
        | (have hRR : R = .inl er := hR1.out.symm.trans (by rw [e3]; rfl)
           obtain ⟨E, hE⟩ : ∃ E : Int, (er : Int) = E := ⟨_, rfl⟩
           rw [hE] at x2
           go_quiet (fail)
           go_wp2
           go_ret2
           exact ⟨below_drewN b3.out _, .inl ⟨er, hRR, her, by rw [hE]; rfl⟩⟩)
        | (have hsm := hsm.out o3 q3 e3
           have hR2 := hide (show (if bs0.drop q3 = [] then .inr (out ++ o3) else Gz.all F most g (out ++ o3) (bs0.drop q3)) = R from by rw [← hR1.out, e3]; rfl)
           obtain ⟨m3, hm3⟩ : ∃ m, o3.length = m := ⟨_, rfl⟩
           rw [hm3] at r3 hsm ⊢
           have hk3 := hide (k3.out.drewN 1)
           have o4 := hide (show Ow w3.drew w.heap.size 5 A6 n6 c6 (out.map bv) from o1.out.chg (k3.out.drewN 1) (fun k h1 h2 => hne.out k h1 h2))
           have r4 := hide (show Rd w3.drew w3.heap.size A3 m3 (o3.map bv) from r3.below (below_drewN (Below.refl _ w3) 1))
           have r5 := hide (show Rd w3.drew w.heap.size A0 n0 (bs0.map bv) from (r1.out.below (k3.out.below hBg.out b1.out.size)).below (below_drewN (Below.refl _ w3) 1))
           have b4 := hide (show Below w.heap.size w w3.drew from below_drewN b3.out 1)
           have y1 := hide (show w3.drew.cell? ⟨gm, 1, none⟩ = some (.int .i64 (q3 : Int)) from x1)
           have hs1 := hide (show n6 + m3 ≤ maxLen from by have := hmt2.out; have := hm.out; simp only [maxLen]; omega)
           have hs2 := hide (show (n6 + m3) * 1 ≤ 140737488355328 from by have := hmt2.out; have := hm.out; omega)
           have hqI : (q3 : Int) ≤ (n0 : Int) := by omega
           have hcI : (n0 : Int) ≤ (c0 : Int) := by have := hc.out; omega
           have hsm := hide hsm
           have hR1 := hide hR1
           have hm3 := hide hm3
           clear r3 hdt hhd x2
           replace hmI := hide hmI
           replace hmw := hide hmw
           rcases (show c0 = q3 ∨ c0 ≠ q3 by omega) with hcq | hcq
           all_goals (
             go_region_law (refine step_append_rd _ (by rfl) (.tmp 42) (.tmp 43) (by rfl) elem_byte (by first | (simp [go_sem]; done) | (simp [go_sem]; rfl)) o4.out (by first | (simp [go_sem]; done) | (simp [go_sem]; rfl)) r4.out (one_bv2 o3) hs1.out hs2.out b4.out.size ?_; intro A8 c8 w8 o8 k8 n8; have y1 := k8.cell y1.out (fun h => hne.out _ h rfl); have k9 := k8.to_below b4.out.size (fun i hi => (o4.out.blk_lt i hi).1); have b8 := hide (b4.out.trans k9); have r8 := hide (r5.out.below k9); have o8 := hide o8; clear k8 n8 k9)
             all_goals (
               go_wp2_with fail
               go_roundg g
               case measure => omega
               case rel => exact UnRel.next (by omega) (by omega) hn0.out hg.out hsm.out.1 hq3 hlq.out ho.out hm3.out (by have := hsm.out.2; have := hom.out; omega) (by first | exact r8.out.rest q3 hq3 | exact r8.out.none8 q3 _ (by omega) (by omega)) o8.out b8.out hR2.out)))
    · have ho2 := ho.out
      have hz : decide (0 < (0 : Int)) = false := rfl
      subst ho2
      go_wp2_with fail
      go_ret2
      exact ⟨hb.out, .inr ⟨out, A6, c6, hR.out, rfl, hw6.out⟩⟩
end Go.Proofs.YtaapjampmnanmaaGreat
namespace Go.Proofs.YtaapjampmnanmaaGreat
open Go.RowKit Go.Shelf
set_option linter.unusedVariables false
set_option linter.unusedSimpArgs false
def Gz.hd : List UInt8 := [31, 139, 8, 0, 0, 0, 0, 0, 0, 255]
set_option maxRecDepth 100000 in
set_option maxHeartbeats 2000000 in
theorem wrap_any (A : Option Addr) (n c : Nat) (bs : List UInt8) (w : World) (hr : Rd w w.heap.size A n (bs.map bv)) (hc : n ≤ c) (hn : n ≤ 1048576) :
    Calls Tryz.prog 80 #[.slice A n c] w fun e w' => ∃ A' c', e = .returned (.tuple #[.slice A' (Gz.wrap bs).length c', .int .i64 0]) ∧ Ow w' w.heap.size 5 A' (Gz.wrap bs).length c' ((Gz.wrap bs).map bv) ∧ Below w.heap.size w w' := by
  have hl : bs.length = n := hr.len
  have hd := hide (ddata_any A n c bs false w hr hc (by omega))
  have hDl := Gz.out_big bs (by omega)
  have hlen := Gz.wrap_len bs
  obtain ⟨m, hm⟩ : ∃ m, (Def.outB false bs).length = m := ⟨_, rfl⟩
  rw [hm] at hd hDl hlen
  obtain ⟨D, hD⟩ : ∃ D, Def.outB false bs = D := ⟨_, rfl⟩
  rw [hD] at hd
  have hres := hide (show Gz.wrap bs = Gz.hd ++ D ++ Gz.le (Crc.sum bs) ++ Gz.le n from by rw [← hD, ← hl]; rfl)
  rw [hlen, show 18 + m = 10 + m + 4 + 4 from by omega]
  generalize Gz.wrap bs = WR at *
  obtain ⟨Sm, hSm⟩ : ∃ Sm, Crc.sum bs = Sm := ⟨_, rfl⟩
  have hSl := Crc.sum_lt bs
  have hof := hide (fun W (h : Below w.heap.size w W) => of_any A n c bs W w.heap.size (hr.below h) h.size (by omega))
  rw [hSm] at hSl hof hres
  have hnu : IntKind.u32.wrap (n : Int) = (n : Int) := by rw [IntKind.wrap_u32]; omega
  replace hr := hide hr
  go_enter Tryz.func80, Tryz.ntmps80
  go_wp2_with fail
  refine hd.out.mono ?_
  rintro e w1 ⟨A1, c1, rfl, o1, b1⟩
  have o1 := hide o1
  have b1 := hide b1
  obtain ⟨g2, hg2⟩ : ∃ k, w1.heap.size = k := ⟨_, rfl⟩
  obtain ⟨w2, hw2⟩ : ∃ W, w1.alloc (.cells #[.int .u8 31, .int .u8 139, .int .u8 8, .int .u8 0, .int .u8 0, .int .u8 0, .int .u8 0, .int .u8 0, .int .u8 0, .int .u8 255] 5) = W := ⟨_, rfl⟩
  obtain ⟨g3, hg3⟩ : ∃ k, w2.heap.size = k := ⟨_, rfl⟩
  obtain ⟨w3, hw3⟩ : ∃ W, w2.alloc (.cells #[.slice (some ⟨g2, 0, none⟩) 10 10, .slice A1 m c1] 22) = W := ⟨_, rfl⟩
  have s2 : w2.heap.size = g2 + 1 := by rw [← hw2, ← hg2]; simp
  have h2 := hide (show Rd w2 w2.heap.size (some ⟨g2, 0, none⟩) 10 (Gz.hd.map bv) from by rw [s2, ← hw2, ← hg2]; exact Rd.new w1 #[.int .u8 31, .int .u8 139, .int .u8 8, .int .u8 0, .int .u8 0, .int .u8 0, .int .u8 0, .int .u8 0, .int .u8 0, .int .u8 255] _ _)
  have o2 := hide (show Ow w2 w.heap.size 5 A1 m c1 (D.map bv) from by rw [← hw2]; exact o1.out.alloc _)
  have k3 := hide (show Blk w3 g3 22 #[.slice (some ⟨g2, 0, none⟩) 10 10, .slice A1 m c1] from by rw [← hw3, ← hg3]; exact Blk.new w2 _ _)
  have b3 := hide (show Below w.heap.size w w3 from by rw [← hw3, ← hw2]; exact (b1.out.alloc b1.out.size _).alloc (by have := b1.out.size; simp; omega) _)
  have h3 := hide (show Rd w3 w2.heap.size (some ⟨g2, 0, none⟩) 10 (Gz.hd.map bv) from by rw [← hw3]; exact h2.out.alloc (Nat.le_refl _) _)
  have o3 := hide (show Rd w3 w2.heap.size A1 m (D.map bv) from by rw [← hw3]; exact o2.out.rd.alloc (Nat.le_refl _) _)
  have hcat := hide (show Calls Tryz.prog 43 #[.slice (some ⟨g3, 0, none⟩) 2 2] w3 fun e w' => ∃ A c, e = .returned (.slice A (10 + m) c) ∧ Ow w' w.heap.size 5 A (10 + m) c ((Gz.hd ++ D).map bv) ∧ Below w.heap.size w w' from (concat_any g3 w2.heap.size 10 10 m c1 (some ⟨g2, 0, none⟩) A1 Gz.hd D w3 k3.out h3.out o3.out (by rw [← hw3]; simp) (by decide) (by decide) (by omega)).mono (by
    rintro e w' ⟨A4, c4, rfl, o4, b4⟩
    exact ⟨A4, c4, rfl, o4.base_le (fun k hk => Nat.le_trans b3.out.size (o4.blk_lt k hk).1), b3.out.trans (b4.mono b3.out.size)⟩))
  have hl1 := hide (fun (A4 : Option Addr) (c4 : Nat) (W : World) (h : Ow W w.heap.size 5 A4 (10 + m) c4 ((Gz.hd ++ D).map bv)) (hb : Below w.heap.size w W) => low4_any A4 (10 + m) c4 Sm w.heap.size (Gz.hd ++ D) W h hb.size (by omega) (by omega))
  have hl2 := hide (fun (A4 : Option Addr) (c4 : Nat) (W : World) (h : Ow W w.heap.size 5 A4 (10 + m + 4) c4 ((Gz.hd ++ D ++ Gz.le Sm).map bv)) (hb : Below w.heap.size w W) => low4_any A4 (10 + m + 4) c4 n w.heap.size (Gz.hd ++ D ++ Gz.le Sm) W h hb.size (by omega) (by omega))
  clear h2 o2 h3 o3 k3 o1
  go_wp2_with (first
    | (go_at_call 43; (with_reducible refine (hcat.out).mono ?_); rintro e w4 ⟨A4, c4, rfl, o4, b4⟩; have hof := hide (hof.out w4 b4); have o4 := hide o4; have b4 := hide b4)
    | (go_at_call 106; (with_reducible refine (hof.out).mono ?_); rintro e w5 ⟨rfl, b5⟩; have hl1 := hide (hl1.out A4 c4 w5 (o4.out.below b5) (b4.out.trans (b5.mono b4.out.size))); have b5 := hide (b4.out.trans (b5.mono b4.out.size)))
    | (go_at_call 105; (with_reducible refine (hl1.out).mono ?_); rintro e w6 ⟨A6, c6, rfl, o6, k6⟩; have b6 := b5.out.trans (k6.to_below b5.out.size (fun i hi => by have := (o4.out.blk_lt i hi).1; exact this)); have hl2 := hide (hl2.out A6 c6 w6 o6 b6); have b6 := hide b6; have o6 := hide o6; clear k6)
    | (go_at_call 105; (with_reducible refine (hl2.out).mono ?_); rintro e w7 ⟨A7, c7, rfl, o7, k7⟩; have b7 := b6.out.trans (k7.to_below b6.out.size (fun i hi => by have := (o6.out.blk_lt i hi).1; exact this)); have b7 := hide b7; have o7 := hide o7; clear k7))
  go_ret2
  exact ⟨A7, c7, rfl, by rw [hres.out]; exact o7.out, b7.out⟩
end Go.Proofs.YtaapjampmnanmaaGreat
namespace Go.Proofs.YtaapjampmnanmaaGreat
open Go.RowKit Go.Shelf
set_option linter.unusedVariables false
set_option linter.unusedSimpArgs false
end Go.Proofs.YtaapjampmnanmaaGreat
namespace Go.Proofs.YtaapjampmnanmaaGreat
open Go.RowKit Go.Shelf
set_option linter.unusedVariables false
set_option linter.unusedSimpArgs false
end Go.Proofs.YtaapjampmnanmaaGreat
namespace Go.Proofs.YtaapjampmnanmaaGreat
open Go.RowKit Go.Shelf
set_option linter.unusedVariables false
set_option linter.unusedSimpArgs false
end Go.Proofs.YtaapjampmnanmaaGreat
namespace Go.Proofs.YtaapjampmnanmaaGreat
open Go.RowKit Go.Shelf
set_option linter.unusedVariables false
set_option linter.unusedSimpArgs false
theorem gtake {P : Program} {ops : Array Oper} {md : Region.Mode} {Q : Exit → Act → World → Prop} {S : World → Prop} {i d : Nat} {oi : Oper} {v : Value} {fuel : Nat} {listed : Array Bool} {a : Act} {w : World} (hi : ops[i]? = some oi) (hd : oi.dst = some d)
    (hs : Region.noSelect ops = true) (hf : Region.free md ops listed i = true) (hr : (Region.ready md ops listed).contains i = true)
    (hQ : ∀ c a w, Q (.panic c) (a.put (some d) v) w → Q (.panic c) a w) (hy : YieldsIf P ops S oi v a) (hS : S w)
    (h : wpAnyH P md ops Q S fuel (listed.setIfInBounds i true) (a.put (some d) v) w) : wpAnyH P md ops Q S (fuel + 1) listed a w :=
  wpAnyH_take hi hs hf hr (by rw [hd]; exact hQ) hy hS (by rw [hd]; exact h)
section
variable {P : Program} {ops : Array Oper} {md : Region.Mode} {Q : Exit → Act → World → Prop} {S S' : World → Prop}
end
end Go.Proofs.YtaapjampmnanmaaGreat
