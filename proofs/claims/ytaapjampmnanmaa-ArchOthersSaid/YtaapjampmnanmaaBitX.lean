/- The plain law of layer 1 (bitio): bits as lists of truths, their number, bytes of bits and bits of bytes. There is no condition. The walks of layer 1 (bitio): a writer, as the list of its bits. The condition: fewer than 2^40 bits. The walks of layer 1 (bitio): the rest of a writer. The walks of layer 1 (bitio): a reader. The condition: fewer than 2^36 bytes. Layer 1: writers and readers that a law made itself, and the page's example. The writer's and the reader's contracts once more, with what they keep: every block that holds neither a writer, nor a reader, nor bytes. There is no condition. The walks of layer 1's reference: lists of truths. -/
import Derived.Test.YtaapjampmnanmaaMem
import Derived.BigRegion
import Derived.RegionTactic
import Derived.Laws.IdiomStrings
import Derived.Laws.BytesArg
namespace Go.Proofs.Ytaapjampmnanmaa.Bit

/-- The number of bits, the first one counting 1. -/
def num : List Bool → Nat
  | [] => 0
  | b :: r => b.toNat + 2 * num r
/-- The n lowest bits of a number, the lowest one first. -/
def low (v n : Nat) : List Bool := (List.range n).map v.testBit
/-- The bits of bytes. -/
def bitsOf : List UInt8 → List Bool
  | [] => []
  | b :: r => low b.toNat 8 ++ bitsOf r
/-- So many bytes as bits take. -/
def size (n : Nat) : Nat := (n + 7) / 8
/-- Byte j of bits. -/
def byte (l : List Bool) (j : Nat) : UInt8 := UInt8.ofNat (num ((l.drop (8 * j)).take 8))
/-- The bytes of bits, the last one filled up. -/
def pack (l : List Bool) : List UInt8 := (List.range (size l.length)).map (byte l)
/-- So many bits up to a whole byte. -/
def gap (n : Nat) : Nat := (8 - n % 8) % 8

theorem num_lt (l : List Bool) : num l < 2 ^ l.length := by
  induction l with
  | nil => exact Nat.one_pos
  | cons b r ih => rw [num, List.length_cons, Nat.pow_succ]; cases b <;> simp <;> omega
theorem num_append (a b : List Bool) : num (a ++ b) = num a + 2 ^ a.length * num b := by
  induction a with
  | nil => simp [num]
  | cons x r ih => rw [List.cons_append, num, ih, num, List.length_cons, Nat.pow_succ, Nat.mul_add, Nat.mul_comm (2 ^ r.length) 2, Nat.mul_assoc]; omega
theorem num_snoc (l : List Bool) (b : Bool) : num (l ++ [b]) = num l + 2 ^ l.length * b.toNat := by rw [num_append]; simp [num]
theorem low_length (v n : Nat) : (low v n).length = n := by simp [low]
theorem bitsOf_length (bs : List UInt8) : (bitsOf bs).length = 8 * bs.length := by
  induction bs with
  | nil => rfl
  | cons b r ih => rw [bitsOf, List.length_append, low_length, ih, List.length_cons]; omega
theorem bitsOf_get (bs : List UInt8) : ∀ i (h : i < 8 * bs.length), (bitsOf bs)[i]'(by rw [bitsOf_length]; exact h) = (bs[i / 8]'(by omega)).toNat.testBit (i % 8) := by
  induction bs with
  | nil => intro i h; simp at h
  | cons b r ih =>
    intro i h
    have hl := low_length b.toNat 8
    by_cases hi : i < 8
    · have e : i / 8 = 0 := by omega
      have e2 : i % 8 = i := by omega
      simp only [bitsOf, e, e2, List.getElem_cons_zero]
      rw [List.getElem_append_left (by omega)]
      simp [low]
    · have h' : i - 8 < 8 * r.length := by rw [List.length_cons] at h; omega
      have e : i / 8 = (i - 8) / 8 + 1 := by omega
      have e2 : i % 8 = (i - 8) % 8 := by omega
      simp only [bitsOf, e, e2, List.getElem_cons_succ]
      rw [List.getElem_append_right (by omega)]
      simp only [hl]
      exact ih (i - 8) h'
end Go.Proofs.Ytaapjampmnanmaa.Bit

namespace Go.Proofs.Ytaapjampmnanmaa
open Go.RowKit

theorem elem_byte : Elem1 Try.prog 40 5 (.int .u8 0) 1 := ⟨Try.underlying40, by kernel_rfl, rfl⟩
theorem bv_one (bs : List UInt8) : ∀ u ∈ bs.map bv, u.oneCell' = true := by
  intro u hu
  obtain ⟨b, _, rfl⟩ := List.mem_map.1 hu
  rfl

/-- What a copy of a slice of bytes leaves. -/
def Cloned (w : World) (n : Nat) (bs : List UInt8) (e : Ending) (w' : World) : Prop :=
  ∃ A c, e = .returned (.slice A n c) ∧ Ow w' w.heap.size 5 A n c (bs.map bv) ∧ Below w.heap.size w w'

set_option maxHeartbeats 400000 in
theorem clone_any (A : Option Addr) (n c : Nat) (bs : List UInt8) (w : World) (B : Nat) (hr : Rd w B A n (bs.map bv)) (hB : B ≤ w.heap.size) (hn : n ≤ 140737488355328) :
    Calls Try.prog 42 #[.slice A n c] w (Cloned w n bs) := by
  have he := fun (W : World) (x : Option Addr) (i j : Nat) => Lib.run_eql_slice_nil (P := Try.prog) W 40 5 x i j 0 0 Try.underlying40
  cases A with
  | none =>
    have hn0 : n = 0 := by
      rcases Nat.eq_zero_or_pos n with h | h
      · exact h
      · obtain ⟨_, _, h', _⟩ := hr.2 0 h
        cases h'
    subst hn0
    have hb : bs = [] := by have := hr.len; exact List.eq_nil_of_length_eq_zero this
    subst hb
    go_enter Try.func42, Try.ntmps42
    go_wp2
    go_ret
    exact ⟨none, 0, rfl, Ow.nil _ _ _, Below.refl _ _⟩
  | some a =>
    have ho : Ow (w.alloc (.cells #[] 5)) w.heap.size 5 (some ⟨w.heap.size, 0, none⟩) 0 0 [] := Ow.lit w #[] (Nat.le_refl _) (by simp [maxLen])
    have hbw := (Below.refl w.heap.size w).alloc (Nat.le_refl _) (.cells #[] 5)
    go_enter Try.func42, Try.ntmps42
    go_wp2_with (at_builtin; refine wpList_append_rd _ rfl (.tmp 5) (.tmp 6) rfl elem_byte rfl ho rfl (hr.alloc hB _) (bv_one _) (by simp only [maxLen]; omega) (by omega) (by simp) ?_; intro A3 c3 w3 ho3 hg3 _; have hb3 := hbw.trans (hg3.to_below (B := w.heap.size) (by simp) (by simp [blk])); simp only [Nat.zero_add, List.nil_append] at ho3; clear ho)
    go_ret
    exact ⟨A3, c3, by simp, ho3, hb3⟩

/-- The writer at block g holds the bits l; its bytes lie in the row A. -/
def WrIs (w : World) (base g : Nat) (A : Option Addr) (l : List Bool) : Prop :=
  ∃ c, Blk w g 162 #[.slice A (Bit.size l.length) c, .int .i64 (l.length : Int)] ∧ Ow w base 5 A (Bit.size l.length) c ((Bit.pack l).map bv)

/-- What a write leaves. -/
def WrPost (w : World) (base g : Nat) (A : Option Addr) (l : List Bool) (w' : World) : Prop :=
  ∃ A', WrIs w' base g A' l ∧ Chg (fun k => k = g ∨ blk A = some k) w w' ∧ (blk A' = blk A ∨ ∃ k, w.heap.size ≤ k ∧ blk A' = some k)

theorem drewN_one (w : World) : w.drewN 1 = w.drew := by first | rfl | simp [World.drewN]

/-- The state in which the bit is set: the writer's last byte is q. -/
structure Mid (w W : World) (base g : Nat) (A : Option Addr) (l : List Bool) (ga m c : Nat) (ys : List UInt8) (q : Nat) : Prop where
  k : Blk W g 162 #[.slice (some ⟨ga, 0, none⟩) (m + 1) c, .int .i64 (l.length : Int)]
  o : Ow W base 5 (some ⟨ga, 0, none⟩) (m + 1) c (ys.map bv)
  ch : Chg (fun k => k = g ∨ blk A = some k) w W
  new : blk (some ⟨ga, 0, none⟩) = blk A ∨ ∃ k, w.heap.size ≤ k ∧ blk (some ⟨ga, 0, none⟩) = some k
  at_ : (ys.map bv)[m]? = some (.int .u8 (q : Int))
  lt : q < 2 ^ (l.length % 8)
  big : m ≤ 1099511627776
  set_ : ∀ b : Bool, Bit.pack (l ++ [b]) = ys.set m (UInt8.ofNat (q + 2 ^ (l.length % 8) * b.toNat))
  sz : Bit.size (l.length + 1) = m + 1

theorem Mid.fin {w W : World} {base g : Nat} {A : Option Addr} {l : List Bool} {ga m c : Nat} {ys : List UInt8} {q : Nat} (h : Mid w W base g A l ga m c ys q) (b : Bool) (x : Int) (hx : x = ((q + 2 ^ (l.length % 8) * b.toNat : Nat) : Int)) (k : Nat) :
    WrPost w base g A (l ++ [b]) (((W.setCell ⟨ga, m, none⟩ (.int .u8 x)).setCell ⟨g, 1, none⟩ (.int .i64 ((l.length : Int) + 1))).drewN k) := by
  have hgn : ga ≠ g := by
    have := h.o.ne h.k (by decide)
    intro e
    exact this (by rw [e]; rfl)
  have hq8 : q + 2 ^ (l.length % 8) * b.toNat < 256 := by
    have h1 : l.length % 8 < 8 := Nat.mod_lt _ (by omega)
    have h2 : 2 ^ (l.length % 8 + 1) ≤ 2 ^ 8 := Nat.pow_le_pow_right (by omega) (by omega)
    rw [Nat.pow_succ] at h2
    have h3 := h.lt
    have h4 : 2 ^ (l.length % 8) * b.toNat ≤ 2 ^ (l.length % 8) * 1 := Nat.mul_le_mul_left _ (by cases b <;> simp)
    omega
  have hlen : (l ++ [b]).length = l.length + 1 := by simp
  have hbk : ga = g ∨ blk A = some ga ∨ w.heap.size ≤ ga := by
    rcases h.new with h1 | ⟨k, h1, h2⟩
    · exact .inr (.inl h1.symm)
    · have : ga = k := by simpa [blk] using h2
      exact .inr (.inr (by omega))
  refine ⟨some ⟨ga, 0, none⟩, ⟨c, ?_, ?_⟩, ((h.ch.setCell (p := ⟨ga, m, none⟩) ?_ _).setCell (p := ⟨g, 1, none⟩) (.inr (.inl rfl)) _).drewN k, h.new⟩
  · rw [hlen, h.sz, show ((l.length + 1 : Nat) : Int) = (l.length : Int) + 1 from by omega]
    exact ((h.k.far (p := ⟨ga, m, none⟩) (fun e => hgn e.symm) _).set 1 _).drewN k
  · rw [hlen, h.sz]
    have h1 := h.o.set m (.int .u8 x)
    have h2 := h1.chg ((Chg.refl (fun k => k = g) _).setCell (p := ⟨g, 1, none⟩) (.inr rfl) (.int .i64 ((l.length : Int) + 1))) (by intro k hk; simp [blk] at hk; omega)
    have h3 : (ys.map bv).set m (.int .u8 x) = (Bit.pack (l ++ [b])).map bv := by
      rw [h.set_, List.map_set]
      congr 1
      rw [hx, bv, UInt8.toNat_ofNat', Nat.mod_eq_of_lt hq8]
    rw [h3] at h2
    exact h2
  · rcases hbk with h1 | h1 | h1
    · exact absurd h1 hgn
    · exact .inr (.inr h1)
    · exact .inl h1

end Go.Proofs.Ytaapjampmnanmaa

namespace Go.Proofs.Ytaapjampmnanmaa
open Go.RowKit

theorem gap_and (n : Nat) (hn : n ≤ 1099511627776) : bits .and .i64 (-(n : Int)) 7 = ((Bit.gap n : Nat) : Int) := by
  show IntKind.i64.wrap ((BitVec.ofInt 64 (-(n : Int)) &&& BitVec.ofInt 64 (7 : Int)).toNat : Int) = _
  have h7 : (BitVec.ofInt 64 (7 : Int)).toNat = 2 ^ 3 - 1 := by decide
  rw [BitVec.toNat_and, h7, Nat.and_two_pow_sub_one_eq_mod, BitVec.toNat_ofInt]
  unfold Bit.gap
  have e : (((-(n : Int)) % ((2 ^ 64 : Nat) : Int)).toNat % 2 ^ 3 : Nat) = (8 - n % 8) % 8 := by
    have : ((2 ^ 64 : Nat) : Int) = 18446744073709551616 := by decide
    omega
  rw [e, IntKind.wrap_i64]
  omega

theorem WrPost.trans {w w1 w2 : World} {base g : Nat} {A A1 : Option Addr} {l : List Bool} (hg : Chg (fun k => k = g ∨ blk A = some k) w w1) (hb : blk A1 = blk A ∨ ∃ k, w.heap.size ≤ k ∧ blk A1 = some k) (h : WrPost w1 base g A1 l w2) : WrPost w base g A l w2 := by
  obtain ⟨A2, h1, h2, h3⟩ := h
  refine ⟨A2, h1, hg.trans h2 ?_, ?_⟩
  · intro i hi hr
    rcases hr with hr | hr
    · exact .inl hr
    · rcases hb with hb | ⟨k, hk, hb⟩
      · exact .inr (hb ▸ hr)
      · rw [hb] at hr
        cases hr
        omega
  · rcases h3 with h3 | ⟨k, hk, h3⟩
    · rcases hb with hb | ⟨k, hk, hb⟩
      · exact .inl (h3.trans hb)
      · exact .inr ⟨k, hk, h3.trans hb⟩
    · exact .inr ⟨k, by have := hg.size; omega, h3⟩
theorem WrPost.refl {w : World} {base g : Nat} {A : Option Addr} {l : List Bool} (h : WrIs w base g A l) : WrPost w base g A l w := ⟨A, h, Chg.refl _ _, .inl rfl⟩

end Go.Proofs.Ytaapjampmnanmaa

namespace Go.Proofs.Ytaapjampmnanmaa
open Go.RowKit

/-- The reader at block g stands at the bit at_ of the bytes bs. -/
def RdIs (w : World) (base g : Nat) (A : Option Addr) (bs : List UInt8) (at_ : Nat) : Prop :=
  ∃ c, Blk w g 203 #[.slice A bs.length c, .int .i64 (at_ : Int)] ∧ Ow w base 5 A bs.length c (bs.map bv)

theorem RdIs.moved {w : World} {base g : Nat} {A : Option Addr} {bs : List UInt8} {a : Nat} (h : RdIs w base g A bs a) (b n : Nat) (x : Int) (hx : x = (b : Int)) : RdIs ((w.setCell ⟨g, 1, none⟩ (.int .i64 x)).drewN n) base g A bs b ∧ Chg (fun k => k = g) w ((w.setCell ⟨g, 1, none⟩ (.int .i64 x)).drewN n) := by
  obtain ⟨c, hk, ho⟩ := h
  have hch : Chg (fun k => k = g) w ((w.setCell ⟨g, 1, none⟩ (.int .i64 x)).drewN n) := ((Chg.refl (fun k => k = g) w).setCell (p := ⟨g, 1, none⟩) (.inr rfl) _).drewN n
  refine ⟨⟨c, ?_, ho.chg hch (by intro k hk' e; rw [e] at hk'; exact ho.ne hk (by decide) hk')⟩, hch⟩
  subst hx
  exact (hk.set 1 _).drewN n
theorem RdIs.below {w w' : World} {base g : Nat} {A : Option Addr} {bs : List UInt8} {a : Nat} (h : RdIs w base g A bs a) (hb : Below w.heap.size w w') : RdIs w' base g A bs a := by
  obtain ⟨c, hk, ho⟩ := h
  exact ⟨c, hk.below hb hk.lt, ho.below hb⟩

theorem newreader_any (A : Option Addr) (c : Nat) (bs : List UInt8) (w : World) (B : Nat) (hr : Rd w B A bs.length (bs.map bv)) (hB : B ≤ w.heap.size) (hn : bs.length ≤ 68719476736) :
    Calls Try.prog 119 #[.slice A bs.length c] w fun e w' => ∃ g A', e = .returned (.pointer (some ⟨g, 0, none⟩)) ∧ RdIs w' w.heap.size g A' bs 0 ∧ Below w.heap.size w w' ∧ w.heap.size ≤ g := by
  have hc := hide (clone_any A bs.length c bs w B hr hB (by omega))
  clear hr hn
  have hlen : ∃ n, bs.length = n := ⟨_, rfl⟩
  obtain ⟨n, hn⟩ := hlen
  rw [hn] at hc ⊢
  go_enter Try.func119, Try.ntmps119
  go_wp2_with (go_at_call 42; (with_reducible refine hc.out.mono ?_); rintro e w5 ⟨A5, c5, rfl, ho5, hb5⟩)
  go_ret
  refine ⟨w5.heap.size, A5, rfl, ⟨c5, ?_, ?_⟩, hb5.alloc hb5.size _, hb5.size⟩
  · rw [hn]; exact Blk.new w5 _ _
  · rw [hn]; exact ho5.alloc _

theorem rleft_ok (g : Nat) (A : Option Addr) (bs : List UInt8) (a : Nat) (w : World) (base : Nat) (h : RdIs w base g A bs a) (hn : bs.length ≤ 68719476736) (ha : a ≤ 8 * bs.length) :
    Calls Try.prog 152 #[.pointer (some ⟨g, 0, none⟩)] w fun e w' => e = .returned (.int .i64 ((8 * bs.length - a : Nat) : Int)) ∧ ∃ k, w' = w.drewN k := by
  obtain ⟨c, hk, ho⟩ := h
  have c0 : w.cell? ⟨g, 0, none⟩ = some (.slice A bs.length c) := hk.cell 0
  have c1 : w.cell? ⟨g, 1, none⟩ = some (.int .i64 (a : Int)) := hk.cell 1
  clear hk ho
  generalize bs.length = n at *
  go_enter Try.func152, Try.ntmps152
  go_wp2
  go_region
  go_wp2
  go_ret
  exact ⟨ret_int (by omega), 1, (drewN_one _).symm⟩
theorem rat_ok (g : Nat) (A : Option Addr) (bs : List UInt8) (a : Nat) (w : World) (base : Nat) (h : RdIs w base g A bs a) :
    Calls Try.prog 123 #[.pointer (some ⟨g, 0, none⟩)] w fun e w' => e = .returned (.int .i64 (a : Int)) ∧ w = w' := by
  obtain ⟨c, hk, _⟩ := h
  have c1 : w.cell? ⟨g, 1, none⟩ = some (.int .i64 (a : Int)) := hk.cell 1
  clear hk
  go_enter Try.func123, Try.ntmps123
  go_wp2
  go_ret
  exact ⟨rfl, rfl⟩
set_option maxHeartbeats 400000 in
theorem ralign_ok (g : Nat) (A : Option Addr) (bs : List UInt8) (a : Nat) (w : World) (base : Nat) (h : RdIs w base g A bs a) (ha : a ≤ 1000000000000) :
    Calls Try.prog 122 #[.pointer (some ⟨g, 0, none⟩)] w fun e w' => e = .returned (.int .i64 (Bit.gap a : Int)) ∧ RdIs w' base g A bs (a + Bit.gap a) ∧ Chg (fun k => k = g) w w' := by
  have hfin := hide (fun x hx => h.moved (a + Bit.gap a) 0 x hx)
  obtain ⟨c, hk, ho⟩ := h
  have c1 : w.cell? ⟨g, 1, none⟩ = some (.int .i64 (a : Int)) := hk.cell 1
  have f1 := hk.free 1
  have hg := gap_and a (by omega)
  have hgl : Bit.gap a ≤ 8 := by unfold Bit.gap; omega
  have hl1 : (a : Int) ≤ 1000000000000 := by omega
  clear hk ho ha
  generalize Bit.gap a = m at *
  go_enter Try.func122, Try.ntmps122
  go_wp2
  go_ret
  exact ⟨rfl, hfin.out _ (by omega)⟩

theorem rbits_short (g : Nat) (A : Option Addr) (bs : List UInt8) (a n : Nat) (w : World) (base : Nat) (h : RdIs w base g A bs a) (hl : bs.length ≤ 68719476736) (ha : a ≤ 8 * bs.length) (hn : n ≤ 32) (hs : 8 * bs.length - a < n) :
    Calls Try.prog 144 #[.pointer (some ⟨g, 0, none⟩), .int .i64 (n : Int)] w fun e w' => e = .returned (.tuple #[.int .u32 0, .int .i64 2]) ∧ ∃ k, w' = w.drewN k := by
  have hleft := hide (rleft_ok g A bs a w base h hl ha)
  clear h hl ha
  generalize 8 * bs.length - a = m at *
  go_enter Try.func144, Try.ntmps144
  go_wp2_with (go_at_call 152; (with_reducible refine hleft.out.mono ?_); rintro e w1 ⟨rfl, k1, rfl⟩)
  go_ret2
  exact ⟨rfl, k1, rfl⟩

/-- The next bit, read into a number. -/
theorem or_u32 (V k b : Nat) (hk : k < 32) (hV : V < 2 ^ k) (hb : b < 2) : bits .or .u32 (V : Int) ((b : Int) * 2 ^ k % 4294967296) = ((V + 2 ^ k * b : Nat) : Int) := by
  have h2 : 2 ^ (k + 1) ≤ 2 ^ 32 := Nat.pow_le_pow_right (by omega) (by omega)
  rw [Nat.pow_succ] at h2
  have hm : 2 ^ k * b ≤ 2 ^ k * 1 := Nat.mul_le_mul_left _ (by omega)
  rw [show (b : Int) * 2 ^ k = ((2 ^ k * b : Nat) : Int) by push_cast; rw [Int.mul_comm]]
  have e : ((2 ^ k * b : Nat) : Int) % 4294967296 = ((2 ^ k * b : Nat) : Int) := by omega
  rw [e, u32_or_nat V (2 ^ k * b) (by omega) (by omega), Nat.or_comm, nat_join k (2 ^ k * b) V (Nat.mul_mod_right _ _) hV, Nat.add_comm]
theorem and_u8 (q s : Nat) (hq : q < 256) : bits .and .u8 ((q : Int) / 2 ^ s) 1 = (((q.testBit s).toNat : Nat) : Int) := by
  rw [show (q : Int) / 2 ^ s = ((q / 2 ^ s : Nat) : Int) from by norm_cast]
  have h : q / 2 ^ s ≤ q := Nat.div_le_self _ _
  have := u8_and_nat (q / 2 ^ s) 1 (by omega) (by omega)
  rw [nat_mask1] at this
  refine this.trans ?_
  rw [Nat.testBit_eq_decide_div_mod_eq]
  rcases Nat.mod_two_eq_zero_or_one (q / 2 ^ s) with h | h <;> simp [h]

set_option maxHeartbeats 1000000 in
theorem rbits_ok (g : Nat) (A : Option Addr) (bs : List UInt8) (a n : Nat) (w : World) (base : Nat) (h : RdIs w base g A bs a) (hl : bs.length ≤ 68719476736) (hn : n ≤ 32) (ha : a + n ≤ 8 * bs.length) :
    Calls Try.prog 144 #[.pointer (some ⟨g, 0, none⟩), .int .i64 (n : Int)] w fun e w' => e = .returned (.tuple #[.int .u32 (Bit.num (((Bit.bitsOf bs).drop a).take n) : Int), .int .i64 0]) ∧ RdIs w' base g A bs (a + n) ∧ Chg (fun k => k = g) w w' := by
  have hleft := hide (rleft_ok g A bs a w base h hl (by omega))
  have hm : n ≤ 8 * bs.length - a := by omega
  have hh := hide h
  have hlh := hide hl
  have hah := hide ha
  clear h hl ha
  go_enter Try.func144, Try.ntmps144
  generalize 8 * bs.length - a = m at *
  go_wp2_with (go_at_call 152; (with_reducible refine hleft.out.mono ?_); rintro e w1 ⟨rfl, k1, rfl⟩)
  go_loopw [6, 25] (fun v i wr => ∃ k : Nat, k ≤ n ∧ i = .int .i64 k ∧ v = .int .u32 (Bit.num (((Bit.bitsOf bs).drop a).take k) : Int) ∧ Hid (RdIs wr base g A bs (a + k)) ∧ Hid (Chg (fun k => k = g) w wr)) (fun _ i _ => n - (intOf i).toNat)
  case atStart => exact ⟨0, by omega, rfl, by simp [Bit.num], hh.out.below (below_drewN (Below.refl _ w) k1), (Chg.refl _ w).drewN k1⟩
  case round =>
    obtain ⟨k, hk, rfl, rfl, hR, hC⟩ := hrel
    by_cases hlt : k < n
    · have hbl := Bit.bitsOf_length bs
      have hak : a + k < 8 * bs.length := by have := hah.out; omega
      have hlen : (((Bit.bitsOf bs).drop a).take k).length = k := by rw [List.length_take, List.length_drop, hbl]; have := hah.out; omega
      have hV := Bit.num_lt (((Bit.bitsOf bs).drop a).take k)
      rw [hlen] at hV
      have hj : (a + k) / 8 < bs.length := by omega
      have hsucc : Bit.num (((Bit.bitsOf bs).drop a).take (k + 1)) = Bit.num (((Bit.bitsOf bs).drop a).take k) + 2 ^ k * ((bs[(a + k) / 8]'hj).toNat.testBit ((a + k) % 8)).toNat := by
        have hd : k < ((Bit.bitsOf bs).drop a).length := by rw [List.length_drop, hbl]; omega
        rw [take_snoc _ k hd, Bit.num_snoc, hlen, List.getElem_drop, Bit.bitsOf_get bs (a + k) hak]
      obtain ⟨c, hkb, ho⟩ := hR.out
      have c0 : wr.cell? ⟨g, 0, none⟩ = some (.slice A bs.length c) := hkb.cell 0
      have c1 : wr.cell? ⟨g, 1, none⟩ = some (.int .i64 ((a + k : Nat) : Int)) := hkb.cell 1
      have f1 := hkb.free 1
      obtain ⟨ga, rfl, _, _⟩ := ho.pos (by omega)
      have e0 : wr.cell? ⟨ga, (a + k) / 8, none⟩ = some (.int .u8 ((bs[(a + k) / 8]'hj).toNat : Int)) := by
        have hx := ho.cells (g := ga) rfl ((a + k) / 8) (bv bs[(a + k) / 8]) (by rw [List.getElem?_map, List.getElem?_eq_getElem hj]; rfl)
        rwa [Addr.add_mid, Nat.zero_add] at hx
      have hq := toNat_le (bs[(a + k) / 8]'hj)
      have hb2 : ((bs[(a + k) / 8]'hj).toNat.testBit ((a + k) % 8)).toNat < 2 := by cases (bs[(a + k) / 8]'hj).toNat.testBit ((a + k) % 8) <;> decide
      have hand := and_u8 (bs[(a + k) / 8]'hj).toNat ((a + k) % 8) (by omega)
      have hor := or_u32 _ k _ (by omega) hV hb2
      rw [← hsucc] at hor
      have hmv := hide (fun N x hx => hR.out.moved (a + k + 1) N x hx)
      have hbig : a + k < 549755813888 := by have := hlh.out; omega
      clear hbl hak hlen hV hsucc hkb ho
      generalize (bs[(a + k) / 8]'hj).toNat.testBit ((a + k) % 8) = tb at *
      generalize (bs[(a + k) / 8]'hj).toNat = q at *
      generalize hV' : Bit.num (((Bit.bitsOf bs).drop a).take (k + 1)) = V' at *
      have hV'h := hide hV'
      clear hV'
      generalize Bit.num (((Bit.bitsOf bs).drop a).take k) = V at *
      generalize hL : bs.length = L at *
      generalize hM : a + k = M at *
      generalize tb.toNat = b at *
      go_wp2
      go_region
      go_wp2
      go_roundw
      case rel =>
        have hx := hmv.out 1 ((M : Int) + 1) (by omega)
        rw [drewN_one] at hx
        refine ⟨k + 1, by omega, by go_num, by rw [hV'h.out], ?_, ?_⟩
        · refine hide ?_
          have h1 := hx.1
          rw [← Nat.add_assoc, hM]
          simpa using h1
        · refine hide ?_
          have h2 := hC.out.trans hx.2 (fun _ _ h => h)
          simpa using h2
      case measure => simp [intOf]; omega
    · obtain rfl : k = n := by omega
      go_wp2
      go_ret2
      exact ⟨rfl, hR.out, hC.out⟩

end Go.Proofs.Ytaapjampmnanmaa

namespace Go.Proofs.Ytaapjampmnanmaa
open Go.RowKit

theorem str_of_rd {w : World} {B n : Nat} {A : Option Addr} {bs : List UInt8} (hr : Rd w B A n (bs.map bv)) (c : Nat) :
    (convert 40 9 (.slice A n c)).run Try.prog w = .ok (.string ⟨bs.toArray⟩) w := by
  have hl := hr.len
  subst hl
  cases A with
  | none =>
    have h0 : bs = [] := by
      cases bs with
      | nil => rfl
      | cons b t => obtain ⟨_, _, h, _⟩ := hr.2 0 (by simp); cases h
    subst h0
    exact run_convert_bytes_nil w _ _ Try.underlying40 Try.underlying5 _ _ _ Try.underlying9
  | some a =>
    refine run_convert_bytes_back w _ _ _ a c bs Try.underlying40 Try.underlying5 Try.underlying9 ?_
    intro j hj
    obtain ⟨b, o, ha, _, hc⟩ := hr.at hj
    cases ha
    rw [Addr.add_mid, hc]
    simp [bv]

/-- What stays when a writer writes or a reader reads: every own slice of truths. -/
def KeepB (w w' : World) : Prop := ∀ base A n c xs, Ow w base 4 A n c xs → Ow w' base 4 A n c xs
theorem KeepB.refl (w : World) : KeepB w w := fun _ _ _ _ _ h => h
theorem KeepB.trans {a b c : World} (h : KeepB a b) (k : KeepB b c) : KeepB a c := fun _ _ _ _ _ x => k _ _ _ _ _ (h _ _ _ _ _ x)
theorem KeepB.below {w w' : World} (h : Below w.heap.size w w') : KeepB w w' := fun _ _ _ _ _ x => x.below h
theorem KeepB.drewN (w : World) (k : Nat) : KeepB w (w.drewN k) := KeepB.below (below_drewN (Below.refl _ w) k)

/-- The writer at block g, made above B, holds the bits l. -/
def WrAt (B : Nat) (w : World) (g : Nat) (l : List Bool) : Prop := ∃ A, WrIs w B g A l ∧ B ≤ g ∧ B ≤ w.heap.size
/-- The reader at block g, made above B, stands at the bit a of the bytes bs. -/
def RdAt (B : Nat) (w : World) (g : Nat) (bs : List UInt8) (a : Nat) : Prop := ∃ A, RdIs w B g A bs a ∧ B ≤ g ∧ B ≤ w.heap.size

theorem WrAt.below {B g : Nat} {w w' : World} {l : List Bool} (h : WrAt B w g l) (hb : Below w.heap.size w w') : WrAt B w' g l := by
  obtain ⟨A, ⟨c, hk, ho⟩, h2, h3⟩ := h
  exact ⟨A, ⟨c, hk.below hb hk.lt, ho.below hb⟩, h2, Nat.le_trans h3 hb.size⟩
theorem RdAt.below {B g a : Nat} {w w' : World} {bs : List UInt8} (h : RdAt B w g bs a) (hb : Below w.heap.size w w') : RdAt B w' g bs a := by
  obtain ⟨A, h1, h2, h3⟩ := h
  exact ⟨A, h1.below hb, h2, Nat.le_trans h3 hb.size⟩

end Go.Proofs.Ytaapjampmnanmaa

namespace Go.Proofs.Ytaapjampmnanmaa
open Go.RowKit

/-- Every block that holds neither a writer, nor a reader, nor bytes, is as it was. -/
def KeepX (w w' : World) : Prop :=
  w.heap.size ≤ w'.heap.size ∧ ∀ (k : Nat) (cs : Array Value) (t : TypeId) (fz : Nat × Nat), w.heap[k]? = some (.cells cs t fz) → t ≠ 162 → t ≠ 203 → t ≠ 5 → w'.heap[k]? = some (.cells cs t fz)
theorem KeepX.refl (w : World) : KeepX w w := ⟨Nat.le_refl _, fun _ _ _ _ h _ _ _ => h⟩
theorem KeepX.trans {a b c : World} (h : KeepX a b) (k : KeepX b c) : KeepX a c := ⟨Nat.le_trans h.1 k.1, fun i cs t fz x h1 h2 h3 => k.2 i cs t fz (h.2 i cs t fz x h1 h2 h3) h1 h2 h3⟩
theorem KeepX.below {w w' : World} (h : Below w.heap.size w w') : KeepX w w' := ⟨h.size, fun k _ _ _ x _ _ _ => (h.block k (lt_of_block x)).trans x⟩
theorem KeepX.row {w w' : World} (h : KeepX w w') {g : Nat} {t : TypeId} {cs : Array Value} (hk : Blk w g t cs) (h1 : t ≠ 162) (h2 : t ≠ 203) (h3 : t ≠ 5) : Blk w' g t cs := h.2 g cs t (0, 0) hk h1 h2 h3
theorem KeepX.ow {w w' : World} (h : KeepX w w') {base n c : Nat} {e : TypeId} {A : Option Addr} {xs : List Value} (ho : Ow w base e A n c xs) (h1 : e ≠ 162) (h2 : e ≠ 203) (h3 : e ≠ 5) : Ow w' base e A n c xs := by
  refine ⟨ho.1, ?_⟩
  rcases ho.2 with h0 | ⟨g, cap, cur, hv, hb, hh, r⟩
  · exact .inl h0
  · exact .inr ⟨g, cap, cur, hv, hb, h.2 g cur e (0, 0) hh h1 h2 h3, r⟩
theorem KeepX.wr {B g : Nat} {A : Option Addr} {w w' : World} {l l' : List Bool} (h : WrIs w B g A l) (hp : WrPost w B g A l' w') : KeepX w w' := by
  obtain ⟨A', _, h2, _⟩ := hp
  obtain ⟨c, hk, ho⟩ := h
  refine ⟨h2.size, fun k cs t fz x t1 _ t3 => (h2.block k (lt_of_block x) ?_).trans x⟩
  rintro (rfl | hr)
  · unfold Blk at hk
    rw [hk] at x
    injection x with x
    injection x with _ ht
    exact t1 ht.symm
  · rcases ho.2 with ⟨hv, _⟩ | ⟨g', cap, cur, hv, _, hh, _⟩
    · injection hv with e1
      rw [e1] at hr
      simp [blk] at hr
    · injection hv with e1
      rw [e1] at hr
      have : g' = k := by simpa [blk] using hr
      subst this
      rw [hh] at x
      injection x with x
      injection x with _ ht
      exact t3 ht.symm
theorem KeepX.rd {B g a : Nat} {A : Option Addr} {w w' : World} {bs : List UInt8} (h : RdIs w B g A bs a) (h2 : Chg (fun k => k = g) w w') : KeepX w w' := by
  obtain ⟨c, hk, ho⟩ := h
  refine ⟨h2.size, fun k cs t fz x _ t2 _ => (h2.block k (lt_of_block x) ?_).trans x⟩
  rintro rfl
  unfold Blk at hk
  rw [hk] at x
  injection x with x
  injection x with _ ht
  exact t2 ht.symm

end Go.Proofs.Ytaapjampmnanmaa

namespace Go.Proofs.Ytaapjampmnanmaa
open Go.RowKit

theorem Rd.bool {w : World} {B n : Nat} {A : Option Addr} {l : List Bool} (h : Rd w B A n (l.map Value.bool)) {j : Nat} (hj : j < n) :
    ∃ b o, A = some ⟨b, o, none⟩ ∧ b < B ∧ w.cell? ⟨b, o + j, none⟩ = some (.bool (l[j]'(by have := h.1; rw [List.length_map] at this; omega))) := by
  obtain ⟨b, o, h1, h2, h3⟩ := h.at hj
  exact ⟨b, o, h1, h2, by rw [h3, List.getElem_map]⟩

end Go.Proofs.Ytaapjampmnanmaa
