/- The walks of layer 1 (bitio): a reader. The condition: fewer than 2^36 bytes. -/
import Derived.Test.YthplpoijkebjbaaBitW
namespace Go.Proofs.Ythplpoijkebjbaa
open Go.RowKit

/-- The reader at block g stands at the bit at_ of the bytes bs. -/
def RdIs (w : World) (base g : Nat) (A : Option Addr) (bs : List UInt8) (at_ : Nat) : Prop :=
  ∃ c, Blk w g 111 #[.slice A bs.length c, .int .i64 (at_ : Int)] ∧ Ow w base 5 A bs.length c (bs.map bv)

theorem RdIs.moved {w : World} {base g : Nat} {A : Option Addr} {bs : List UInt8} {a : Nat} (h : RdIs w base g A bs a) (b n : Nat) (x : Int) (hx : x = (b : Int)) : RdIs ((w.setCell ⟨g, 1, none⟩ (.int .i64 x)).drewN n) base g A bs b ∧ Chg (fun k => k = g) w ((w.setCell ⟨g, 1, none⟩ (.int .i64 x)).drewN n) := by
  obtain ⟨c, hk, ho⟩ := h
  have hch : Chg (fun k => k = g) w ((w.setCell ⟨g, 1, none⟩ (.int .i64 x)).drewN n) := ((Chg.refl (fun k => k = g) w).setCell (p := ⟨g, 1, none⟩) (.inr rfl) _).drewN n
  refine ⟨⟨c, ?_, ho.chg hch (by intro k hk' e; rw [e] at hk'; exact ho.ne hk (by decide) hk')⟩, hch⟩
  subst hx
  exact (hk.set 1 _).drewN n
theorem RdIs.below {w w' : World} {base g : Nat} {A : Option Addr} {bs : List UInt8} {a : Nat} (h : RdIs w base g A bs a) (hb : Below w.heap.size w w') : RdIs w' base g A bs a := by
  obtain ⟨c, hk, ho⟩ := h
  exact ⟨c, hk.below hb hk.lt, ho.below hb⟩

theorem newreader_any (A : Option Addr) (c : Nat) (bs : List UInt8) (w : World) (B : Nat) (hr : Rd w B A bs.length (bs.map bv)) (hB : B ≤ w.heap.size) (hn : bs.length ≤ 68719476736) :
    Calls Try.prog 55 #[.slice A bs.length c] w fun e w' => ∃ g A', e = .returned (.pointer (some ⟨g, 0, none⟩)) ∧ RdIs w' w.heap.size g A' bs 0 ∧ Below w.heap.size w w' ∧ w.heap.size ≤ g := by
  have hc := hide (clone_any A bs.length c bs w B hr hB (by omega))
  clear hr hn
  have hlen : ∃ n, bs.length = n := ⟨_, rfl⟩
  obtain ⟨n, hn⟩ := hlen
  rw [hn] at hc ⊢
  go_enter Try.func55, Try.ntmps55
  go_wp2_with (go_at_call 75; (with_reducible refine hc.out.mono ?_); rintro e w5 ⟨A5, c5, rfl, ho5, hb5⟩)
  go_ret
  refine ⟨w5.heap.size, A5, rfl, ⟨c5, ?_, ?_⟩, hb5.alloc hb5.size _, hb5.size⟩
  · rw [hn]; exact Blk.new w5 _ _
  · rw [hn]; exact ho5.alloc _

theorem rleft_ok (g : Nat) (A : Option Addr) (bs : List UInt8) (a : Nat) (w : World) (base : Nat) (h : RdIs w base g A bs a) (hn : bs.length ≤ 68719476736) (ha : a ≤ 8 * bs.length) :
    Calls Try.prog 123 #[.pointer (some ⟨g, 0, none⟩)] w fun e w' => e = .returned (.int .i64 ((8 * bs.length - a : Nat) : Int)) ∧ ∃ k, w' = w.drewN k := by
  obtain ⟨c, hk, ho⟩ := h
  have c0 : w.cell? ⟨g, 0, none⟩ = some (.slice A bs.length c) := hk.cell 0
  have c1 : w.cell? ⟨g, 1, none⟩ = some (.int .i64 (a : Int)) := hk.cell 1
  clear hk ho
  generalize bs.length = n at *
  go_enter Try.func123, Try.ntmps123
  go_wp2
  go_region
  go_wp2
  go_ret
  exact ⟨ret_int (by omega), 1, (drewN_one _).symm⟩
theorem rat_ok (g : Nat) (A : Option Addr) (bs : List UInt8) (a : Nat) (w : World) (base : Nat) (h : RdIs w base g A bs a) :
    Calls Try.prog 59 #[.pointer (some ⟨g, 0, none⟩)] w fun e w' => e = .returned (.int .i64 (a : Int)) ∧ w = w' := by
  obtain ⟨c, hk, _⟩ := h
  have c1 : w.cell? ⟨g, 1, none⟩ = some (.int .i64 (a : Int)) := hk.cell 1
  clear hk
  go_enter Try.func59, Try.ntmps59
  go_wp2
  go_ret
  exact ⟨rfl, rfl⟩
set_option maxHeartbeats 400000 in
theorem ralign_ok (g : Nat) (A : Option Addr) (bs : List UInt8) (a : Nat) (w : World) (base : Nat) (h : RdIs w base g A bs a) (ha : a ≤ 1000000000000) :
    Calls Try.prog 58 #[.pointer (some ⟨g, 0, none⟩)] w fun e w' => e = .returned (.int .i64 (Bit.gap a : Int)) ∧ RdIs w' base g A bs (a + Bit.gap a) ∧ Chg (fun k => k = g) w w' := by
  have hfin := hide (fun x hx => h.moved (a + Bit.gap a) 0 x hx)
  obtain ⟨c, hk, ho⟩ := h
  have c1 : w.cell? ⟨g, 1, none⟩ = some (.int .i64 (a : Int)) := hk.cell 1
  have f1 := hk.free 1
  have hg := gap_and a (by omega)
  have hgl : Bit.gap a ≤ 8 := by unfold Bit.gap; omega
  have hl1 : (a : Int) ≤ 1000000000000 := by omega
  clear hk ho ha
  generalize Bit.gap a = m at *
  go_enter Try.func58, Try.ntmps58
  go_wp2
  go_ret
  exact ⟨rfl, hfin.out _ (by omega)⟩

theorem rbits_short (g : Nat) (A : Option Addr) (bs : List UInt8) (a n : Nat) (w : World) (base : Nat) (h : RdIs w base g A bs a) (hl : bs.length ≤ 68719476736) (ha : a ≤ 8 * bs.length) (hn : n ≤ 32) (hs : 8 * bs.length - a < n) :
    Calls Try.prog 107 #[.pointer (some ⟨g, 0, none⟩), .int .i64 (n : Int)] w fun e w' => e = .returned (.tuple #[.int .u32 0, .int .i64 2]) ∧ ∃ k, w' = w.drewN k := by
  have hleft := hide (rleft_ok g A bs a w base h hl ha)
  clear h hl ha
  generalize 8 * bs.length - a = m at *
  go_enter Try.func107, Try.ntmps107
  go_wp2_with (go_at_call 123; (with_reducible refine hleft.out.mono ?_); rintro e w1 ⟨rfl, k1, rfl⟩)
  go_ret2
  exact ⟨rfl, k1, rfl⟩

/-- The next bit, read into a number. -/
theorem or_u32 (V k b : Nat) (hk : k < 32) (hV : V < 2 ^ k) (hb : b < 2) : bits .or .u32 (V : Int) ((b : Int) * 2 ^ k % 4294967296) = ((V + 2 ^ k * b : Nat) : Int) := by
  have h2 : 2 ^ (k + 1) ≤ 2 ^ 32 := Nat.pow_le_pow_right (by omega) (by omega)
  rw [Nat.pow_succ] at h2
  have hm : 2 ^ k * b ≤ 2 ^ k * 1 := Nat.mul_le_mul_left _ (by omega)
  rw [show (b : Int) * 2 ^ k = ((2 ^ k * b : Nat) : Int) by push_cast; rw [Int.mul_comm]]
  have e : ((2 ^ k * b : Nat) : Int) % 4294967296 = ((2 ^ k * b : Nat) : Int) := by omega
  rw [e, u32_or_nat V (2 ^ k * b) (by omega) (by omega), Nat.or_comm, nat_join k (2 ^ k * b) V (Nat.mul_mod_right _ _) hV, Nat.add_comm]
theorem and_u8 (q s : Nat) (hq : q < 256) : bits .and .u8 ((q : Int) / 2 ^ s) 1 = (((q.testBit s).toNat : Nat) : Int) := by
  rw [show (q : Int) / 2 ^ s = ((q / 2 ^ s : Nat) : Int) from by norm_cast]
  have h : q / 2 ^ s ≤ q := Nat.div_le_self _ _
  have := u8_and_nat (q / 2 ^ s) 1 (by omega) (by omega)
  rw [nat_mask1] at this
  refine this.trans ?_
  rw [Nat.testBit_eq_decide_div_mod_eq]
  rcases Nat.mod_two_eq_zero_or_one (q / 2 ^ s) with h | h <;> simp [h]

set_option maxHeartbeats 1000000 in
theorem rbits_ok (g : Nat) (A : Option Addr) (bs : List UInt8) (a n : Nat) (w : World) (base : Nat) (h : RdIs w base g A bs a) (hl : bs.length ≤ 68719476736) (hn : n ≤ 32) (ha : a + n ≤ 8 * bs.length) :
    Calls Try.prog 107 #[.pointer (some ⟨g, 0, none⟩), .int .i64 (n : Int)] w fun e w' => e = .returned (.tuple #[.int .u32 (Bit.num (((Bit.bitsOf bs).drop a).take n) : Int), .int .i64 0]) ∧ RdIs w' base g A bs (a + n) ∧ Chg (fun k => k = g) w w' := by
  have hleft := hide (rleft_ok g A bs a w base h hl (by omega))
  have hm : n ≤ 8 * bs.length - a := by omega
  have hh := hide h
  have hlh := hide hl
  have hah := hide ha
  clear h hl ha
  go_enter Try.func107, Try.ntmps107
  generalize 8 * bs.length - a = m at *
  go_wp2_with (go_at_call 123; (with_reducible refine hleft.out.mono ?_); rintro e w1 ⟨rfl, k1, rfl⟩)
  go_loopw [6, 25] (fun v i wr => ∃ k : Nat, k ≤ n ∧ i = .int .i64 k ∧ v = .int .u32 (Bit.num (((Bit.bitsOf bs).drop a).take k) : Int) ∧ Hid (RdIs wr base g A bs (a + k)) ∧ Hid (Chg (fun k => k = g) w wr)) (fun _ i _ => n - (intOf i).toNat)
  case atStart => exact ⟨0, by omega, rfl, by simp [Bit.num], hh.out.below (below_drewN (Below.refl _ w) k1), (Chg.refl _ w).drewN k1⟩
  case round =>
    obtain ⟨k, hk, rfl, rfl, hR, hC⟩ := hrel
    by_cases hlt : k < n
    · have hbl := Bit.bitsOf_length bs
      have hak : a + k < 8 * bs.length := by have := hah.out; omega
      have hlen : (((Bit.bitsOf bs).drop a).take k).length = k := by rw [List.length_take, List.length_drop, hbl]; have := hah.out; omega
      have hV := Bit.num_lt (((Bit.bitsOf bs).drop a).take k)
      rw [hlen] at hV
      have hj : (a + k) / 8 < bs.length := by omega
      have hsucc : Bit.num (((Bit.bitsOf bs).drop a).take (k + 1)) = Bit.num (((Bit.bitsOf bs).drop a).take k) + 2 ^ k * ((bs[(a + k) / 8]'hj).toNat.testBit ((a + k) % 8)).toNat := by
        have hd : k < ((Bit.bitsOf bs).drop a).length := by rw [List.length_drop, hbl]; omega
        rw [take_snoc _ k hd, Bit.num_snoc, hlen, List.getElem_drop, Bit.bitsOf_get bs (a + k) hak]
      obtain ⟨c, hkb, ho⟩ := hR.out
      have c0 : wr.cell? ⟨g, 0, none⟩ = some (.slice A bs.length c) := hkb.cell 0
      have c1 : wr.cell? ⟨g, 1, none⟩ = some (.int .i64 ((a + k : Nat) : Int)) := hkb.cell 1
      have f1 := hkb.free 1
      obtain ⟨ga, rfl, _, _⟩ := ho.pos (by omega)
      have e0 : wr.cell? ⟨ga, (a + k) / 8, none⟩ = some (.int .u8 ((bs[(a + k) / 8]'hj).toNat : Int)) := by
        have hx := ho.cells (g := ga) rfl ((a + k) / 8) (bv bs[(a + k) / 8]) (by rw [List.getElem?_map, List.getElem?_eq_getElem hj]; rfl)
        rwa [Addr.add_mid, Nat.zero_add] at hx
      have hq := toNat_le (bs[(a + k) / 8]'hj)
      have hb2 : ((bs[(a + k) / 8]'hj).toNat.testBit ((a + k) % 8)).toNat < 2 := by cases (bs[(a + k) / 8]'hj).toNat.testBit ((a + k) % 8) <;> decide
      have hand := and_u8 (bs[(a + k) / 8]'hj).toNat ((a + k) % 8) (by omega)
      have hor := or_u32 _ k _ (by omega) hV hb2
      rw [← hsucc] at hor
      have hmv := hide (fun N x hx => hR.out.moved (a + k + 1) N x hx)
      have hbig : a + k < 549755813888 := by have := hlh.out; omega
      clear hbl hak hlen hV hsucc hkb ho
      generalize (bs[(a + k) / 8]'hj).toNat.testBit ((a + k) % 8) = tb at *
      generalize (bs[(a + k) / 8]'hj).toNat = q at *
      generalize hV' : Bit.num (((Bit.bitsOf bs).drop a).take (k + 1)) = V' at *
      have hV'h := hide hV'
      clear hV'
      generalize Bit.num (((Bit.bitsOf bs).drop a).take k) = V at *
      generalize hL : bs.length = L at *
      generalize hM : a + k = M at *
      generalize tb.toNat = b at *
      go_wp2
      go_region
      go_wp2
      go_roundw
      case rel =>
        have hx := hmv.out 1 ((M : Int) + 1) (by omega)
        rw [drewN_one] at hx
        refine ⟨k + 1, by omega, by go_num, by rw [hV'h.out], ?_, ?_⟩
        · refine hide ?_
          have h1 := hx.1
          rw [← Nat.add_assoc, hM]
          simpa using h1
        · refine hide ?_
          have h2 := hC.out.trans hx.2 (fun _ _ h => h)
          simpa using h2
      case measure => simp [intOf]; omega
    · obtain rfl : k = n := by omega
      go_wp2
      go_ret2
      exact ⟨rfl, hR.out, hC.out⟩

end Go.Proofs.Ythplpoijkebjbaa
