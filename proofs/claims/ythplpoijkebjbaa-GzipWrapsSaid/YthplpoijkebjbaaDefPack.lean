/- The plain law of stored blocks: their bits are these bytes. There is no program in it. -/
import Derived.Test.YthplpoijkebjbaaDefSto
import Derived.Test.YthplpoijkebjbaaDefData
namespace Go.Proofs.Ythplpoijkebjbaa
open Go.RowKit

theorem bitsOf_app (a b : List UInt8) : Bit.bitsOf (a ++ b) = Bit.bitsOf a ++ Bit.bitsOf b := by
  induction a with
  | nil => rfl
  | cons x a ih => rw [List.cons_append, Bit.bitsOf, ih, Bit.bitsOf, List.append_assoc]
theorem bitsOf_bytB (bs : List UInt8) : Bit.bitsOf bs = Def.bytB bs := by
  induction bs with
  | nil => rfl
  | cons x a ih => rw [Bit.bitsOf, ih, Def.bytB, Def.bytB, List.flatMap_cons]
theorem bitsOf_inj (a : List UInt8) : ∀ b, Bit.bitsOf a = Bit.bitsOf b → a = b := by
  induction a with
  | nil =>
    intro b h
    have := congrArg List.length h
    rw [Bit.bitsOf_length, Bit.bitsOf_length] at this
    exact (List.length_eq_zero_iff.1 (by rw [List.length_nil] at this; omega)).symm
  | cons x a ih =>
    intro b h
    cases b with
    | nil =>
      have := congrArg List.length h
      rw [Bit.bitsOf_length, Bit.bitsOf_length, List.length_cons, List.length_nil] at this
      omega
    | cons y b =>
      rw [Bit.bitsOf, Bit.bitsOf] at h
      obtain ⟨h1, h2⟩ := List.append_inj h (by rw [Bit.low_length, Bit.low_length])
      have h3 := congrArg Bit.num h1
      rw [Bit.num_low, Bit.num_low] at h3
      have hx := x.toNat_lt
      have hy := y.toNat_lt
      have : x.toNat = y.toNat := by omega
      rw [ih b h2, UInt8.toNat_inj.1 this]
theorem pack_bitsOf (bs : List UInt8) : Bit.pack (Bit.bitsOf bs) = bs := by
  refine bitsOf_inj _ _ ?_
  rw [Bit.bitsOf_pack, show Bit.gap (Bit.bitsOf bs).length = 0 from by rw [Bit.bitsOf_length]; unfold Bit.gap; omega, List.replicate_zero, List.append_nil]

def Def.hdY (v n : Nat) : List UInt8 := [UInt8.ofNat v, UInt8.ofNat (n % 256), UInt8.ofNat (n / 256), UInt8.ofNat (255 - n % 256), UInt8.ofNat (255 - n / 256)]
def Def.stoY : Nat → List UInt8 → List UInt8
  | 0, bs => Def.hdY 1 bs.length ++ bs
  | f + 1, bs => if bs.length ≤ 65535 then Def.hdY 1 bs.length ++ bs else Def.hdY 0 65535 ++ bs.take 65535 ++ Def.stoY f (bs.drop 65535)
theorem low_split (n a b : Nat) : Bit.low n (a + b) = Bit.low n a ++ Bit.low (n / 2 ^ a) b := by
  simp only [Bit.low, List.range_add, List.map_append, List.map_map]
  congr 1
  refine List.map_congr_left fun i _ => ?_
  simp only [Function.comp_apply, Nat.testBit_div_two_pow, Nat.add_comm]
theorem low_mod (n : Nat) : Bit.low (n % 256) 8 = Bit.low n 8 := by
  simp only [Bit.low]
  refine List.map_congr_left fun i hi => ?_
  have hi : i < 8 := List.mem_range.1 hi
  rw [show (256 : Nat) = 2 ^ 8 from rfl, Nat.testBit_mod_two_pow, decide_eq_true hi, Bool.true_and]
theorem low_byte (x : Nat) (h : x < 256) : Bit.low (UInt8.ofNat x).toNat 8 = Bit.low x 8 := by rw [UInt8.toNat_ofNat_of_lt' (by omega)]
theorem low16 (n : Nat) (h : n ≤ 65535) : Bit.low n 16 = Bit.low (UInt8.ofNat (n % 256)).toNat 8 ++ Bit.low (UInt8.ofNat (n / 256)).toNat 8 := by
  rw [low_byte _ (by omega), low_byte _ (by omega), low_mod, ← low_split n 8 8]
theorem hdB_bitsOf (v n : Nat) (hv : v ≤ 1) (hn : n ≤ 65535) : Def.hdB v n = Bit.bitsOf (Def.hdY v n) := by
  have h1 := low16 n hn
  have h2 := low16 (65535 - n) (by omega)
  rw [show (65535 - n) % 256 = 255 - n % 256 from by omega, show (65535 - n) / 256 = 255 - n / 256 from by omega] at h2
  have h3 : Bit.low v 3 ++ List.replicate 5 false = Bit.low (UInt8.ofNat v).toNat 8 := by
    rcases (show v = 0 ∨ v = 1 by omega) with rfl | rfl <;> decide
  simp only [Def.hdB, Def.hdY, Bit.bitsOf, h1, h2, h3, List.append_nil, List.append_assoc]
theorem stoB_bitsOf (f : Nat) (bs : List UInt8) (h : bs.length ≤ 65535 * (f + 1)) : Def.stoB f bs = Bit.bitsOf (Def.stoY f bs) := by
  induction f generalizing bs with
  | zero => rw [Def.stoB, Def.stoY, bitsOf_app, bitsOf_bytB bs, hdB_bitsOf _ _ (by decide) (by omega)]
  | succ f ih =>
    rw [Def.stoB, Def.stoY]
    split
    · rw [bitsOf_app, bitsOf_bytB bs, hdB_bitsOf _ _ (by decide) (by omega)]
    · rw [bitsOf_app, bitsOf_app, ih _ (by rw [List.length_drop]; omega), bitsOf_bytB (bs.take 65535), hdB_bitsOf _ _ (by decide) (by omega)]
theorem outB_stored (bs : List UInt8) : Def.outB true bs = Def.stoY bs.length bs := by
  show Bit.pack (Def.stoB bs.length bs) = _
  rw [stoB_bitsOf _ _ (by omega), pack_bitsOf]

end Go.Proofs.Ythplpoijkebjbaa
