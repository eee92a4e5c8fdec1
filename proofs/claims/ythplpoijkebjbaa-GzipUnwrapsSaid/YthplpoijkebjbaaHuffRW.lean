/- The walks of (*huff.Code).Read and Write: a symbol is read by a code, and written. There is no condition. -/
import Derived.Test.YthplpoijkebjbaaHuffDec
import Derived.Test.YthplpoijkebjbaaBitKeep
namespace Go.Proofs.Ythplpoijkebjbaa
open Go.RowKit

theorem Cd.keep {w w' : World} {B g n : Nat} {Ab : Option Addr} {cb : Nat} {Al : Option Addr} {cl : Nat} {ls : List Nat} {fs : Nat → Nat} {Ao : Nat → Option Addr} {co : Nat → Nat} {os : Nat → List Nat} {bits : Nat → Nat}
    (h : Cd w B g n Ab cb Al cl ls fs Ao co os bits) (hx : KeepX w w') : Cd w' B g n Ab cb Al cl ls fs Ao co os bits := by
  obtain ⟨cs, hk, hr⟩ := h.cells
  exact ⟨⟨cs, hx.row hk (by decide) (by decide) (by decide), hr⟩, h.hg, hx.ow h.ob (by decide) (by decide) (by decide), hx.ow h.ol (by decide) (by decide) (by decide), fun s hs => hx.ow (h.oo s hs) (by decide) (by decide) (by decide), h.apart, h.apartL⟩
theorem CodeAt.keep {B g : Nat} {w w' : World} {ls : List Nat} (h : CodeAt B w g ls) (hx : KeepX w w') : CodeAt B w' g ls := by
  obtain ⟨Ab, cb, Al, cl, Ao, co, h⟩ := h
  exact ⟨Ab, cb, Al, cl, Ao, co, h.keep hx⟩
theorem KeepX.drewN (w : World) (k : Nat) : KeepX w (w.drewN k) := KeepX.below (below_drewN (Below.refl _ w) k)

/-- One bit more of a reader. -/
theorem bit_at (bs : List UInt8) (a s : Nat) (b : Bool) (h : ((Bit.bitsOf bs).drop a)[s]? = some b) : Bit.num (((Bit.bitsOf bs).drop (a + s)).take 1) = b.toNat := by
  rw [← List.drop_drop]
  obtain ⟨hl, rfl⟩ := List.getElem?_eq_some_iff.1 h
  rw [List.drop_eq_getElem_cons hl]
  simp [Bit.num]
theorem or_bit1 (V b : Nat) (hV : V ≤ 32767) (hb : b ≤ 1) : bits .or .u32 ((V : Int) * 2) (b : Int) = ((2 * V + b : Nat) : Int) := by
  rw [show (V : Int) * 2 = ((2 * V : Nat) : Int) from by push_cast; rw [Int.mul_comm], u32_or_nat (2 * V) b (by omega) (by omega), nat_join1 (2 * V) b (by omega) (by omega)]

theorem Huf.bits_lt (ls : List Nat) (h15 : ∀ x ∈ ls, x ≤ 15) (hs : Huf.sum ls ≤ 32768) (i : Nat) (hi : i < ls.length) : Huf.bits ls 16 i ≤ 32767 := by
  have hx15 := h15 ls[i] (List.getElem_mem hi)
  have hg : ls.getD i 0 = ls[i] := by rw [List.getD_eq_getElem?_getD, List.getElem?_eq_getElem hi]; rfl
  unfold Huf.bits
  rw [hg]
  split
  · have := Huf.code_lt ls hs i _ (List.getElem?_eq_getElem hi) (by omega) hx15
    have h2 : 2 ^ ls[i] ≤ 2 ^ 15 := Nat.pow_le_pow_right (by omega) hx15
    omega
  · omega

end Go.Proofs.Ythplpoijkebjbaa
