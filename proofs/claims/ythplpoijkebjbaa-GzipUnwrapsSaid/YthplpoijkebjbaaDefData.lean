/- Layer 5 (deflate): Data, walked. There is no condition. -/
import Derived.Test.YthplpoijkebjbaaDefSto
import Derived.OwnWalk
namespace Go.Proofs.Ythplpoijkebjbaa
open Go.RowKit

def Def.outL (pl : Bool) (bs : List UInt8) : List Bool := if pl then Def.stoB bs.length bs else Def.fixB bs
/-- The packed bytes. -/
def Def.outB (pl : Bool) (bs : List UInt8) : List UInt8 := Bit.pack (Def.outL pl bs)

theorem Def.fixB_len (bs : List UInt8) (h : bs.length ≤ 1048576) : (Def.fixB bs).length ≤ 1000000000 := by
  have h1 := Def.toksB_len (Def.parse bs)
  have h2 := Def.toks_len bs bs.length 0
  rw [show Def.toks bs bs.length 0 = Def.parse bs from rfl] at h2
  have h3 : (Def.litB 256).length ≤ 60 := by
    have h1 := (fixL_le 256).1
    rw [Def.litB, word_len]
    omega
  simp only [Def.fixB, List.length_append, List.length_cons, List.length_nil]
  omega
theorem Def.hdB_len (v n : Nat) : (Def.hdB v n).length = 40 := by simp only [Def.hdB, List.length_append, low_len13, List.length_replicate]
theorem Def.stoB_len (f : Nat) (bs : List UInt8) : (Def.stoB f bs).length ≤ 8 * bs.length + 40 * (f + 1) := by
  induction f generalizing bs with
  | zero => rw [Def.stoB, List.length_append, Def.hdB_len, Def.bytB_len]; omega
  | succ f ih =>
    rw [Def.stoB]
    split
    · rw [List.length_append, Def.hdB_len, Def.bytB_len]; omega
    · have := ih (bs.drop 65535)
      rw [List.length_drop] at this
      rw [List.length_append, List.length_append, Def.hdB_len, Def.bytB_len, List.length_take]
      omega
theorem Def.outL_len (pl : Bool) (bs : List UInt8) (h : bs.length ≤ 1048576) : (Def.outL pl bs).length ≤ 1000000000000 := by
  cases pl with
  | false => exact Nat.le_trans (Def.fixB_len bs h) (by decide)
  | true =>
    show (Def.stoB bs.length bs).length ≤ _
    have := Def.stoB_len bs.length bs
    omega

set_option maxRecDepth 100000 in
set_option maxHeartbeats 2000000 in
theorem ddata_any (A : Option Addr) (n c : Nat) (bs : List UInt8) (pl : Bool) (w : World) (hr : Rd w w.heap.size A n (bs.map bv)) (hc : n ≤ c) (h : n ≤ 1048576) :
    Calls Try.prog 16 #[.slice A n c, .bool pl] w fun e w' => ∃ A' c', e = .returned (.tuple #[.slice A' (Def.outB pl bs).length c', .int .i64 0]) ∧ Ow w' w.heap.size 5 A' (Def.outB pl bs).length c' ((Def.outB pl bs).map bv) ∧ Below w.heap.size w w' := by
  have hl := hr.len
  subst hl
  have hm : (Def.outB pl bs).length = Bit.size (Def.outL pl bs).length := Bit.pack_length _
  rw [hm]
  have hll := hide (Def.outL_len pl bs h)
  replace hm := hide hm
  have hnw := hide (newwriter_at w)
  have hW : ∀ w1, WrAt w.heap.size w1 w.heap.size [] → Below w.heap.size w w1 → Rd w1 w.heap.size A bs.length (bs.map bv) := fun w1 _ h => hr.below h
  have hst := hide (fun w1 (h1 : WrAt w.heap.size w1 w.heap.size []) (h2 : Below w.heap.size w w1) => dstored_any w.heap.size w.heap.size [] A c bs w.heap.size w1 h1 (hW w1 h1 h2) (Nat.le_refl _) h hc (by decide) rfl)
  have hfx := hide (fun w1 (h1 : WrAt w.heap.size w1 w.heap.size []) (h2 : Below w.heap.size w w1) => dfixed_any w.heap.size w.heap.size [] A c bs w.heap.size w1 h1 (hW w1 h1 h2) (Nat.le_refl _) h (by decide))
  clear hr hW
  generalize hB : w.heap.size = B at *
  go_enter Try.func16, Try.ntmps16
  cases pl with
  | true =>
    go_wp2_with (first
      | (go_at_call 43; (with_reducible refine (hnw.out).mono ?_); rintro e w1 ⟨rfl, j1, b1⟩; have hs1 := hide (hst.out w1 j1 b1); have b1 := hide b1; clear j1)
      | (go_at_call 44; (with_reducible refine (hs1.out).mono ?_); rintro e w2 ⟨⟨v, rfl⟩, j2, b2⟩; have hs2 := hide (atbytes j2 (by simpa [Def.outL] using hll.out)); have b2 := hide b2; clear j2)
      | (go_at_call 46; (with_reducible refine (hs2.out).mono ?_); rintro e w3 ⟨A3, c3, rfl, o3, b3⟩; have o3 := hide o3; have b3 := hide b3))
    go_ret2
    have hs := b3.out.size
    have hs2 := b2.out.size
    have hs1 := b1.out.size
    exact ⟨A3, c3, rfl, o3.out.base_le (fun k hk => by have := (o3.out.blk_lt k hk).1; omega), (b1.out.trans b2.out).trans (b3.out.mono (by omega))⟩
  | false =>
    go_wp2_with (first
      | (go_at_call 43; (with_reducible refine (hnw.out).mono ?_); rintro e w1 ⟨rfl, j1, b1⟩; have hs1 := hide (hfx.out w1 j1 b1); have b1 := hide b1; clear j1)
      | (go_at_call 45; (with_reducible refine (hs1.out).mono ?_); rintro e w2 ⟨⟨v, rfl⟩, j2, b2⟩; have hs2 := hide (atbytes j2 (by simpa [Def.outL] using hll.out)); have b2 := hide b2; clear j2)
      | (go_at_call 46; (with_reducible refine (hs2.out).mono ?_); rintro e w3 ⟨A3, c3, rfl, o3, b3⟩; have o3 := hide o3; have b3 := hide b3))
    go_ret2
    have hs := b3.out.size
    have hs2 := b2.out.size
    have hs1 := b1.out.size
    exact ⟨A3, c3, rfl, o3.out.base_le (fun k hk => by have := (o3.out.blk_lt k hk).1; omega), (b1.out.trans b2.out).trans (b3.out.mono (by omega))⟩

end Go.Proofs.Ythplpoijkebjbaa
