/- Layer 1: writers and readers that a law made itself, and the page's example. -/
import Derived.Test.YthplpoijkebjbaaBitR
import Derived.Laws.IdiomStrings
import Derived.Laws.BytesArg
namespace Go.Proofs.Ythplpoijkebjbaa
open Go.RowKit

theorem str_of_rd {w : World} {B n : Nat} {A : Option Addr} {bs : List UInt8} (hr : Rd w B A n (bs.map bv)) (c : Nat) :
    (convert 22 9 (.slice A n c)).run Try.prog w = .ok (.string ⟨bs.toArray⟩) w := by
  have hl := hr.len
  subst hl
  cases A with
  | none =>
    have h0 : bs = [] := by
      cases bs with
      | nil => rfl
      | cons b t => obtain ⟨_, _, h, _⟩ := hr.2 0 (by simp); cases h
    subst h0
    exact run_convert_bytes_nil w _ _ Try.underlying22 Try.underlying5 _ _ _ Try.underlying9
  | some a =>
    refine run_convert_bytes_back w _ _ _ a c bs Try.underlying22 Try.underlying5 Try.underlying9 ?_
    intro j hj
    obtain ⟨b, o, ha, _, hc⟩ := hr.at hj
    cases ha
    rw [Addr.add_mid, hc]
    simp [bv]

/-- What stays when a writer writes or a reader reads: every own slice of truths. -/
def KeepB (w w' : World) : Prop := ∀ base A n c xs, Ow w base 4 A n c xs → Ow w' base 4 A n c xs
theorem KeepB.refl (w : World) : KeepB w w := fun _ _ _ _ _ h => h
theorem KeepB.trans {a b c : World} (h : KeepB a b) (k : KeepB b c) : KeepB a c := fun _ _ _ _ _ x => k _ _ _ _ _ (h _ _ _ _ _ x)
theorem KeepB.below {w w' : World} (h : Below w.heap.size w w') : KeepB w w' := fun _ _ _ _ _ x => x.below h
theorem KeepB.drewN (w : World) (k : Nat) : KeepB w (w.drewN k) := KeepB.below (below_drewN (Below.refl _ w) k)

/-- The writer at block g, made above B, holds the bits l. -/
def WrAt (B : Nat) (w : World) (g : Nat) (l : List Bool) : Prop := ∃ A, WrIs w B g A l ∧ B ≤ g ∧ B ≤ w.heap.size
/-- The reader at block g, made above B, stands at the bit a of the bytes bs. -/
def RdAt (B : Nat) (w : World) (g : Nat) (bs : List UInt8) (a : Nat) : Prop := ∃ A, RdIs w B g A bs a ∧ B ≤ g ∧ B ≤ w.heap.size

theorem WrAt.below {B g : Nat} {w w' : World} {l : List Bool} (h : WrAt B w g l) (hb : Below w.heap.size w w') : WrAt B w' g l := by
  obtain ⟨A, ⟨c, hk, ho⟩, h2, h3⟩ := h
  exact ⟨A, ⟨c, hk.below hb hk.lt, ho.below hb⟩, h2, Nat.le_trans h3 hb.size⟩
theorem RdAt.below {B g a : Nat} {w w' : World} {bs : List UInt8} (h : RdAt B w g bs a) (hb : Below w.heap.size w w') : RdAt B w' g bs a := by
  obtain ⟨A, h1, h2, h3⟩ := h
  exact ⟨A, h1.below hb, h2, Nat.le_trans h3 hb.size⟩

theorem wr_step {B g : Nat} {A : Option Addr} {w w' : World} {l l' : List Bool} (h : WrIs w B g A l) (hg : B ≤ g) (hB : B ≤ w.heap.size) (hp : WrPost w B g A l' w') :
    WrAt B w' g l' ∧ Below B w w' ∧ KeepB w w' := by
  obtain ⟨A', h1, h2, _⟩ := hp
  obtain ⟨c, hk, ho⟩ := h
  refine ⟨⟨A', h1, hg, Nat.le_trans hB h2.size⟩, h2.to_below hB ?_, ?_⟩
  · rintro k (rfl | hk')
    · exact hg
    · exact (ho.blk_lt k hk').1
  · intro base A2 n c2 xs hx
    refine hx.chg h2 ?_
    rintro k hk' (rfl | hr)
    · exact hx.ne hk (by decide) hk'
    · exact hx.ne_ow ho (by decide) k hk' hr
theorem atbytes {B g : Nat} {w : World} {l : List Bool} (h : WrAt B w g l) (hl : l.length ≤ 1000000000000) :
    Calls Try.prog 46 #[.pointer (some ⟨g, 0, none⟩)] w (Cloned w (Bit.size l.length) (Bit.pack l)) := by
  obtain ⟨A, h1, h2, h3⟩ := h
  exact wbytes_ok g A l w B h1 (by omega)
theorem newwriter_at (w : World) : Calls Try.prog 43 #[] w fun e w' => e = .returned (.pointer (some ⟨w.heap.size, 0, none⟩)) ∧ WrAt w.heap.size w' w.heap.size [] ∧ Below w.heap.size w w' := by
  refine (newwriter_any w).mono ?_
  rintro e w' ⟨he, h1, hb⟩
  exact ⟨he, ⟨none, h1, Nat.le_refl _, hb.size⟩, hb⟩

end Go.Proofs.Ythplpoijkebjbaa
