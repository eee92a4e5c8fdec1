/- The writer's and the reader's contracts once more, with what they keep: every block that holds neither a writer, nor a reader, nor bytes. There is no condition. -/
import Derived.Test.YthplpoijkebjbaaBitLive
namespace Go.Proofs.Ythplpoijkebjbaa
open Go.RowKit

/-- Every block that holds neither a writer, nor a reader, nor bytes, is as it was. -/
def KeepX (w w' : World) : Prop :=
  w.heap.size ≤ w'.heap.size ∧ ∀ (k : Nat) (cs : Array Value) (t : TypeId) (fz : Nat × Nat), w.heap[k]? = some (.cells cs t fz) → t ≠ 100 → t ≠ 111 → t ≠ 5 → w'.heap[k]? = some (.cells cs t fz)
theorem KeepX.refl (w : World) : KeepX w w := ⟨Nat.le_refl _, fun _ _ _ _ h _ _ _ => h⟩
theorem KeepX.trans {a b c : World} (h : KeepX a b) (k : KeepX b c) : KeepX a c := ⟨Nat.le_trans h.1 k.1, fun i cs t fz x h1 h2 h3 => k.2 i cs t fz (h.2 i cs t fz x h1 h2 h3) h1 h2 h3⟩
theorem KeepX.below {w w' : World} (h : Below w.heap.size w w') : KeepX w w' := ⟨h.size, fun k _ _ _ x _ _ _ => (h.block k (lt_of_block x)).trans x⟩
theorem KeepX.row {w w' : World} (h : KeepX w w') {g : Nat} {t : TypeId} {cs : Array Value} (hk : Blk w g t cs) (h1 : t ≠ 100) (h2 : t ≠ 111) (h3 : t ≠ 5) : Blk w' g t cs := h.2 g cs t (0, 0) hk h1 h2 h3
theorem KeepX.ow {w w' : World} (h : KeepX w w') {base n c : Nat} {e : TypeId} {A : Option Addr} {xs : List Value} (ho : Ow w base e A n c xs) (h1 : e ≠ 100) (h2 : e ≠ 111) (h3 : e ≠ 5) : Ow w' base e A n c xs := by
  refine ⟨ho.1, ?_⟩
  rcases ho.2 with h0 | ⟨g, cap, cur, hv, hb, hh, r⟩
  · exact .inl h0
  · exact .inr ⟨g, cap, cur, hv, hb, h.2 g cur e (0, 0) hh h1 h2 h3, r⟩
theorem KeepX.wr {B g : Nat} {A : Option Addr} {w w' : World} {l l' : List Bool} (h : WrIs w B g A l) (hp : WrPost w B g A l' w') : KeepX w w' := by
  obtain ⟨A', _, h2, _⟩ := hp
  obtain ⟨c, hk, ho⟩ := h
  refine ⟨h2.size, fun k cs t fz x t1 _ t3 => (h2.block k (lt_of_block x) ?_).trans x⟩
  rintro (rfl | hr)
  · unfold Blk at hk
    rw [hk] at x
    injection x with x
    injection x with _ ht
    exact t1 ht.symm
  · rcases ho.2 with ⟨hv, _⟩ | ⟨g', cap, cur, hv, _, hh, _⟩
    · injection hv with e1
      rw [e1] at hr
      simp [blk] at hr
    · injection hv with e1
      rw [e1] at hr
      have : g' = k := by simpa [blk] using hr
      subst this
      rw [hh] at x
      injection x with x
      injection x with _ ht
      exact t3 ht.symm
theorem KeepX.rd {B g a : Nat} {A : Option Addr} {w w' : World} {bs : List UInt8} (h : RdIs w B g A bs a) (h2 : Chg (fun k => k = g) w w') : KeepX w w' := by
  obtain ⟨c, hk, ho⟩ := h
  refine ⟨h2.size, fun k cs t fz x _ t2 _ => (h2.block k (lt_of_block x) ?_).trans x⟩
  rintro rfl
  unfold Blk at hk
  rw [hk] at x
  injection x with x
  injection x with _ ht
  exact t2 ht.symm

theorem xtalign {B g : Nat} {w : World} {l : List Bool} (h : WrAt B w g l) (hl : l.length ≤ 1000000000000) :
    Calls Try.prog 71 #[.pointer (some ⟨g, 0, none⟩)] w fun e w' => e = .returned (.int .i64 (Bit.gap l.length : Int)) ∧ WrAt B w' g (l ++ List.replicate (Bit.gap l.length) false) ∧ Below B w w' ∧ KeepX w w' := by
  obtain ⟨A, h1, h2, h3⟩ := h
  refine (walign_ok g A l w B h1 hl).mono ?_
  rintro e w' ⟨he, hp⟩
  exact ⟨he, (wr_step h1 h2 h3 hp).1, (wr_step h1 h2 h3 hp).2.1, KeepX.wr h1 hp⟩
end Go.Proofs.Ythplpoijkebjbaa
