/- A slice of pairs of integers that a call makes for itself: append of one, within and without a fence. There is no condition. Layer 5 (deflate): Parse, by the program and by the document. The conditions: where the bytes lie, and how many they are. Layer 5 (deflate), the document's: the bits of a text of digits. The condition: how long the text is. Layer 5 (deflate), the document's Data: the stored form. The conditions: where the bytes lie, and how many they are. Layer 5 (deflate), the document's Data: the form by fixed codes. The conditions: where the bytes lie, and how many they are. The law DeflateData: a walk. The condition: a slice's length is not above its capacity. -/
import Derived.Test.YtaapjampmnanmaaMem
import Derived.OwnWalkIn
import Derived.Test.YtaapjampmnanmaaDefX
import Derived.Laws.BytesArg
import Derived.Lib.SlBytesConst
import Derived.Test.YtaapjampmnanmaaHuffX
import Derived.Test.YtaapjampmnanmaaBitX
namespace Go.Proofs.Ytaapjampmnanmaa
open Go.RowKit
set_option linter.unusedVariables false

/-- The cells of pairs. -/
def pv2 (t : Nat × Nat) : List Value := [.int .i64 (t.1 : Int), .int .i64 (t.2 : Int)]
def flat2 (ts : List (Nat × Nat)) : List Value := ts.flatMap pv2
theorem flat2_at (ts : List (Nat × Nat)) : ∀ j (h : j < ts.length), (flat2 ts)[j * 2]? = some (.int .i64 (ts[j].1 : Int)) ∧ (flat2 ts)[j * 2 + 1]? = some (.int .i64 (ts[j].2 : Int)) := by
  induction ts with
  | nil => intro j h; simp at h
  | cons t ts ih =>
    intro j h
    rw [show flat2 (t :: ts) = pv2 t ++ flat2 ts from List.flatMap_cons]
    cases j with
    | zero => exact ⟨rfl, rfl⟩
    | succ j =>
      obtain ⟨h1, h2⟩ := ih j (by simpa using h)
      have hl : (pv2 t).length = 2 := rfl
      exact ⟨by rw [List.getElem?_append_right (by rw [hl]; omega), hl, show (j + 1) * 2 - 2 = j * 2 by omega, h1]; rfl, by rw [List.getElem?_append_right (by rw [hl]; omega), hl, show (j + 1) * 2 + 1 - 2 = j * 2 + 1 by omega, h2]; rfl⟩
/-- The slice value '.slice A n c' is the call's own and holds these pairs. -/
def OwM (w : World) (base : Nat) (e : TypeId) (A : Option Addr) (n c : Nat) (ts : List (Nat × Nat)) : Prop := ts.length = n ∧ w.ownsRow base e 2 (.slice A n c) n (flat2 ts)
section
variable {w w' : World} {base n c : Nat} {e : TypeId} {A : Option Addr} {ts : List (Nat × Nat)}
theorem OwM.nil (w : World) (base : Nat) (e : TypeId) : OwM w base e none 0 0 [] := ⟨rfl, World.ownsRow_nil w base e 2⟩
theorem OwM.form (h : OwM w base e A n c ts) : (A = none ∧ n = 0 ∧ c = 0) ∨ ∃ g, A = some ⟨g, 0, none⟩ ∧ base ≤ g ∧ g < w.heap.size := by
  rcases h.2.2 with ⟨hv, h0⟩ | ⟨g, cap, cur, hv, hg, hh, _⟩
  · injection hv with h1 h2 h3
    exact .inl ⟨h1, h0, h3⟩
  · injection hv with h1 h2 h3
    exact .inr ⟨g, h1, hg, lt_of_block hh⟩
theorem OwM.pos (h : OwM w base e A n c ts) (hn : 0 < n) : ∃ g, A = some ⟨g, 0, none⟩ ∧ base ≤ g ∧ g < w.heap.size := by
  rcases h.form with ⟨_, h0, _⟩ | h
  · omega
  · exact h
theorem OwM.blk_lt (h : OwM w base e A n c ts) : ∀ g, blk A = some g → base ≤ g ∧ g < w.heap.size := by
  intro g hg
  rcases h.form with ⟨rfl, _⟩ | ⟨g', rfl, h1, h2⟩
  · simp [blk] at hg
  · simp [blk] at hg
    subst hg
    exact ⟨h1, h2⟩
theorem OwM.row (h : OwM w base e A n c ts) {g : Nat} (hg : blk A = some g) : ∃ cur, w.heap[g]? = some (.cells cur e (0, 0)) := by
  rcases h.2.2 with ⟨hv, _⟩ | ⟨g', cap, cur, hv, _, hh, _⟩
  · injection hv with h1
    rw [h1] at hg
    simp [blk] at hg
  · injection hv with h1
    rw [h1] at hg
    have : g' = g := by simpa [blk] using hg
    subst this
    exact ⟨cur, hh⟩
theorem OwM.chg {R : Nat → Prop} (h : OwM w base e A n c ts) (hk : Chg R w w') (hn : ∀ g, blk A = some g → ¬ R g) : OwM w' base e A n c ts := by
  refine ⟨h.1, h.2.1, ?_⟩
  rcases h.2.2 with h2 | ⟨g, cap, cur, hv, hb, hh, r⟩
  · exact .inl h2
  · refine .inr ⟨g, cap, cur, hv, hb, ?_, r⟩
    injection hv with h1
    rw [hk.block g (lt_of_block hh) (hn g (by rw [h1]; rfl))]
    exact hh
theorem OwM.below (h : OwM w base e A n c ts) (hk : Below w.heap.size w w') : OwM w' base e A n c ts :=
  h.chg (R := fun _ => False) ⟨hk.os, hk.tape, hk.output, hk.size, fun k hl _ => hk.block k hl⟩ (fun _ _ h => h)
theorem OwM.ne (h : OwM w base e A n c ts) {g : Nat} {t : TypeId} {cs : Array Value} (hk : Blk w g t cs) (hne : e ≠ t) : blk A ≠ some g := by
  intro hg
  obtain ⟨cur, hh⟩ := h.row hg
  exact Blk.same (w := w) hh hk hne rfl
theorem OwM.cells (h : OwM w base e A n c ts) (j : Nat) (hj : j < n) : ∃ g, A = some ⟨g, 0, none⟩ ∧ w.cell? ⟨g, j * 2, none⟩ = some (.int .i64 ((ts[j]'(by rw [h.1]; exact hj)).1 : Int)) ∧ w.cell? ⟨g, j * 2 + 1, none⟩ = some (.int .i64 ((ts[j]'(by rw [h.1]; exact hj)).2 : Int)) := by
  obtain ⟨g, rfl, _, _⟩ := h.pos (by omega)
  obtain ⟨h1, h2⟩ := flat2_at ts j (by rw [h.1]; exact hj)
  refine ⟨g, rfl, ?_, ?_⟩
  · have := h.2.cells (g := g) rfl _ _ h1
    rwa [Addr.add_mid, Nat.zero_add] at this
  · have := h.2.cells (g := g) rfl _ _ h2
    rwa [Addr.add_mid, Nat.zero_add] at this
end
section
variable {P : Program}
end

end Go.Proofs.Ytaapjampmnanmaa

namespace Go.Proofs.Ytaapjampmnanmaa
open Go.RowKit Go.Shelf
set_option linter.unusedVariables false

attribute [local go_sem] Oper.semAt_some

theorem OwM.calm {W W' : World} {base n c : Nat} {e : TypeId} {A : Option Addr} {ts : List (Nat × Nat)} (h : OwM W base e A n c ts) (hc : Calm W W') : OwM W' base e A n c ts := by
  refine h.chg hc (fun g hg => ?_)
  obtain ⟨cur, hh⟩ := h.row hg
  exact calm_cells hh
end Go.Proofs.Ytaapjampmnanmaa

namespace Go.Proofs.Ytaapjampmnanmaa
open Go.RowKit Go.Shelf
set_option linter.unusedVariables false

attribute [local go_sem] Oper.semAt_some

end Go.Proofs.Ytaapjampmnanmaa

namespace Go.Proofs.Ytaapjampmnanmaa
open Go.RowKit Go.Shelf
set_option linter.unusedVariables false

attribute [local go_sem] Oper.semAt_some

end Go.Proofs.Ytaapjampmnanmaa

namespace Go.Proofs.Ytaapjampmnanmaa
open Go.RowKit Go.Shelf
set_option linter.unusedVariables false

attribute [local go_sem] Oper.semAt_some

/-- What the second part reads: the texts of both codes, and the matches. -/
def RTx (B G1 G2 B2 : Nat) (A2 : Option Addr) (T c2 : Nat) (ts : List (Nat × Nat)) (W : World) : Prop :=
  Ow W B 9 (some ⟨G1, 0, none⟩) 288 288 ((List.range 288).map fun i => sv (Huf.txt lsF 16 0 i)) ∧ Ow W B 9 (some ⟨G2, 0, none⟩) 32 32 ((List.range 32).map fun i => sv (Huf.txt ls5 16 0 i)) ∧ OwM W B2 149 A2 T c2 ts
theorem RTx.below {B G1 G2 B2 : Nat} {A2 : Option Addr} {T c2 : Nat} {ts : List (Nat × Nat)} {W W' : World} (h : RTx B G1 G2 B2 A2 T c2 ts W) (hb : Below W.heap.size W W') : RTx B G1 G2 B2 A2 T c2 ts W' := ⟨h.1.below hb, h.2.1.below hb, h.2.2.below hb⟩
theorem RTx.chg {B G1 G2 B2 : Nat} {A2 : Option Addr} {T c2 : Nat} {ts : List (Nat × Nat)} {W W' : World} {A : Option Addr} {n c : Nat} {xs : List Value} (h : RTx B G1 G2 B2 A2 T c2 ts W) (ho : Ow W B 4 A n c xs) (hc : Chg (fun k => blk A = some k) W W') : RTx B G1 G2 B2 A2 T c2 ts W' :=
  ⟨h.1.chg hc (h.1.ne_ow ho (by decide)), h.2.1.chg hc (h.2.1.ne_ow ho (by decide)), h.2.2.chg hc (fun g hg => by
    obtain ⟨cur, hh⟩ := h.2.2.row hg
    exact ho.ne (g := g) (t := 149) (cs := cur) hh (by decide))⟩
theorem RTx.near {B G1 G2 B2 : Nat} {A2 : Option Addr} {T c2 : Nat} {ts : List (Nat × Nat)} {W : World} (h : RTx B G1 G2 B2 A2 T c2 ts W) (i : Nat) (hi : i < 288) : W.cell? ⟨G1, i, none⟩ = some (sv (Huf.txt lsF 16 0 i)) := by
  have h1 := h.1.cells (g := G1) rfl i (sv (Huf.txt lsF 16 0 i)) (by simp [hi])
  rwa [Addr.add_mid, Nat.zero_add] at h1
theorem RTx.far {B G1 G2 B2 : Nat} {A2 : Option Addr} {T c2 : Nat} {ts : List (Nat × Nat)} {W : World} (h : RTx B G1 G2 B2 A2 T c2 ts W) (i : Nat) (hi : i < 32) : W.cell? ⟨G2, i, none⟩ = some (sv (Huf.txt ls5 16 0 i)) := by
  have h1 := h.2.1.cells (g := G2) rfl i (sv (Huf.txt ls5 16 0 i)) (by simp [hi])
  rwa [Addr.add_mid, Nat.zero_add] at h1
/-- The bits so far, and what the second part reads. -/
def RBt (B G1 G2 B2 : Nat) (A2 : Option Addr) (T c2 : Nat) (ts : List (Nat × Nat)) (w : World) (A : Option Addr) (n c : Nat) (l : List Bool) (W : World) : Prop :=
  Ow W B 4 A n c (l.map Value.bool) ∧ Below B w W ∧ RTx B G1 G2 B2 A2 T c2 ts W
theorem RBt.below {B G1 G2 B2 : Nat} {A2 : Option Addr} {T c2 : Nat} {ts : List (Nat × Nat)} {w W W' : World} {A : Option Addr} {n c : Nat} {l : List Bool} (h : RBt B G1 G2 B2 A2 T c2 ts w A n c l W) (hB : w.heap.size = B) (hb : Below W.heap.size W W') : RBt B G1 G2 B2 A2 T c2 ts w A n c l W' :=
  ⟨h.1.below hb, h.2.1.trans (hb.mono (by have := h.2.1.size; omega)), h.2.2.below hb⟩
theorem RBt.app {B G1 G2 B2 : Nat} {A2 : Option Addr} {T c2 : Nat} {ts : List (Nat × Nat)} {w W W' : World} {A A' : Option Addr} {n c m c' : Nat} {l x : List Bool} (h : RBt B G1 G2 B2 A2 T c2 ts w A n c l W) (hB : w.heap.size = B) (ho : Ow W' B 4 A' (n + m) c' (l.map Value.bool ++ x.map Value.bool)) (hc : Chg (fun k => blk A = some k) W W') : RBt B G1 G2 B2 A2 T c2 ts w A' (n + m) c' (l ++ x) W' :=
  ⟨by rw [List.map_append]; exact ho, h.2.1.trans (hc.to_below (by have := h.2.1.size; omega) (fun i hi => (h.1.blk_lt i hi).1)), h.2.2.chg h.1 hc⟩
theorem RBt.size {B G1 G2 B2 : Nat} {A2 : Option Addr} {T c2 : Nat} {ts : List (Nat × Nat)} {w W : World} {A : Option Addr} {n c : Nat} {l : List Bool} (h : RBt B G1 G2 B2 A2 T c2 ts w A n c l W) (hB : w.heap.size = B) : B ≤ W.heap.size := by
  have := h.2.1.size
  omega
end Go.Proofs.Ytaapjampmnanmaa

namespace Go.Proofs.Ytaapjampmnanmaa
open Go.RowKit
set_option linter.unusedVariables false

end Go.Proofs.Ytaapjampmnanmaa
