/- A slice of pairs of integers that a call makes for itself: append of one, within and without a fence. There is no condition. Layer 5 (deflate): Parse, by the program and by the document. The conditions: where the bytes lie, and how many they are. Layer 5 (deflate), the document's: the bits of a text of digits. The condition: how long the text is. Layer 5 (deflate), the document's Data: the stored form. The conditions: where the bytes lie, and how many they are. Layer 5 (deflate), the document's Data: the form by fixed codes. The conditions: where the bytes lie, and how many they are. The law DeflateData: a walk. The condition: a slice's length is not above its capacity. -/
import Derived.Test.YthplpoijkebjbaaMem
import Derived.OwnWalkIn
import Derived.Test.YthplpoijkebjbaaDefFix
import Derived.Test.YthplpoijkebjbaaDefLive
import Derived.Test.YthplpoijkebjbaaDefSto
import Derived.Test.YthplpoijkebjbaaDefData
import Derived.Test.YthplpoijkebjbaaHuffRef
import Derived.Test.YthplpoijkebjbaaBitRef
import Derived.Test.YthplpoijkebjbaaHuffFixed
namespace Go.Proofs.Ythplpoijkebjbaa
open Go.RowKit
set_option linter.unusedVariables false

/-- The cells of pairs. -/
def pv2 (t : Nat × Nat) : List Value := [.int .i64 (t.1 : Int), .int .i64 (t.2 : Int)]
def flat2 (ts : List (Nat × Nat)) : List Value := ts.flatMap pv2
theorem flat2_at (ts : List (Nat × Nat)) : ∀ j (h : j < ts.length), (flat2 ts)[j * 2]? = some (.int .i64 (ts[j].1 : Int)) ∧ (flat2 ts)[j * 2 + 1]? = some (.int .i64 (ts[j].2 : Int)) := by
  induction ts with
  | nil => intro j h; simp at h
  | cons t ts ih =>
    intro j h
    rw [show flat2 (t :: ts) = pv2 t ++ flat2 ts from List.flatMap_cons]
    cases j with
    | zero => exact ⟨rfl, rfl⟩
    | succ j =>
      obtain ⟨h1, h2⟩ := ih j (by simpa using h)
      have hl : (pv2 t).length = 2 := rfl
      exact ⟨by rw [List.getElem?_append_right (by rw [hl]; omega), hl, show (j + 1) * 2 - 2 = j * 2 by omega, h1]; rfl, by rw [List.getElem?_append_right (by rw [hl]; omega), hl, show (j + 1) * 2 + 1 - 2 = j * 2 + 1 by omega, h2]; rfl⟩
/-- The slice value '.slice A n c' is the call's own and holds these pairs. -/
def OwM (w : World) (base : Nat) (e : TypeId) (A : Option Addr) (n c : Nat) (ts : List (Nat × Nat)) : Prop := ts.length = n ∧ w.ownsRow base e 2 (.slice A n c) n (flat2 ts)
section
variable {w w' : World} {base n c : Nat} {e : TypeId} {A : Option Addr} {ts : List (Nat × Nat)}
theorem OwM.nil (w : World) (base : Nat) (e : TypeId) : OwM w base e none 0 0 [] := ⟨rfl, World.ownsRow_nil w base e 2⟩
theorem OwM.form (h : OwM w base e A n c ts) : (A = none ∧ n = 0 ∧ c = 0) ∨ ∃ g, A = some ⟨g, 0, none⟩ ∧ base ≤ g ∧ g < w.heap.size := by
  rcases h.2.2 with ⟨hv, h0⟩ | ⟨g, cap, cur, hv, hg, hh, _⟩
  · injection hv with h1 h2 h3
    exact .inl ⟨h1, h0, h3⟩
  · injection hv with h1 h2 h3
    exact .inr ⟨g, h1, hg, lt_of_block hh⟩
theorem OwM.pos (h : OwM w base e A n c ts) (hn : 0 < n) : ∃ g, A = some ⟨g, 0, none⟩ ∧ base ≤ g ∧ g < w.heap.size := by
  rcases h.form with ⟨_, h0, _⟩ | h
  · omega
  · exact h
theorem OwM.blk_lt (h : OwM w base e A n c ts) : ∀ g, blk A = some g → base ≤ g ∧ g < w.heap.size := by
  intro g hg
  rcases h.form with ⟨rfl, _⟩ | ⟨g', rfl, h1, h2⟩
  · simp [blk] at hg
  · simp [blk] at hg
    subst hg
    exact ⟨h1, h2⟩
theorem OwM.row (h : OwM w base e A n c ts) {g : Nat} (hg : blk A = some g) : ∃ cur, w.heap[g]? = some (.cells cur e (0, 0)) := by
  rcases h.2.2 with ⟨hv, _⟩ | ⟨g', cap, cur, hv, _, hh, _⟩
  · injection hv with h1
    rw [h1] at hg
    simp [blk] at hg
  · injection hv with h1
    rw [h1] at hg
    have : g' = g := by simpa [blk] using hg
    subst this
    exact ⟨cur, hh⟩
theorem OwM.chg {R : Nat → Prop} (h : OwM w base e A n c ts) (hk : Chg R w w') (hn : ∀ g, blk A = some g → ¬ R g) : OwM w' base e A n c ts := by
  refine ⟨h.1, h.2.1, ?_⟩
  rcases h.2.2 with h2 | ⟨g, cap, cur, hv, hb, hh, r⟩
  · exact .inl h2
  · refine .inr ⟨g, cap, cur, hv, hb, ?_, r⟩
    injection hv with h1
    rw [hk.block g (lt_of_block hh) (hn g (by rw [h1]; rfl))]
    exact hh
theorem OwM.below (h : OwM w base e A n c ts) (hk : Below w.heap.size w w') : OwM w' base e A n c ts :=
  h.chg (R := fun _ => False) ⟨hk.os, hk.tape, hk.output, hk.size, fun k hl _ => hk.block k hl⟩ (fun _ _ h => h)
theorem OwM.ne (h : OwM w base e A n c ts) {g : Nat} {t : TypeId} {cs : Array Value} (hk : Blk w g t cs) (hne : e ≠ t) : blk A ≠ some g := by
  intro hg
  obtain ⟨cur, hh⟩ := h.row hg
  exact Blk.same (w := w) hh hk hne rfl
theorem OwM.cells (h : OwM w base e A n c ts) (j : Nat) (hj : j < n) : ∃ g, A = some ⟨g, 0, none⟩ ∧ w.cell? ⟨g, j * 2, none⟩ = some (.int .i64 ((ts[j]'(by rw [h.1]; exact hj)).1 : Int)) ∧ w.cell? ⟨g, j * 2 + 1, none⟩ = some (.int .i64 ((ts[j]'(by rw [h.1]; exact hj)).2 : Int)) := by
  obtain ⟨g, rfl, _, _⟩ := h.pos (by omega)
  obtain ⟨h1, h2⟩ := flat2_at ts j (by rw [h.1]; exact hj)
  refine ⟨g, rfl, ?_, ?_⟩
  · have := h.2.cells (g := g) rfl _ _ h1
    rwa [Addr.add_mid, Nat.zero_add] at this
  · have := h.2.cells (g := g) rfl _ _ h2
    rwa [Addr.add_mid, Nat.zero_add] at this
end
section
variable {P : Program}
end

end Go.Proofs.Ythplpoijkebjbaa

namespace Go.Proofs.Ythplpoijkebjbaa
open Go.RowKit Go.Shelf
set_option linter.unusedVariables false

attribute [local go_sem] Oper.semAt_some

theorem OwM.calm {W W' : World} {base n c : Nat} {e : TypeId} {A : Option Addr} {ts : List (Nat × Nat)} (h : OwM W base e A n c ts) (hc : Calm W W') : OwM W' base e A n c ts := by
  refine h.chg hc (fun g hg => ?_)
  obtain ⟨cur, hh⟩ := h.row hg
  exact calm_cells hh
/-- The list so far, and where it lies. -/
def ParAt (B G : Nat) (ts : List (Nat × Nat)) (W : World) : Prop := ∃ A c, Blk W G 41 #[.slice A ts.length c] ∧ OwM W B 38 A ts.length c ts
theorem ParAt.calm {B G : Nat} {ts : List (Nat × Nat)} {W W' : World} (h : ParAt B G ts W) (hc : Calm W W') : ParAt B G ts W' := by
  obtain ⟨A, c, h1, h2⟩ := h
  exact ⟨A, c, h1.calm hc, h2.calm hc⟩
theorem ParAt.below {B G : Nat} {ts : List (Nat × Nat)} {W W' : World} (h : ParAt B G ts W) (hb : Below W.heap.size W W') : ParAt B G ts W' := by
  obtain ⟨A, c, h1, h2⟩ := h
  exact ⟨A, c, h1.below hb h1.lt, h2.below hb⟩
theorem ParAt.hang {B G : Nat} {ts : List (Nat × Nat)} {W : World} (h : ParAt B G ts W) (hG : B ≤ G) (k : Nat) (hk : Hang G W k) : B ≤ k ∧ k < W.heap.size := by
  obtain ⟨A, c, h1, h2⟩ := h
  rcases hk with rfl | ⟨A', n', c', hc, hb⟩
  · exact ⟨hG, h1.lt⟩
  · have h3 := h1.cell 0
    rw [hc] at h3
    simp at h3
    rw [h3.1] at hb
    exact h2.blk_lt k hb
theorem ParAt.hang_iff {B G : Nat} {ts : List (Nat × Nat)} {W : World} {A : Option Addr} {n c : Nat} (h1 : Blk W G 41 #[.slice A n c]) (k : Nat) : Hang G W k ↔ k = G ∨ blk A = some k := by
  have h3 := h1.cell 0
  constructor
  · rintro (h | ⟨A', n', c', hc, hb⟩)
    · exact .inl h
    · rw [hc] at h3
      simp at h3
      exact .inr (by rw [← h3.1]; exact hb)
  · rintro (h | h)
    · exact .inl h
    · exact .inr ⟨A, n, c, by simpa using h3, h⟩

/-- One more is appended, and the list stored back. -/
theorem ParAt.step {B G : Nat} {ts : List (Nat × Nat)} {W W3 : World} {A : Option Addr} {n c : Nat} (hG : B ≤ G) (k0 : Blk W G 41 #[.slice A n c]) (o0 : OwM W B 38 A n c ts) (t : Nat × Nat) {A3 : Option Addr} {c3 : Nat} (o3 : OwM W3 B 38 A3 (n + 1) c3 (ts ++ [t])) (hc : Chg (fun k => blk A = some k) W W3) (hn : blk A3 = blk A ∨ ∃ k, W.heap.size ≤ k ∧ blk A3 = some k) :
    ParAt B G (ts ++ [t]) (W3.setCell ⟨G, 0, none⟩ (.slice A3 (n + 1) c3)) ∧ KeepsOthers W (W3.setCell ⟨G, 0, none⟩ (.slice A3 (n + 1) c3)) ∧ (∀ gb m, gb < W.heap.size → m ≤ W.heap.size → KpH G gb m W (W3.setCell ⟨G, 0, none⟩ (.slice A3 (n + 1) c3))) ∧ Below B W (W3.setCell ⟨G, 0, none⟩ (.slice A3 (n + 1) c3)) := by
  obtain ⟨W4, hW4⟩ : ∃ X, W3.setCell ⟨G, 0, none⟩ (.slice A3 (n + 1) c3) = X := ⟨_, rfl⟩
  rw [hW4]
  have hne := o0.ne k0 (by decide)
  have k3 := k0.chg hc hne
  have hg : Chg (fun k => k = G) W3 W4 := by rw [← hW4]; exact (Chg.refl (fun k => k = G) W3).setCell (p := ⟨G, 0, none⟩) (.inr rfl) _
  have h2 : Chg (fun k => k = G ∨ blk A = some k) W W4 := (hc.mono (fun _ _ h => .inr h)).trans hg (fun _ _ h => .inl h)
  have k4 : Blk W4 G 41 #[.slice A3 (n + 1) c3] := by rw [← hW4]; exact k3.set 0 _
  have o4 : OwM W4 B 38 A3 (n + 1) c3 (ts ++ [t]) := o3.chg hg (fun g h e => o3.ne k3 (by decide) (by rw [h, e]))
  have hl : (ts ++ [t]).length = n + 1 := o3.1
  have hcell : ∀ k, (k = G ∨ blk A = some k) → ∃ cs t fz, W.heap[k]? = some (.cells cs t fz) := by
    rintro k (rfl | hk')
    · exact ⟨_, _, _, k0⟩
    · obtain ⟨cur, hh⟩ := o0.row hk'
      exact ⟨_, _, _, hh⟩
  refine ⟨⟨A3, c3, by rw [hl]; exact k4, by rw [hl]; exact o4⟩, ⟨h2.size, fun k o hk ho => ?_⟩, fun gb m hgb hm hh => ?_, h2.to_below (Nat.le_trans hG (Nat.le_of_lt k0.lt)) ?_⟩
  · refine (h2.block k ((Array.getElem?_eq_some_iff.1 hk).1) (fun hr => ?_)).trans hk
    obtain ⟨cs, t, fz, hc⟩ := hcell k hr
    rw [hc] at hk
    injection hk with hk
    subst hk
    cases ho
  · have hng : ∀ k, Hang G W4 k → Hang G W k ∨ (W.heap.size ≤ k ∧ k < W4.heap.size) := fun k hk => by
      rcases (ParAt.hang_iff (B := B) (ts := []) k4 k).1 hk with rfl | hk
      · exact .inl (.inl rfl)
      · rcases hn with h3 | ⟨i, hi, h3⟩
        · exact .inl ((ParAt.hang_iff (B := B) (ts := []) k0 k).2 (.inr (by rw [← h3]; exact hk)))
        · have h4 := (o4.blk_lt k hk).2
          rw [h3] at hk
          injection hk with hk
          subst hk
          exact .inr ⟨hi, h4⟩
    refine ⟨⟨h2.size, fun k cs t fz hk hn => (h2.block k (lt_of_block hk) (fun hr => hn ((ParAt.hang_iff (B := B) (ts := []) k0 k).2 hr))).trans hk, fun k hk hk' => ?_⟩, fun k hk => ?_⟩
    · rcases hng k hk' with h4 | ⟨h4, _⟩
      · exact h4
      · omega
    · rcases hng k hk with h4 | ⟨h4, h5⟩
      · obtain ⟨g1, g2, g3⟩ := hh k h4
        exact ⟨Nat.lt_of_lt_of_le g1 h2.size, g2, g3⟩
      · exact ⟨h5, by omega, by omega⟩
  · rintro k (rfl | hk)
    · exact hG
    · exact (o0.blk_lt k hk).1

end Go.Proofs.Ythplpoijkebjbaa

namespace Go.Proofs.Ythplpoijkebjbaa
open Go.RowKit Go.Shelf
set_option linter.unusedVariables false

attribute [local go_sem] Oper.semAt_some

end Go.Proofs.Ythplpoijkebjbaa

namespace Go.Proofs.Ythplpoijkebjbaa
open Go.RowKit Go.Shelf
set_option linter.unusedVariables false

attribute [local go_sem] Oper.semAt_some

end Go.Proofs.Ythplpoijkebjbaa

namespace Go.Proofs.Ythplpoijkebjbaa
open Go.RowKit Go.Shelf
set_option linter.unusedVariables false

attribute [local go_sem] Oper.semAt_some

def Def.fillL (k j : Nat) : Nat := if j < k then fixL j else 0
def Def.fillD (k j : Nat) : Nat := if j < k then 5 else 0
theorem Def.fillL_up (k : Nat) : upd (Def.fillL k) k (fixL k) = Def.fillL (k + 1) := by
  funext j
  unfold upd Def.fillL
  split
  · rename_i h; subst h; rw [if_pos (by omega)]
  · by_cases h : j < k
    · rw [if_pos h, if_pos (by omega)]
    · rw [if_neg h, if_neg (by omega)]
theorem Def.fillD_up (k : Nat) : (List.range 32).map (fun j => jv (upd (Def.fillD k) (k % 32) 5 j)) = (List.range 32).map fun j => jv (Def.fillD (k + 1) j) := by
  refine List.map_congr_left fun j hj => ?_
  have hj : j < 32 := List.mem_range.1 hj
  unfold upd Def.fillD
  congr 1
  split
  · rw [if_pos (by omega)]
  · by_cases h : j < k
    · rw [if_pos h, if_pos (by omega)]
    · rw [if_neg h, if_neg (by omega)]
theorem Def.fillL_all : (List.range 288).map (fun j => jv (Def.fillL 288 j)) = (nz lsF).map iv := by
  rw [← lsF_rd]
  refine List.map_congr_left fun j hj => ?_
  rw [Def.fillL, if_pos (List.mem_range.1 hj)]
theorem Def.fillD_all : (List.range 32).map (fun j => jv (Def.fillD 288 j)) = (nz ls5).map iv := by rfl
theorem Def.fillL_no : (List.range 288).map (fun j => jv (Def.fillL 0 j)) = (List.range 288).map fun _ => jv 0 := List.map_congr_left fun j _ => by rw [Def.fillL, if_neg (by omega)]
theorem Def.fillD_no : (List.range 32).map (fun j => jv (Def.fillD 0 j)) = (List.range 32).map fun _ => jv 0 := List.map_congr_left fun j _ => by rw [Def.fillD, if_neg (by omega)]

/-- What the second part reads: the texts of both codes, and the matches. -/
def RTx (B G1 G2 B2 : Nat) (A2 : Option Addr) (T c2 : Nat) (ts : List (Nat × Nat)) (W : World) : Prop :=
  Ow W B 9 (some ⟨G1, 0, none⟩) 288 288 ((List.range 288).map fun i => sv (Huf.txt lsF 16 0 i)) ∧ Ow W B 9 (some ⟨G2, 0, none⟩) 32 32 ((List.range 32).map fun i => sv (Huf.txt ls5 16 0 i)) ∧ OwM W B2 45 A2 T c2 ts
theorem RTx.below {B G1 G2 B2 : Nat} {A2 : Option Addr} {T c2 : Nat} {ts : List (Nat × Nat)} {W W' : World} (h : RTx B G1 G2 B2 A2 T c2 ts W) (hb : Below W.heap.size W W') : RTx B G1 G2 B2 A2 T c2 ts W' := ⟨h.1.below hb, h.2.1.below hb, h.2.2.below hb⟩
theorem RTx.chg {B G1 G2 B2 : Nat} {A2 : Option Addr} {T c2 : Nat} {ts : List (Nat × Nat)} {W W' : World} {A : Option Addr} {n c : Nat} {xs : List Value} (h : RTx B G1 G2 B2 A2 T c2 ts W) (ho : Ow W B 4 A n c xs) (hc : Chg (fun k => blk A = some k) W W') : RTx B G1 G2 B2 A2 T c2 ts W' :=
  ⟨h.1.chg hc (h.1.ne_ow ho (by decide)), h.2.1.chg hc (h.2.1.ne_ow ho (by decide)), h.2.2.chg hc (fun g hg => by
    obtain ⟨cur, hh⟩ := h.2.2.row hg
    exact ho.ne (g := g) (t := 45) (cs := cur) hh (by decide))⟩
theorem RTx.near {B G1 G2 B2 : Nat} {A2 : Option Addr} {T c2 : Nat} {ts : List (Nat × Nat)} {W : World} (h : RTx B G1 G2 B2 A2 T c2 ts W) (i : Nat) (hi : i < 288) : W.cell? ⟨G1, i, none⟩ = some (sv (Huf.txt lsF 16 0 i)) := by
  have h1 := h.1.cells (g := G1) rfl i (sv (Huf.txt lsF 16 0 i)) (by simp [hi])
  rwa [Addr.add_mid, Nat.zero_add] at h1
theorem RTx.far {B G1 G2 B2 : Nat} {A2 : Option Addr} {T c2 : Nat} {ts : List (Nat × Nat)} {W : World} (h : RTx B G1 G2 B2 A2 T c2 ts W) (i : Nat) (hi : i < 32) : W.cell? ⟨G2, i, none⟩ = some (sv (Huf.txt ls5 16 0 i)) := by
  have h1 := h.2.1.cells (g := G2) rfl i (sv (Huf.txt ls5 16 0 i)) (by simp [hi])
  rwa [Addr.add_mid, Nat.zero_add] at h1
/-- The bits so far, and what the second part reads. -/
def RBt (B G1 G2 B2 : Nat) (A2 : Option Addr) (T c2 : Nat) (ts : List (Nat × Nat)) (w : World) (A : Option Addr) (n c : Nat) (l : List Bool) (W : World) : Prop :=
  Ow W B 4 A n c (l.map Value.bool) ∧ Below B w W ∧ RTx B G1 G2 B2 A2 T c2 ts W
theorem RBt.below {B G1 G2 B2 : Nat} {A2 : Option Addr} {T c2 : Nat} {ts : List (Nat × Nat)} {w W W' : World} {A : Option Addr} {n c : Nat} {l : List Bool} (h : RBt B G1 G2 B2 A2 T c2 ts w A n c l W) (hB : w.heap.size = B) (hb : Below W.heap.size W W') : RBt B G1 G2 B2 A2 T c2 ts w A n c l W' :=
  ⟨h.1.below hb, h.2.1.trans (hb.mono (by have := h.2.1.size; omega)), h.2.2.below hb⟩
theorem RBt.size {B G1 G2 B2 : Nat} {A2 : Option Addr} {T c2 : Nat} {ts : List (Nat × Nat)} {w W : World} {A : Option Addr} {n c : Nat} {l : List Bool} (h : RBt B G1 G2 B2 A2 T c2 ts w A n c l W) (hB : w.heap.size = B) : B ≤ W.heap.size := by
  have := h.2.1.size
  omega
end Go.Proofs.Ythplpoijkebjbaa

namespace Go.Proofs.Ythplpoijkebjbaa
open Go.RowKit
set_option linter.unusedVariables false

end Go.Proofs.Ythplpoijkebjbaa
