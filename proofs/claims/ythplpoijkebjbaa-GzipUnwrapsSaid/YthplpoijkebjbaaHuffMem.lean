/- A code of layer 3 in memory: a block of 34 cells, its slices, and what a store into each of them leaves. There is no condition. -/
import Derived.Test.YthplpoijkebjbaaHuffK
namespace Go.Proofs.Ythplpoijkebjbaa
open Go.RowKit

def uv (x : Nat) : Value := .int .u32 (x : Int)
def jv (x : Nat) : Value := .int .i64 (x : Int)
def upd {α : Type} (f : Nat → α) (s : Nat) (v : α) : Nat → α := fun t => if t = s then v else f t
theorem upd_same {α : Type} (f : Nat → α) (s : Nat) (v : α) : upd f s v s = v := if_pos rfl
theorem upd_ne {α : Type} (f : Nat → α) {s t : Nat} (v : α) (h : t ≠ s) : upd f s v t = f t := if_neg h

/-- A code that is being made, or is made: at block g. -/
structure Cd (w : World) (B g n : Nat) (Ab : Option Addr) (cb : Nat) (Al : Option Addr) (cl : Nat) (ls : List Nat) (fs : Nat → Nat) (Ao : Nat → Option Addr) (co : Nat → Nat) (os : Nat → List Nat) (bits : Nat → Nat) : Prop where
  cells : ∃ cs, Blk w g 147 cs ∧ cs.size = 34 ∧ cs[0]? = some (.slice Ab n cb) ∧ cs[1]? = some (.slice Al n cl) ∧ (∀ s, s < 16 → cs[2 + s]? = some (.int .u32 (fs s : Int))) ∧ (∀ s, s < 16 → cs[18 + s]? = some (.slice (Ao s) (os s).length (co s)))
  hg : B ≤ g
  ob : Ow w B 33 Ab n cb ((List.range n).map fun i => uv (bits i))
  ol : Ow w B 3 Al n cl ((nz ls).map iv)
  oo : ∀ s, s < 16 → Ow w B 3 (Ao s) (os s).length (co s) ((os s).map jv)
  apart : ∀ s t k, s < 16 → t < 16 → blk (Ao s) = some k → blk (Ao t) = some k → s = t
  apartL : ∀ s k, s < 16 → blk (Ao s) = some k → blk Al ≠ some k

section
variable {w w' : World} {B g n : Nat} {Ab : Option Addr} {cb : Nat} {Al : Option Addr} {cl : Nat} {ls : List Nat} {fs : Nat → Nat} {Ao : Nat → Option Addr} {co : Nat → Nat} {os : Nat → List Nat} {bits : Nat → Nat}
theorem Cd.lt (h : Cd w B g n Ab cb Al cl ls fs Ao co os bits) : g < w.heap.size := by
  obtain ⟨cs, hk, _⟩ := h.cells
  exact hk.lt
theorem Cd.hB (h : Cd w B g n Ab cb Al cl ls fs Ao co os bits) : B ≤ w.heap.size := Nat.le_of_lt (Nat.lt_of_le_of_lt h.hg h.lt)
theorem Cd.below (h : Cd w B g n Ab cb Al cl ls fs Ao co os bits) (hb : Below w.heap.size w w') : Cd w' B g n Ab cb Al cl ls fs Ao co os bits := by
  obtain ⟨cs, hk, hr⟩ := h.cells
  exact ⟨⟨cs, hk.below hb hk.lt, hr⟩, h.hg, h.ob.below hb, h.ol.below hb, fun s hs => (h.oo s hs).below hb, h.apart, h.apartL⟩
theorem Cd.cellb (h : Cd w B g n Ab cb Al cl ls fs Ao co os bits) : w.cell? ⟨g, 0, none⟩ = some (.slice Ab n cb) := by
  obtain ⟨cs, hk, _, h0, _⟩ := h.cells
  rw [hk.cell, h0]
theorem Cd.celll (h : Cd w B g n Ab cb Al cl ls fs Ao co os bits) : w.cell? ⟨g, 1, none⟩ = some (.slice Al n cl) := by
  obtain ⟨cs, hk, _, _, h0, _⟩ := h.cells
  rw [hk.cell, h0]
theorem Cd.cellf (h : Cd w B g n Ab cb Al cl ls fs Ao co os bits) (s : Nat) (hs : s < 16) : w.cell? ⟨g, 2 + s, none⟩ = some (.int .u32 (fs s : Int)) := by
  obtain ⟨cs, hk, _, _, _, h0, _⟩ := h.cells
  rw [hk.cell, h0 s hs]
theorem Cd.cello (h : Cd w B g n Ab cb Al cl ls fs Ao co os bits) (s : Nat) (hs : s < 16) : w.cell? ⟨g, 18 + s, none⟩ = some (.slice (Ao s) (os s).length (co s)) := by
  obtain ⟨cs, hk, _, _, _, _, h0⟩ := h.cells
  rw [hk.cell, h0 s hs]
theorem Cd.free (h : Cd w B g n Ab cb Al cl ls fs Ao co os bits) (i : Nat) : w.frozen? ⟨g, i, none⟩ = false := by
  obtain ⟨cs, hk, _⟩ := h.cells
  exact hk.free i

/-- The list of length s grows by one, and its header is stored. -/
theorem Cd.push (h : Cd w B g n Ab cb Al cl ls fs Ao co os bits) (s : Nat) (hs : s < 16) (i : Nat) {A' : Option Addr} {c' m : Nat} (hm : m = (os s).length + 1) (ho : Ow w' B 3 A' m c' ((os s).map jv ++ [jv i])) (hc : Chg (fun k => blk (Ao s) = some k) w w')
    (hn : blk A' = blk (Ao s) ∨ ∃ k, w.heap.size ≤ k ∧ blk A' = some k) :
    Cd (w'.setCell ⟨g, 18 + s, none⟩ (.slice A' m c')) B g n Ab cb Al cl ls fs (upd Ao s A') (upd co s c') (upd os s (os s ++ [i])) bits ∧ Below B w (w'.setCell ⟨g, 18 + s, none⟩ (.slice A' m c')) := by
  subst hm
  obtain ⟨cs, hk, hsz, h0, h1, h2, h3⟩ := h.cells
  have hkg : ∀ k, blk (Ao s) = some k → k ≠ g := by
    rintro k hk' rfl
    exact (h.oo s hs).ne hk (by decide) hk'
  have hk' := hk.chg hc (fun hx => hkg g hx rfl)
  have hset : Chg (fun k => k = g) w' (w'.setCell ⟨g, 18 + s, none⟩ (.slice A' ((os s).length + 1) c')) := (Chg.refl (fun k => k = g) w').setCell (p := ⟨g, 18 + s, none⟩) (.inr rfl) _
  have hA'g : ∀ k, blk A' = some k → k ≠ g := by
    rintro k hk2 rfl
    exact ho.ne hk' (by decide) hk2
  have hnew : ∀ k, blk A' = some k → blk (Ao s) = some k ∨ w.heap.size ≤ k := by
    intro k hk2
    rcases hn with hn | ⟨k', h1, h2⟩
    · exact .inl (by rw [← hn]; exact hk2)
    · rw [h2] at hk2
      injection hk2 with hk2
      exact .inr (by omega)
  refine ⟨⟨⟨_, hk'.set (18 + s) _, by rw [Array.size_setIfInBounds, hsz], ?_, ?_, ?_, ?_⟩, h.hg, ?_, ?_, ?_, ?_, ?_⟩, (hc.to_below h.hB (fun k hk2 => ((h.oo s hs).blk_lt k hk2).1)).trans (hset.to_below (Nat.le_trans h.hB hc.size) (by rintro k rfl; exact h.hg))⟩
  · rw [Array.getElem?_setIfInBounds_ne (by omega), h0]
  · rw [Array.getElem?_setIfInBounds_ne (by omega), h1]
  · intro t ht
    rw [Array.getElem?_setIfInBounds_ne (by omega), h2 t ht]
  · intro t ht
    by_cases e : t = s
    · subst e
      rw [Array.getElem?_setIfInBounds_self_of_lt (by omega), upd_same, upd_same, upd_same, List.length_append]
      rfl
    · rw [Array.getElem?_setIfInBounds_ne (by omega), h3 t ht, upd_ne _ _ e, upd_ne _ _ e, upd_ne _ _ e]
  · refine (h.ob.chg hc ?_).chg hset ?_
    · intro k hk2 hk3
      exact h.ob.ne_ow (h.oo s hs) (by decide) k hk2 hk3
    · rintro k hk2 rfl
      exact h.ob.ne hk (by decide) hk2
  · refine (h.ol.chg hc ?_).chg hset ?_
    · intro k hk2 hk3
      exact h.apartL s k hs hk3 hk2
    · rintro k hk2 rfl
      exact h.ol.ne hk (by decide) hk2
  · intro t ht
    by_cases e : t = s
    · subst e
      simp only [upd_same, List.length_append, List.length_singleton, List.map_append]
      refine ho.chg hset ?_
      intro k hk2
      exact hA'g k hk2
    · simp only [upd_ne _ _ e]
      refine ((h.oo t ht).chg hc ?_).chg hset ?_
      · intro k hk2 hk3
        exact e (h.apart t s k ht hs hk2 hk3)
      · rintro k hk2 rfl
        exact (h.oo t ht).ne hk (by decide) hk2
  · intro a b k ha hb h4 h5
    by_cases ea : a = s
    · by_cases eb : b = s
      · omega
      · subst ea
        rw [upd_same] at h4
        rw [upd_ne _ _ eb] at h5
        rcases hnew k h4 with h6 | h6
        · exact h.apart _ _ k ha hb h6 h5
        · have := ((h.oo b hb).blk_lt k h5).2
          omega
    · rw [upd_ne _ _ ea] at h4
      by_cases eb : b = s
      · subst eb
        rw [upd_same] at h5
        rcases hnew k h5 with h6 | h6
        · exact h.apart _ _ k ha hb h4 h6
        · have := ((h.oo a ha).blk_lt k h4).2
          omega
      · rw [upd_ne _ _ eb] at h5
        exact h.apart _ _ k ha hb h4 h5
  · intro a k ha h4 h5
    by_cases ea : a = s
    · subst ea
      rw [upd_same] at h4
      rcases hnew k h4 with h6 | h6
      · exact h.apartL _ k ha h6 h5
      · have := (h.ol.blk_lt k h5).2
        omega
    · rw [upd_ne _ _ ea] at h4
      exact h.apartL _ k ha h4 h5

/-- The first number of length s is stored. -/
theorem Cd.first (h : Cd w B g n Ab cb Al cl ls fs Ao co os bits) (s : Nat) (hs : s < 16) (v : Nat) :
    Cd (w.setCell ⟨g, 2 + s, none⟩ (.int .u32 (v : Int))) B g n Ab cb Al cl ls (upd fs s v) Ao co os bits ∧ Below B w (w.setCell ⟨g, 2 + s, none⟩ (.int .u32 (v : Int))) := by
  obtain ⟨cs, hk, hsz, h0, h1, h2, h3⟩ := h.cells
  have hset : Chg (fun k => k = g) w (w.setCell ⟨g, 2 + s, none⟩ (.int .u32 (v : Int))) := (Chg.refl (fun k => k = g) w).setCell (p := ⟨g, 2 + s, none⟩) (.inr rfl) _
  refine ⟨⟨⟨_, hk.set (2 + s) _, by rw [Array.size_setIfInBounds, hsz], ?_, ?_, ?_, ?_⟩, h.hg, ?_, ?_, ?_, h.apart, h.apartL⟩, hset.to_below h.hB (by rintro k rfl; exact h.hg)⟩
  · rw [Array.getElem?_setIfInBounds_ne (by omega), h0]
  · rw [Array.getElem?_setIfInBounds_ne (by omega), h1]
  · intro t ht
    by_cases e : t = s
    · subst e
      rw [Array.getElem?_setIfInBounds_self_of_lt (by omega), upd_same]
    · rw [Array.getElem?_setIfInBounds_ne (by omega), h2 t ht, upd_ne _ _ e]
  · intro t ht
    rw [Array.getElem?_setIfInBounds_ne (by omega), h3 t ht]
  · refine h.ob.chg hset ?_
    rintro k hk2 rfl
    exact h.ob.ne hk (by decide) hk2
  · refine h.ol.chg hset ?_
    rintro k hk2 rfl
    exact h.ol.ne hk (by decide) hk2
  · intro t ht
    refine (h.oo t ht).chg hset ?_
    rintro k hk2 rfl
    exact (h.oo t ht).ne hk (by decide) hk2

/-- The bits of symbol i are stored. -/
theorem Cd.bit {gb : Nat} (h : Cd w B g n (some ⟨gb, 0, none⟩) cb Al cl ls fs Ao co os bits) (i : Nat) (v : Nat) :
    Cd (w.setCell ⟨gb, i, none⟩ (.int .u32 (v : Int))) B g n (some ⟨gb, 0, none⟩) cb Al cl ls fs Ao co os (upd bits i v) ∧ Below B w (w.setCell ⟨gb, i, none⟩ (.int .u32 (v : Int))) := by
  obtain ⟨cs, hk, hr⟩ := h.cells
  have hset : Chg (fun k => k = gb) w (w.setCell ⟨gb, i, none⟩ (.int .u32 (v : Int))) := (Chg.refl (fun k => k = gb) w).setCell (p := ⟨gb, i, none⟩) (.inr rfl) _
  have hbg : g ≠ gb := by
    rintro rfl
    exact h.ob.ne hk (by decide) rfl
  refine ⟨⟨⟨cs, hk.chg hset hbg, hr⟩, h.hg, ?_, ?_, ?_, h.apart, h.apartL⟩, hset.to_below h.hB (by rintro k rfl; exact (h.ob.blk_lt k rfl).1)⟩
  · have h1 := h.ob.set i (uv v)
    have e : ((List.range n).map fun j => uv (bits j)).set i (uv v) = (List.range n).map fun j => uv (upd bits i v j) := by
      apply List.ext_getElem
      · simp
      · intro j h2 h3
        rw [List.getElem_set]
        simp only [List.getElem_map, List.getElem_range]
        by_cases e : i = j
        · subst e; rw [if_pos rfl, upd_same]
        · rw [if_neg e, upd_ne _ _ (Ne.symm e)]
    rw [e] at h1
    exact h1
  · refine h.ol.chg hset ?_
    rintro k hk2 rfl
    exact h.ol.ne_ow h.ob (by decide) k hk2 rfl
  · intro t ht
    refine (h.oo t ht).chg hset ?_
    rintro k hk2 rfl
    exact (h.oo t ht).ne_ow h.ob (by decide) k hk2 rfl
end

theorem elem_int : Elem1 Try.prog 53 3 (.int .i64 0) 8 := ⟨Try.underlying53, by kernel_rfl, rfl⟩
end Go.Proofs.Ythplpoijkebjbaa
