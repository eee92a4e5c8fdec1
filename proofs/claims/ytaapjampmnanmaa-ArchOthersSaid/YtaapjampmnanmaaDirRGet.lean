/- Layer 12 (dir): the document's Get, of any bytes: a walk. The conditions: where the slice lies, and its length. -/
import Derived.Test.YtaapjampmnanmaaDirGet
import Derived.BigRegion
import Derived.StillTailTactics
import Derived.Deep.DeepCutAuto
namespace Go.Proofs.Ytaapjampmnanmaa
open Go.RowKit

theorem Ok.back {bs : List UInt8} {n p0 k p : Nat} (h : Ok bs n p0 k p) (j : Nat) (hj : j ≤ k) : ∃ p', Ok bs n p0 j p' := by
  by_cases h0 : (rdTo bs n p0 j).2.2 = 0
  · refine ⟨(rdTo bs n p0 j).2.1, ?_⟩
    unfold Ok
    obtain ⟨⟨a, b, e⟩, hs⟩ : ∃ s, rdTo bs n p0 j = s := ⟨_, rfl⟩
    rw [hs] at h0 ⊢
    simp only at h0 ⊢
    rw [h0]
  · have := rd_stay bs n p0 j k hj h0
    unfold Ok at h
    rw [this] at h
    rw [h] at h0
    exact absurd rfl h0
theorem Ok.nz {bs : List UInt8} {n p0 p : Nat} (h : Ok bs n p0 (4 * n) p) (hn : 0 < n) : val bs n p0 (3 * n) ≠ 0 := by
  obtain ⟨p', h'⟩ := h.back (3 * n) (by omega)
  obtain ⟨⟨v, nx, er⟩, hv⟩ : ∃ s, vr bs p' = s := ⟨_, rfl⟩
  obtain ⟨h1, h2, h3⟩ := h'.next (by omega) hv
  have he := h.done.1
  by_cases h0 : er = 0
  · by_cases hz : v = 0
    · rw [h2 h0 ⟨rfl, hz⟩] at he
      exact absurd he (by decide)
    · rw [(h3 h0 (fun h => hz h.2)).2]
      exact hz
  · rw [h1 h0] at he
    exact absurd he h0

/-- While an entry is made in a block of its own. -/
structure Mk (w W : World) (G s : Nat) (A12 : Option Addr) (c12 : Nat) (es : List Ent) (A7 : Option Addr) (n4 c7 : Nat) (V : List Nat) (x : Ent) : Prop where
  k : Blk W s 57 #[.int .u64 (x.id : Int), .int .u64 (x.off : Int), .int .u64 (x.len : Int), .int .u64 (x.run : Int)]
  e : OwE W G A12 c12 es
  o : Ow W G 45 A7 n4 c7 (V.map qv)
  b : Below G w W
  g : G ≤ s
  n12 : blk A12 ≠ some s
  n7 : blk A7 ≠ some s
section
variable {w W wr : World} {G s : Nat} {A12 : Option Addr} {c12 : Nat} {es : List Ent} {A7 : Option Addr} {n4 c7 : Nat} {V : List Nat} {x : Ent}
theorem Mk.new (he : OwE wr G A12 c12 es) (ho : Ow wr G 45 A7 n4 c7 (V.map qv)) (hb : Below G w wr) (hG : G ≤ wr.heap.size) (x : Ent) :
    Mk w (wr.alloc (.cells #[.int .u64 (x.id : Int), .int .u64 (x.off : Int), .int .u64 (x.len : Int), .int .u64 (x.run : Int)] 57)).drew G wr.heap.size A12 c12 es A7 n4 c7 V x :=
  ⟨(Blk.new wr _ _).drew, he.chg ((Chg.refl (fun _ => False) wr).alloc _).drew (fun _ _ h => h), ho.chg ((Chg.refl (fun _ => False) wr).alloc _).drew (fun _ _ h => h),
    hb.trans (((Chg.refl (fun _ => False) wr).alloc _).drew.to_below hG (fun _ h => absurd h id)), hG, fun h => by have := (he.blk_lt _ h).2; omega, fun h => by have := (ho.blk_lt _ h).2; omega⟩
theorem Mk.set (h : Mk w W G s A12 c12 es A7 n4 c7 V x) (j y : Nat) (x' : Ent) (hx : (j = 0 ∧ x' = { x with id := y }) ∨ (j = 1 ∧ x' = { x with off := y })) :
    Mk w (W.setCell ⟨s, j, none⟩ (.int .u64 (y : Int))) G s A12 c12 es A7 n4 c7 V x' := by
  have hc : Chg (fun k => k = s) W (W.setCell ⟨s, j, none⟩ (.int .u64 (y : Int))) := (Chg.refl (fun k => k = s) W).setCell (p := ⟨s, j, none⟩) (.inr rfl) _
  refine ⟨?_, h.e.chg hc (fun g hg e => h.n12 (by rw [hg, e])), h.o.chg hc (fun g hg e => h.n7 (by rw [hg, e])), h.b.trans (hc.to_below (Nat.le_trans h.g (Nat.le_of_lt h.k.lt)) (by rintro i rfl; exact h.g)), h.g, h.n12, h.n7⟩
  rcases hx with ⟨rfl, rfl⟩ | ⟨rfl, rfl⟩
  · exact h.k.set 0 _
  · exact h.k.set 1 _
theorem Mk.drew (h : Mk w W G s A12 c12 es A7 n4 c7 V x) : Mk w W.drew G s A12 c12 es A7 n4 c7 V x :=
  ⟨h.k.drew, h.e.chg (Chg.refl (fun _ => False) _).drew (fun _ _ h => h), h.o.drew, h.b.trans ⟨rfl, rfl, rfl, Nat.le_refl _, fun _ _ => rfl⟩, h.g, h.n12, h.n7⟩
theorem Mk.cells (h : Mk w W G s A12 c12 es A7 n4 c7 V x) : W.cell? ⟨s, 0, none⟩ = some (.int .u64 (x.id : Int)) ∧ W.cell? ⟨s, 1, none⟩ = some (.int .u64 (x.off : Int)) ∧ W.cell? ⟨s, 2, none⟩ = some (.int .u64 (x.len : Int)) ∧ W.cell? ⟨s, 3, none⟩ = some (.int .u64 (x.run : Int)) :=
  ⟨h.k.cell 0, h.k.cell 1, h.k.cell 2, h.k.cell 3⟩
/-- After the append. -/
theorem Mk.push {w2 : World} (h : Mk w W G s A12 c12 es A7 n4 c7 V x) (hc : Chg (fun k => blk A12 = some k) W w2) : Ow w2 G 45 A7 n4 c7 (V.map qv) ∧ Below G w w2 :=
  ⟨h.o.chg hc (fun g hg hg' => h.e.ne_ow h.o (by decide) g hg' hg), h.b.trans (hc.to_below (Nat.le_trans h.g (Nat.le_of_lt h.k.lt)) (fun k hk => (h.e.blk_lt k hk).1))⟩
end

end Go.Proofs.Ytaapjampmnanmaa
