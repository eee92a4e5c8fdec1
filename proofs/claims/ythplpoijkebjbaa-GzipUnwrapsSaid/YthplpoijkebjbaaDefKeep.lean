/- Layer 5 (deflate): what a write to a writer leaves alone, as the iterator's contract asks it; and what abides the loop's book-keeping. There is no condition. -/
import Derived.Test.YthplpoijkebjbaaDefIter
import Derived.Test.YthplpoijkebjbaaHuffRW
import Derived.RangeFuncOwn
namespace Go.Proofs.Ythplpoijkebjbaa
open Go.RowKit

/-- Only blocks that are no cells may have changed, and new ones. -/
def Calm (W W' : World) : Prop := Chg (fun k => ∃ o : Obj, W.heap[k]? = some o ∧ o.isCells = false) W W'
theorem calm_of {W W' : World} {row : Option Nat} (h : W.grownBy W' row) (hr : ∀ r, row = some r → ∃ o : Obj, W.heap[r]? = some o ∧ o.isCells = false) : Calm W W' :=
  (chg_of_grown h).mono (fun i _ hi => hr i hi)
theorem calm_cells {W : World} {k : Nat} {cs : Array Value} {t : TypeId} {fz : Nat × Nat} (h : W.heap[k]? = some (.cells cs t fz)) : ¬ ∃ o : Obj, W.heap[k]? = some o ∧ o.isCells = false := by
  rintro ⟨o, ho, hc⟩
  rw [h] at ho
  injection ho with ho
  subst ho
  cases hc
theorem Blk.calm {W W' : World} {g : Nat} {t : TypeId} {cs : Array Value} (h : Blk W g t cs) (hc : Calm W W') : Blk W' g t cs := h.chg hc (calm_cells h)
theorem Ow.calm {W W' : World} {base n c : Nat} {e : TypeId} {A : Option Addr} {xs : List Value} (h : Ow W base e A n c xs) (hc : Calm W W') : Ow W' base e A n c xs := by
  refine h.chg hc (fun g hg => ?_)
  rcases h.2 with ⟨hv, _⟩ | ⟨g', cap, cur, hv, _, hh, _⟩
  · injection hv with e1
    rw [e1] at hg
    simp [blk] at hg
  · injection hv with e1
    rw [e1] at hg
    have : g' = g := by simpa [blk] using hg
    subst this
    exact calm_cells hh
theorem Rd.calm {W W' : World} {B n : Nat} {A : Option Addr} {xs : List Value} (h : Rd W B A n xs) (hc : Calm W W') : Rd W' B A n xs :=
  ⟨h.1, fun j hj => by
    obtain ⟨b, o, e, hb, hx⟩ := h.2 j hj
    have hj' : j < xs.length := by rw [h.1]; exact hj
    rw [List.getElem?_eq_getElem hj'] at hx
    obtain ⟨cs, t, fz, hk⟩ := row_of_cell hx
    refine ⟨b, o, e, hb, ?_⟩
    rw [List.getElem?_eq_getElem hj', ← hx]
    exact World.cell?_of_block (w := W) (hc.block b (lt_of_block hk) (calm_cells hk))⟩
theorem WrAt.calm {B g : Nat} {W W' : World} {l : List Bool} (h : WrAt B W g l) (hc : Calm W W') : WrAt B W' g l := by
  obtain ⟨A, ⟨c, hk, ho⟩, h2, h3⟩ := h
  exact ⟨A, ⟨c, hk.calm hc, ho.calm hc⟩, h2, Nat.le_trans h3 hc.size⟩
theorem CodeAt.calm {B g : Nat} {W W' : World} {ls : List Nat} (h : CodeAt B W g ls) (hc : Calm W W') : CodeAt B W' g ls := by
  obtain ⟨Ab, cb, Al, cl, Ao, co, h⟩ := h
  obtain ⟨cs, hk, hr⟩ := h.cells
  exact ⟨Ab, cb, Al, cl, Ao, co, ⟨cs, hk.calm hc, hr⟩, h.hg, h.ob.calm hc, h.ol.calm hc, fun s hs => (h.oo s hs).calm hc, h.apart, h.apartL⟩

/-- What a write to the writer at block g leaves alone. -/
structure Stp (g : Nat) (w w' : World) : Prop where
  x : KeepX w w'
  o : KeepsOthers w w'
  h : ∀ gb m, gb < w.heap.size → m ≤ w.heap.size → KpH g gb m w w'
theorem Stp.below {g : Nat} {w w' : World} (hb : Below w.heap.size w w') : Stp g w w' :=
  ⟨KeepX.below hb, ⟨hb.size, fun k _ hk _ => (hb.block k ((Array.getElem?_eq_some_iff.1 hk).1)).trans hk⟩, fun _ _ _ _ => KpH.below hb⟩
theorem Stp.trans {g : Nat} {a b c : World} (h : Stp g a b) (k : Stp g b c) : Stp g a c :=
  ⟨h.x.trans k.x, h.o.trans k.o, fun gb m hg hm => (h.h gb m hg hm).trans (k.h gb m (Nat.lt_of_lt_of_le hg h.x.1) (Nat.le_trans hm h.x.1))⟩
theorem hang_wr {B g : Nat} {A : Option Addr} {w : World} {l : List Bool} (h : WrIs w B g A l) (k : Nat) : Hang g w k ↔ (k = g ∨ blk A = some k) := by
  obtain ⟨c, hk, _⟩ := h
  unfold Hang
  have hc : w.cell? ⟨g, 0, none⟩ = some (.slice A (Bit.size l.length) c) := hk.cell 0
  constructor
  · rintro (h1 | ⟨A', n', c', h1, h2⟩)
    · exact .inl h1
    · rw [hc] at h1
      injection h1 with h1
      injection h1 with h1
      subst h1
      exact .inr h2
  · rintro (h1 | h1)
    · exact .inl h1
    · exact .inr ⟨A, _, _, hc, h1⟩
theorem Stp.wr {B g : Nat} {A : Option Addr} {w w' : World} {l l' : List Bool} (h : WrIs w B g A l) (hp : WrPost w B g A l' w') : Stp g w w' := by
  have hx := KeepX.wr h hp
  obtain ⟨A', h1, h2, h3⟩ := hp
  have hcell : ∀ k, (k = g ∨ blk A = some k) → ∃ cs t fz, w.heap[k]? = some (.cells cs t fz) := by
    obtain ⟨c, hk, ho⟩ := h
    rintro k (rfl | hk')
    · exact ⟨_, _, _, hk⟩
    · rcases ho.2 with ⟨hv, _⟩ | ⟨g', cap, cur, hv, _, hh, _⟩
      · injection hv with e1
        rw [e1] at hk'
        simp [blk] at hk'
      · injection hv with e1
        rw [e1] at hk'
        have : g' = k := by simpa [blk] using hk'
        subst this
        exact ⟨_, _, _, hh⟩
  refine ⟨hx, ⟨h2.size, fun k o hk ho => ?_⟩, fun gb m hgb hm hh => ?_⟩
  · refine (h2.block k ((Array.getElem?_eq_some_iff.1 hk).1) (fun hr => ?_)).trans hk
    obtain ⟨cs, t, fz, hc⟩ := hcell k hr
    rw [hc] at hk
    injection hk with hk
    subst hk
    cases ho
  · have hng : ∀ k, Hang g w' k → Hang g w k ∨ (w.heap.size ≤ k ∧ k < w'.heap.size) := fun k hk => by
      rcases (hang_wr h1 k).1 hk with rfl | hk
      · exact .inl (.inl rfl)
      · rcases h3 with h3 | ⟨i, hi, h3⟩
        · exact .inl ((hang_wr h k).2 (.inr (by rw [← h3]; exact hk)))
        · rw [h3] at hk
          injection hk with hk
          subst hk
          obtain ⟨c, _, ho⟩ := h1
          exact .inr ⟨hi, (ho.blk_lt i h3).2⟩
    refine ⟨⟨h2.size, fun k cs t fz hk hn => (h2.block k (lt_of_block hk) (fun hr => hn ((hang_wr h k).2 hr))).trans hk, fun k hk hk' => ?_⟩, fun k hk => ?_⟩
    · rcases hng k hk' with h4 | ⟨h4, _⟩
      · exact h4
      · omega
    · rcases hng k hk with h4 | ⟨h4, h5⟩
      · obtain ⟨g1, g2, g3⟩ := hh k h4
        exact ⟨Nat.lt_of_lt_of_le g1 h2.size, g2, g3⟩
      · exact ⟨h5, by omega, by omega⟩

theorem ktbits {B g : Nat} {w : World} {l : List Bool} (h : WrAt B w g l) (v n : Nat) (hl : l.length ≤ 1000000000000) (hv : v < 4294967296) (hn : n ≤ 32) :
    Calls Try.prog 70 #[.pointer (some ⟨g, 0, none⟩), .int .u32 (v : Int), .int .i64 (n : Int)] w fun e w' => e = .returned (.int .i64 0) ∧ WrAt B w' g (l ++ Bit.low v n) ∧ Below B w w' ∧ Stp g w w' := by
  obtain ⟨A, h1, h2, h3⟩ := h
  refine (wbits_ok g A l v n w B h1 h3 hl hv hn).mono ?_
  rintro e w' ⟨he, hp⟩
  exact ⟨he, (wr_step h1 h2 h3 hp).1, (wr_step h1 h2 h3 hp).2.1, Stp.wr h1 hp⟩
theorem ktturned {B g : Nat} {w : World} {l : List Bool} (h : WrAt B w g l) (v n : Nat) (hl : l.length ≤ 1000000000000) (hv : v < 4294967296) (hn : n ≤ 32) :
    Calls Try.prog 106 #[.pointer (some ⟨g, 0, none⟩), .int .u32 (v : Int), .int .i64 (n : Int)] w fun e w' => e = .returned (.int .i64 0) ∧ WrAt B w' g (l ++ (Bit.low v n).reverse) ∧ Below B w w' ∧ Stp g w w' := by
  obtain ⟨A, h1, h2, h3⟩ := h
  refine (wturned_ok g A l v n w B h1 h3 hl hv hn).mono ?_
  rintro e w' ⟨he, hp⟩
  exact ⟨he, (wr_step h1 h2 h3 hp).1, (wr_step h1 h2 h3 hp).2.1, Stp.wr h1 hp⟩
set_option maxRecDepth 100000 in
theorem kwrite (g gw B0 B : Nat) (ls : List Nat) (L : List Bool) (i : Nat) (w : World) (h : CodeAt B0 w g ls) (hw : WrAt B w gw L) (hL : L.length ≤ 1000000000000) (hn : ls.length ≤ 288) (h15 : ∀ x ∈ ls, x ≤ 15) (hs : Huf.sum ls ≤ 32768) (hi : i < ls.length) (h0 : ls[i] ≠ 0) :
    Calls Try.prog 74 #[.pointer (some ⟨g, 0, none⟩), .pointer (some ⟨gw, 0, none⟩), .int .i64 (i : Int)] w fun e w' => e = .returned (.int .i64 0) ∧ WrAt B w' gw (L ++ Huf.word (Huf.bits ls 16 i) ls[i]) ∧ Below B w w' ∧ Stp gw w w' := by
  have hof := hide (of_in g ls i w B0 h hn hi)
  have hy := Huf.bits_lt ls h15 hs i hi
  have hx15 := h15 ls[i] (List.getElem_mem hi)
  generalize ls[i] = x at *
  generalize Huf.bits ls 16 i = y at *
  have hwt := hide (fun k => ktturned (hw.below (below_drewN (Below.refl _ w) k)) y x hL (by omega) (by omega))
  have hxb : ((x : Int) == 0) = false := by simp; omega
  have hBk := hide (fun k => below_drewN (Below.refl B w) k)
  have hBs := hide (fun k => Stp.below (g := gw) (below_drewN (Below.refl w.heap.size w) k))
  clear hy hL h h15 hs hi
  go_enter Try.func74, Try.ntmps74
  go_wp2_with (first
    | (go_at_call 105; (with_reducible refine hof.out.mono ?_); rintro e w1 ⟨rfl, k1, rfl⟩)
    | (go_at_call 106; (with_reducible refine (hwt.out k1).mono ?_); rintro e w2 ⟨rfl, h2, hb2, hx2⟩))
  go_ret
  exact ⟨rfl, h2, (hBk.out k1).trans hb2, (hBs.out k1).trans hx2⟩

end Go.Proofs.Ythplpoijkebjbaa
