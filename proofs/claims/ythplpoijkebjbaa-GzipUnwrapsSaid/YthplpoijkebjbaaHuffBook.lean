/- The reference's book of a code in memory, and the walk that makes it. There is no condition but where the slice lies. -/
import Derived.Test.YthplpoijkebjbaaHuffNew
import Derived.Laws.Rows
import Derived.Laws.Tables
import Derived.Deep.AppendLies
import Derived.Deep.RegionLaw
namespace Go.Proofs.Ythplpoijkebjbaa
open Go.RowKit

/-- The cells of a book: of each length the first number, and the symbols. -/
structure BkCells (cs : Array Value) (fs : Nat → Nat) (Ao : Nat → Option Addr) (co : Nat → Nat) (os : Nat → List Nat) : Prop where
  size : cs.size = 32
  first : ∀ s, s < 16 → cs[s]? = some (.int .i64 (fs s : Int))
  of : ∀ s, s < 16 → cs[16 + s]? = some (.slice (Ao s) (os s).length (co s))
structure Bk (w : World) (B g : Nat) (fs : Nat → Nat) (Ao : Nat → Option Addr) (co : Nat → Nat) (os : Nat → List Nat) : Prop where
  cells : ∃ cs, Blk w g 132 cs ∧ BkCells cs fs Ao co os
  hg : B ≤ g
  oo : ∀ s, s < 16 → Ow w B 3 (Ao s) (os s).length (co s) ((os s).map jv)
  apart : ∀ s t k, s < 16 → t < 16 → blk (Ao s) = some k → blk (Ao t) = some k → s = t

section
variable {w w' : World} {B g : Nat} {fs : Nat → Nat} {Ao : Nat → Option Addr} {co : Nat → Nat} {os : Nat → List Nat}
theorem Bk.lt (h : Bk w B g fs Ao co os) : g < w.heap.size := by
  obtain ⟨cs, hk, _⟩ := h.cells
  exact hk.lt
theorem Bk.hB (h : Bk w B g fs Ao co os) : B ≤ w.heap.size := Nat.le_of_lt (Nat.lt_of_le_of_lt h.hg h.lt)
theorem Bk.below (h : Bk w B g fs Ao co os) (hb : Below w.heap.size w w') : Bk w' B g fs Ao co os := by
  obtain ⟨cs, hk, hr⟩ := h.cells
  exact ⟨⟨cs, hk.below hb hk.lt, hr⟩, h.hg, fun s hs => (h.oo s hs).below hb, h.apart⟩
theorem Bk.cellf (h : Bk w B g fs Ao co os) (s : Nat) (hs : s < 16) : w.cell? ⟨g, s, none⟩ = some (.int .i64 (fs s : Int)) := by
  obtain ⟨cs, hk, h0⟩ := h.cells
  rw [hk.cell, h0.first s hs]
theorem Bk.cello (h : Bk w B g fs Ao co os) (s : Nat) (hs : s < 16) : w.cell? ⟨g, 16 + s, none⟩ = some (.slice (Ao s) (os s).length (co s)) := by
  obtain ⟨cs, hk, h0⟩ := h.cells
  rw [hk.cell, h0.of s hs]
theorem Bk.free (h : Bk w B g fs Ao co os) (i : Nat) : w.frozen? ⟨g, i, none⟩ = false := by
  obtain ⟨cs, hk, _⟩ := h.cells
  exact hk.free i
theorem Bk.free_chg (h : Bk w B g fs Ao co os) {s : Nat} (hs : s < 16) (hc : Chg (fun k => blk (Ao s) = some k) w w') (i : Nat) : w'.frozen? ⟨g, i, none⟩ = false := by
  obtain ⟨cs, hk, _⟩ := h.cells
  exact (hk.chg hc (fun hx => (h.oo s hs).ne hk (by decide) hx)).free i
theorem Bk.cell_chg (h : Bk w B g fs Ao co os) {s : Nat} (hs : s < 16) (hc : Chg (fun k => blk (Ao s) = some k) w w') {i : Nat} {v : Value} (hv : w.cell? ⟨g, i, none⟩ = some v) : w'.cell? ⟨g, i, none⟩ = some v := by
  obtain ⟨cs, hk, _⟩ := h.cells
  exact hc.cell hv (fun hx => (h.oo s hs).ne hk (by decide) hx)

theorem Bk.push (h : Bk w B g fs Ao co os) (s : Nat) (hs : s < 16) (i : Nat) {A' : Option Addr} {c' m : Nat} (hm : m = (os s).length + 1) (ho : Ow w' B 3 A' m c' ((os s).map jv ++ [jv i])) (hc : Chg (fun k => blk (Ao s) = some k) w w')
    (hn : blk A' = blk (Ao s) ∨ ∃ k, w.heap.size ≤ k ∧ blk A' = some k) :
    Bk (w'.setCell ⟨g, 16 + s, none⟩ (.slice A' m c')) B g fs (upd Ao s A') (upd co s c') (upd os s (os s ++ [i])) ∧ Below B w (w'.setCell ⟨g, 16 + s, none⟩ (.slice A' m c')) := by
  subst hm
  obtain ⟨cs, hk, hcs⟩ := h.cells
  have hsz := hcs.size
  have hkg : ∀ k, blk (Ao s) = some k → k ≠ g := by
    rintro k hk' rfl
    exact (h.oo s hs).ne hk (by decide) hk'
  have hk' := hk.chg hc (fun hx => hkg g hx rfl)
  have hset : Chg (fun k => k = g) w' (w'.setCell ⟨g, 16 + s, none⟩ (.slice A' ((os s).length + 1) c')) := (Chg.refl (fun k => k = g) w').setCell (p := ⟨g, 16 + s, none⟩) (.inr rfl) _
  have hA'g : ∀ k, blk A' = some k → k ≠ g := by
    rintro k hk2 rfl
    exact ho.ne hk' (by decide) hk2
  have hnew : ∀ k, blk A' = some k → blk (Ao s) = some k ∨ w.heap.size ≤ k := by
    intro k hk2
    rcases hn with hn | ⟨k', h1, h2⟩
    · exact .inl (by rw [← hn]; exact hk2)
    · rw [h2] at hk2
      injection hk2 with hk2
      exact .inr (by omega)
  refine ⟨⟨⟨_, hk'.set (16 + s) _, ⟨by rw [Array.size_setIfInBounds, hsz], ?_, ?_⟩⟩, h.hg, ?_, ?_⟩, (hc.to_below h.hB (fun k hk2 => ((h.oo s hs).blk_lt k hk2).1)).trans (hset.to_below (Nat.le_trans h.hB hc.size) (by rintro k rfl; exact h.hg))⟩
  · intro t ht
    rw [Array.getElem?_setIfInBounds_ne (by omega), hcs.first t ht]
  · intro t ht
    by_cases e : t = s
    · subst e
      rw [Array.getElem?_setIfInBounds_self_of_lt (by omega), upd_same, upd_same, upd_same, List.length_append]
      rfl
    · rw [Array.getElem?_setIfInBounds_ne (by omega), hcs.of t ht, upd_ne _ _ e, upd_ne _ _ e, upd_ne _ _ e]
  · intro t ht
    by_cases e : t = s
    · subst e
      simp only [upd_same, List.length_append, List.length_singleton, List.map_append]
      refine ho.chg hset ?_
      intro k hk2
      exact hA'g k hk2
    · simp only [upd_ne _ _ e]
      refine ((h.oo t ht).chg hc ?_).chg hset ?_
      · intro k hk2 hk3
        exact e (h.apart t s k ht hs hk2 hk3)
      · rintro k hk2 rfl
        exact (h.oo t ht).ne hk (by decide) hk2
  · intro a b k ha hb h4 h5
    by_cases ea : a = s
    · by_cases eb : b = s
      · omega
      · subst ea
        rw [upd_same] at h4
        rw [upd_ne _ _ eb] at h5
        rcases hnew k h4 with h6 | h6
        · exact h.apart _ _ k ha hb h6 h5
        · have := ((h.oo b hb).blk_lt k h5).2
          omega
    · rw [upd_ne _ _ ea] at h4
      by_cases eb : b = s
      · subst eb
        rw [upd_same] at h5
        rcases hnew k h5 with h6 | h6
        · exact h.apart _ _ k ha hb h4 h6
        · have := ((h.oo a ha).blk_lt k h4).2
          omega
      · rw [upd_ne _ _ eb] at h5
        exact h.apart _ _ k ha hb h4 h5

theorem Bk.first (h : Bk w B g fs Ao co os) (s : Nat) (hs : s < 16) (v : Nat) :
    Bk (w.setCell ⟨g, s, none⟩ (.int .i64 (v : Int))) B g (upd fs s v) Ao co os ∧ Below B w (w.setCell ⟨g, s, none⟩ (.int .i64 (v : Int))) := by
  obtain ⟨cs, hk, hcs⟩ := h.cells
  have hsz := hcs.size
  have hset : Chg (fun k => k = g) w (w.setCell ⟨g, s, none⟩ (.int .i64 (v : Int))) := (Chg.refl (fun k => k = g) w).setCell (p := ⟨g, s, none⟩) (.inr rfl) _
  refine ⟨⟨⟨_, hk.set s _, ⟨by rw [Array.size_setIfInBounds, hsz], ?_, ?_⟩⟩, h.hg, ?_, h.apart⟩, hset.to_below h.hB (by rintro k rfl; exact h.hg)⟩
  · intro t ht
    by_cases e : t = s
    · subst e
      rw [Array.getElem?_setIfInBounds_self_of_lt (by omega), upd_same]
    · rw [Array.getElem?_setIfInBounds_ne (by omega), hcs.first t ht, upd_ne _ _ e]
  · intro t ht
    rw [Array.getElem?_setIfInBounds_ne (by omega), hcs.of t ht]
  · intro t ht
    refine (h.oo t ht).chg hset ?_
    rintro k hk2 rfl
    exact (h.oo t ht).ne hk (by decide) hk2
theorem Bk.congr {fs' : Nat → Nat} (h : Bk w B g fs Ao co os) (hf : ∀ s, s < 16 → fs s = fs' s) : Bk w B g fs' Ao co os := by
  obtain ⟨cs, hk, hcs⟩ := h.cells
  exact ⟨⟨cs, hk, hcs.size, fun s hs => by rw [hcs.first s hs, hf s hs], hcs.of⟩, h.hg, h.oo, h.apart⟩
end

def book0 : Array Value :=
  #[.int .i64 0, .int .i64 0, .int .i64 0, .int .i64 0, .int .i64 0, .int .i64 0, .int .i64 0, .int .i64 0, .int .i64 0, .int .i64 0, .int .i64 0, .int .i64 0, .int .i64 0, .int .i64 0, .int .i64 0, .int .i64 0,
    .slice none 0 0, .slice none 0 0, .slice none 0 0, .slice none 0 0, .slice none 0 0, .slice none 0 0, .slice none 0 0, .slice none 0 0, .slice none 0 0, .slice none 0 0, .slice none 0 0, .slice none 0 0, .slice none 0 0, .slice none 0 0, .slice none 0 0, .slice none 0 0]
theorem Bk.start {w : World} {B g : Nat} (hB : B ≤ g) (hk : Blk w g 132 book0) : Bk w B g (fun _ => 0) (fun _ => none) (fun _ => 0) (fun _ => []) := by
  refine ⟨⟨_, hk, rfl, ?_, ?_⟩, hB, fun s _ => Ow.nil _ _ _, ?_⟩
  · intro s hs
    match s, hs with
    | 0, _ | 1, _ | 2, _ | 3, _ | 4, _ | 5, _ | 6, _ | 7, _ | 8, _ | 9, _ | 10, _ | 11, _ | 12, _ | 13, _ | 14, _ | 15, _ => rfl
    | s + 16, hs => omega
  · intro s hs
    match s, hs with
    | 0, _ | 1, _ | 2, _ | 3, _ | 4, _ | 5, _ | 6, _ | 7, _ | 8, _ | 9, _ | 10, _ | 11, _ | 12, _ | 13, _ | 14, _ | 15, _ => rfl
    | s + 16, hs => omega
  · intro s t k _ _ h; simp [blk] at h

/-- The book of the lengths ls, as a value: its lists lie above B. -/
def BookV (B : Nat) (w : World) (ls : List Nat) (cs : Array Value) : Prop := ∃ Ao co, BkCells cs (Huf.first ls) Ao co (Huf.lists ls ls.length) ∧ ∀ s, s < 16 → Ow w B 3 (Ao s) (Huf.lists ls ls.length s).length (co s) ((Huf.lists ls ls.length s).map jv)

theorem info_book : (Try.prog.info? 132).map (·.size) = some 32 := by kernel_rfl
theorem info_book' {cs : Array Value} (h : cs.size = 32) : (Try.prog.info? 132).map (·.size) = some cs.size := by rw [h]; exact info_book
theorem BkCells.one {cs : Array Value} {fs : Nat → Nat} {Ao : Nat → Option Addr} {co : Nat → Nat} {os : Nat → List Nat} (h : BkCells cs fs Ao co os) : cs.all (·.oneCell') = true := by
  rw [Array.all_eq_true]
  intro i hi
  have hs := h.size
  by_cases hc : i < 16
  · have := h.first i hc
    rw [Array.getElem?_eq_getElem hi] at this
    injection this with this
    rw [this]; rfl
  · have := h.of (i - 16) (by omega)
    rw [show 16 + (i - 16) = i from by omega, Array.getElem?_eq_getElem hi] at this
    injection this with this
    rw [this]; rfl
theorem book0_size : book0.size = 32 := rfl

set_option maxRecDepth 100000 in
set_option maxHeartbeats 2000000 in
theorem make_any (A : Option Addr) (n c : Nat) (ls : List Nat) (w : World) (B0 : Nat) (hr : Rd w B0 A n ((nz ls).map iv)) (hB0 : B0 ≤ w.heap.size) (hn : n ≤ 288) (h15 : ∀ x ∈ ls, x ≤ 15) (hsl : Huf.sum ls ≤ 32768) :
    Calls Try.prog 118 #[.slice A n c] w fun e w' => ∃ cs, e = .returned (.agg cs) ∧ BookV w.heap.size w' ls cs ∧ Below w.heap.size w w' := by
  have hl : ls.length = n := by have := hr.len; rwa [nz, List.length_map] at this
  have hr := hide (hr.mono hB0)
  have hw := hide (Huf.V_small ls hsl)
  have h15 := hide h15
  clear hsl
  have hB : ∃ B, w.heap.size = B := ⟨_, rfl⟩
  obtain ⟨B, hB⟩ := hB
  rw [hB] at hr ⊢
  go_enter Try.func118, Try.ntmps118
  go_upto_region 2 with fail
  have hz1 := hide (show ((w.alloc (.cells book0 132)).alloc (.cells book0 132)).heap[B]? = _ from (heap_two w _ _ hB).1)
  have hz2 := hide (show ((w.alloc (.cells book0 132)).alloc (.cells book0 132)).heap[B + 1]? = _ from (heap_two w _ _ hB).2)
  have hb0 := hide (((Below.refl B w).alloc (by omega) (.cells book0 132)).alloc (by simp; omega) (.cells book0 132))
  have hs0 : Hid (B + 1 ≤ ((w.alloc (.cells book0 132)).alloc (.cells book0 132)).heap.size) := hide (by simp; omega)
  unfold book0 at hz1 hz2 hb0 hs0
  generalize (w.alloc _).alloc _ = W0 at *
  have hres : Hid (Blk W0 B 132 book0) := hz1
  have hbk := hide (Bk.start (w := W0) (B := B + 1) (g := B + 1) (Nat.le_refl _) hz2.out)
  clear hz1 hz2
  go_wp2
  go_loopw [5] (fun i wr => ∃ k : Nat, ∃ Ao co, k ≤ n ∧ i = .int .i64 k ∧ Hid (Bk wr (B + 1) (B + 1) (fun _ => 0) Ao co (Huf.lists ls k)) ∧ Hid (Below (B + 1) W0 wr)) (fun i _ => n - (intOf i).toNat)
  case atStart => exact ⟨0, fun _ => none, fun _ => 0, by omega, rfl, by rw [Huf.lists_zero]; exact hbk, hide (Below.refl _ _)⟩
  case round =>
    obtain ⟨k, Ao, co, hk, rfl, hcd, hb⟩ := hrel
    by_cases hlt : k < n
    · have hkl : k < ls.length := by omega
      obtain ⟨b, o, rfl, hbB, e0⟩ := (hr.out.below (hb0.out.trans (hb.out.mono (Nat.le_succ B)))).int (j := k) hlt
      simp only [nz, List.getElem_map] at e0
      have hkI : (k : Int) < n := by omega
      have hx15 := h15.out ls[k] (List.getElem_mem hkl)
      have hls : Hid (ls[k]? = some ls[k]) := List.getElem?_eq_getElem hkl
      generalize ls[k] = s at *
      by_cases hs0' : s = 0
      · subst hs0'
        have hno := hide (Huf.lists_no ls k hls.out)
        go_wp2
        go_roundw
        case rel => exact ⟨k + 1, Ao, co, by omega, by go_num, by rw [hno.out]; exact hcd, hb⟩
        case measure => simp [intOf] <;> omega
      · have hs16 : s < 16 := by omega
        have hsI : (0 : Int) < s := by omega
        have hsI2 : (s : Int) < 16 := by omega
        have hyes := hide (Huf.lists_yes ls k s hls.out (by omega))
        have hlen := Huf.lists_len ls k s
        have d1 := hcd.out.cello s hs16
        have hglt := hcd.out.lt
        have hBw := hide hcd.out.hB
        have hoo := hide (hcd.out.oo s hs16)
        have hbB2 : b < wr.heap.size := by omega
        have hfr := hide (fun w3 (hc : Chg (fun k => blk (Ao s) = some k) wr w3) => (⟨hcd.out.free_chg hs16 hc (16 + s), hcd.out.cell_chg hs16 hc d1, hc.cell (p := ⟨b, o + k, none⟩) e0 (fun hx => by have := ((hcd.out.oo s hs16).blk_lt b hx).1; omega)⟩ : _ ∧ _ ∧ _))
        obtain ⟨L, hL⟩ : ∃ L, (Huf.lists ls k s).length = L := ⟨_, rfl⟩
        rw [hL] at d1 hoo hlen hfr
        have hpush := hide (fun w3 A3 c3 (ho3 : Ow w3 (B + 1) 3 A3 (L + 1) c3 ((Huf.lists ls k s).map jv ++ [jv k])) (hc3 : Chg (fun k => blk (Ao s) = some k) wr w3) (hn3 : blk A3 = blk (Ao s) ∨ ∃ k, wr.heap.size ≤ k ∧ blk A3 = some k) => hcd.out.push s hs16 k (by rw [hL]) ho3 hc3 hn3)
        rw [hyes.out] at hpush
        clear hL hyes
        have hq1 := hide (show L + 1 ≤ maxLen by simp only [maxLen]; omega)
        have hq2 := hide (show (L + 1) * 8 ≤ 140737488355328 by omega)
        go_upto_region 7 with fail
        go_region_law (refine step_append_one wr (by rfl) (.tmp 28) (.tmp 30) (by rfl) elem_int (by rfl) hoo.out (jv k) 3 _ (by rfl) rfl hq1.out hq2.out hBw.out ?_; intro A3 c3 w3 ho3 hc3 hn3; have f3 := (hfr.out w3 hc3).1; have d3 := (hfr.out w3 hc3).2.1; have e3 := (hfr.out w3 hc3).2.2; have hp := hide (hpush.out w3 A3 c3 ho3 hc3 hn3); clear ho3 hc3 hn3)
        all_goals
          go_wp2
          go_roundw
          case rel => exact ⟨k + 1, upd Ao s A3, upd co s c3, by omega, by go_num, hide hp.out.1, hide (hb.out.trans hp.out.2)⟩
          case measure => simp [intOf] <;> omega
    · obtain rfl : k = n := by omega
      go_wp2
      go_loopw [4, 6] (fun v i wr => ∃ t V : Nat, 1 ≤ t ∧ t ≤ 16 ∧ i = .int .i64 t ∧ v = .int .i64 (V : Int) ∧ Hid (V = Huf.V ls (t - 1)) ∧ Hid (Bk wr (B + 1) (B + 1) (Huf.fstTo ls t) Ao co (Huf.lists ls k)) ∧ Hid (Below (B + 1) W0 wr)) (fun _ i _ => 16 - (intOf i).toNat)
      case atStart => exact ⟨1, 0, by omega, by omega, rfl, rfl, hide rfl, by rw [Huf.fst_one]; exact hcd, hb⟩
      case round =>
        obtain ⟨t, V, ht1, ht16, rfl, rfl, hV, hcd, hb⟩ := hrel
        by_cases htl : t < 16
        · have htI : (t : Int) ≤ 15 := by omega
          have hV0 := hw.out (t - 1) (by omega)
          have hVt := hw.out t (by omega)
          have hfc := Huf.first_cnt ls t ht1
          have hff : Huf.first ls t = 2 * V := by
            obtain ⟨t', rfl⟩ : ∃ t', t = t' + 1 := ⟨t - 1, by omega⟩
            rw [hV.out]; rfl
          rw [← hV.out] at hV0
          rw [hff] at hfc
          have hVI : (V : Int) ≤ 32768 := by omega
          have hff := hide hff
          have hcnt : Hid ((Huf.lists ls k t).length = Huf.cnt ls t) := hide (by rw [Huf.lists_pos ls k t ht1, Huf.cnt, hl])
          have hfst := hcd.out.first t htl (2 * V)
          rw [← hff.out, Huf.fst_upd, hff.out] at hfst
          replace hfst := hide hfst
          have d2 := hcd.out.cellf t htl
          have f2 := hcd.out.free t
          have hgl := hcd.out.lt
          have e16 := hfst.out.1.cello t htl
          rw [hcnt.out] at e16
          have hvI : ((2 * V : Nat) : Int) = 2 * (V : Int) := by push_cast; rfl
          rw [hvI] at e16 hfst
          have hVtI : 2 * (V : Int) + (Huf.cnt ls t : Int) ≤ 32768 := by omega
          have hVn : Hid (2 * V + Huf.cnt ls t = Huf.V ls (t + 1 - 1)) := hide (by rw [hfc, Nat.add_sub_cancel])
          clear hV0 hVt hfc
          generalize Huf.cnt ls t = N at *
          go_wp2
          go_roundw
          case rel => exact ⟨t + 1, 2 * V + N, by omega, by omega, by go_num, int_eq (by push_cast; omega), hVn, hide hfst.out.1, hide (hb.out.trans hfst.out.2)⟩
          case measure => simp [intOf] <;> omega
        · obtain rfl : t = 16 := by omega
          have hbkF := hcd.out.congr (fs' := Huf.first ls) (fun s hs => if_pos hs)
          obtain ⟨cs, hkb, hcs⟩ := hbkF.cells
          have hres2 := hres.out.below hb.out (Nat.lt_succ_self B)
          have hbs := hide hb0.out.size
          have hib := hide (info_book' hcs.size)
          have hold : Hid (book0.size = cs.size) := hide (book0_size.trans hcs.size.symm)
          have hone := hide hcs.one
          clear hbk
          go_wp2_with (first
            | (with_reducible refine wpList_load_row (o := ⟨some 51, .load 132 (.tmp 3), _, _, _, _⟩) rfl 132 (.tmp 3) rfl (B + 1) rfl 132 cs (0, 0) _ hkb.eq Try.underlying132 rfl (info_book' hcs.size) ?_)
            | (with_reducible refine wpList_store_row (o := ⟨none, .store 132 (.tmp 2) (.tmp 51), _, _, _, _⟩) rfl 132 (.tmp 2) (.tmp 51) rfl B cs rfl rfl 132 book0 hres2.eq hib.out hold.out hone.out ?_))
          have hbel := hb0.out.trans (hb.out.mono (Nat.le_succ B))
          refine bodyPost_ret_by (results_cell_row rfl _ _ B 132 cs (0, 0) _ rfl (hres2.row _) Try.underlying132 rfl (info_book' hcs.size)) rfl ⟨cs, rfl, ⟨Ao, co, ?_, ?_⟩, below_row hbel (Nat.le_refl _) _⟩
          · rw [hl]; exact hcs
          · intro s hs
            rw [hl]
            have := (hcd.out.oo s hs).chg ((Chg.refl (fun k => k = B) wr).setRow (g := B) (.inr rfl) cs) (by intro g hg hgB; have := ((hcd.out.oo s hs).blk_lt g hg).1; omega)
            exact this.base_le (fun g hg => by have := ((hcd.out.oo s hs).blk_lt g hg).1; omega)

end Go.Proofs.Ythplpoijkebjbaa
