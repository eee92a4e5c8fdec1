/- An argument of layer 14's laws, opened into what the walks ask: a slice of items, with their bytes. There is no condition. -/
import Derived.Test.YtaapjampmnanmaaOpenX
import Derived.Test.YtaapjampmnanmaaPkItem
import Derived.Lib.SmallJoins
import Derived.Deep.Slices
namespace Go.Proofs.Ytaapjampmnanmaa
open Go.ChangeShapes Go.WideShapes Go.ChangeAt Go.RowKit Go.Joins
set_option linter.unusedVariables false

theorem cells_item : Try.prog.cellsOf 62 = 4 := by kernel_rfl
theorem cells_pl3 : Try.prog.cellsOf 43 = 3 := by kernel_rfl

theorem trod_bytes {H : Type} {enc : TypeId × Value → H} {w : World} {sp : Nat → Bool} {hd : Bool} {n : Nat} {v : Value} {x : DataW H × List MemPlace}
    (h : DataW.trod enc Try.prog w 0 sp hd n 40 [v] = some x) : ∃ A k c, v = .slice A k c ∧ k ≤ c ∧ k ≤ maxLen ∧ ∃ bs : List UInt8, Rd w w.heap.size A k (bs.map bv) := by
  have hv : ∃ A k c, v = .slice A k c := by
    rcases open_ints Try.underlying40 Try.underlying5 (by kernel_rfl) h with ⟨hcs, _⟩ | ⟨y, l, cc, zs, hcs, _⟩
    · simp at hcs
      exact ⟨none, 0, 0, hcs⟩
    · simp at hcs
      exact ⟨some y, l, cc, hcs⟩
  obtain ⟨A, k, c, rfl⟩ := hv
  have ht : DataW.Trod enc Try.prog w 0 sp hd 40 (.slice A k c) x.1 x.2 := ⟨n, h⟩
  obtain ⟨bs, hr, hm⟩ := open_bytes ht
  exact ⟨A, k, c, rfl, open_cap ht, hm, bs, hr⟩

set_option maxRecDepth 100000 in
theorem item_cells {H : Type} {enc : TypeId × Value → H} {w : World} {sp : Nat → Bool} {hd : Bool} {n : Nat} {a : Addr} {cs : List Value} {x : DataW H × List MemPlace}
    (hc : w.cells? 0 a 4 = some cs) (ht : DataW.trod enc Try.prog w 0 sp hd n 62 cs = some x) :
    ∃ q : Im, q.n ≤ q.c ∧ q.n ≤ maxLen ∧ Rd w w.heap.size q.A q.n (q.bs.map bv) ∧ w.cell? (a.add 0) = some (.int .i64 q.z) ∧ w.cell? (a.add 1) = some (.int .i64 q.x) ∧ w.cell? (a.add 2) = some (.int .i64 q.y) ∧ w.cell? (a.add 3) = some (.slice q.A q.n q.c) := by
  obtain ⟨_, hlen, hcell⟩ := World.cells?_some hc
  obtain ⟨ys, k, hk, hxy, _, hyl, hf⟩ := DataW.trod_struct Try.underlying62 ht
  match ys, hyl, cs, hlen with
  | [y0, y1], _, [v0, v1, v2, v3], _ =>
    have g0 := hf 0 _ rfl
    have g1 := hf 1 _ rfl
    have k1 := cells_pl3
    have k2 : Try.prog.cellsOf 40 = 1 := by kernel_rfl
    simp [k1, k2] at g0 g1
    obtain ⟨A, m, c, rfl, h1, h2, bs, hr⟩ := trod_bytes g1
    obtain ⟨zs, k', _, _, _, hzl, hg⟩ := DataW.trod_struct Try.underlying43 g0
    match zs, hzl with
    | [z0, z1, z2], _ =>
      have c1 : Try.prog.cellsOf 3 = 1 := by kernel_rfl
      have p0 := hg 0 _ rfl
      have p1 := hg 1 _ rfl
      have p2 := hg 2 _ rfl
      simp [c1] at p0 p1 p2
      obtain ⟨a0, f0, _, _⟩ := DataW.trod_int Try.underlying3 p0
      obtain ⟨a1, f1, _, _⟩ := DataW.trod_int Try.underlying3 p1
      obtain ⟨a2, f2, _, _⟩ := DataW.trod_int Try.underlying3 p2
      simp at f0 f1 f2
      subst f0 f1 f2
      exact ⟨⟨a0, a1, a2, A, m, c, bs⟩, h1, h2, hr, hcell 0 (by omega), hcell 1 (by omega), hcell 2 (by omega), hcell 3 (by omega)⟩

set_option maxRecDepth 100000 in
theorem open_items {H : Type} {enc : TypeId × Value → H} {w : World} {sp : Nat → Bool} {b : Bool} {A : Option Addr} {n c : Nat} {d : DataW H} {p : List MemPlace}
    (h : DataW.Trod enc Try.prog w 0 sp b 22 (.slice A n c) d p) : ∃ l : List Im, l.length = n ∧ RdIm w w.heap.size A l ∧ (∀ m ∈ l, m.n ≤ m.c ∧ m.n ≤ maxLen ∧ Rd w w.heap.size m.A m.n (m.bs.map bv)) ∧ n ≤ maxLen := by
  obtain ⟨fuel, hf⟩ := h
  rcases Go.Deep.open_slice Try.underlying22 hf with ⟨hcs, _⟩ | ⟨a, len, cap, m, k, D, Pl, hcs, _, hl, hm, hmm, _, hi⟩
  · simp [Value.cells] at hcs
    obtain ⟨rfl, rfl, rfl⟩ := hcs
    exact ⟨[], rfl, fun j hj => absurd hj (Nat.not_lt_zero _), by simp, Nat.zero_le _⟩
  · simp [Value.cells] at hcs
    obtain ⟨rfl, rfl, rfl⟩ := hcs
    have hlm : n ≤ m := by rw [hmm]; split <;> omega
    haveI : Inhabited Im := ⟨⟨0, 0, 0, none, 0, 0, []⟩⟩
    obtain ⟨f, hfq⟩ := Go.Deep.choose_lt (n := n) (fun i hin => by
      obtain ⟨cs', h1, h2⟩ := hi i (by omega)
      rw [cells_item] at h1
      exact item_cells h1 h2)
    refine ⟨(List.range n).map f, by simp, ?_, ?_, Nat.le_trans hl hm⟩
    · intro j hj
      have hj' : j < n := by simpa using hj
      obtain ⟨_, _, _, h1, h2, h3, h4⟩ := hfq j hj'
      obtain ⟨_, _, _, h0, _, _, _⟩ := hfq 0 (by omega)
      rw [Go.Deep.add_add] at h0 h1 h2 h3 h4
      have h00 : w.cell? a = some (.int .i64 (f 0).z) := by simpa [Addr.add] using h0
      have hs := spot_none h00
      refine ⟨a.block, a.off, ?_, World.block_lt_of_cell? w a h00, ?_, ?_, ?_, ?_⟩
      · rw [← hs]
      · rw [hs, add_plain] at h1
        simpa using h1
      · rw [hs, add_plain, ← Nat.add_assoc] at h2
        simpa using h2
      · rw [hs, add_plain, ← Nat.add_assoc] at h3
        simpa using h3
      · rw [hs, add_plain, ← Nat.add_assoc] at h4
        simpa using h4
    · intro q hq
      obtain ⟨i, hi1, rfl⟩ := List.mem_map.1 hq
      obtain ⟨h1, h2, h3, _⟩ := hfq i (List.mem_range.1 hi1)
      exact ⟨h1, h2, h3⟩

theorem open_cape {H : Type} {enc : TypeId × Value → H} {w : World} {sp : Nat → Bool} {b : Bool} {A : Option Addr} {n c : Nat} {d : DataW H} {p : List MemPlace}
    (h : DataW.Trod enc Try.prog w 0 sp b 23 (.slice A n c) d p) : n ≤ c := by
  obtain ⟨fuel, hf⟩ := h
  rcases Go.Deep.open_slice Try.underlying23 hf with ⟨hcs, _⟩ | ⟨a, len, cap, m, k, D, Pl, hcs, _, hl, hm, hmm, _, hi⟩
  · simp [Value.cells] at hcs
    obtain ⟨rfl, rfl, rfl⟩ := hcs
    exact Nat.le_refl _
  · simp [Value.cells] at hcs
    obtain ⟨rfl, rfl, rfl⟩ := hcs
    exact hl

end Go.Proofs.Ytaapjampmnanmaa
