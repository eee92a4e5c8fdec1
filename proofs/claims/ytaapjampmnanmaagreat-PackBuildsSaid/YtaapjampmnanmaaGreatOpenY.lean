/- An argument of layer 14's laws, opened into what the walks ask: a slice of items, with their bytes. There is no condition. An argument of layer 13's laws, opened into what the walks ask: a header, by value; and that a slice's length is its capacity at most. There is no condition. An argument of layer 14's laws, opened into what the walks ask: how an archive is to be built, by value. There is no condition. -/
import Derived.Test.YtaapjampmnanmaaGreatOpenX
import Derived.Test.YtaapjampmnanmaaGreatPkItem
import Derived.Lib.SmallJoins
import Derived.Deep.Slices
import Derived.Test.YtaapjampmnanmaaGreatArchK
import Derived.Test.YtaapjampmnanmaaGreatPkMuch
import Derived.ChangeMaps5
namespace Go.Proofs.YtaapjampmnanmaaGreat
open Go.ChangeShapes Go.WideShapes Go.ChangeAt Go.RowKit Go.Joins
set_option linter.unusedVariables false

theorem cells_item : Tryz.prog.cellsOf 67 = 4 := by kernel_rfl
theorem cells_pl3 : Tryz.prog.cellsOf 43 = 3 := by kernel_rfl

theorem trod_bytes {H : Type} {enc : TypeId × Value → H} {w : World} {sp : Nat → Bool} {hd : Bool} {n : Nat} {v : Value} {x : DataW H × List MemPlace}
    (h : DataW.trod enc Tryz.prog w 0 sp hd n 22 [v] = some x) : ∃ A k c, v = .slice A k c ∧ k ≤ c ∧ k ≤ maxLen ∧ ∃ bs : List UInt8, Rd w w.heap.size A k (bs.map bv) := by
  have hv : ∃ A k c, v = .slice A k c := by
    rcases open_ints Tryz.underlying22 Tryz.underlying5 (by kernel_rfl) h with ⟨hcs, _⟩ | ⟨y, l, cc, zs, hcs, _⟩
    · simp at hcs
      exact ⟨none, 0, 0, hcs⟩
    · simp at hcs
      exact ⟨some y, l, cc, hcs⟩
  obtain ⟨A, k, c, rfl⟩ := hv
  have ht : DataW.Trod enc Tryz.prog w 0 sp hd 22 (.slice A k c) x.1 x.2 := ⟨n, h⟩
  obtain ⟨bs, hr, hm⟩ := open_bytes ht
  exact ⟨A, k, c, rfl, open_cap ht, hm, bs, hr⟩

set_option maxRecDepth 100000 in
theorem item_cells {H : Type} {enc : TypeId × Value → H} {w : World} {sp : Nat → Bool} {hd : Bool} {n : Nat} {a : Addr} {cs : List Value} {x : DataW H × List MemPlace}
    (hc : w.cells? 0 a 4 = some cs) (ht : DataW.trod enc Tryz.prog w 0 sp hd n 67 cs = some x) :
    ∃ q : Im, q.n ≤ q.c ∧ q.n ≤ maxLen ∧ Rd w w.heap.size q.A q.n (q.bs.map bv) ∧ w.cell? (a.add 0) = some (.int .i64 q.z) ∧ w.cell? (a.add 1) = some (.int .i64 q.x) ∧ w.cell? (a.add 2) = some (.int .i64 q.y) ∧ w.cell? (a.add 3) = some (.slice q.A q.n q.c) := by
  obtain ⟨_, hlen, hcell⟩ := World.cells?_some hc
  obtain ⟨ys, k, hk, hxy, _, hyl, hf⟩ := DataW.trod_struct Tryz.underlying67 ht
  match ys, hyl, cs, hlen with
  | [y0, y1], _, [v0, v1, v2, v3], _ =>
    have g0 := hf 0 _ rfl
    have g1 := hf 1 _ rfl
    have k1 := cells_pl3
    have k2 : Tryz.prog.cellsOf 22 = 1 := by kernel_rfl
    simp [k1, k2] at g0 g1
    obtain ⟨A, m, c, rfl, h1, h2, bs, hr⟩ := trod_bytes g1
    obtain ⟨zs, k', _, _, _, hzl, hg⟩ := DataW.trod_struct Tryz.underlying43 g0
    match zs, hzl with
    | [z0, z1, z2], _ =>
      have c1 : Tryz.prog.cellsOf 3 = 1 := by kernel_rfl
      have p0 := hg 0 _ rfl
      have p1 := hg 1 _ rfl
      have p2 := hg 2 _ rfl
      simp [c1] at p0 p1 p2
      obtain ⟨a0, f0, _, _⟩ := DataW.trod_int Tryz.underlying3 p0
      obtain ⟨a1, f1, _, _⟩ := DataW.trod_int Tryz.underlying3 p1
      obtain ⟨a2, f2, _, _⟩ := DataW.trod_int Tryz.underlying3 p2
      simp at f0 f1 f2
      subst f0 f1 f2
      exact ⟨⟨a0, a1, a2, A, m, c, bs⟩, h1, h2, hr, hcell 0 (by omega), hcell 1 (by omega), hcell 2 (by omega), hcell 3 (by omega)⟩

set_option maxRecDepth 100000 in
theorem open_items {H : Type} {enc : TypeId × Value → H} {w : World} {sp : Nat → Bool} {b : Bool} {A : Option Addr} {n c : Nat} {d : DataW H} {p : List MemPlace}
    (h : DataW.Trod enc Tryz.prog w 0 sp b 59 (.slice A n c) d p) : ∃ l : List Im, l.length = n ∧ RdIm w w.heap.size A l ∧ (∀ m ∈ l, m.n ≤ m.c ∧ m.n ≤ maxLen ∧ Rd w w.heap.size m.A m.n (m.bs.map bv)) ∧ n ≤ maxLen := by
  obtain ⟨fuel, hf⟩ := h
  rcases Go.Deep.open_slice Tryz.underlying59 hf with ⟨hcs, _⟩ | ⟨a, len, cap, m, k, D, Pl, hcs, _, hl, hm, hmm, _, hi⟩
  · simp [Value.cells] at hcs
    obtain ⟨rfl, rfl, rfl⟩ := hcs
    exact ⟨[], rfl, fun j hj => absurd hj (Nat.not_lt_zero _), by simp, Nat.zero_le _⟩
  · simp [Value.cells] at hcs
    obtain ⟨rfl, rfl, rfl⟩ := hcs
    have hlm : n ≤ m := by rw [hmm]; split <;> omega
    haveI : Inhabited Im := ⟨⟨0, 0, 0, none, 0, 0, []⟩⟩
    obtain ⟨f, hfq⟩ := Go.Deep.choose_lt (n := n) (fun i hin => by
      obtain ⟨cs', h1, h2⟩ := hi i (by omega)
      rw [cells_item] at h1
      exact item_cells h1 h2)
    refine ⟨(List.range n).map f, by simp, ?_, ?_, Nat.le_trans hl hm⟩
    · intro j hj
      have hj' : j < n := by simpa using hj
      obtain ⟨_, _, _, h1, h2, h3, h4⟩ := hfq j hj'
      obtain ⟨_, _, _, h0, _, _, _⟩ := hfq 0 (by omega)
      rw [Go.Deep.add_add] at h0 h1 h2 h3 h4
      have h00 : w.cell? a = some (.int .i64 (f 0).z) := by simpa [Addr.add] using h0
      have hs := spot_none h00
      refine ⟨a.block, a.off, ?_, World.block_lt_of_cell? w a h00, ?_, ?_, ?_, ?_⟩
      · rw [← hs]
      · rw [hs, add_plain] at h1
        simpa using h1
      · rw [hs, add_plain, ← Nat.add_assoc] at h2
        simpa using h2
      · rw [hs, add_plain, ← Nat.add_assoc] at h3
        simpa using h3
      · rw [hs, add_plain, ← Nat.add_assoc] at h4
        simpa using h4
    · intro q hq
      obtain ⟨i, hi1, rfl⟩ := List.mem_map.1 hq
      obtain ⟨h1, h2, h3, _⟩ := hfq i (List.mem_range.1 hi1)
      exact ⟨h1, h2, h3⟩

end Go.Proofs.YtaapjampmnanmaaGreat

namespace Go.Proofs.YtaapjampmnanmaaGreat
open Go.ChangeShapes Go.WideShapes Go.ChangeAt Go.RowKit Go.Joins

theorem trod_i64 {H : Type} {enc : TypeId × Value → H} {w : World} {sp : Nat → Bool} {hd : Bool} {n : Nat} {v : Value} {x : DataW H × List MemPlace}
    (h : DataW.trod enc Tryz.prog w 0 sp hd n 3 [v] = some x) : ∃ k : Int, v = .int .i64 k := by
  obtain ⟨z, e, _, hz⟩ := DataW.trod_int Tryz.underlying3 h
  simp at e
  exact ⟨z, e⟩
theorem trod_pt {H : Type} {enc : TypeId × Value → H} {w : World} {sp : Nat → Bool} {hd : Bool} {n : Nat} {v u : Value} {x : DataW H × List MemPlace}
    (h : DataW.trod enc Tryz.prog w 0 sp hd n 28 [v, u] = some x) : ∃ k m : Int, v = .int .i64 k ∧ u = .int .i64 m := by
  obtain ⟨ys, k, _, _, _, hyl, hf⟩ := DataW.trod_struct Tryz.underlying28 h
  have c1 : Tryz.prog.cellsOf 3 = 1 := by kernel_rfl
  match ys, hyl with
  | [y0, y1], _ =>
    have g0 := hf 0 _ rfl
    have g1 := hf 1 _ rfl
    simp [c1] at g0 g1
    obtain ⟨a, rfl⟩ := trod_i64 g0
    obtain ⟨b, rfl⟩ := trod_i64 g1
    exact ⟨a, b, rfl, rfl⟩

end Go.Proofs.YtaapjampmnanmaaGreat

namespace Go.Proofs.YtaapjampmnanmaaGreat
open Go.ChangeShapes Go.WideShapes Go.ChangeAt Go.RowKit Go.Joins
set_option linter.unusedVariables false

theorem trod_i64b {H : Type} {enc : TypeId × Value → H} {w : World} {sp : Nat → Bool} {hd : Bool} {n : Nat} {v : Value} {x : DataW H × List MemPlace}
    (h : DataW.trod enc Tryz.prog w 0 sp hd n 3 [v] = some x) : ∃ k : Int, v = .int .i64 k ∧ k ≤ 9223372036854775807 := by
  obtain ⟨z, e, _, hz⟩ := DataW.trod_int Tryz.underlying3 h
  simp at e
  have := wf_i64 hz
  exact ⟨z, e, by omega⟩
theorem cells_spec : Tryz.prog.cellsOf 61 = 12 := by kernel_rfl
set_option maxRecDepth 100000 in
set_option maxHeartbeats 4000000 in
theorem open_spec {H : Type} {enc : TypeId × Value → H} {w : World} {sp : Nat → Bool} {hd : Bool} {base : Nat} {v : Value} {d : DataW H} {p : List MemPlace}
    (hv : Value.okWide Tryz.prog w .any base 61 v) (h : DataW.Trod enc Tryz.prog w 0 sp hd 61 v d p) :
    ∃ q : Sp, v = q.val ∧ q.leaf ≤ 9223372036854775807 ∧ q.mtx.length ≤ maxLen := by
  obtain ⟨cs, rfl, hsz⟩ := okWide_struct Tryz.underlying61 hv
  obtain ⟨fuel, hf⟩ := h
  rw [cells_spec] at hsz
  obtain ⟨ys, k, _, _, _, hyl, hg⟩ := DataW.trod_struct Tryz.underlying61 hf
  have hc : (Value.agg cs).cells.toList = cs.toList := by simp [Value.cells]
  rw [hc] at hg
  obtain ⟨l, hl⟩ : ∃ l, cs.toList = l := ⟨_, rfl⟩
  have hll : l.length = 12 := by rw [← hl]; simpa using hsz
  have hcs : cs = l.toArray := by rw [← hl]
  rw [hl] at hg
  subst hcs
  clear hf hl hv hsz hc
  match l, hll, ys, hyl with
  | [c0, c1, c2, c3, c4, c5, c6, c7, c8, c9, c10, c11], _, [y0, y1, y2, y3, y4, y5, y6, y7, y8], _ =>
    have k1 : Tryz.prog.cellsOf 3 = 1 := by kernel_rfl
    have k2 : Tryz.prog.cellsOf 4 = 1 := by kernel_rfl
    have k3 : Tryz.prog.cellsOf 9 = 1 := by kernel_rfl
    have k5 : Tryz.prog.cellsOf 28 = 2 := by kernel_rfl
    have g0 := hg 0 _ rfl
    have g1 := hg 1 _ rfl
    have g2 := hg 2 _ rfl
    have g3 := hg 3 _ rfl
    have g4 := hg 4 _ rfl
    have g5 := hg 5 _ rfl
    have g6 := hg 6 _ rfl
    have g7 := hg 7 _ rfl
    have g8 := hg 8 _ rfl
    simp [k1, k2, k3, k5] at g0 g1 g2 g3 g4 g5 g6 g7 g8
    obtain ⟨gz, eg, _⟩ := DataW.trod_bool Tryz.underlying4 g0
    simp at eg
    subst eg
    obtain ⟨leaf, rfl, hlf⟩ := trod_i64b g1
    obtain ⟨z0, rfl⟩ := trod_i64 g2
    obtain ⟨z1, rfl⟩ := trod_i64 g3
    obtain ⟨p0, p1, rfl, rfl⟩ := trod_pt g4
    obtain ⟨p2, p3, rfl, rfl⟩ := trod_pt g5
    obtain ⟨p4, p5, rfl, rfl⟩ := trod_pt g6
    obtain ⟨z5, rfl⟩ := trod_i64 g7
    obtain ⟨s, es, _, hs⟩ := DataW.trod_string Tryz.underlying9 g8
    simp at es
    subst es
    exact ⟨⟨gz, leaf, z0, z1, p0, p1, p2, p3, p4, p5, z5, s.data.toList⟩, by unfold Sp.val; simp, hlf, hs⟩

end Go.Proofs.YtaapjampmnanmaaGreat
