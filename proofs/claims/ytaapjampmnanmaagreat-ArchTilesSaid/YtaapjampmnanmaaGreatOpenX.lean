/- Arguments of the laws, opened into what the walks ask: a slice of bytes, a slice of numbers. There is no condition. Opening a slice of bytes: its capacity. There is no condition. An argument of layer 13's laws, opened into what the walks ask: a header, by value; and that a slice's length is its capacity at most. There is no condition. An argument of the laws, opened into what the walks ask: a place (three numbers, by value). There is no condition. -/
import Derived.Test.YtaapjampmnanmaaGreatBase
import Derived.Test.YtaapjampmnanmaaGreatRows
import Derived.ProofKit
import Derived.OpenShut
import Derived.ShutString
import Derived.ChangeOld
import Derived.Test.YtaapjampmnanmaaGreatArchK
import Derived.Lib.SmallJoins
import Derived.Deep.Slices
namespace Go.Proofs.YtaapjampmnanmaaGreat
open Go.ChangeShapes Go.WideShapes Go.ChangeAt Go.RowKit

theorem own : ownKnob Tryz.prog.godebug = none := by kernel_rfl
theorem laidOut : laidOutB Tryz.prog = true := by kernel_rfl

theorem spot_none {w : World} {a : Addr} {v : Value} (h : w.cell? a = some v) : a = ⟨a.block, a.off, none⟩ := by
  obtain ⟨b, o, s⟩ := a
  have hs : s = none := World.cell?_spot h
  rw [hs]

theorem add_plain (b o i : Nat) : (⟨b, o, none⟩ : Addr).add i = ⟨b, o + i, none⟩ := Addr.add_mid b o i

/-- Cells that were read one by one, as a slice that reads as a list. -/
theorem rd_of_cells {w : World} {a : Addr} {n : Nat} {xs : List Value} (hl : xs.length = n) (hc : ∀ i, i < n → w.cell? (a.add i) = xs[i]?) : Rd w w.heap.size (some a) n xs := by
  refine ⟨hl, fun j hj => ?_⟩
  have h0 : w.cell? a = xs[0]? := by
    have := hc 0 (by omega)
    simpa [Addr.add] using this
  have hx : xs[0]? = some (xs[0]'(by omega)) := List.getElem?_eq_getElem (by omega)
  rw [hx] at h0
  have hs := spot_none h0
  refine ⟨a.block, a.off, by rw [← hs], World.block_lt_of_cell? w a h0, ?_⟩
  have := hc j hj
  rwa [hs, add_plain] at this

theorem wf_u8 {z : Int} (h : (Lit.int .u8 z).wf = true) : 0 ≤ z ∧ z ≤ 255 := by simpa [Lit.wf, IntKind.min, IntKind.max, IntKind.signed, IntKind.bits] using h
theorem wf_u64 {z : Int} (h : (Lit.int .u64 z).wf = true) : 0 ≤ z ∧ z ≤ 18446744073709551615 := by simpa [Lit.wf, IntKind.min, IntKind.max, IntKind.signed, IntKind.bits] using h
/-- A slice of bytes that came in. -/
theorem open_bytes {H : Type} {enc : TypeId × Value → H} {w : World} {sp : Nat → Bool} {b : Bool} {A : Option Addr} {n c : Nat} {d : DataW H} {p : List MemPlace}
    (h : DataW.Trod enc Tryz.prog w 0 sp b 22 (.slice A n c) d p) : ∃ bs : List UInt8, Rd w w.heap.size A n (bs.map bv) ∧ n ≤ maxLen := by
  obtain ⟨fuel, hf⟩ := h
  rcases open_ints Tryz.underlying22 Tryz.underlying5 (by kernel_rfl) hf with ⟨hcs, _⟩ | ⟨x, l, cc, zs, hcs, _, hl, hm, hz, _, hcell, hwz⟩
  · simp [Value.cells] at hcs
    obtain ⟨rfl, rfl, rfl⟩ := hcs
    exact ⟨[], Rd.nil _ _ _, Nat.zero_le _⟩
  · simp [Value.cells] at hcs
    obtain ⟨rfl, rfl, rfl⟩ := hcs
    refine ⟨(zs.take n).map fun z => UInt8.ofNat z.toNat, rd_of_cells ?_ ?_, Nat.le_trans hl hm⟩
    · rw [List.length_map, List.length_map, List.length_take]
      split at hz <;> omega
    · intro i hi
      have hzl : i < zs.length := by split at hz <;> omega
      rw [hcell i hzl, List.getElem?_map, List.getElem?_map, List.getElem?_take, if_pos hi, List.getElem?_eq_getElem hzl]
      have hb := wf_u8 (hwz zs[i] (List.getElem_mem hzl))
      simp only [Option.map_some, bv, List.getD_eq_getElem?_getD, List.getElem?_eq_getElem hzl, Option.getD_some, UInt8.toNat_ofNat']
      congr 2
      omega

end Go.Proofs.YtaapjampmnanmaaGreat

namespace Go.Proofs.YtaapjampmnanmaaGreat
open Go.ChangeShapes Go.WideShapes Go.ChangeAt Go.RowKit

theorem open_cap {H : Type} {enc : TypeId × Value → H} {w : World} {sp : Nat → Bool} {b : Bool} {A : Option Addr} {n c : Nat} {d : DataW H} {p : List MemPlace}
    (h : DataW.Trod enc Tryz.prog w 0 sp b 22 (.slice A n c) d p) : n ≤ c := by
  obtain ⟨fuel, hf⟩ := h
  rcases open_ints Tryz.underlying22 Tryz.underlying5 (by kernel_rfl) hf with ⟨hcs, _⟩ | ⟨x, l, cc, zs, hcs, _, hl, hm, hz, _, hcell, hwz⟩
  · simp [Value.cells] at hcs
    obtain ⟨rfl, rfl, rfl⟩ := hcs
    exact Nat.le_refl _
  · simp [Value.cells] at hcs
    obtain ⟨rfl, rfl, rfl⟩ := hcs
    exact hl

end Go.Proofs.YtaapjampmnanmaaGreat

namespace Go.Proofs.YtaapjampmnanmaaGreat
open Go.ChangeShapes Go.WideShapes Go.ChangeAt Go.RowKit Go.Joins

theorem trod_u64 {H : Type} {enc : TypeId × Value → H} {w : World} {sp : Nat → Bool} {hd : Bool} {n : Nat} {v : Value} {x : DataW H × List MemPlace}
    (h : DataW.trod enc Tryz.prog w 0 sp hd n 23 [v] = some x) : ∃ k : Nat, v = .int .u64 (k : Int) ∧ k ≤ 18446744073709551615 := by
  obtain ⟨z, e, _, hz⟩ := DataW.trod_int Tryz.underlying23 h
  simp at e
  subst e
  have h' := wf_u64 hz
  obtain ⟨k, rfl⟩ := Int.eq_ofNat_of_zero_le h'.1
  exact ⟨k, rfl, by omega⟩
theorem trod_i64 {H : Type} {enc : TypeId × Value → H} {w : World} {sp : Nat → Bool} {hd : Bool} {n : Nat} {v : Value} {x : DataW H × List MemPlace}
    (h : DataW.trod enc Tryz.prog w 0 sp hd n 3 [v] = some x) : ∃ k : Int, v = .int .i64 k := by
  obtain ⟨z, e, _, hz⟩ := DataW.trod_int Tryz.underlying3 h
  simp at e
  exact ⟨z, e⟩
theorem trod_two {H : Type} {enc : TypeId × Value → H} {w : World} {sp : Nat → Bool} {hd : Bool} {n : Nat} {v u : Value} {x : DataW H × List MemPlace}
    (h : DataW.trod enc Tryz.prog w 0 sp hd n 25 [v, u] = some x) : ∃ k m : Nat, v = .int .u64 (k : Int) ∧ u = .int .u64 (m : Int) ∧ k ≤ 18446744073709551615 ∧ m ≤ 18446744073709551615 := by
  obtain ⟨xs, m, _, _, _, hl, ha⟩ := DataW.trod_array Tryz.underlying25 h
  have c1 : Tryz.prog.cellsOf 23 = 1 := by kernel_rfl
  match xs, hl with
  | [y0, y1], _ =>
    have a0 := ha 0 (by decide)
    have a1 := ha 1 (by decide)
    simp [c1] at a0 a1
    obtain ⟨k, rfl, hk⟩ := trod_u64 a0
    obtain ⟨l, rfl, hl⟩ := trod_u64 a1
    exact ⟨k, l, rfl, rfl, hk, hl⟩
theorem trod_three {H : Type} {enc : TypeId × Value → H} {w : World} {sp : Nat → Bool} {hd : Bool} {n : Nat} {v u t : Value} {x : DataW H × List MemPlace}
    (h : DataW.trod enc Tryz.prog w 0 sp hd n 26 [v, u, t] = some x) : ∃ k m l : Nat, v = .int .u64 (k : Int) ∧ u = .int .u64 (m : Int) ∧ t = .int .u64 (l : Int) ∧ k ≤ 18446744073709551615 ∧ m ≤ 18446744073709551615 ∧ l ≤ 18446744073709551615 := by
  obtain ⟨xs, m, _, _, _, hl, ha⟩ := DataW.trod_array Tryz.underlying26 h
  have c1 : Tryz.prog.cellsOf 23 = 1 := by kernel_rfl
  match xs, hl with
  | [y0, y1, y2], _ =>
    have a0 := ha 0 (by decide)
    have a1 := ha 1 (by decide)
    have a2 := ha 2 (by decide)
    simp [c1] at a0 a1 a2
    obtain ⟨k, rfl, hk⟩ := trod_u64 a0
    obtain ⟨l, rfl, hl⟩ := trod_u64 a1
    obtain ⟨j, rfl, hj⟩ := trod_u64 a2
    exact ⟨k, l, j, rfl, rfl, rfl, hk, hl, hj⟩
theorem trod_pt {H : Type} {enc : TypeId × Value → H} {w : World} {sp : Nat → Bool} {hd : Bool} {n : Nat} {v u : Value} {x : DataW H × List MemPlace}
    (h : DataW.trod enc Tryz.prog w 0 sp hd n 28 [v, u] = some x) : ∃ k m : Int, v = .int .i64 k ∧ u = .int .i64 m := by
  obtain ⟨ys, k, _, _, _, hyl, hf⟩ := DataW.trod_struct Tryz.underlying28 h
  have c1 : Tryz.prog.cellsOf 3 = 1 := by kernel_rfl
  match ys, hyl with
  | [y0, y1], _ =>
    have g0 := hf 0 _ rfl
    have g1 := hf 1 _ rfl
    simp [c1] at g0 g1
    obtain ⟨a, rfl⟩ := trod_i64 g0
    obtain ⟨b, rfl⟩ := trod_i64 g1
    exact ⟨a, b, rfl, rfl⟩

theorem cells_hd : Tryz.prog.cellsOf 30 = 24 := by kernel_rfl
set_option maxRecDepth 100000 in
set_option maxHeartbeats 4000000 in
theorem open_hd {H : Type} {enc : TypeId × Value → H} {w : World} {sp : Nat → Bool} {hd : Bool} {base : Nat} {v : Value} {d : DataW H} {p : List MemPlace}
    (hv : Value.okWide Tryz.prog w .any base 30 v) (h : DataW.Trod enc Tryz.prog w 0 sp hd 30 v d p) :
    ∃ q : Hd, v = .agg q.cells ∧ q.Ok ∧ (q.c0 ≤ 18446744073709551615 ∧ q.c1 ≤ 18446744073709551615 ∧ q.c2 ≤ 18446744073709551615) := by
  obtain ⟨cs, rfl, hsz⟩ := okWide_struct Tryz.underlying30 hv
  obtain ⟨fuel, hf⟩ := h
  rw [cells_hd] at hsz
  obtain ⟨ys, k, _, _, _, hyl, hg⟩ := DataW.trod_struct Tryz.underlying30 hf
  have hc : (Value.agg cs).cells.toList = cs.toList := by simp [Value.cells]
  rw [hc] at hg
  obtain ⟨l, hl⟩ : ∃ l, cs.toList = l := ⟨_, rfl⟩
  have hll : l.length = 24 := by rw [← hl]; simpa using hsz
  have hcs : cs = l.toArray := by rw [← hl]
  rw [hl] at hg
  subst hcs
  clear hf hl hv hsz hc
  match l, hll, ys, hyl with
  | [c0, c1, c2, c3, c4, c5, c6, c7, c8, c9, c10, c11, c12, c13, c14, c15, c16, c17, c18, c19, c20, c21, c22, c23], _, [y0, y1, y2, y3, y4, y5, y6, y7, y8, y9, y10, y11, y12, y13, y14], _ =>
    have k1 : Tryz.prog.cellsOf 3 = 1 := by kernel_rfl
    have k2 : Tryz.prog.cellsOf 4 = 1 := by kernel_rfl
    have k3 : Tryz.prog.cellsOf 25 = 2 := by kernel_rfl
    have k4 : Tryz.prog.cellsOf 26 = 3 := by kernel_rfl
    have k5 : Tryz.prog.cellsOf 28 = 2 := by kernel_rfl
    have g0 := hg 0 _ rfl
    have g1 := hg 1 _ rfl
    have g2 := hg 2 _ rfl
    have g3 := hg 3 _ rfl
    have g4 := hg 4 _ rfl
    have g5 := hg 5 _ rfl
    have g6 := hg 6 _ rfl
    have g7 := hg 7 _ rfl
    have g8 := hg 8 _ rfl
    have g9 := hg 9 _ rfl
    have g10 := hg 10 _ rfl
    have g11 := hg 11 _ rfl
    have g12 := hg 12 _ rfl
    have g13 := hg 13 _ rfl
    have g14 := hg 14 _ rfl
    simp [k1, k2, k3, k4, k5] at g0 g1 g2 g3 g4 g5 g6 g7 g8 g9 g10 g11 g12 g13 g14
    obtain ⟨r0, r1, rfl, rfl, b0, b1⟩ := trod_two g0
    obtain ⟨m0, m1, rfl, rfl, b2, b3⟩ := trod_two g1
    obtain ⟨l0, l1, rfl, rfl, b4, b5⟩ := trod_two g2
    obtain ⟨d0, d1, rfl, rfl, b6, b7⟩ := trod_two g3
    obtain ⟨n0, n1, n2, rfl, rfl, rfl, b8, b9, b10⟩ := trod_three g4
    obtain ⟨cl, ecl, _⟩ := DataW.trod_bool Tryz.underlying4 g5
    simp at ecl
    subst ecl
    obtain ⟨z0, rfl⟩ := trod_i64 g6
    obtain ⟨z1, rfl⟩ := trod_i64 g7
    obtain ⟨z2, rfl⟩ := trod_i64 g8
    obtain ⟨z3, rfl⟩ := trod_i64 g9
    obtain ⟨z4, rfl⟩ := trod_i64 g10
    obtain ⟨p0, p1, rfl, rfl⟩ := trod_pt g11
    obtain ⟨p2, p3, rfl, rfl⟩ := trod_pt g12
    obtain ⟨p4, p5, rfl, rfl⟩ := trod_pt g13
    obtain ⟨z5, rfl⟩ := trod_i64 g14
    exact ⟨⟨r0, r1, m0, m1, l0, l1, d0, d1, n0, n1, n2, cl, z0, z1, z2, z3, z4, p0, p1, p2, p3, p4, p5, z5⟩, rfl, ⟨⟨b0, b1, b2, b3, b4, b5, b6, b7⟩⟩, b8, b9, b10⟩

end Go.Proofs.YtaapjampmnanmaaGreat

namespace Go.Proofs.YtaapjampmnanmaaGreat
open Go.ChangeShapes Go.WideShapes Go.ChangeAt Go.RowKit Go.Joins

theorem cells_place : Tryz.prog.cellsOf 43 = 3 := by kernel_rfl

set_option maxRecDepth 100000 in
theorem open_place {H : Type} {enc : TypeId × Value → H} {w : World} {sp : Nat → Bool} {hd : Bool} {base : Nat} {v : Value} {d : DataW H} {p : List MemPlace}
    (hv : Value.okWide Tryz.prog w .any base 43 v) (h : DataW.Trod enc Tryz.prog w 0 sp hd 43 v d p) : ∃ z x y : Int, v = .agg #[.int .i64 z, .int .i64 x, .int .i64 y] := by
  obtain ⟨c0, c1, c2, y0, y1, y2, m, rfl, _, _, hy0, hy1, hy2⟩ := open_agg3 Tryz.underlying43 (by kernel_rfl) cells_place hv h
  obtain ⟨a, e0, _, _⟩ := DataW.trod_int Tryz.underlying3 hy0
  obtain ⟨b, e1, _, _⟩ := DataW.trod_int Tryz.underlying3 hy1
  obtain ⟨c, e2, _, _⟩ := DataW.trod_int Tryz.underlying3 hy2
  simp at e0 e1 e2
  subst e0 e1 e2
  exact ⟨a, b, c, rfl⟩

end Go.Proofs.YtaapjampmnanmaaGreat
