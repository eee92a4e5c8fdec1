/- An argument of layer 13's laws, opened into what the walks ask: a header, by value; and that a slice's length is its capacity at most. There is no condition. -/
import Derived.Test.YtmpdoileiniijaaOpen
import Derived.Test.YtmpdoileiniijaaArchK
import Derived.Lib.SmallJoins
import Derived.Deep.Slices
namespace Go.Proofs.Ytmpdoileiniijaa
open Go.ChangeShapes Go.WideShapes Go.ChangeAt Go.RowKit Go.Joins

theorem open_cap {H : Type} {enc : TypeId × Value → H} {w : World} {sp : Nat → Bool} {b : Bool} {A : Option Addr} {n c : Nat} {d : DataW H} {p : List MemPlace}
    (h : DataW.Trod enc Try.prog w 0 sp b 22 (.slice A n c) d p) : n ≤ c := by
  obtain ⟨fuel, hf⟩ := h
  rcases open_ints Try.underlying22 Try.underlying5 (by kernel_rfl) hf with ⟨hcs, _⟩ | ⟨x, l, cc, zs, hcs, _, hl, hm, hz, _, hcell, hwz⟩
  · simp [Value.cells] at hcs
    obtain ⟨rfl, rfl, rfl⟩ := hcs
    exact Nat.le_refl _
  · simp [Value.cells] at hcs
    obtain ⟨rfl, rfl, rfl⟩ := hcs
    exact hl

theorem trod_u64 {H : Type} {enc : TypeId × Value → H} {w : World} {sp : Nat → Bool} {hd : Bool} {n : Nat} {v : Value} {x : DataW H × List MemPlace}
    (h : DataW.trod enc Try.prog w 0 sp hd n 23 [v] = some x) : ∃ k : Nat, v = .int .u64 (k : Int) ∧ k ≤ 18446744073709551615 := by
  obtain ⟨z, e, _, hz⟩ := DataW.trod_int Try.underlying23 h
  simp at e
  subst e
  have h' := wf_u64 hz
  obtain ⟨k, rfl⟩ := Int.eq_ofNat_of_zero_le h'.1
  exact ⟨k, rfl, by omega⟩
theorem trod_i64 {H : Type} {enc : TypeId × Value → H} {w : World} {sp : Nat → Bool} {hd : Bool} {n : Nat} {v : Value} {x : DataW H × List MemPlace}
    (h : DataW.trod enc Try.prog w 0 sp hd n 3 [v] = some x) : ∃ k : Int, v = .int .i64 k := by
  obtain ⟨z, e, _, hz⟩ := DataW.trod_int Try.underlying3 h
  simp at e
  exact ⟨z, e⟩
theorem trod_two {H : Type} {enc : TypeId × Value → H} {w : World} {sp : Nat → Bool} {hd : Bool} {n : Nat} {v u : Value} {x : DataW H × List MemPlace}
    (h : DataW.trod enc Try.prog w 0 sp hd n 24 [v, u] = some x) : ∃ k m : Nat, v = .int .u64 (k : Int) ∧ u = .int .u64 (m : Int) ∧ k ≤ 18446744073709551615 ∧ m ≤ 18446744073709551615 := by
  obtain ⟨xs, m, _, _, _, hl, ha⟩ := DataW.trod_array Try.underlying24 h
  have c1 : Try.prog.cellsOf 23 = 1 := by kernel_rfl
  match xs, hl with
  | [y0, y1], _ =>
    have a0 := ha 0 (by decide)
    have a1 := ha 1 (by decide)
    simp [c1] at a0 a1
    obtain ⟨k, rfl, hk⟩ := trod_u64 a0
    obtain ⟨l, rfl, hl⟩ := trod_u64 a1
    exact ⟨k, l, rfl, rfl, hk, hl⟩
theorem trod_three {H : Type} {enc : TypeId × Value → H} {w : World} {sp : Nat → Bool} {hd : Bool} {n : Nat} {v u t : Value} {x : DataW H × List MemPlace}
    (h : DataW.trod enc Try.prog w 0 sp hd n 25 [v, u, t] = some x) : ∃ k m l : Nat, v = .int .u64 (k : Int) ∧ u = .int .u64 (m : Int) ∧ t = .int .u64 (l : Int) ∧ k ≤ 18446744073709551615 ∧ m ≤ 18446744073709551615 ∧ l ≤ 18446744073709551615 := by
  obtain ⟨xs, m, _, _, _, hl, ha⟩ := DataW.trod_array Try.underlying25 h
  have c1 : Try.prog.cellsOf 23 = 1 := by kernel_rfl
  match xs, hl with
  | [y0, y1, y2], _ =>
    have a0 := ha 0 (by decide)
    have a1 := ha 1 (by decide)
    have a2 := ha 2 (by decide)
    simp [c1] at a0 a1 a2
    obtain ⟨k, rfl, hk⟩ := trod_u64 a0
    obtain ⟨l, rfl, hl⟩ := trod_u64 a1
    obtain ⟨j, rfl, hj⟩ := trod_u64 a2
    exact ⟨k, l, j, rfl, rfl, rfl, hk, hl, hj⟩
theorem trod_pt {H : Type} {enc : TypeId × Value → H} {w : World} {sp : Nat → Bool} {hd : Bool} {n : Nat} {v u : Value} {x : DataW H × List MemPlace}
    (h : DataW.trod enc Try.prog w 0 sp hd n 27 [v, u] = some x) : ∃ k m : Int, v = .int .i64 k ∧ u = .int .i64 m := by
  obtain ⟨ys, k, _, _, _, hyl, hf⟩ := DataW.trod_struct Try.underlying27 h
  have c1 : Try.prog.cellsOf 3 = 1 := by kernel_rfl
  match ys, hyl with
  | [y0, y1], _ =>
    have g0 := hf 0 _ rfl
    have g1 := hf 1 _ rfl
    simp [c1] at g0 g1
    obtain ⟨a, rfl⟩ := trod_i64 g0
    obtain ⟨b, rfl⟩ := trod_i64 g1
    exact ⟨a, b, rfl, rfl⟩

theorem cells_hd : Try.prog.cellsOf 29 = 24 := by kernel_rfl
set_option maxRecDepth 100000 in
set_option maxHeartbeats 4000000 in
theorem open_hd {H : Type} {enc : TypeId × Value → H} {w : World} {sp : Nat → Bool} {hd : Bool} {base : Nat} {v : Value} {d : DataW H} {p : List MemPlace}
    (hv : Value.okWide Try.prog w .any base 29 v) (h : DataW.Trod enc Try.prog w 0 sp hd 29 v d p) :
    ∃ q : Hd, v = .agg q.cells ∧ q.Ok ∧ (q.c0 ≤ 18446744073709551615 ∧ q.c1 ≤ 18446744073709551615 ∧ q.c2 ≤ 18446744073709551615) := by
  obtain ⟨cs, rfl, hsz⟩ := okWide_struct Try.underlying29 hv
  obtain ⟨fuel, hf⟩ := h
  rw [cells_hd] at hsz
  obtain ⟨ys, k, _, _, _, hyl, hg⟩ := DataW.trod_struct Try.underlying29 hf
  have hc : (Value.agg cs).cells.toList = cs.toList := by simp [Value.cells]
  rw [hc] at hg
  obtain ⟨l, hl⟩ : ∃ l, cs.toList = l := ⟨_, rfl⟩
  have hll : l.length = 24 := by rw [← hl]; simpa using hsz
  have hcs : cs = l.toArray := by rw [← hl]
  rw [hl] at hg
  subst hcs
  clear hf hl hv hsz hc
  match l, hll, ys, hyl with
  | [c0, c1, c2, c3, c4, c5, c6, c7, c8, c9, c10, c11, c12, c13, c14, c15, c16, c17, c18, c19, c20, c21, c22, c23], _, [y0, y1, y2, y3, y4, y5, y6, y7, y8, y9, y10, y11, y12, y13, y14], _ =>
    have k1 : Try.prog.cellsOf 3 = 1 := by kernel_rfl
    have k2 : Try.prog.cellsOf 4 = 1 := by kernel_rfl
    have k3 : Try.prog.cellsOf 24 = 2 := by kernel_rfl
    have k4 : Try.prog.cellsOf 25 = 3 := by kernel_rfl
    have k5 : Try.prog.cellsOf 27 = 2 := by kernel_rfl
    have g0 := hg 0 _ rfl
    have g1 := hg 1 _ rfl
    have g2 := hg 2 _ rfl
    have g3 := hg 3 _ rfl
    have g4 := hg 4 _ rfl
    have g5 := hg 5 _ rfl
    have g6 := hg 6 _ rfl
    have g7 := hg 7 _ rfl
    have g8 := hg 8 _ rfl
    have g9 := hg 9 _ rfl
    have g10 := hg 10 _ rfl
    have g11 := hg 11 _ rfl
    have g12 := hg 12 _ rfl
    have g13 := hg 13 _ rfl
    have g14 := hg 14 _ rfl
    simp [k1, k2, k3, k4, k5] at g0 g1 g2 g3 g4 g5 g6 g7 g8 g9 g10 g11 g12 g13 g14
    obtain ⟨r0, r1, rfl, rfl, b0, b1⟩ := trod_two g0
    obtain ⟨m0, m1, rfl, rfl, b2, b3⟩ := trod_two g1
    obtain ⟨l0, l1, rfl, rfl, b4, b5⟩ := trod_two g2
    obtain ⟨d0, d1, rfl, rfl, b6, b7⟩ := trod_two g3
    obtain ⟨n0, n1, n2, rfl, rfl, rfl, b8, b9, b10⟩ := trod_three g4
    obtain ⟨cl, ecl, _⟩ := DataW.trod_bool Try.underlying4 g5
    simp at ecl
    subst ecl
    obtain ⟨z0, rfl⟩ := trod_i64 g6
    obtain ⟨z1, rfl⟩ := trod_i64 g7
    obtain ⟨z2, rfl⟩ := trod_i64 g8
    obtain ⟨z3, rfl⟩ := trod_i64 g9
    obtain ⟨z4, rfl⟩ := trod_i64 g10
    obtain ⟨p0, p1, rfl, rfl⟩ := trod_pt g11
    obtain ⟨p2, p3, rfl, rfl⟩ := trod_pt g12
    obtain ⟨p4, p5, rfl, rfl⟩ := trod_pt g13
    obtain ⟨z5, rfl⟩ := trod_i64 g14
    exact ⟨⟨r0, r1, m0, m1, l0, l1, d0, d1, n0, n1, n2, cl, z0, z1, z2, z3, z4, p0, p1, p2, p3, p4, p5, z5⟩, rfl, ⟨⟨b0, b1, b2, b3, b4, b5, b6, b7⟩⟩, b8, b9, b10⟩

end Go.Proofs.Ytmpdoileiniijaa
