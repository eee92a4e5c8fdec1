/- Arguments of the laws, opened into what the walks ask: a slice of bytes, a slice of numbers. There is no condition. Opening a slice of bytes: its capacity. There is no condition. An argument of layer 12's laws, opened into what the walks ask: a slice of entries. There is no condition. -/
import Derived.Test.YtaapjampmnanmaaBase
import Derived.Test.YtaapjampmnanmaaRows
import Derived.ProofKit
import Derived.OpenShut
import Derived.ShutString
import Derived.ChangeOld
import Derived.Test.YtaapjampmnanmaaDirX
import Derived.Lib.SmallJoins
import Derived.Deep.Slices
namespace Go.Proofs.Ytaapjampmnanmaa
open Go.ChangeShapes Go.WideShapes Go.ChangeAt Go.RowKit

theorem own : ownKnob Try.prog.godebug = none := by kernel_rfl
theorem laidOut : laidOutB Try.prog = true := by kernel_rfl

theorem spot_none {w : World} {a : Addr} {v : Value} (h : w.cell? a = some v) : a = ⟨a.block, a.off, none⟩ := by
  obtain ⟨b, o, s⟩ := a
  have hs : s = none := World.cell?_spot h
  rw [hs]

theorem add_plain (b o i : Nat) : (⟨b, o, none⟩ : Addr).add i = ⟨b, o + i, none⟩ := Addr.add_mid b o i

/-- Cells that were read one by one, as a slice that reads as a list. -/
theorem rd_of_cells {w : World} {a : Addr} {n : Nat} {xs : List Value} (hl : xs.length = n) (hc : ∀ i, i < n → w.cell? (a.add i) = xs[i]?) : Rd w w.heap.size (some a) n xs := by
  refine ⟨hl, fun j hj => ?_⟩
  have h0 : w.cell? a = xs[0]? := by
    have := hc 0 (by omega)
    simpa [Addr.add] using this
  have hx : xs[0]? = some (xs[0]'(by omega)) := List.getElem?_eq_getElem (by omega)
  rw [hx] at h0
  have hs := spot_none h0
  refine ⟨a.block, a.off, by rw [← hs], World.block_lt_of_cell? w a h0, ?_⟩
  have := hc j hj
  rwa [hs, add_plain] at this

theorem wf_u8 {z : Int} (h : (Lit.int .u8 z).wf = true) : 0 ≤ z ∧ z ≤ 255 := by simpa [Lit.wf, IntKind.min, IntKind.max, IntKind.signed, IntKind.bits] using h
theorem wf_u64 {z : Int} (h : (Lit.int .u64 z).wf = true) : 0 ≤ z ∧ z ≤ 18446744073709551615 := by simpa [Lit.wf, IntKind.min, IntKind.max, IntKind.signed, IntKind.bits] using h
theorem wf_i64 {z : Int} (h : (Lit.int .i64 z).wf = true) : -9223372036854775808 ≤ z ∧ z ≤ 9223372036854775807 := by simpa [Lit.wf, IntKind.min, IntKind.max, IntKind.signed, IntKind.bits] using h

/-- A slice of bytes that came in. -/
theorem open_bytes {H : Type} {enc : TypeId × Value → H} {w : World} {sp : Nat → Bool} {b : Bool} {A : Option Addr} {n c : Nat} {d : DataW H} {p : List MemPlace}
    (h : DataW.Trod enc Try.prog w 0 sp b 40 (.slice A n c) d p) : ∃ bs : List UInt8, Rd w w.heap.size A n (bs.map bv) ∧ n ≤ maxLen := by
  obtain ⟨fuel, hf⟩ := h
  rcases open_ints Try.underlying40 Try.underlying5 (by kernel_rfl) hf with ⟨hcs, _⟩ | ⟨x, l, cc, zs, hcs, _, hl, hm, hz, _, hcell, hwz⟩
  · simp [Value.cells] at hcs
    obtain ⟨rfl, rfl, rfl⟩ := hcs
    exact ⟨[], Rd.nil _ _ _, Nat.zero_le _⟩
  · simp [Value.cells] at hcs
    obtain ⟨rfl, rfl, rfl⟩ := hcs
    refine ⟨(zs.take n).map fun z => UInt8.ofNat z.toNat, rd_of_cells ?_ ?_, Nat.le_trans hl hm⟩
    · rw [List.length_map, List.length_map, List.length_take]
      split at hz <;> omega
    · intro i hi
      have hzl : i < zs.length := by split at hz <;> omega
      rw [hcell i hzl, List.getElem?_map, List.getElem?_map, List.getElem?_take, if_pos hi, List.getElem?_eq_getElem hzl]
      have hb := wf_u8 (hwz zs[i] (List.getElem_mem hzl))
      simp only [Option.map_some, bv, List.getD_eq_getElem?_getD, List.getElem?_eq_getElem hzl, Option.getD_some, UInt8.toNat_ofNat']
      congr 2
      omega

end Go.Proofs.Ytaapjampmnanmaa

namespace Go.Proofs.Ytaapjampmnanmaa
open Go.ChangeShapes Go.WideShapes Go.ChangeAt Go.RowKit

theorem open_cap {H : Type} {enc : TypeId × Value → H} {w : World} {sp : Nat → Bool} {b : Bool} {A : Option Addr} {n c : Nat} {d : DataW H} {p : List MemPlace}
    (h : DataW.Trod enc Try.prog w 0 sp b 40 (.slice A n c) d p) : n ≤ c := by
  obtain ⟨fuel, hf⟩ := h
  rcases open_ints Try.underlying40 Try.underlying5 (by kernel_rfl) hf with ⟨hcs, _⟩ | ⟨x, l, cc, zs, hcs, _, hl, hm, hz, _, hcell, hwz⟩
  · simp [Value.cells] at hcs
    obtain ⟨rfl, rfl, rfl⟩ := hcs
    exact Nat.le_refl _
  · simp [Value.cells] at hcs
    obtain ⟨rfl, rfl, rfl⟩ := hcs
    exact hl

end Go.Proofs.Ytaapjampmnanmaa

namespace Go.Proofs.Ytaapjampmnanmaa
open Go.ChangeShapes Go.WideShapes Go.ChangeAt Go.RowKit Go.Joins

theorem cells_ent : Try.prog.cellsOf 57 = 4 := by kernel_rfl

set_option maxRecDepth 100000 in
theorem ent_cells {H : Type} {enc : TypeId × Value → H} {w : World} {sp : Nat → Bool} {hd : Bool} {n : Nat} {a : Addr} {cs : List Value} {x : DataW H × List MemPlace}
    (hc : w.cells? 0 a 4 = some cs) (ht : DataW.trod enc Try.prog w 0 sp hd n 57 cs = some x) :
    ∃ q : Ent, q.big ∧ w.cell? (a.add 0) = some (.int .u64 (q.id : Int)) ∧ w.cell? (a.add 1) = some (.int .u64 (q.off : Int)) ∧ w.cell? (a.add 2) = some (.int .u64 (q.len : Int)) ∧ w.cell? (a.add 3) = some (.int .u64 (q.run : Int)) := by
  obtain ⟨_, hlen, hcell⟩ := World.cells?_some hc
  obtain ⟨ys, k, hk, hxy, _, hyl, hf⟩ := DataW.trod_struct Try.underlying57 ht
  match ys, hyl, cs, hlen with
  | [y0, y1, y2, y3], _, [v0, v1, v2, v3], _ =>
    have g0 := hf 0 _ rfl
    have g1 := hf 1 _ rfl
    have g2 := hf 2 _ rfl
    have g3 := hf 3 _ rfl
    have c1 : Try.prog.cellsOf 45 = 1 := by kernel_rfl
    simp [c1] at g0 g1 g2 g3
    have e0 := hcell 0 (by omega)
    have e1 := hcell 1 (by omega)
    have e2 := hcell 2 (by omega)
    have e3 := hcell 3 (by omega)
    obtain ⟨a0, f0, _, h0⟩ := DataW.trod_int Try.underlying45 g0
    obtain ⟨a1, f1, _, h1⟩ := DataW.trod_int Try.underlying45 g1
    obtain ⟨a2, f2, _, h2⟩ := DataW.trod_int Try.underlying45 g2
    obtain ⟨a3, f3, _, h3⟩ := DataW.trod_int Try.underlying45 g3
    simp at f0 f1 f2 f3
    subst f0 f1 f2 f3
    have h0' := wf_u64 h0
    have h1' := wf_u64 h1
    have h2' := wf_u64 h2
    have h3' := wf_u64 h3
    obtain ⟨b0, rfl⟩ := Int.eq_ofNat_of_zero_le h0'.1
    obtain ⟨b1, rfl⟩ := Int.eq_ofNat_of_zero_le h1'.1
    obtain ⟨b2, rfl⟩ := Int.eq_ofNat_of_zero_le h2'.1
    obtain ⟨b3, rfl⟩ := Int.eq_ofNat_of_zero_le h3'.1
    exact ⟨⟨b0, b1, b2, b3⟩, ⟨by have := h0'.2; simp only; omega, by have := h1'.2; simp only; omega, by have := h2'.2; simp only; omega, by have := h3'.2; simp only; omega⟩, e0, e1, e2, e3⟩

set_option maxRecDepth 100000 in
theorem open_ents {H : Type} {enc : TypeId × Value → H} {w : World} {sp : Nat → Bool} {b : Bool} {A : Option Addr} {n c : Nat} {d : DataW H} {p : List MemPlace}
    (h : DataW.Trod enc Try.prog w 0 sp b 23 (.slice A n c) d p) : ∃ es : List Ent, es.length = n ∧ RdE w w.heap.size A es ∧ (∀ x ∈ es, x.big) ∧ n ≤ maxLen := by
  obtain ⟨fuel, hf⟩ := h
  rcases Go.Deep.open_slice Try.underlying23 hf with ⟨hcs, _⟩ | ⟨a, len, cap, m, k, D, Pl, hcs, _, hl, hm, hmm, _, hi⟩
  · simp [Value.cells] at hcs
    obtain ⟨rfl, rfl, rfl⟩ := hcs
    exact ⟨[], rfl, fun j hj => absurd hj (Nat.not_lt_zero _), by simp, Nat.zero_le _⟩
  · simp [Value.cells] at hcs
    obtain ⟨rfl, rfl, rfl⟩ := hcs
    have hlm : n ≤ m := by rw [hmm]; split <;> omega
    haveI : Inhabited Ent := ⟨⟨0, 0, 0, 0⟩⟩
    obtain ⟨f, hfq⟩ := Go.Deep.choose_lt (n := n) (fun i hin => by
      obtain ⟨cs', h1, h2⟩ := hi i (by omega)
      rw [cells_ent] at h1
      exact ent_cells h1 h2)
    refine ⟨(List.range n).map f, by simp, ?_, ?_, Nat.le_trans hl hm⟩
    · intro j hj
      have hj' : j < n := by simpa using hj
      obtain ⟨_, h1, h2, h3, h4⟩ := hfq j hj'
      obtain ⟨_, h0, _, _, _⟩ := hfq 0 (by omega)
      rw [Go.Deep.add_add] at h0 h1 h2 h3 h4
      have h00 : w.cell? a = some (.int .u64 ((f 0).id : Int)) := by simpa [Addr.add] using h0
      have hs := spot_none h00
      refine ⟨a.block, a.off, ?_, World.block_lt_of_cell? w a h00, ?_, ?_, ?_, ?_⟩
      · rw [← hs]
      · rw [hs, add_plain] at h1
        simpa using h1
      · rw [hs, add_plain, ← Nat.add_assoc] at h2
        simpa using h2
      · rw [hs, add_plain, ← Nat.add_assoc] at h3
        simpa using h3
      · rw [hs, add_plain, ← Nat.add_assoc] at h4
        simpa using h4
    · intro q hq
      obtain ⟨i, hi1, rfl⟩ := List.mem_map.1 hq
      exact (hfq i (List.mem_range.1 hi1)).1

end Go.Proofs.Ytaapjampmnanmaa
