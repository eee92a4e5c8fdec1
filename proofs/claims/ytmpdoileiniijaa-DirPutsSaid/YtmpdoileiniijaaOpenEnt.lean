/- An argument of layer 12's laws, opened into what the walks ask: a slice of entries. There is no condition. -/
import Derived.Test.YtmpdoileiniijaaOpen
import Derived.Test.YtmpdoileiniijaaDir
import Derived.Lib.SmallJoins
import Derived.Deep.Slices
namespace Go.Proofs.Ytmpdoileiniijaa
open Go.ChangeShapes Go.WideShapes Go.ChangeAt Go.RowKit Go.Joins

theorem cells_ent : Try.prog.cellsOf 43 = 4 := by kernel_rfl

theorem ent_cells {H : Type} {enc : TypeId × Value → H} {w : World} {sp : Nat → Bool} {hd : Bool} {n : Nat} {a : Addr} {cs : List Value} {x : DataW H × List MemPlace}
    (hc : w.cells? 0 a 4 = some cs) (ht : DataW.trod enc Try.prog w 0 sp hd n 43 cs = some x) :
    ∃ q : Ent, q.big ∧ w.cell? (a.add 0) = some (.int .u64 (q.id : Int)) ∧ w.cell? (a.add 1) = some (.int .u64 (q.off : Int)) ∧ w.cell? (a.add 2) = some (.int .u64 (q.len : Int)) ∧ w.cell? (a.add 3) = some (.int .u64 (q.run : Int)) := by
  obtain ⟨_, hlen, hcell⟩ := World.cells?_some hc
  obtain ⟨ys, k, hk, hxy, _, hyl, hf⟩ := DataW.trod_struct Try.underlying43 ht
  match ys, hyl, cs, hlen with
  | [y0, y1, y2, y3], _, [v0, v1, v2, v3], _ =>
    have g0 := hf 0 _ rfl
    have g1 := hf 1 _ rfl
    have g2 := hf 2 _ rfl
    have g3 := hf 3 _ rfl
    have c1 : Try.prog.cellsOf 23 = 1 := by kernel_rfl
    simp [c1] at g0 g1 g2 g3
    have e0 := hcell 0 (by omega)
    have e1 := hcell 1 (by omega)
    have e2 := hcell 2 (by omega)
    have e3 := hcell 3 (by omega)
    obtain ⟨a0, f0, _, h0⟩ := DataW.trod_int Try.underlying23 g0
    obtain ⟨a1, f1, _, h1⟩ := DataW.trod_int Try.underlying23 g1
    obtain ⟨a2, f2, _, h2⟩ := DataW.trod_int Try.underlying23 g2
    obtain ⟨a3, f3, _, h3⟩ := DataW.trod_int Try.underlying23 g3
    simp at f0 f1 f2 f3
    subst f0 f1 f2 f3
    have h0' := wf_u64 h0
    have h1' := wf_u64 h1
    have h2' := wf_u64 h2
    have h3' := wf_u64 h3
    obtain ⟨b0, rfl⟩ := Int.eq_ofNat_of_zero_le h0'.1
    obtain ⟨b1, rfl⟩ := Int.eq_ofNat_of_zero_le h1'.1
    obtain ⟨b2, rfl⟩ := Int.eq_ofNat_of_zero_le h2'.1
    obtain ⟨b3, rfl⟩ := Int.eq_ofNat_of_zero_le h3'.1
    exact ⟨⟨b0, b1, b2, b3⟩, ⟨by have := h0'.2; simp only; omega, by have := h1'.2; simp only; omega, by have := h2'.2; simp only; omega, by have := h3'.2; simp only; omega⟩, e0, e1, e2, e3⟩

theorem open_ents {H : Type} {enc : TypeId × Value → H} {w : World} {sp : Nat → Bool} {b : Bool} {A : Option Addr} {n c : Nat} {d : DataW H} {p : List MemPlace}
    (h : DataW.Trod enc Try.prog w 0 sp b 41 (.slice A n c) d p) : ∃ es : List Ent, es.length = n ∧ RdE w w.heap.size A es ∧ (∀ x ∈ es, x.big) ∧ n ≤ maxLen := by
  obtain ⟨fuel, hf⟩ := h
  rcases Go.Deep.open_slice Try.underlying41 hf with ⟨hcs, _⟩ | ⟨a, len, cap, m, k, D, Pl, hcs, _, hl, hm, hmm, _, hi⟩
  · simp [Value.cells] at hcs
    obtain ⟨rfl, rfl, rfl⟩ := hcs
    exact ⟨[], rfl, fun j hj => absurd hj (Nat.not_lt_zero _), by simp, Nat.zero_le _⟩
  · simp [Value.cells] at hcs
    obtain ⟨rfl, rfl, rfl⟩ := hcs
    have hlm : n ≤ m := by rw [hmm]; split <;> omega
    haveI : Inhabited Ent := ⟨⟨0, 0, 0, 0⟩⟩
    obtain ⟨f, hfq⟩ := Go.Deep.choose_lt (n := n) (fun i hin => by
      obtain ⟨cs', h1, h2⟩ := hi i (by omega)
      rw [cells_ent] at h1
      exact ent_cells h1 h2)
    refine ⟨(List.range n).map f, by simp, ?_, ?_, Nat.le_trans hl hm⟩
    · intro j hj
      have hj' : j < n := by simpa using hj
      obtain ⟨_, h1, h2, h3, h4⟩ := hfq j hj'
      obtain ⟨_, h0, _, _, _⟩ := hfq 0 (by omega)
      rw [Go.Deep.add_add] at h0 h1 h2 h3 h4
      have h00 : w.cell? a = some (.int .u64 ((f 0).id : Int)) := by simpa [Addr.add] using h0
      have hs := spot_none h00
      refine ⟨a.block, a.off, ?_, World.block_lt_of_cell? w a h00, ?_, ?_, ?_, ?_⟩
      · rw [← hs]
      · rw [hs, add_plain] at h1
        simpa using h1
      · rw [hs, add_plain, ← Nat.add_assoc] at h2
        simpa using h2
      · rw [hs, add_plain, ← Nat.add_assoc] at h3
        simpa using h3
      · rw [hs, add_plain, ← Nat.add_assoc] at h4
        simpa using h4
    · intro q hq
      obtain ⟨i, hi1, rfl⟩ := List.mem_map.1 hq
      exact (hfq i (List.mem_range.1 hi1)).1

end Go.Proofs.Ytmpdoileiniijaa
