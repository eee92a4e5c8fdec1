/- An argument of the laws of layer 1, opened into what the walks ask: a call (a number, an unsigned one, a number; by value). There is no condition. -/
import Derived.Test.YtceafmiieaeodaaOpen
import Derived.Lib.SmallJoins
import Derived.Deep.Slices
namespace Go.Proofs.Ytceafmiieaeodaa
open Go.ChangeShapes Go.WideShapes Go.ChangeAt Go.RowKit Go.Joins

theorem cells_act : Try.prog.cellsOf 43 = 3 := by kernel_rfl

theorem open_act {H : Type} {enc : TypeId × Value → H} {w : World} {sp : Nat → Bool} {hd : Bool} {base : Nat} {v : Value} {d : DataW H} {p : List MemPlace}
    (hv : Value.okWide Try.prog w .any base 43 v) (h : DataW.Trod enc Try.prog w 0 sp hd 43 v d p) : ∃ (z : Int) (x : Nat) (y : Int), v = .agg #[.int .i64 z, .int .u32 (x : Int), .int .i64 y] ∧ x < 4294967296 ∧ (Lit.int .i64 y).wf = true := by
  obtain ⟨c0, c1, c2, y0, y1, y2, m, rfl, _, _, hy0, hy1, hy2⟩ := open_agg3 Try.underlying43 (by kernel_rfl) cells_act hv h
  obtain ⟨a, e0, _, _⟩ := DataW.trod_int Try.underlying3 hy0
  obtain ⟨b, e1, _, hb⟩ := DataW.trod_int Try.underlying32 hy1
  obtain ⟨c, e2, _, hc⟩ := DataW.trod_int Try.underlying3 hy2
  simp at e0 e1 e2
  subst e0 e1 e2
  have hb' := wf_u32 (by simpa using hb)
  obtain ⟨x, rfl⟩ := Int.eq_ofNat_of_zero_le hb'.1
  exact ⟨a, x, c, rfl, by omega, by simpa using hc⟩

/-- A slice of calls that lies below B. -/
def RdA (w : World) (B : Nat) (A : Option Addr) (acts : List (Int × Nat × Int)) : Prop :=
  ∀ j (hj : j < acts.length), ∃ b o, A = some ⟨b, o, none⟩ ∧ b < B ∧ w.cell? ⟨b, o + j * 3, none⟩ = some (.int .i64 acts[j].1) ∧ w.cell? ⟨b, o + (j * 3 + 1), none⟩ = some (.int .u32 (acts[j].2.1 : Int)) ∧ w.cell? ⟨b, o + (j * 3 + 2), none⟩ = some (.int .i64 acts[j].2.2)
theorem RdA.below {w w' : World} {B : Nat} {A : Option Addr} {acts : List (Int × Nat × Int)} (h : RdA w B A acts) (hb : Below B w w') : RdA w' B A acts := by
  intro j hj
  obtain ⟨b, o, h1, h2, h3, h4, h5⟩ := h j hj
  exact ⟨b, o, h1, h2, by rw [hb.cell (p := ⟨_, _, none⟩) h2]; exact h3, by rw [hb.cell (p := ⟨_, _, none⟩) h2]; exact h4, by rw [hb.cell (p := ⟨_, _, none⟩) h2]; exact h5⟩

theorem act_cells {H : Type} {enc : TypeId × Value → H} {w : World} {sp : Nat → Bool} {hd : Bool} {n : Nat} {a : Addr} {cs : List Value} {x : DataW H × List MemPlace}
    (hc : w.cells? 0 a 3 = some cs) (ht : DataW.trod enc Try.prog w 0 sp hd n 43 cs = some x) :
    ∃ q : Int × Nat × Int, q.2.1 < 4294967296 ∧ w.cell? (a.add 0) = some (.int .i64 q.1) ∧ w.cell? (a.add 1) = some (.int .u32 (q.2.1 : Int)) ∧ w.cell? (a.add 2) = some (.int .i64 q.2.2) := by
  obtain ⟨_, hlen, hcell⟩ := World.cells?_some hc
  obtain ⟨ys, k, hk, hxy, _, hyl, hf⟩ := DataW.trod_struct Try.underlying43 ht
  match ys, hyl, cs, hlen with
  | [y0, y1, y2], _, [v0, v1, v2], _ =>
    have g0 := hf 0 _ rfl
    have g1 := hf 1 _ rfl
    have g2 := hf 2 _ rfl
    have c1 : Try.prog.cellsOf 3 = 1 := by kernel_rfl
    have c2 : Try.prog.cellsOf 32 = 1 := by kernel_rfl
    simp [c1, c2] at g0 g1 g2
    have e0 := hcell 0 (by omega)
    have e1 := hcell 1 (by omega)
    have e2 := hcell 2 (by omega)
    obtain ⟨z, f0, _, _⟩ := DataW.trod_int Try.underlying3 g0
    obtain ⟨u, f1, _, hu⟩ := DataW.trod_int Try.underlying32 g1
    obtain ⟨m, f2, _, _⟩ := DataW.trod_int Try.underlying3 g2
    simp at f0 f1 f2
    subst f0 f1 f2
    have hu' := wf_u32 hu
    obtain ⟨u', rfl⟩ := Int.eq_ofNat_of_zero_le hu'.1
    exact ⟨(z, u', m), by have := hu'.2; simp only; omega, e0, e1, e2⟩

theorem open_acts {H : Type} {enc : TypeId × Value → H} {w : World} {sp : Nat → Bool} {b : Bool} {A : Option Addr} {n c : Nat} {d : DataW H} {p : List MemPlace}
    (h : DataW.Trod enc Try.prog w 0 sp b 38 (.slice A n c) d p) : ∃ acts : List (Int × Nat × Int), acts.length = n ∧ RdA w w.heap.size A acts ∧ (∀ q ∈ acts, q.2.1 < 4294967296) ∧ n ≤ maxLen := by
  obtain ⟨fuel, hf⟩ := h
  rcases Go.Deep.open_slice Try.underlying38 hf with ⟨hcs, _⟩ | ⟨a, len, cap, m, k, D, Pl, hcs, _, hl, hm, hmm, _, hi⟩
  · simp [Value.cells] at hcs
    obtain ⟨rfl, rfl, rfl⟩ := hcs
    exact ⟨[], rfl, fun j hj => absurd hj (Nat.not_lt_zero _), by simp, Nat.zero_le _⟩
  · simp [Value.cells] at hcs
    obtain ⟨rfl, rfl, rfl⟩ := hcs
    have hlm : n ≤ m := by rw [hmm]; split <;> omega
    obtain ⟨f, hfq⟩ := Go.Deep.choose_lt (n := n) (fun i hin => by
      obtain ⟨cs', h1, h2⟩ := hi i (by omega)
      rw [cells_act] at h1
      exact act_cells h1 h2)
    refine ⟨(List.range n).map f, by simp, ?_, ?_, Nat.le_trans hl hm⟩
    · intro j hj
      have hj' : j < n := by simpa using hj
      obtain ⟨_, h1, h2, h3⟩ := hfq j hj'
      obtain ⟨_, h0, _, _⟩ := hfq 0 (by omega)
      rw [Go.Deep.add_add] at h0 h1 h2 h3
      have h00 : w.cell? a = some (.int .i64 (f 0).1) := by simpa [Addr.add] using h0
      have hs := spot_none h00
      refine ⟨a.block, a.off, ?_, World.block_lt_of_cell? w a h00, ?_, ?_, ?_⟩
      · rw [← hs]
      · rw [hs, add_plain] at h1
        simpa using h1
      · rw [hs, add_plain] at h2
        simpa using h2
      · rw [hs, add_plain] at h3
        simpa using h3
    · intro q hq
      obtain ⟨i, hi1, rfl⟩ := List.mem_map.1 hq
      exact (hfq i (List.mem_range.1 hi1)).1

end Go.Proofs.Ytceafmiieaeodaa
