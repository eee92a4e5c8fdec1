/- Layer 14 (pack): which entries and contents numbered items make: plain law. There is no condition. -/
import Derived.Test.YtaapjampmnanmaaGreatPkPlain
import Derived.Test.YtaapjampmnanmaaGreatDirX
namespace Go.Proofs.YtaapjampmnanmaaGreat
open Go.RowKit
set_option linter.unusedVariables false
structure EnS where
  out : List Ent
  texts : List (List UInt8)
  last : List UInt8
def EnS.off (pk : List UInt8 → List UInt8) (texts : List (List UInt8)) (k : Nat) : Nat := ((texts.take k).map fun t => (pk t).length).sum
def EnS.more (texts : List (List UInt8)) (bs : List UInt8) : List (List UInt8) := if bs ∈ texts then texts else texts ++ [bs]
def EnS.at (texts : List (List UInt8)) (bs : List UInt8) : Nat := texts.idxOf bs
def EnS.joins (s : EnS) (id : Nat) (bs : List UInt8) : Prop := s.last = bs ∧ ∃ e, s.out.getLast? = some e ∧ e.id + e.run = id
def EnS.add (pk : List UInt8 → List UInt8) (s : EnS) (id : Nat) (bs : List UInt8) : EnS :=
  ⟨s.out ++ [⟨id, EnS.off pk s.texts (EnS.at s.texts bs), (pk bs).length, 1⟩], EnS.more s.texts bs, bs⟩
def EnS.join (s : EnS) : EnS := ⟨s.out.dropLast ++ (s.out.getLast?.map fun e => (⟨e.id, e.off, e.len, e.run + 1⟩ : Ent)).toList, s.texts, s.last⟩
open Classical in
noncomputable def EnS.step (pk : List UInt8 → List UInt8) (s : EnS) (id : Nat) (bs : List UInt8) : EnS := if s.joins id bs then s.join else s.add pk id bs
noncomputable def EnS.upto (pk : List UInt8 → List UInt8) (X : Nat → It) : Nat → EnS
  | 0 => ⟨[], [], []⟩
  | k + 1 => (EnS.upto pk X k).step pk (X k).id (X k).bs
theorem EnS.step_join {pk : List UInt8 → List UInt8} {s : EnS} {id : Nat} {bs : List UInt8} (h : s.joins id bs) : s.step pk id bs = s.join := if_pos h
theorem EnS.step_add {pk : List UInt8 → List UInt8} {s : EnS} {id : Nat} {bs : List UInt8} (h : ¬ s.joins id bs) : s.step pk id bs = s.add pk id bs := if_neg h
structure EnS.Fits (s : EnS) (k M : Nat) : Prop where
  outs : s.out.length ≤ k
  txt : s.texts.length ≤ k
  runs : ∀ e ∈ s.out, 1 ≤ e.run ∧ e.run ≤ k
  ids : ∀ e ∈ s.out, e.id ≤ M
theorem EnS.fits (pk : List UInt8 → List UInt8) (X : Nat → It) (M : Nat) : ∀ k, (∀ j, j < k → (X j).id ≤ M) → (EnS.upto pk X k).Fits k M := by
  intro k
  induction k with
  | zero => intro _; exact ⟨Nat.le_refl _, Nat.le_refl _, fun e he => by simp [EnS.upto] at he, fun e he => by simp [EnS.upto] at he⟩
  | succ k ih =>
    intro hM
    replace ih := ih (fun j hj => hM j (Nat.lt_succ_of_lt hj))
    by_cases hj : (EnS.upto pk X k).joins (X k).id (X k).bs
    · rw [EnS.upto, EnS.step_join hj]
      obtain ⟨_, e, he, _⟩ := hj
      have hne : (EnS.upto pk X k).out ≠ [] := by intro h; rw [h] at he; cases he
      have hem : e ∈ (EnS.upto pk X k).out := List.mem_of_getLast? he
      have hlen : ((EnS.upto pk X k).out.dropLast).length + 1 = (EnS.upto pk X k).out.length := by
        rw [List.length_dropLast]
        have := List.length_pos_iff.2 hne
        omega
      unfold EnS.join
      rw [he]
      refine ⟨?_, Nat.le_succ_of_le ih.txt, ?_, ?_⟩
      · have := ih.outs
        simp
        omega
      · intro x hx
        simp at hx
        rcases hx with hx | rfl
        · have := ih.runs x (List.dropLast_subset _ hx)
          omega
        · have := ih.runs e hem
          simp only
          omega
      · intro x hx
        simp at hx
        rcases hx with hx | rfl
        · exact ih.ids x (List.dropLast_subset _ hx)
        · exact ih.ids e hem
    · rw [EnS.upto, EnS.step_add hj]
      unfold EnS.add
      refine ⟨?_, ?_, ?_, ?_⟩
      · have := ih.outs
        simp
        omega
      · have := ih.txt
        show (EnS.more _ _).length ≤ _
        unfold EnS.more
        split
        · omega
        · simp; omega
      · intro x hx
        simp at hx
        rcases hx with hx | rfl
        · have := ih.runs x hx
          omega
        · simp only
          omega
      · intro x hx
        simp at hx
        rcases hx with hx | rfl
        · exact ih.ids x hx
        · exact hM k (Nat.lt_succ_self k)
theorem num_inj {m q : Im} (hm : m.ok) (hq : q.ok) (h : m.num = q.num) : m.z = q.z ∧ m.x = q.x ∧ m.y = q.y := by
  obtain ⟨a, b, c, h1, h2, h3, h4, h5, h6⟩ := isPl_nat hm
  obtain ⟨a', b', c', h1', h2', h3', h4', h5', h6'⟩ := isPl_nat hq
  have e1 : m.num = Hilb.F a + Hilb.hil a b c := by unfold Im.num; rw [h1, h2, h3]; rfl
  have e2 : q.num = Hilb.F a' + Hilb.hil a' b' c' := by unfold Im.num; rw [h1', h2', h3']; rfl
  rw [e1, e2] at h
  have l1 := Hilb.hil_lt a b c h5 h6
  have l2 := Hilb.hil_lt a' b' c' h5' h6'
  have n1 := Hilb.F_next a
  have n2 := Hilb.F_next a'
  have haa : a = a' := by
    rcases Nat.lt_trichotomy a a' with h7 | h7 | h7
    · have := Hilb.F_mono (show a + 1 ≤ a' from h7); omega
    · exact h7
    · have := Hilb.F_mono (show a' + 1 ≤ a from h7); omega
  subst haa
  have h8 : Hilb.hil a b c = Hilb.hil a b' c' := by omega
  have u1 := Hilb.unhil_hil a b c h5 h6
  have u2 := Hilb.unhil_hil a b' c' h5' h6'
  rw [h8, u2] at u1
  injection u1 with v1 v2
  exact ⟨by rw [h1, h1'], by rw [h2, h2', v1], by rw [h3, h3', v2]⟩
end Go.Proofs.YtaapjampmnanmaaGreat
