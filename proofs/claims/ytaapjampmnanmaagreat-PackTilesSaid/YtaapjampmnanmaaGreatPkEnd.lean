/- Layer 14 (pack): contents in memory, and a map from texts to entries; plain facts on them. There is no condition. -/
import Derived.Test.YtaapjampmnanmaaGreatPkEn
import Derived.Test.YtaapjampmnanmaaGreatPkRow
import Derived.Test.YtaapjampmnanmaaGreatPkLeaf
import Derived.Test.YtaapjampmnanmaaGreatDirX
import Derived.Maps.Own
import Derived.Maps.OwnSet
import Derived.Maps.Views
import Derived.StringKeys
namespace Go.Proofs.YtaapjampmnanmaaGreat
open Go.RowKit
set_option linter.unusedVariables false
set_option linter.unusedSimpArgs false
def Byt (W : World) (G : Nat) (s : Sl) (bs : List UInt8) : Prop := s.n = bs.length ∧ (Rd W G s.A s.n (bs.map bv) ∨ Ow W G 5 s.A s.n s.c (bs.map bv))
theorem Ow.rowOf {w : World} {base n c : Nat} {e : TypeId} {A : Option Addr} {xs : List Value} (h : Ow w base e A n c xs) {g : Nat} (hg : blk A = some g) : ∃ cur, w.heap[g]? = some (.cells cur e (0, 0)) := by
  rcases h.2 with ⟨hv, _⟩ | ⟨g', cap, cur, hv, _, hh, _⟩
  · injection hv with h1
    rw [h1] at hg
    simp [blk] at hg
  · injection hv with h1
    rw [h1] at hg
    have : g' = g := by simpa [blk] using hg
    subst this
    exact ⟨cur, hh⟩
theorem Rd.far {w w' : World} {G n : Nat} {A : Option Addr} {xs : List Value} {R : Nat → Prop} (h : Rd w G A n xs) (hk : Chg R w w') (hG : ∀ k, R k → G ≤ k) : Rd w' G A n xs :=
  ⟨h.1, fun j hj => by
    obtain ⟨b, o, e, hb, hc⟩ := h.2 j hj
    have hj' : j < xs.length := by rw [h.1]; exact hj
    rw [List.getElem?_eq_getElem hj'] at hc
    refine ⟨b, o, e, hb, ?_⟩
    rw [List.getElem?_eq_getElem hj']
    exact hk.cell hc (fun hr => by have := hG _ hr; simp only at this; omega)⟩
theorem Byt.chg {W W' : World} {G : Nat} {s : Sl} {bs : List UInt8} {R : Nat → Prop} (h : Byt W G s bs) (hk : Chg R W W') (hG : ∀ k, R k → G ≤ k) (hty : ∀ k cur, W.heap[k]? = some (.cells cur 5 (0, 0)) → ¬ R k) : Byt W' G s bs := by
  refine ⟨h.1, ?_⟩
  rcases h.2 with h | h
  · exact .inl (h.far hk hG)
  · exact .inr (h.chg hk (fun g hg => by obtain ⟨cur, hh⟩ := h.rowOf hg; exact hty g cur hh))
theorem Byt.below {W W' : World} {G : Nat} {s : Sl} {bs : List UInt8} (h : Byt W G s bs) (hb : Below W.heap.size W W') : Byt W' G s bs :=
  h.chg (R := fun _ => False) ⟨hb.os, hb.tape, hb.output, hb.size, fun k hl _ => hb.block k hl⟩ (fun _ h => h.elim) (fun _ _ _ h => h)
theorem Byt.rd {W : World} {G : Nat} {s : Sl} {bs : List UInt8} (h : Byt W G s bs) (hG : G ≤ W.heap.size) : Rd W W.heap.size s.A s.n (bs.map bv) := by
  rcases h.2 with h | h
  · exact ⟨h.1, fun j hj => by obtain ⟨b, o, e, hb, hc⟩ := h.2 j hj; exact ⟨b, o, e, by omega, hc⟩⟩
  · exact h.rd
def Byts (W : World) (G : Nat) (vs : List Sl) (bss : List (List UInt8)) : Prop := vs.length = bss.length ∧ ∀ (j : Nat) (h1 : j < vs.length) (h2 : j < bss.length), Byt W G vs[j] bss[j]
theorem Byts.nil (W : World) (G : Nat) : Byts W G [] [] := ⟨rfl, fun j h _ => absurd h (Nat.not_lt_zero _)⟩
theorem Byts.chg {W W' : World} {G : Nat} {vs : List Sl} {bss : List (List UInt8)} {R : Nat → Prop} (h : Byts W G vs bss) (hk : Chg R W W') (hG : ∀ k, R k → G ≤ k) (hty : ∀ k cur, W.heap[k]? = some (.cells cur 5 (0, 0)) → ¬ R k) : Byts W' G vs bss :=
  ⟨h.1, fun j h1 h2 => (h.2 j h1 h2).chg hk hG hty⟩
theorem Byts.below {W W' : World} {G : Nat} {vs : List Sl} {bss : List (List UInt8)} (h : Byts W G vs bss) (hb : Below W.heap.size W W') : Byts W' G vs bss := ⟨h.1, fun j h1 h2 => (h.2 j h1 h2).below hb⟩
theorem Byts.snoc {W : World} {G : Nat} {vs : List Sl} {bss : List (List UInt8)} (h : Byts W G vs bss) (s : Sl) (p : List UInt8) (hs : Byt W G s p) : Byts W G (vs ++ [s]) (bss ++ [p]) := by
  refine ⟨by rw [List.length_append, List.length_append, h.1]; rfl, fun j h1 h2 => ?_⟩
  by_cases hj : j < vs.length
  · have := h.2 j hj (by rw [← h.1]; exact hj)
    rw [List.getElem_append_left hj, List.getElem_append_left (by rw [← h.1]; exact hj)]
    exact this
  · have hje : j = vs.length := by simp at h1; omega
    subst hje
    have e1 : (vs ++ [s])[vs.length]'h1 = s := by simp
    have e2 : (bss ++ [p])[vs.length]'h2 = p := by
      rw [List.getElem_append_right (by rw [h.1]; exact Nat.le_refl _)]
      simp [h.1]
    rw [e1, e2]
    exact hs
theorem elem_cont : ElemR Tryz.prog 84 22 (.slice none 0 0) 1 24 := ⟨Tryz.underlying84, by kernel_rfl, rfl, by omega, by omega⟩
def EnS.tot (pk : List UInt8 → List UInt8) (texts : List (List UInt8)) : Nat := (texts.map fun t => (pk t).length).sum
theorem EnS.off_all (pk : List UInt8 → List UInt8) (texts : List (List UInt8)) : EnS.off pk texts texts.length = EnS.tot pk texts := by
  unfold EnS.off EnS.tot
  rw [List.take_length]
theorem EnS.off_snoc (pk : List UInt8 → List UInt8) (texts : List (List UInt8)) (t : List UInt8) (k : Nat) (hk : k ≤ texts.length) : EnS.off pk (texts ++ [t]) k = EnS.off pk texts k := by
  unfold EnS.off
  rw [List.take_append_of_le_length hk]
theorem EnS.tot_snoc (pk : List UInt8 → List UInt8) (texts : List (List UInt8)) (t : List UInt8) : EnS.tot pk (texts ++ [t]) = EnS.tot pk texts + (pk t).length := by
  unfold EnS.tot
  rw [List.map_append, List.sum_append]
  simp
theorem EnS.tot_le (pk : List UInt8 → List UInt8) (M : Nat) (texts : List (List UInt8)) (h : ∀ t ∈ texts, (pk t).length ≤ M) : EnS.tot pk texts ≤ M * texts.length := by
  unfold EnS.tot
  induction texts with
  | nil => simp
  | cons t ts ih =>
    have h1 := ih (fun u hu => h u (by simp [hu]))
    have h2 := h t (by simp)
    rw [List.map_cons, List.sum_cons, List.length_cons, Nat.mul_succ]
    omega
theorem EnS.off_le (pk : List UInt8 → List UInt8) (texts : List (List UInt8)) (k : Nat) : EnS.off pk texts k ≤ EnS.tot pk texts := by
  unfold EnS.off EnS.tot
  have h : texts = texts.take k ++ texts.drop k := (List.take_append_drop k texts).symm
  conv => rhs; rw [h, List.map_append, List.sum_append]
  omega
def entD (o l : Nat) : DataW Unit := .agg [.lit (.int .u64 (o : Int)), .lit (.int .u64 (l : Int))]
def entV (o l : Nat) : Value := .agg #[.int .u64 0, .int .u64 (o : Int), .int .u64 (l : Int), .int .u64 0]
open Classical in
noncomputable def entR (v : Value) : Option (DataW Unit × List MemPlace) := if h : ∃ x : Nat × Nat, v = entV x.1 x.2 then some (entD (Classical.choose h).1 (Classical.choose h).2, []) else none
theorem entV_inj {o l o' l' : Nat} (h : entV o l = entV o' l') : o = o' ∧ l = l' := by
  unfold entV at h
  simp at h
  omega
theorem entD_inj {o l o' l' : Nat} (h : entD o l = entD o' l') : o = o' ∧ l = l' := by
  unfold entD at h
  simp at h
  omega
theorem entR_mk (o l : Nat) : entR (entV o l) = some (entD o l, []) := by
  have h : ∃ x : Nat × Nat, entV o l = entV x.1 x.2 := ⟨(o, l), rfl⟩
  unfold entR
  rw [dif_pos h]
  obtain ⟨h1, h2⟩ := entV_inj (Classical.choose_spec h)
  rw [← h1, ← h2]
theorem entR_inv {v : Value} {o l : Nat} {ps : List MemPlace} (h : entR v = some (entD o l, ps)) : v = entV o l := by
  unfold entR at h
  split at h
  · rename_i hx
    have h0 := Classical.choose_spec hx
    injection h with h
    injection h with h1 h2
    obtain ⟨e1, e2⟩ := entD_inj h1
    rw [← e1, ← e2]
    exact h0
  · cases h
def MapOk (pk : List UInt8 → List UInt8) (texts : List (List UInt8)) (D : DataW Unit) : Prop :=
  Maps.IsMap D ∧ ∀ bs, (bs ∈ texts → Maps.has D (.string bs) = true ∧ ∀ z, D.atKey (.string bs) z = entD (EnS.off pk texts (EnS.at texts bs)) (pk bs).length) ∧ (bs ∉ texts → Maps.has D (.string bs) = false)
theorem MapOk.nil (pk : List UInt8 → List UInt8) : MapOk pk [] (.map []) := ⟨Maps.isMap_empty, fun bs => ⟨fun h => by simp at h, fun _ => rfl⟩⟩
theorem MapOk.add {pk : List UInt8 → List UInt8} {texts : List (List UInt8)} {D : DataW Unit} (h : MapOk pk texts D) (t : List UInt8) (ht : t ∉ texts) : MapOk pk (texts ++ [t]) (D.put (.string t) (entD (EnS.tot pk texts) (pk t).length)) := by
  refine ⟨h.1.put _ _, fun bs => ?_⟩
  by_cases hb : bs = t
  · subst hb
    refine ⟨fun _ => ⟨Maps.has_put_same h.1 (by first | trivial | rfl | simp [WideAt.IsKeyLit]) _, fun z => ?_⟩, fun h' => absurd (by simp) h'⟩
    rw [Maps.atKey_put_same h.1 (by first | trivial | rfl | simp [WideAt.IsKeyLit])]
    have : EnS.at (texts ++ [bs]) bs = texts.length := by
      unfold EnS.at
      rw [List.idxOf_append, if_neg ht]
      simp
    rw [this, EnS.off_snoc pk texts bs _ (Nat.le_refl _), EnS.off_all]
  · have hne : (Lit.string bs) ≠ .string t := fun e => hb (by injection e)
    refine ⟨fun hm => ?_, fun hm => ?_⟩
    · have hm' : bs ∈ texts := by
        rcases List.mem_append.1 hm with h1 | h1
        · exact h1
        · exact absurd (List.mem_singleton.1 h1) hb
      have h2 := (h.2 bs).1 hm'
      refine ⟨by rw [Maps.has_put_other hne]; exact h2.1, fun z => ?_⟩
      rw [Maps.atKey_put_other hne, h2.2]
      have : EnS.at (texts ++ [t]) bs = EnS.at texts bs := by
        unfold EnS.at
        rw [List.idxOf_append, if_pos hm']
      rw [this, EnS.off_snoc pk texts t _ (by unfold EnS.at; exact Nat.le_of_lt (List.idxOf_lt_length_of_mem hm'))]
    · rw [Maps.has_put_other hne]
      exact (h.2 bs).2 (fun h' => hm (List.mem_append_left _ h'))
theorem EnS.join_out (S : EnS) (e : Ent) (he : S.out.getLast? = some e) : S.join.out = S.out.set (S.out.length - 1) { e with run := e.run + 1 } := by
  have hne : S.out ≠ [] := by intro h; rw [h] at he; cases he
  have hl : S.out = S.out.dropLast ++ [e] := by
    have h1 := List.dropLast_concat_getLast hne
    rw [List.getLast?_eq_some_getLast hne] at he
    injection he with he
    rw [he] at h1
    exact h1.symm
  unfold EnS.join
  rw [he]
  show S.out.dropLast ++ [_] = _
  obtain ⟨l, hl'⟩ : ∃ l, S.out.dropLast = l := ⟨_, rfl⟩
  rw [hl'] at hl ⊢
  rw [hl]
  simp
end Go.Proofs.YtaapjampmnanmaaGreat
