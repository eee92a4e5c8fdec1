/- append(s, make([]T, k)...) onto a slice of the call's own (the translation hands append the number). There is no condition. -/
import Derived.Test.YtaapjampmnanmaaGreatMem
namespace Go.Proofs.YtaapjampmnanmaaGreat
open Go.RowKit
section
variable {P : Program}
theorem run_append_zeros (w : World) {t tn e : TypeId} {z : Value} {bytes : Nat} (E : Elem1 P t e z bytes) {kn : IntKind} (htn : P.underlying tn = some (.int kn)) (ty : TypeId) (kq : IntKind) {base n c : Nat} {A : Option Addr} {xs : List Value} (h : Ow w base e A n c xs)
    (k : Nat) (h1 : ∀ u ∈ (Builtin.zeroCells z.cells k).toList, u.oneCell' = true) (h63 : n + k ≤ maxLen) (hbytes : (n + k) * bytes ≤ 140737488355328) (hbase : base ≤ w.heap.size) :
    ∃ A' c' w', (Builtin.append_ #[t, tn] ty #[.slice A n c, .int kq k]).run P w = .ok (.slice A' (n + k) c') w' ∧ Ow w' base e A' (n + k) c' (xs ++ (Builtin.zeroCells z.cells k).toList) ∧ Chg (fun k => blk A = some k) w w' := by
  obtain ⟨i, hi, hz, hs, hb⟩ := info_parts E.info
  have hzl : (Builtin.zeroCells z.cells k).size = k := by rw [size_zeroCells, E.one, Nat.mul_one]
  have hx := h.len
  have hw : IntKind.i64.wrap (k : Int) = k := by rw [IntKind.wrap_i64]; simp only [maxLen] at h63; omega
  have hneg : ¬ ((k : Int) < 0) := by omega
  have hkb : k * bytes ≤ 140737488355328 := Nat.le_trans (Nat.mul_le_mul_right _ (by omega)) hbytes
  have h48i : ¬ (281474976710656 < (k : Int) * (bytes : Int)) := by
    rw [← Int.natCast_mul]
    omega
  have h63' : ¬ (9223372036854775807 < ((n : Int) + (k : Int))) := by simp only [maxLen] at h63; omega
  have hlen : (xs ++ (Builtin.zeroCells z.cells k).toList).length = n + k := by rw [List.length_append, hx, Array.length_toList, hzl]
  by_cases hk : k = 0
  · subst hk
    have hw0 : IntKind.i64.wrap 0 = 0 := by rw [IntKind.wrap_i64]; rfl
    have hz0 : (Builtin.zeroCells z.cells 0).toList = [] := by simp [Builtin.zeroCells]
    rcases h.2 with ⟨hv, h0⟩ | ⟨g, cap, cur, hv, _, _, hnc, _⟩
    · injection hv with e1 e2 e3
      subst e1 e2 e3
      refine ⟨none, 0, w, ?_, ?_, Chg.refl _ _⟩
      · simp [Builtin.append_, run_underlying E.under, run_underlying htn, sizeOf, typeInfo, hi, asInt, asIntOf, hw0]
      · rw [hz0, List.append_nil]; exact h
    · injection hv with e1 e2 e3
      subst e1 e3
      refine ⟨some ⟨g, 0, none⟩, c, w, ?_, ?_, Chg.refl _ _⟩
      · simp [Builtin.append_, run_underlying E.under, run_underlying htn, sizeOf, typeInfo, hi, asInt, asIntOf, hw0, hnc, storeCells]
      · rw [hz0, List.append_nil]; exact h
  · have hns : ¬ (k * 1 = 0) := by omega
    have grown : ∀ old : Nat, old < n + k → Ow (w.drew.alloc (.cells (xs.toArray ++ Builtin.zeroCells z.cells k ++ Builtin.zeroCells z.cells (grownCap w (n + k) old e - (n + k))) e)) base e (some ⟨w.heap.size, 0, none⟩) (n + k) (grownCap w (n + k) old e) (xs ++ (Builtin.zeroCells z.cells k).toList) ∧
        Chg (fun k => blk A = some k) w (w.drew.alloc (.cells (xs.toArray ++ Builtin.zeroCells z.cells k ++ Builtin.zeroCells z.cells (grownCap w (n + k) old e - (n + k))) e)) := by
      intro old ho
      have hge := grownCap_ge w (n + k) old e
      have hcm : grownCap w (n + k) old e ≤ maxLen := grownCap_le_maxLen w (n + k) old e h63
      refine ⟨⟨by rw [hlen, Nat.mul_one], .inr ⟨w.heap.size, _, _, rfl, hbase, heap_alloc_new w.drew _, hge, hcm, ?_, ?_⟩⟩, (Chg.refl _ w).drew.alloc _⟩
      · simp only [Array.size_append, List.size_toArray, size_zeroCells, E.one, hx]
        omega
      · simp only [Array.toList_append, Nat.mul_one]
        rw [← hlen]
        exact List.take_left
    have hcells : (Builtin.firstCells i.size n (.slice A n c)).run P w.drew = .ok xs.toArray w.drew := by
      rcases h.form with ⟨rfl, rfl, _⟩ | ⟨g, rfl, _, _, _⟩
      · have : xs = [] := List.eq_nil_of_length_eq_zero hx
        subst this
        simp [Builtin.firstCells]
      · exact run_firstCells_some (P := P) w.drew i.size n ⟨g, 0, none⟩ n c xs (by rw [hx, hs, Nat.mul_one]) (h.cells (g := g) rfl)
    by_cases hroom : n + k ≤ c
    · rcases h.2 with ⟨hv, h0⟩ | ⟨g, cap, cur, hv, hbg, hg, hnc, hcm, hcs, htake⟩
      · injection hv with e1 e2 e3
        omega
      · injection hv with e1 e2 e3
        subst e1 e3
        have hfit : n * 1 + (Builtin.zeroCells z.cells k).toList.length ≤ cur.size := by rw [Array.length_toList, hzl, hcs]; omega
        have hst := run_storeCells_at P g (n * 1) e (Builtin.zeroCells z.cells k).toList 0 cur w hg (by simpa using hfit) h1
        simp only [Nat.add_zero] at hst
        refine ⟨some ⟨g, 0, none⟩, c, w.setRow g (cur.toList.take (n * 1) ++ (Builtin.zeroCells z.cells k).toList ++ cur.toList.drop (n * 1 + (Builtin.zeroCells z.cells k).toList.length)).toArray, ?_, ?_, (Chg.refl (fun k => blk (some (⟨g, 0, none⟩ : Addr)) = some k) w).setRow (g := g) (.inr rfl) _⟩
        rotate_left
        · refine ⟨by rw [hlen, Nat.mul_one], .inr ⟨g, c, _, rfl, hbg, setRow_heap w g cur _ e _ hg, hroom, hcm, ?_, ?_⟩⟩
          · simp only [List.size_toArray, List.length_append, List.length_take, List.length_drop, Array.length_toList] at hfit ⊢
            omega
          · rw [htake, ← hlen, Nat.mul_one]
            exact List.take_left
        · simp only [Nat.mul_one] at hst
          simp [Builtin.append_, run_underlying E.under, run_underlying htn, sizeOf, typeInfo, zeroValue, hi, hz, hs, hb, asInt, asIntOf, hw, hroom, hneg, hk, h48i, Addr.add_lit, hst]
    · have hfits := growslice_fits (need := n + k) (old := c) (bytes := bytes) (by omega) hbytes
      have hgr := grown c (by omega)
      have h48' : ¬ (281474976710656 < Builtin.nextslicecap (n + k) c * bytes) := by omega
      rw [hs] at hcells
      refine ⟨_, _, _, ?_, hgr.1, hgr.2⟩
      simp [Builtin.append_, run_underlying E.under, run_underlying htn, sizeOf, typeInfo, zeroValue, hi, hz, hs, hb, asInt, asIntOf, hw, hroom, hneg, hk, h63', h48', h48i, Question.forced, hcells, newRow, grownCap]
theorem wpList_append_zeros {ops : Array Oper} {rest : List Oper} {o : Oper} {a : Act} {Q : Exit → Act → World → Prop} (w : World) (hgd : o.guard = none) (s x : Operand) {t tn e : TypeId}
    (ho : o.op = .call { callee := .builtin .append, args := #[s, x], argTypes := #[t, tn] }) {z : Value} {bytes : Nat} (E : Elem1 P t e z bytes) {kn : IntKind} (htn : P.underlying tn = some (.int kn))
    {base n c : Nat} {A : Option Addr} {xs : List Value} (hs : a.eval s = .slice A n c) (h : Ow w base e A n c xs) (kq : IntKind) (k : Nat) (hx : a.eval x = .int kq k) (h1 : ∀ u ∈ (Builtin.zeroCells z.cells k).toList, u.oneCell' = true)
    (h63 : n + k ≤ maxLen) (hbytes : (n + k) * bytes ≤ 140737488355328) (hbase : base ≤ w.heap.size)
    (hk : ∀ A' c' w', Ow w' base e A' (n + k) c' (xs ++ (Builtin.zeroCells z.cells k).toList) → Chg (fun k => blk A = some k) w w' → wpList P ops Q rest (a.put o.dst (.slice A' (n + k) c')) w') :
    wpList P ops Q (o :: rest) a w :=
  wpList_plain hgd fun _ hK => by
    obtain ⟨A', c', w', hrun, h2, h3⟩ := run_append_zeros (P := P) w E htn o.type kq h k h1 h63 hbytes hbase
    unfold Oper.wp execOp
    simp only [ho, resolve, invoke, builtin, Sem.run_bind, Sem.run_pure, Result.andThen_ok, List.map_toArray, List.map_cons, List.map_nil, hs, hx, hrun]
    exact hK _ _ (hk A' c' w' h2 h3)
end
end Go.Proofs.YtaapjampmnanmaaGreat
