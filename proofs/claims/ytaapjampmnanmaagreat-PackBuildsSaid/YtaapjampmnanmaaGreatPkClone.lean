/- Layer 14 (pack): append of many rows; entries as rows; Clone of entries. The conditions: where the entries lie; at most 65536 of them. -/
import Derived.Test.YtaapjampmnanmaaGreatPkRow
import Derived.Test.YtaapjampmnanmaaGreatDirX
namespace Go.Proofs.YtaapjampmnanmaaGreat
open Go.RowKit
set_option linter.unusedVariables false
set_option linter.unusedSimpArgs false

theorem flat_cells {w : World} {s : Nat} (hs : 0 < s) {rows : List (List Value)} (hr : ∀ r ∈ rows, r.length = s) {ad : Addr} (h : ∀ (q : Nat) (hq : q < rows.length) (t : Nat) (v : Value), t < s → rows[q][t]? = some v → w.cell? (ad.add (q * s + t)) = some v) :
    ∀ j u, rows.flatten[j]? = some u → w.cell? (ad.add j) = some u := by
  intro j u hu
  have hj : j < rows.length * s := by rw [← flat_len s rows hr]; exact (List.getElem?_eq_some_iff.1 hu).1
  have hq : j / s < rows.length := Nat.div_lt_of_lt_mul (by rw [Nat.mul_comm]; exact hj)
  have ht : j % s < s := Nat.mod_lt _ hs
  have he : j / s * s + j % s = j := Nat.div_add_mod' j s
  rw [← he] at hu ⊢
  rw [flat_at s rows hr (j / s) hq (j % s) ht] at hu
  exact h _ hq _ u ht hu

section
variable {P : Program}
/-- append of rows that lie somewhere: what runs. -/
theorem run_append_rows (w : World) {t e : TypeId} {z : Value} {s bytes : Nat} (E : ElemR P t e z s bytes) (ty : TypeId) {base n c : Nat} {A : Option Addr} {rows : List (List Value)} (h : OwR w base e s A n c rows)
    {m c2 : Nat} {A2 : Option Addr} {news : List (List Value)} (hm : news.length = m) (hnr : ∀ r ∈ news, r.length = s) (hsrc : (A2 = none ∧ m = 0) ∨ ∃ ad, A2 = some ad ∧ ∀ j u, news.flatten[j]? = some u → w.cell? (ad.add j) = some u)
    (h1 : ∀ u ∈ news.flatten, u.oneCell' = true) (h63 : n + m ≤ 2097152) (hb64 : bytes ≤ 64) (hbase : base ≤ w.heap.size) :
    ∃ A' c' w', (Builtin.append_ #[t, t] ty #[.slice A n c, .slice A2 m c2]).run P w = .ok (.slice A' (n + m) c') w' ∧ OwR w' base e s A' (n + m) c' (rows ++ news) ∧ Chg (fun k => blk A = some k) w w' ∧
      (blk A' = blk A ∨ blk A' = some w.heap.size) := by
  obtain ⟨i, hi, hz, hs, hb⟩ := info_parts E.info
  have hby : (n + m) * bytes ≤ 140737488355328 := Nat.le_trans (Nat.mul_le_mul h63 hb64) (by omega)
  have hall : ∀ r ∈ rows ++ news, r.length = s := by
    intro q hq
    rcases List.mem_append.1 hq with hq | hq
    · exact h.2.1 q hq
    · exact hnr q hq
  rcases hsrc with ⟨rfl, rfl⟩ | ⟨ad, rfl, hcells⟩
  · have hn : news = [] := List.eq_nil_of_length_eq_zero hm
    subst hn
    refine ⟨A, c, w, ?_, by simpa using h, Chg.refl _ _, .inl rfl⟩
    rcases h.2.2.2 with ⟨hv, h0⟩ | ⟨g, cap, cur, hv, _, _, hnc, _⟩
    · injection hv with e1 e2 e3
      rw [e1, e3, h0]
      simp [Builtin.append_, run_underlying E.under, sizeOf, typeInfo, hi, Builtin.lenOf, Builtin.firstCells]
    · injection hv with e1 e2 e3
      subst e3
      rw [e1]
      simp [Builtin.append_, run_underlying E.under, sizeOf, typeInfo, hi, Builtin.lenOf, Builtin.firstCells, hnc, storeCells]
  · obtain ⟨v', w', hrun, h2, h3, _, h5⟩ := run_append_own_at (P := P) w base t ty e i z s bytes E.under hi hz hs hb E.zs E.pos (.slice A n c) n rows.flatten h.2.2 ad m c2 news.flatten (by rw [flat_len s news hnr, hm]) hcells h1 (by simp only [maxLen]; omega) hby hbase
    rw [show (Value.slice A n c).ownBlock = blk A from ownBlock_slice] at h3 h5
    have hf := h2
    rcases h2.2 with ⟨hv, h0⟩ | ⟨g, cap, cur, hv, hq⟩
    · rw [hv] at hrun hf h5
      refine ⟨none, 0, w', by rw [hrun, h0], ⟨by rw [List.length_append, h.1, hm], hall, ?_⟩, chg_of_grown h3, by simpa [Value.ownBlock, blk] using h5⟩
      rw [List.flatten_append]
      rw [h0] at hf ⊢
      exact hf
    · rw [hv] at hrun hf h5
      refine ⟨_, cap, w', hrun, ⟨by rw [List.length_append, h.1, hm], hall, by rw [List.flatten_append]; exact hf⟩, chg_of_grown h3, by rwa [ownBlock_slice] at h5⟩
theorem wpList_append_rows {ops : Array Oper} {rest : List Oper} {o : Oper} {a : Act} {Q : Exit → Act → World → Prop} (w : World) (hgd : o.guard = none) (q y : Operand) {t e : TypeId} {z : Value} {s bytes : Nat}
    (ho : o.op = .call { callee := .builtin .append, args := #[q, y], argTypes := #[t, t] }) (E : ElemR P t e z s bytes)
    {base n c : Nat} {A : Option Addr} {rows : List (List Value)} (hs : a.eval q = .slice A n c) (h : OwR w base e s A n c rows)
    {m c2 : Nat} {A2 : Option Addr} {news : List (List Value)} (hx : a.eval y = .slice A2 m c2) (hm : news.length = m) (hnr : ∀ r ∈ news, r.length = s) (hsrc : (A2 = none ∧ m = 0) ∨ ∃ ad, A2 = some ad ∧ ∀ j u, news.flatten[j]? = some u → w.cell? (ad.add j) = some u)
    (h1 : ∀ u ∈ news.flatten, u.oneCell' = true) (h63 : n + m ≤ 2097152) (hb64 : bytes ≤ 64) (hbase : base ≤ w.heap.size)
    (hk : ∀ A' c' w', OwR w' base e s A' (n + m) c' (rows ++ news) → Chg (fun k => blk A = some k) w w' → (blk A' = blk A ∨ blk A' = some w.heap.size) → wpList P ops Q rest (a.put o.dst (.slice A' (n + m) c')) w') :
    wpList P ops Q (o :: rest) a w :=
  wpList_plain hgd fun _ hK => by
    obtain ⟨A', c', w', hrun, h2, h3, h4⟩ := run_append_rows w E o.type (c2 := c2) h hm hnr hsrc h1 h63 hb64 hbase
    unfold Oper.wp execOp
    simp only [ho, resolve, invoke, builtin, Sem.run_bind, Sem.run_pure, Result.andThen_ok, List.map_toArray, List.map_cons, List.map_nil, hs, hx, hrun]
    exact hK _ _ (hk A' c' w' h2 h3 h4)
end

/-- An entry's cells, as a row. -/
def Ent.row (x : Ent) : List Value := [.int .u64 (x.id : Int), .int .u64 (x.off : Int), .int .u64 (x.len : Int), .int .u64 (x.run : Int)]
theorem ent_row4 (es : List Ent) : ∀ r ∈ es.map Ent.row, r.length = 4 := by
  intro r hr
  obtain ⟨m, _, rfl⟩ := List.mem_map.1 hr
  rfl
theorem entrow_one (es : List Ent) : ∀ u ∈ (es.map Ent.row).flatten, u.oneCell' = true := by
  intro u hu
  obtain ⟨r, hr, hu⟩ := List.mem_flatten.1 hu
  obtain ⟨m, _, rfl⟩ := List.mem_map.1 hr
  simp [Ent.row] at hu
  rcases hu with rfl | rfl | rfl | rfl <;> rfl
theorem elem_ent : ElemR Tryz.prog 48 36 (.agg #[.int .u64 0, .int .u64 0, .int .u64 0, .int .u64 0]) 4 32 := ⟨Tryz.underlying48, by kernel_rfl, rfl, by omega, by omega⟩
theorem RdE.src {w : World} {B : Nat} {A : Option Addr} {es : List Ent} (h : RdE w B A es) {n : Nat} (hn : es.length = n) : (A = none ∧ n = 0) ∨ ∃ ad, A = some ad ∧ ∀ j u, (es.map Ent.row).flatten[j]? = some u → w.cell? (ad.add j) = some u := by
  cases A with
  | none =>
    refine .inl ⟨rfl, ?_⟩
    rcases Nat.eq_zero_or_pos n with h0 | h0
    · exact h0
    · obtain ⟨_, _, h1, _⟩ := h 0 (by omega)
      cases h1
  | some ad =>
    refine .inr ⟨ad, rfl, flat_cells (s := 4) (by omega) (ent_row4 es) ?_⟩
    intro q hq t v ht hv
    rw [List.length_map] at hq
    rw [List.getElem_map] at hv
    obtain ⟨b, o, h1, _, h3, h4, h5, h6⟩ := h q hq
    injection h1 with h1
    subst h1
    rw [Addr.add_mid]
    obtain rfl | rfl | rfl | rfl : t = 0 ∨ t = 1 ∨ t = 2 ∨ t = 3 := by omega
    all_goals (simp [Ent.row] at hv; subst hv)
    · exact h3
    · exact h4
    · exact h5
    · exact h6
/-- Own entries read as entries. -/
theorem OwR.rde {w : World} {base : Nat} {A : Option Addr} {n c : Nat} {es : List Ent} (h : OwR w base 36 4 A n c (es.map Ent.row)) : RdE w w.heap.size A es := by
  intro j hj
  have hj' : j < n := by rw [← h.1, List.length_map]; exact hj
  obtain ⟨g0, v0, e0, h0, c0, _⟩ := h.cells j hj' 0 (by omega)
  obtain ⟨g1, v1, e1, h1, c1, _⟩ := h.cells j hj' 1 (by omega)
  obtain ⟨g2, v2, e2, h2, c2, _⟩ := h.cells j hj' 2 (by omega)
  obtain ⟨g3, v3, e3, h3, c3, _⟩ := h.cells j hj' 3 (by omega)
  cases e0; cases e1; cases e2; cases e3
  rw [List.getElem_map] at h0 h1 h2 h3
  cases h0; cases h1; cases h2; cases h3
  exact ⟨g0, 0, rfl, (h.blk_lt g0 rfl).2, by rw [Nat.zero_add]; exact c0, by rw [Nat.zero_add]; exact c1, by rw [Nat.zero_add]; exact c2, by rw [Nat.zero_add]; exact c3⟩
/-- Slices have three numbers; entries of one block. -/
theorem clonee_any (A : Option Addr) (n c : Nat) (es : List Ent) (w : World) (B : Nat) (hl : es.length = n) (hr : RdE w B A es) (hB : B ≤ w.heap.size) (hn : n ≤ 65536) :
    Calls Tryz.prog 103 #[.slice A n c] w fun e w' => ∃ A' c', e = .returned (.slice A' n c') ∧ OwR w' w.heap.size 36 4 A' n c' (es.map Ent.row) ∧ Below w.heap.size w w' := by
  have he := fun (W : World) (x : Option Addr) (i j : Nat) => Lib.run_eql_slice_nil (P := Tryz.prog) W 48 36 x i j 0 0 Tryz.underlying48
  cases A with
  | none =>
    have hn0 : n = 0 := by
      rcases hr.src hl with ⟨_, h⟩ | ⟨_, h, _⟩
      · exact h
      · cases h
    subst hn0
    have hb : es = [] := List.eq_nil_of_length_eq_zero hl
    subst hb
    go_enter Tryz.func103, Tryz.ntmps103
    go_wp2
    go_ret
    exact ⟨none, 0, rfl, OwR.nil _ _ _ _, Below.refl _ _⟩
  | some a =>
    have ho : OwR (w.alloc (.cells #[] 36)) w.heap.size 36 4 (some ⟨w.heap.size, 0, none⟩) 0 0 [] := by
      refine ⟨rfl, (fun _ h => by cases h), ?_⟩
      exact World.ownsRow_lit w #[] 0 (Nat.le_refl _) (by simp [maxLen]) (by simp)
    have hbw := (Below.refl w.heap.size w).alloc (Nat.le_refl _) (.cells #[] 36)
    have hr1 := hide (hr.below (hbw.mono hB))
    replace hr := hide hr
    go_enter Tryz.func103, Tryz.ntmps103
    go_wp2_with (at_builtin; refine wpList_append_rows _ rfl (.tmp 5) (.tmp 6) rfl elem_ent rfl ho rfl (by rw [List.length_map]; exact hl) (ent_row4 es) (hr1.out.src hl) (entrow_one es) (by omega) (by omega) (by simp) ?_; intro A3 c3 w3 ho3 hg3 _; have hb3 := hide (hbw.trans (hg3.to_below (by simp) (fun i h => by simp [blk] at h; omega))); replace ho3 := hide ho3; clear hg3)
    go_ret
    exact ⟨A3, c3, by simp, by simpa using ho3.out, hb3.out⟩

end Go.Proofs.YtaapjampmnanmaaGreat
