/- Layer 14 (pack): append of many rows; entries as rows; Clone of entries. The conditions: where the entries lie; at most 65536 of them. Layer 14 (pack): slices.Chunk over entries, and Leaves. The conditions: where the entries lie; at most 65536 of them. -/
import Derived.Test.YtaapjampmnanmaaGreatPkRow
import Derived.Test.YtaapjampmnanmaaGreatDirX
import Derived.Test.YtaapjampmnanmaaGreatPkLeaf
import Derived.RangeFuncNested
import Derived.RangeFuncBound
import Derived.RangeFuncCalls
import Derived.RangeFuncLeaves
import Derived.RangeFuncFrom
import Derived.Shelf.Abstract
import Derived.Shelf.RegionOpen
import Derived.WalkKit
import Derived.OwnWalkIn
import Derived.TacticsInMore
import Derived.LoopNIn
import Derived.LoopIn
import Derived.RangeFuncOwn
import Derived.BigRegionIn
import Derived.Lib.MinMax
namespace Go.Proofs.YtaapjampmnanmaaGreat
open Go.RowKit
set_option linter.unusedVariables false
set_option linter.unusedSimpArgs false
theorem flat_cells {w : World} {s : Nat} (hs : 0 < s) {rows : List (List Value)} (hr : ∀ r ∈ rows, r.length = s) {ad : Addr} (h : ∀ (q : Nat) (hq : q < rows.length) (t : Nat) (v : Value), t < s → rows[q][t]? = some v → w.cell? (ad.add (q * s + t)) = some v) :
    ∀ j u, rows.flatten[j]? = some u → w.cell? (ad.add j) = some u := by
  intro j u hu
  have hj : j < rows.length * s := by rw [← flat_len s rows hr]; exact (List.getElem?_eq_some_iff.1 hu).1
  have hq : j / s < rows.length := Nat.div_lt_of_lt_mul (by rw [Nat.mul_comm]; exact hj)
  have ht : j % s < s := Nat.mod_lt _ hs
  have he : j / s * s + j % s = j := Nat.div_add_mod' j s
  rw [← he] at hu ⊢
  rw [flat_at s rows hr (j / s) hq (j % s) ht] at hu
  exact h _ hq _ u ht hu
section
variable {P : Program}
theorem run_append_rows (w : World) {t e : TypeId} {z : Value} {s bytes : Nat} (E : ElemR P t e z s bytes) (ty : TypeId) {base n c : Nat} {A : Option Addr} {rows : List (List Value)} (h : OwR w base e s A n c rows)
    {m c2 : Nat} {A2 : Option Addr} {news : List (List Value)} (hm : news.length = m) (hnr : ∀ r ∈ news, r.length = s) (hsrc : (A2 = none ∧ m = 0) ∨ ∃ ad, A2 = some ad ∧ ∀ j u, news.flatten[j]? = some u → w.cell? (ad.add j) = some u)
    (h1 : ∀ u ∈ news.flatten, u.oneCell' = true) (h63 : n + m ≤ 2097152) (hb64 : bytes ≤ 64) (hbase : base ≤ w.heap.size) :
    ∃ A' c' w', (Builtin.append_ #[t, t] ty #[.slice A n c, .slice A2 m c2]).run P w = .ok (.slice A' (n + m) c') w' ∧ OwR w' base e s A' (n + m) c' (rows ++ news) ∧ Chg (fun k => blk A = some k) w w' ∧
      (blk A' = blk A ∨ blk A' = some w.heap.size) := by
  obtain ⟨i, hi, hz, hs, hb⟩ := info_parts E.info
  have hby : (n + m) * bytes ≤ 140737488355328 := Nat.le_trans (Nat.mul_le_mul h63 hb64) (by omega)
  have hall : ∀ r ∈ rows ++ news, r.length = s := by
    intro q hq
    rcases List.mem_append.1 hq with hq | hq
    · exact h.2.1 q hq
    · exact hnr q hq
  rcases hsrc with ⟨rfl, rfl⟩ | ⟨ad, rfl, hcells⟩
  · have hn : news = [] := List.eq_nil_of_length_eq_zero hm
    subst hn
    refine ⟨A, c, w, ?_, by simpa using h, Chg.refl _ _, .inl rfl⟩
    rcases h.2.2.2 with ⟨hv, h0⟩ | ⟨g, cap, cur, hv, _, _, hnc, _⟩
    · injection hv with e1 e2 e3
      rw [e1, e3, h0]
      simp [Builtin.append_, run_underlying E.under, sizeOf, typeInfo, hi, Builtin.lenOf, Builtin.firstCells]
    · injection hv with e1 e2 e3
      subst e3
      rw [e1]
      simp [Builtin.append_, run_underlying E.under, sizeOf, typeInfo, hi, Builtin.lenOf, Builtin.firstCells, hnc, storeCells]
  · obtain ⟨v', w', hrun, h2, h3, _, h5⟩ := run_append_own_at (P := P) w base t ty e i z s bytes E.under hi hz hs hb E.zs E.pos (.slice A n c) n rows.flatten h.2.2 ad m c2 news.flatten (by rw [flat_len s news hnr, hm]) hcells h1 (by simp only [maxLen]; omega) hby hbase
    rw [show (Value.slice A n c).ownBlock = blk A from ownBlock_slice] at h3 h5
    have hf := h2
    rcases h2.2 with ⟨hv, h0⟩ | ⟨g, cap, cur, hv, hq⟩
    · rw [hv] at hrun hf h5
      refine ⟨none, 0, w', by rw [hrun, h0], ⟨by rw [List.length_append, h.1, hm], hall, ?_⟩, chg_of_grown h3, by simpa [Value.ownBlock, blk] using h5⟩
      rw [List.flatten_append]
      rw [h0] at hf ⊢
      exact hf
    · rw [hv] at hrun hf h5
      refine ⟨_, cap, w', hrun, ⟨by rw [List.length_append, h.1, hm], hall, by rw [List.flatten_append]; exact hf⟩, chg_of_grown h3, by rwa [ownBlock_slice] at h5⟩
theorem wpList_append_rows {ops : Array Oper} {rest : List Oper} {o : Oper} {a : Act} {Q : Exit → Act → World → Prop} (w : World) (hgd : o.guard = none) (q y : Operand) {t e : TypeId} {z : Value} {s bytes : Nat}
    (ho : o.op = .call { callee := .builtin .append, args := #[q, y], argTypes := #[t, t] }) (E : ElemR P t e z s bytes)
    {base n c : Nat} {A : Option Addr} {rows : List (List Value)} (hs : a.eval q = .slice A n c) (h : OwR w base e s A n c rows)
    {m c2 : Nat} {A2 : Option Addr} {news : List (List Value)} (hx : a.eval y = .slice A2 m c2) (hm : news.length = m) (hnr : ∀ r ∈ news, r.length = s) (hsrc : (A2 = none ∧ m = 0) ∨ ∃ ad, A2 = some ad ∧ ∀ j u, news.flatten[j]? = some u → w.cell? (ad.add j) = some u)
    (h1 : ∀ u ∈ news.flatten, u.oneCell' = true) (h63 : n + m ≤ 2097152) (hb64 : bytes ≤ 64) (hbase : base ≤ w.heap.size)
    (hk : ∀ A' c' w', OwR w' base e s A' (n + m) c' (rows ++ news) → Chg (fun k => blk A = some k) w w' → (blk A' = blk A ∨ blk A' = some w.heap.size) → wpList P ops Q rest (a.put o.dst (.slice A' (n + m) c')) w') :
    wpList P ops Q (o :: rest) a w :=
  wpList_plain hgd fun _ hK => by
    obtain ⟨A', c', w', hrun, h2, h3, h4⟩ := run_append_rows w E o.type (c2 := c2) h hm hnr hsrc h1 h63 hb64 hbase
    unfold Oper.wp execOp
    simp only [ho, resolve, invoke, builtin, Sem.run_bind, Sem.run_pure, Result.andThen_ok, List.map_toArray, List.map_cons, List.map_nil, hs, hx, hrun]
    exact hK _ _ (hk A' c' w' h2 h3 h4)
end
def Ent.row (x : Ent) : List Value := [.int .u64 (x.id : Int), .int .u64 (x.off : Int), .int .u64 (x.len : Int), .int .u64 (x.run : Int)]
theorem ent_row4 (es : List Ent) : ∀ r ∈ es.map Ent.row, r.length = 4 := by
  intro r hr
  obtain ⟨m, _, rfl⟩ := List.mem_map.1 hr
  rfl
theorem entrow_one (es : List Ent) : ∀ u ∈ (es.map Ent.row).flatten, u.oneCell' = true := by
  intro u hu
  obtain ⟨r, hr, hu⟩ := List.mem_flatten.1 hu
  obtain ⟨m, _, rfl⟩ := List.mem_map.1 hr
  simp [Ent.row] at hu
  rcases hu with rfl | rfl | rfl | rfl <;> rfl
theorem elem_ent : ElemR Tryz.prog 48 36 (.agg #[.int .u64 0, .int .u64 0, .int .u64 0, .int .u64 0]) 4 32 := ⟨Tryz.underlying48, by kernel_rfl, rfl, by omega, by omega⟩
theorem RdE.src {w : World} {B : Nat} {A : Option Addr} {es : List Ent} (h : RdE w B A es) {n : Nat} (hn : es.length = n) : (A = none ∧ n = 0) ∨ ∃ ad, A = some ad ∧ ∀ j u, (es.map Ent.row).flatten[j]? = some u → w.cell? (ad.add j) = some u := by
  cases A with
  | none =>
    refine .inl ⟨rfl, ?_⟩
    rcases Nat.eq_zero_or_pos n with h0 | h0
    · exact h0
    · obtain ⟨_, _, h1, _⟩ := h 0 (by omega)
      cases h1
  | some ad =>
    refine .inr ⟨ad, rfl, flat_cells (s := 4) (by omega) (ent_row4 es) ?_⟩
    intro q hq t v ht hv
    rw [List.length_map] at hq
    rw [List.getElem_map] at hv
    obtain ⟨b, o, h1, _, h3, h4, h5, h6⟩ := h q hq
    injection h1 with h1
    subst h1
    rw [Addr.add_mid]
    obtain rfl | rfl | rfl | rfl : t = 0 ∨ t = 1 ∨ t = 2 ∨ t = 3 := by omega
    all_goals (simp [Ent.row] at hv; subst hv)
    · exact h3
    · exact h4
    · exact h5
    · exact h6
theorem OwR.rde {w : World} {base : Nat} {A : Option Addr} {n c : Nat} {es : List Ent} (h : OwR w base 36 4 A n c (es.map Ent.row)) : RdE w w.heap.size A es := by
  intro j hj
  have hj' : j < n := by rw [← h.1, List.length_map]; exact hj
  obtain ⟨g0, v0, e0, h0, c0, _⟩ := h.cells j hj' 0 (by omega)
  obtain ⟨g1, v1, e1, h1, c1, _⟩ := h.cells j hj' 1 (by omega)
  obtain ⟨g2, v2, e2, h2, c2, _⟩ := h.cells j hj' 2 (by omega)
  obtain ⟨g3, v3, e3, h3, c3, _⟩ := h.cells j hj' 3 (by omega)
  cases e0; cases e1; cases e2; cases e3
  rw [List.getElem_map] at h0 h1 h2 h3
  cases h0; cases h1; cases h2; cases h3
  exact ⟨g0, 0, rfl, (h.blk_lt g0 rfl).2, by rw [Nat.zero_add]; exact c0, by rw [Nat.zero_add]; exact c1, by rw [Nat.zero_add]; exact c2, by rw [Nat.zero_add]; exact c3⟩
theorem clonee_any (A : Option Addr) (n c : Nat) (es : List Ent) (w : World) (B : Nat) (hl : es.length = n) (hr : RdE w B A es) (hB : B ≤ w.heap.size) (hn : n ≤ 65536) :
    Calls Tryz.prog 103 #[.slice A n c] w fun e w' => ∃ A' c', e = .returned (.slice A' n c') ∧ OwR w' w.heap.size 36 4 A' n c' (es.map Ent.row) ∧ Below w.heap.size w w' := by
  have he := fun (W : World) (x : Option Addr) (i j : Nat) => Lib.run_eql_slice_nil (P := Tryz.prog) W 48 36 x i j 0 0 Tryz.underlying48
  cases A with
  | none =>
    have hn0 : n = 0 := by
      rcases hr.src hl with ⟨_, h⟩ | ⟨_, h, _⟩
      · exact h
      · cases h
    subst hn0
    have hb : es = [] := List.eq_nil_of_length_eq_zero hl
    subst hb
    go_enter Tryz.func103, Tryz.ntmps103
    go_wp2
    go_ret
    exact ⟨none, 0, rfl, OwR.nil _ _ _ _, Below.refl _ _⟩
  | some a =>
    have ho : OwR (w.alloc (.cells #[] 36)) w.heap.size 36 4 (some ⟨w.heap.size, 0, none⟩) 0 0 [] := by
      refine ⟨rfl, (fun _ h => by cases h), ?_⟩
      exact World.ownsRow_lit w #[] 0 (Nat.le_refl _) (by simp [maxLen]) (by simp)
    have hbw := (Below.refl w.heap.size w).alloc (Nat.le_refl _) (.cells #[] 36)
    have hr1 := hide (hr.below (hbw.mono hB))
    replace hr := hide hr
    go_enter Tryz.func103, Tryz.ntmps103
    go_wp2_with (at_builtin; refine wpList_append_rows _ rfl (.tmp 5) (.tmp 6) rfl elem_ent rfl ho rfl (by rw [List.length_map]; exact hl) (ent_row4 es) (hr1.out.src hl) (entrow_one es) (by omega) (by omega) (by simp) ?_; intro A3 c3 w3 ho3 hg3 _; have hb3 := hide (hbw.trans (hg3.to_below (by simp) (fun i h => by simp [blk] at h; omega))); replace ho3 := hide ho3; clear hg3)
    go_ret
    exact ⟨A3, c3, by simp, by simpa using ho3.out, hb3.out⟩
end Go.Proofs.YtaapjampmnanmaaGreat
namespace Go.Proofs.YtaapjampmnanmaaGreat
open Go.RowKit Go.Shelf
set_option linter.unusedVariables false
set_option linter.unusedSimpArgs false
attribute [local go_sem] Oper.semAt_some
def cuts (M n : Nat) : Nat → Nat → List (Nat × Nat)
  | 0, _ => []
  | f + 1, i => if n ≤ i then [] else (i, min M (n - i)) :: cuts M n f (i + M)
theorem cuts_end (M n f i : Nat) (h : n ≤ i) : cuts M n f i = [] := by
  cases f with
  | zero => rfl
  | succ f => rw [cuts, if_pos h]
theorem cuts_step (M n f i : Nat) (h : i < n) : cuts M n (f + 1) i = (i, min M (n - i)) :: cuts M n f (i + M) := by rw [cuts, if_neg (by omega)]
theorem cuts_chk (M n : Nat) (es : List Ent) (hl : es.length = n) : ∀ (f i : Nat), chk M f (es.drop i) = (cuts M n f i).map fun x => (es.drop x.1).take x.2 := by
  intro f
  induction f with
  | zero => intro i; rfl
  | succ f ih =>
    intro i
    by_cases h : n ≤ i
    · rw [List.drop_eq_nil_of_le (by omega), chk_nil, cuts_end M n _ i h]; rfl
    · rw [chk, if_neg (by intro h0; have := congrArg List.length h0; rw [List.length_drop] at this; simp at this; omega), cuts_step M n f i (by omega), List.map_cons, List.drop_drop, ih (i + M)]
      congr 1
      simp only
      rw [List.take_eq_take_iff, List.length_drop, hl]
      omega
abbrev Pt (L : Nat) := { x : Nat × Nat // 1 ≤ x.2 ∧ x.1 + x.2 ≤ L }
def ptv (A : Option Addr) (x : Nat × Nat) : Value := .slice (A.map fun a => a.add (x.1 * 4)) x.2 x.2
theorem chunk_any (A : Option Addr) (n c : Nat) (m : Int) (hm : 1 ≤ m) (w : World) : Calls Tryz.prog 102 #[.slice A n c, .int .i64 m] w fun e w' =>
    e = .returned (.func (.func 129) #[] #[.pointer (some ⟨w.heap.size, 0, none⟩), .pointer (some ⟨w.heap.size + 1, 0, none⟩)]) ∧ w' = (w.alloc (.cells #[.slice A n c] 48)).alloc (.cells #[.int .i64 m] 3) := by
  have hd : decide (m < 1) = false := by simp; omega
  go_enter Tryz.func102, Tryz.ntmps102
  go_wp2
  go_ret
  exact ⟨by simp, rfl⟩
def KpP (G m : Nat) (W W' : World) : Prop := Chg (fun k => k = G ∨ m ≤ k) W W'
set_option maxRecDepth 100000 in
set_option maxHeartbeats 4000000 in
theorem chunk_stops (n : Nat) (hn : 3 ≤ n) (b1 b2 G m : Nat) (A : Option Addr) (L c : Nat) (M : Nat) (mI : Int) (hM : 1 ≤ M) (hMI : (M : Int) = mI) (hMx : mI ≤ 9223372036854775807) (w0 : World) (hm : m ≤ w0.heap.size) (h1 : b1 < m) (h2 : b2 < m) (g1 : b1 ≠ G) (g2 : b2 ≠ G) (hk1 : Blk w0 b1 48 #[.slice A L c]) (hk2 : Blk w0 b2 3 #[.int .i64 mI]) (hl : L ≤ 65536) (hc : L ≤ c) :
    SeqStopsK Fence.wide n Tryz.prog 129 #[.pointer (some ⟨b1, 0, none⟩), .pointer (some ⟨b2, 0, none⟩)] (fun x : Pt L => #[ptv A x.1]) (KpP G m) (fun xs => xs.map (·.1) = cuts M L L 0) (fun _ => True) L w0 := by
  intro l J Jx W hW hJ hJx hY h0
  have hJm : Hid (∀ pre W1 W2, J pre W1 → Below W1.heap.size W1 W2 → J pre W2) := hide (fun pre W1 W2 hj hb => hJ pre W1 W2 none hj ⟨hb.os, hb.tape, hb.output, hb.size, fun k hk _ => hb.block k hk⟩ (fun r e => by cases e))
  have kW1 := hide (hk1.below hW hk1.lt)
  have kW2 := hide (hk2.below hW hk2.lt)
  have hBW := hide (Nat.le_trans hm hW.size)
  have hY' := hide hY
  clear hY hJ hJx hW hk1 hk2 hm
  have hLI : (L : Int) ≤ 65536 := by omega
  refine callsIn_of_wp Tryz.func129 rfl trivial ?_ rfl
  simp only [Tryz.ntmps129, List.size_toArray, List.length_cons, List.length_nil, Nat.reduceAdd, Nat.reduceSub, Array.replicate_succ, Array.replicate_zero, List.push_toArray, List.append_toArray, List.nil_append, List.cons_append]
  gi_wp2
  gi_loopw [4] (fun i wr => ∃ (p : Int) (pre : List (Pt L)) (f : Nat), i = .int .i64 p ∧ 0 ≤ p ∧ (p = 0 ∨ mI ≤ p) ∧ Hid (cuts M L L 0 = pre.map (·.1) ++ cuts M L f p.toNat) ∧ Hid (pre.length + f = L) ∧ Hid (L ≤ p.toNat + f) ∧ Hid (J pre wr) ∧ Hid (Blk wr b1 48 #[.slice A L c]) ∧ Hid (Blk wr b2 3 #[.int .i64 mI]) ∧ Hid (m ≤ wr.heap.size)) (fun i _ => L - (intOf i).toNat)
  case atStart => exact ⟨0, [], L, rfl, by omega, .inl rfl, hide rfl, hide (by simp), hide (by simp), hide h0, kW1, kW2, hBW⟩
  case round =>
    obtain ⟨p, pre, f, rfl, hp0, hpm, hpre, hlen, hf, hJp, k1, k2, hB⟩ := hrel
    have hn1 : 1 ≤ n := by omega
    have c1 : wr.cell? ⟨b1, 0, none⟩ = some (.slice A L c) := k1.out.cell 0
    have c2 : wr.cell? ⟨b2, 0, none⟩ = some (.int .i64 mI) := k2.out.cell 0
    by_cases hlt : p < (L : Int)
    · obtain ⟨q, rfl⟩ : ∃ q : Nat, p = (q : Int) := ⟨p.toNat, by omega⟩
      obtain ⟨t, ht⟩ : ∃ t, min M (L - q) = t := ⟨_, rfl⟩
      have htI : (1 : Int) ≤ (t : Int) ∧ (q : Int) + (t : Int) ≤ (L : Int) := by omega
      have hmn : min mI ((L - q : Nat) : Int) = (t : Int) := by omega
      have hw1 : IntKind.i64.wrap ((q : Int) + mI) = (q : Int) + mI := by rw [IntKind.wrap_i64]; omega
      have hw2 : IntKind.i64.wrap ((q : Int) + (t : Int)) = (q : Int) + (t : Int) := by rw [IntKind.wrap_i64]; omega
      obtain ⟨f', rfl⟩ : ∃ f', f = f' + 1 := ⟨f - 1, by have := hf.out; omega⟩
      have hgp : 1 ≤ t ∧ q + t ≤ L := by omega
      obtain ⟨fn, tmps, assign, body, hy, hR⟩ := hY'.out pre ⟨(q, t), hgp⟩ wr.drew (hJm.out _ _ _ hJp.out (Below.refl _ _).drew) (by have := hlen.out; omega)
      simp only [ptv] at hy
      have d1 : (wr.drew).cell? ⟨b1, 0, none⟩ = some (.slice A L c) := c1
      have d2 : (wr.drew).cell? ⟨b2, 0, none⟩ = some (.int .i64 mI) := c2
      replace hR := hide hR
      gi_wp2
      gi_region
      gi_wp2
      refine hR.out.mono ?_
      rintro e W6 (⟨rfl, hJ6, hk6⟩ | ⟨rfl, hJx6⟩)
      · have hc6 : Chg (fun k => k = G ∨ m ≤ k) wr W6 := by
          refine Chg.trans (b := wr.drew) ((Chg.refl _ wr).drew) hk6 (fun _ _ h => h)
        have e1 := hide (k1.out.chg hc6 (fun h => by omega))
        have e2 := hide (k2.out.chg hc6 (fun h => by omega))
        have hB6 := hide (Nat.le_trans hB.out hc6.size)
        have z1 : W6.cell? ⟨b1, 0, none⟩ = some (.slice A L c) := e1.out.cell 0
        have z2 : W6.cell? ⟨b2, 0, none⟩ = some (.int .i64 mI) := e2.out.cell 0
        have hpre2 := hide (show cuts M L L 0 = (pre ++ [(⟨(q, t), hgp⟩ : Pt L)]).map (·.1) ++ cuts M L f' ((q : Int) + mI).toNat from by
          rw [hpre.out, Int.toNat_natCast, cuts_step M L f' q (by omega), ht, List.map_append, List.append_assoc, show ((q : Int) + mI).toNat = q + M by omega]
          rfl)
        have hlen2 := hide (show (pre ++ [(⟨(q, t), hgp⟩ : Pt L)]).length + f' = L from by rw [List.length_append]; have := hlen.out; simp; omega)
        have hf2 := hide (show L ≤ ((q : Int) + mI).toNat + f' from by have := hf.out; omega)
        replace hJ6 := hide hJ6
        clear hc6 hk6 hR hy
        gi_wp2
        go_roundw
        case rel => exact ⟨(q : Int) + mI, _, f', by go_num, by omega, .inr (by omega), hpre2, hlen2, hf2, hJ6, e1, e2, hB6⟩
        case measure => simp [intOf] <;> omega
      · gi_wp2
        refine bodyPost_ret (results_none rfl _ _ _) rfl ?_
        exact ⟨⟨_, rfl⟩, .inr ⟨_, trivial, hJx6⟩⟩
    · have hend := hide (show cuts M L L 0 = pre.map (·.1) from by rw [hpre.out, cuts_end M L f _ (by omega), List.append_nil])
      gi_wp2
      go_end0
      exact ⟨⟨_, rfl⟩, .inl ⟨pre, hend.out.symm, hJp.out⟩⟩
end Go.Proofs.YtaapjampmnanmaaGreat
