/- Layer 40 (fault): In, Code, Is, Stages, and the document's comparison of texts, of a number within two slips. The condition: what the package errors' variable holds. -/
import Derived.Test.YtmpdoileiniijaaDoorFaultIs
import Derived.BigQuiet
import Derived.BigRegion
import Derived.Deep.RegionWith
import Derived.Deep.DeepCutAuto
import Derived.Deep.RegionLaw
namespace Go.Proofs.YtmpdoileiniijaaDoor
open Go.RowKit Go.Extern.Stop Go.Stop Go.Extern

/-- A number within two slips. -/
def two (a b : ByteArray) (m n no : Int) : Value := .iface 28 (.agg #[.string a, .int .i64 m, .iface 28 (.agg #[.string b, .int .i64 n, .iface 26 (.int .i64 no)])])

theorem in_any (s : ByteArray) (m : Int) (t : TypeId) (v : Value) (w : World) : Calls Tryd.prog 5 #[.string s, .int .i64 m, .iface t v] w fun e w' => e = .returned (.iface 28 (.agg #[.string s, .int .i64 m, .iface t v])) ∧ w = w' := by
  go_enter Tryd.func5, Tryd.ntmps5
  go_wp2
  go_ret
  exact ⟨rfl, rfl⟩
theorem in_nil (s : ByteArray) (m : Int) (w : World) : Calls Tryd.prog 5 #[.string s, .int .i64 m, .nilIface] w fun e w' => e = .returned .nilIface ∧ w = w' := by
  go_enter Tryd.func5, Tryd.ntmps5
  go_wp2
  go_ret
  exact ⟨rfl, rfl⟩
theorem fcode_any (n : Int) (w : World) : Calls Tryd.prog 10 #[.int .i64 n] w fun e w' => e = .returned (.int .i64 n) ∧ w = w' := by
  go_enter Tryd.func10, Tryd.ntmps10
  go_wp2
  go_ret
  exact ⟨rfl, rfl⟩
theorem code_nil (w : World) : Calls Tryd.prog 7 #[.nilIface] w fun e w' => e = .returned (.int .i64 0) ∧ Below w.heap.size w w' := by
  have hb := (Below.refl w.heap.size w).alloc (Nat.le_refl _) (.cells #[.int .i64 0] 26)
  replace hb := hide hb
  go_enter Tryd.func7, Tryd.ntmps7
  go_wp2_with (go_at_call 6; refine (as_nil _ _).mono ?_; rintro e w' ⟨rfl, rfl⟩)
  go_ret
  exact ⟨rfl, hb.out⟩
theorem code_two (a b : ByteArray) (m n no : Int) (w : World) (he : Et w) : Calls Tryd.prog 7 #[two a b m n no] w fun e w' => e = .returned (.int .i64 no) ∧ Below w.heap.size w w' := by
  have hb := (Below.refl w.heap.size w).alloc (Nat.le_refl _) (.cells #[.int .i64 0] 26)
  have hk := Blk.new w 26 #[.int .i64 0]
  have hal := hide (as_no w.heap.size (.int .i64 0) a b m n no (w.alloc (.cells #[.int .i64 0] 26)) (he.chg (R := fun _ => False) ((Chg.refl _ w).alloc _) (fun h => h)) hk)
  unfold two
  replace hb := hide hb
  go_enter Tryd.func7, Tryd.ntmps7
  go_wp2_with (go_at_call 6; refine hal.out.mono ?_; rintro e w' ⟨rfl, hk', hc⟩; have d0 := hk'.cell 0; simp only [List.getElem?_toArray, List.getElem?_cons_zero] at d0; have hb2 := hide (hb.out.trans (hc.to_below hb.out.size (by rintro k rfl; exact Nat.le_refl _))); clear hk' hc)
  go_ret
  exact ⟨rfl, hb2.out⟩
theorem fis_two (a b : ByteArray) (m n no t : Int) (w : World) : Calls Tryd.prog 11 #[two a b m n no, .int .i64 t] w fun e w' => e = .returned (.bool (no == t)) ∧ Below w.heap.size w w' := by
  have hi := hide (is_any a b m n no t w)
  unfold two
  go_enter Tryd.func11, Tryd.ntmps11
  go_wp2_with (go_at_call 16; refine hi.out.mono ?_; rintro e w' ⟨rfl, hb⟩)
  go_ret
  exact ⟨rfl, hb⟩

theorem tc_nil (w : World) : (Instr.typeAssert .nilIface 24 28 true).run Tryd.prog w = .ok (.tuple #[.agg #[.string ⟨#[]⟩, .int .i64 0, .nilIface], .bool false]) w := by kernel_rfl
theorem tc_other (v : Value) (w : World) : (Instr.typeAssert (.iface 26 v) 24 28 true).run Tryd.prog w = .ok (.tuple #[.agg #[.string ⟨#[]⟩, .int .i64 0, .nilIface], .bool false]) w := by kernel_rfl
theorem tc_hit (v : Value) (w : World) : (Instr.typeAssert (.iface 28 v) 24 28 true).run Tryd.prog w = .ok (.tuple #[v, .bool true]) w := by kernel_rfl
theorem elem_str : Elem1 Tryd.prog 32 9 (.string ⟨#[]⟩) 16 := ⟨Tryd.underlying32, by kernel_rfl, rfl⟩
theorem step_append_rd {P : Program} (w : World) {ops : Array Oper} {o : Oper} {a : Act} {K : Act → World → Prop} {Q : Exit → Act → World → Prop} {E0 : Prop} (hgd : o.guard = none) (s x : Operand) {t e : TypeId}
    (ho : o.op = .call { callee := .builtin .append, args := #[s, x], argTypes := #[t, t] }) {z : Value} {bytes : Nat} (E : Elem1 P t e z bytes)
    {base n c : Nat} {A : Option Addr} {xs : List Value} (hs : a.eval s = .slice A n c) (h : Ow w base e A n c xs)
    {B m c2 : Nat} {A2 : Option Addr} {news : List Value} (hx : a.eval x = .slice A2 m c2) (hr : Rd w B A2 m news) (h1 : ∀ u ∈ news, u.oneCell' = true)
    (h63 : n + m ≤ maxLen) (hbytes : (n + m) * bytes ≤ 140737488355328) (hbase : base ≤ w.heap.size)
    (hk : ∀ A' c' w', Ow w' base e A' (n + m) c' (xs ++ news) → Chg (fun k => blk A = some k) w w' → (blk A' = blk A ∨ blk A' = some w.heap.size) → K (a.put o.dst (.slice A' (n + m) c')) w') :
    if Region.wanted o (yielded ops a.tmps) = true then Oper.wp P o a w K Q else E0 := by
  have hw : Region.wanted o (yielded ops a.tmps) = true := by simp [Region.wanted, hgd]
  rw [if_pos hw]
  obtain ⟨A', c', w', hrun, h2, h3, h4⟩ := run_append_rd (P := P) w E o.type (c2 := c2) h hr h1 h63 hbytes hbase
  unfold Oper.wp execOp
  simp only [ho, resolve, invoke, builtin, Sem.run_bind, Sem.run_pure, Result.andThen_ok, List.map_toArray, List.map_cons, List.map_nil, hs, hx, hrun]
  exact hk A' c' w' h2 h3 h4

theorem step_append_one {P : Program} (w : World) {ops : Array Oper} {o : Oper} {a : Act} {K : Act → World → Prop} {Q : Exit → Act → World → Prop} {E0 : Prop} (hgd : o.guard = none) (s x : Operand) {t e : TypeId}
    (ho : o.op = .call { callee := .builtin .append, args := #[s, x], argTypes := #[t, t] }) {z : Value} {bytes : Nat} (E : Elem1 P t e z bytes)
    {base n c : Nat} {A : Option Addr} {xs : List Value} (hs : a.eval s = .slice A n c) (h : Ow w base e A n c xs) (u : Value) (te : TypeId) (fr : Nat × Nat) (hx : a.eval x = .slice (some ⟨w.heap.size, 0, none⟩) 1 1) (h1 : u.oneCell' = true)
    (h63 : n + 1 ≤ maxLen) (hbytes : (n + 1) * bytes ≤ 140737488355328) (hbase : base ≤ w.heap.size)
    (hk : ∀ A' c' w', Ow w' base e A' (n + 1) c' (xs ++ [u]) → Chg (fun k => blk A = some k) w w' → (blk A' = blk A ∨ ∃ k, w.heap.size ≤ k ∧ blk A' = some k) → K (a.put o.dst (.slice A' (n + 1) c')) w') :
    if Region.wanted o (yielded ops a.tmps) = true then Oper.wp P o a (w.alloc (.cells #[u] te fr)).drew K Q else E0 := by
  refine step_append_rd (w.alloc (.cells #[u] te fr)).drew hgd s x ho E hs (h.alloc _) hx (Rd.new w #[u] te fr) (by simpa using h1) h63 hbytes (Nat.le_trans hbase (by show w.heap.size ≤ (w.alloc (.cells #[u] te fr)).heap.size; simp)) ?_
  intro A' c' w' h2 h3 h4
  refine hk A' c' w' h2 ((((Chg.refl _ w).alloc _).drew).trans h3 (fun _ _ h => h)) ?_
  rcases h4 with h4 | h4
  · exact .inl h4
  · exact .inr ⟨_, by show w.heap.size ≤ (w.alloc (.cells #[u] te fr)).heap.size; simp, h4⟩

set_option maxRecDepth 100000 in
theorem stages_nil (w : World) : Calls Tryd.prog 8 #[.nilIface] w fun e w' => e = .returned (.slice none 0 0) ∧ w = w' := by
  have t1 := tc_nil
  go_enter Tryd.func8, Tryd.ntmps8
  go_wp2
  refine wp_loop_rounds 1 ?_
  rw [rounds_succ]
  go_wp2
  go_ret
  exact ⟨rfl, rfl⟩

set_option maxRecDepth 100000 in
set_option maxHeartbeats 4000000 in
theorem stages_two (a b : ByteArray) (m n no : Int) (w : World) : Calls Tryd.prog 8 #[two a b m n no] w fun e w' => ∃ A c, e = .returned (.slice A 2 c) ∧ Ow w' w.heap.size 9 A 2 c [.string a, .string b] ∧ Below w.heap.size w w' := by
  have t1 := tc_hit
  have t2 := tc_other
  obtain ⟨w1, hw1⟩ : ∃ W, w.alloc (.cells #[.string a, .int .i64 m, .iface 28 (.agg #[.string b, .int .i64 n, .iface 26 (.int .i64 no)])] 28) = W := ⟨_, rfl⟩
  have k1 : Blk w1 w.heap.size 28 #[.string a, .int .i64 m, .iface 28 (.agg #[.string b, .int .i64 n, .iface 26 (.int .i64 no)])] := by rw [← hw1]; exact Blk.new w _ _
  have d0 : w1.cell? ⟨w.heap.size, 0, none⟩ = some (.string a) := k1.cell 0
  have d2 : w1.cell? ⟨w.heap.size, 2, none⟩ = some (.iface 28 (.agg #[.string b, .int .i64 n, .iface 26 (.int .i64 no)])) := k1.cell 2
  have d4 : (w1.alloc (.cells #[.string a] 9)).drew.cell? ⟨w.heap.size, 2, none⟩ = some (.iface 28 (.agg #[.string b, .int .i64 n, .iface 26 (.int .i64 no)])) := (k1.alloc _).drew.cell 2
  have hb1 := hide (show Below w.heap.size w w1 from by rw [← hw1]; exact (Below.refl _ w).alloc (Nat.le_refl _) _)
  have h1 := hide (Ow.nil w1 w.heap.size 9)
  have hq1 := hide (show 0 + 1 ≤ maxLen by decide)
  have hq2 := hide (show (0 + 1) * 16 ≤ 140737488355328 by decide)
  have hq3 := hide (show 1 + 1 ≤ maxLen by decide)
  have hq4 := hide (show (1 + 1) * 16 ≤ 140737488355328 by decide)
  have hk1 := hide k1
  have hs1 := hide hb1.out.size
  clear k1
  unfold two
  go_enter Tryd.func8, Tryd.ntmps8
  go_wp2
  refine wp_loop_rounds 3 ?_
  rw [rounds_succ]
  go_upto_region 7 with fail
  go_region_law (refine step_append_one w1 (by rfl) (.tmp 11) (.tmp 14) (by rfl) elem_str (by rfl) h1.out (.string a) 9 _ (by rfl) rfl hq1.out hq2.out hs1.out ?_; intro A3 c3 w3 ho3 hc3 hn3; have d3 := hc3.cell d2 (fun h => by simp [blk] at h); have hb3 := hide (hb1.out.trans (hc3.to_below hs1.out (fun k hk => by simp [blk] at hk))); have ho3 := hide ho3; clear hc3 hn3)
  all_goals
    go_wp2
    rw [rounds_succ]
    obtain ⟨w4, hw4⟩ : ∃ W, w3.alloc (.cells #[.string b, .int .i64 n, .iface 26 (.int .i64 no)] 28) = W := ⟨_, rfl⟩
    have k4 : Blk w4 w3.heap.size 28 #[.string b, .int .i64 n, .iface 26 (.int .i64 no)] := by rw [← hw4]; exact Blk.new w3 _ _
    have c0 : w4.cell? ⟨w3.heap.size, 0, none⟩ = some (.string b) := k4.cell 0
    have c2 : w4.cell? ⟨w3.heap.size, 2, none⟩ = some (.iface 26 (.int .i64 no)) := k4.cell 2
    have c4 : (w4.alloc (.cells #[.string b] 9)).drew.cell? ⟨w3.heap.size, 2, none⟩ = some (.iface 26 (.int .i64 no)) := (k4.alloc _).drew.cell 2
    have hne := hide (fun k (h : blk A3 = some k) => (show k < w3.heap.size from (ho3.out.blk_lt k h).2))
    have ho4 := hide (show Ow w4 w.heap.size 9 A3 1 c3 [.string a] from by rw [← hw4]; exact ho3.out.alloc _)
    have hs3 := hide hb3.out.size
    have hb4 := hide (show Below w.heap.size w w4 from by rw [← hw4]; exact hb3.out.alloc hs3.out _)
    have hs4 := hide hb4.out.size
    clear k4
    go_upto_region 7 with fail
    go_region_law (refine step_append_one w4 (by rfl) (.tmp 11) (.tmp 14) (by rfl) elem_str (by rfl) ho4.out (.string b) 9 _ (by rfl) rfl hq3.out hq4.out hs4.out ?_; intro A5 c5 w5 ho5 hc5 hn5; have c3' := hc5.cell c2 (fun h => Nat.lt_irrefl _ (hne.out _ h)); have hb5 := hide (hb4.out.trans (hc5.to_below hs4.out (fun k hk => (ho4.out.blk_lt k hk).1))); have ho5 := hide ho5; clear hc5 hn5)
    all_goals
      go_wp2
      rw [rounds_succ]
      go_wp2
      go_ret
      exact ⟨_, _, rfl, ho5.out, hb5.out⟩
set_option maxRecDepth 100000 in
set_option maxHeartbeats 1000000 in
theorem sametexts_ok (A A2 : Option Addr) (c c2 n : Nat) (xs : List ByteArray) (w : World) (B : Nat) (hr : Rd w B A n (xs.map Value.string)) (hr2 : Rd w B A2 n (xs.map Value.string)) (hB : B ≤ w.heap.size) (hn : n ≤ 1000) :
    Calls Tryd.prog 9 #[.slice A n c, .slice A2 n c2] w fun e w' => e = .returned (.bool true) ∧ Below w.heap.size w w' := by
  have hnI : (n : Int) ≤ 1000 := by omega
  have hl := hr.len
  go_enter Tryd.func9, Tryd.ntmps9
  go_wp2
  go_loopw [5] (fun s5 wr => ∃ k : Nat, k ≤ n ∧ s5 = .int .i64 (k : Int) ∧ Hid (Below w.heap.size w wr)) (fun s5 _ => n - (intOf s5).toNat)
  case atStart => exact ⟨0, by omega, rfl, hide (Below.refl _ _)⟩
  case round =>
    obtain ⟨k, hk, rfl, hb⟩ := hrel
    by_cases hlt : k < n
    · have hkI : (k : Int) < (n : Int) := by omega
      have hkl : k < xs.length := by omega
      obtain ⟨b1, o1, rfl, _, h1⟩ := (hr.below (hb.out.mono hB)).at hlt
      obtain ⟨b2, o2, rfl, _, h2⟩ := (hr2.below (hb.out.mono hB)).at hlt
      rw [List.getElem_map] at h1 h2
      generalize xs[k] = x at h1 h2
      go_wp2
      go_quiet (fail)
      go_wp2
      go_roundw
      case rel => exact ⟨k + 1, by omega, by go_num, hide (hb.out.trans ⟨rfl, rfl, rfl, Nat.le_refl _, fun _ _ => rfl⟩)⟩
      case measure => simp [intOf] <;> omega
    · go_wp2
      go_ret
      exact ⟨rfl, hb.out⟩
end Go.Proofs.YtmpdoileiniijaaDoor
