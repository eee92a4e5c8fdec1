/- Layer 14 (pack): Leaves. The conditions: where the entries lie; at most 65536 of them. -/
import Derived.Test.YtaapjampmnanmaaGreatPkChunk
import Derived.Test.YtaapjampmnanmaaGreatDefX
namespace Go.Proofs.YtaapjampmnanmaaGreat
open Go.RowKit Go.Shelf
set_option linter.unusedVariables false
set_option linter.unusedSimpArgs false
attribute [local go_sem] Oper.semAt_some
theorem OwR.calm {W W' : World} {base n c s : Nat} {e : TypeId} {A : Option Addr} {rows : List (List Value)} (h : OwR W base e s A n c rows) (hc : Calm W W') : OwR W' base e s A n c rows :=
  h.chg hc (fun g hg => by obtain ⟨cur, hh⟩ := h.row hg; exact calm_cells hh)
theorem OwR.base {W : World} {base b' n c s : Nat} {e : TypeId} {A : Option Addr} {rows : List (List Value)} (h : OwR W base e s A n c rows) (hb : b' ≤ base) : OwR W b' e s A n c rows := by
  refine ⟨h.1, h.2.1, h.2.2.1, ?_⟩
  rcases h.2.2.2 with h | ⟨g, cap, cur, hv, hg, r⟩
  · exact .inl h
  · exact .inr ⟨g, cap, cur, hv, by omega, r⟩
def OwC (W : World) (base : Nat) (vs : List Sl) (cs : List (List Ent)) : Prop :=
  vs.length = cs.length ∧ ∀ (j : Nat) (h1 : j < vs.length) (h2 : j < cs.length), vs[j].n = cs[j].length ∧ OwR W base 36 4 vs[j].A vs[j].n vs[j].c (cs[j].map Ent.row)
theorem OwC.chg {W W' : World} {base : Nat} {vs : List Sl} {cs : List (List Ent)} {R : Nat → Prop} (h : OwC W base vs cs) (hk : Chg R W W') (hn : ∀ k cur, W.heap[k]? = some (.cells cur 36 (0, 0)) → ¬ R k) : OwC W' base vs cs :=
  ⟨h.1, fun j h1 h2 => ⟨(h.2 j h1 h2).1, (h.2 j h1 h2).2.chg hk (fun g hg => by obtain ⟨cur, hh⟩ := (h.2 j h1 h2).2.row hg; exact hn g cur hh)⟩⟩
theorem OwC.below {W W' : World} {base : Nat} {vs : List Sl} {cs : List (List Ent)} (h : OwC W base vs cs) (hb : Below W.heap.size W W') : OwC W' base vs cs :=
  ⟨h.1, fun j h1 h2 => ⟨(h.2 j h1 h2).1, (h.2 j h1 h2).2.below hb⟩⟩
theorem OwC.calm {W W' : World} {base : Nat} {vs : List Sl} {cs : List (List Ent)} (h : OwC W base vs cs) (hc : Calm W W') : OwC W' base vs cs :=
  ⟨h.1, fun j h1 h2 => ⟨(h.2 j h1 h2).1, (h.2 j h1 h2).2.calm hc⟩⟩
theorem OwC.rd {W : World} {base : Nat} {vs : List Sl} {cs : List (List Ent)} (h : OwC W base vs cs) : RdC W W.heap.size vs cs :=
  ⟨h.1, fun j h1 h2 => ⟨(h.2 j h1 h2).1, (h.2 j h1 h2).2.rde⟩⟩
theorem OwC.snoc {W : World} {base : Nat} {vs : List Sl} {cs : List (List Ent)} (h : OwC W base vs cs) (s : Sl) (p : List Ent) (hn : s.n = p.length) (hr : OwR W base 36 4 s.A s.n s.c (p.map Ent.row)) : OwC W base (vs ++ [s]) (cs ++ [p]) := by
  refine ⟨by rw [List.length_append, List.length_append, h.1]; rfl, fun j h1 h2 => ?_⟩
  by_cases hj : j < vs.length
  · have := h.2 j hj (by rw [← h.1]; exact hj)
    rw [List.getElem_append_left hj, List.getElem_append_left (by rw [← h.1]; exact hj)]
    exact this
  · have hje : j = vs.length := by simp at h1; omega
    subst hje
    have e1 : (vs ++ [s])[vs.length]'h1 = s := by simp
    have e2 : (cs ++ [p])[vs.length]'h2 = p := by
      rw [List.getElem_append_right (by rw [h.1]; exact Nat.le_refl _)]
      simp [h.1]
    rw [e1, e2]
    exact ⟨hn, hr⟩
theorem others_of_chg {R : Nat → Prop} {W W' : World} (h : Chg R W W') (hR : ∀ k, R k → ∃ o : Obj, W.heap[k]? = some o ∧ o.isCells = true) : KeepsOthers W W' :=
  ⟨h.size, fun k o hk ho => (h.block k ((Array.getElem?_eq_some_iff.1 hk).1) (fun hr => by obtain ⟨o', h1, h2⟩ := hR k hr; rw [hk] at h1; cases h1; rw [ho] at h2; cases h2)).trans hk⟩
theorem others_of_below {W W' : World} (hb : Below W.heap.size W W') : KeepsOthers W W' :=
  ⟨hb.size, fun k _ hk _ => (hb.block k ((Array.getElem?_eq_some_iff.1 hk).1)).trans hk⟩
theorem inop_append_row {F : Fence} {n' : Nat} {P : Program} {o : Oper} {a : Act} {K : Act → World → Prop} {Q : Exit → Act → World → Prop} (w : World) (hF : ∀ f, F.fn f) (q y : Operand) {t e : TypeId} {z : Value} {s bytes : Nat}
    (ho : o.op = .call { callee := .builtin .append, args := #[q, y], argTypes := #[t, t] }) (E : ElemR P t e z s bytes)
    {base n c : Nat} {A : Option Addr} {rows : List (List Value)} (hs : a.eval q = .slice A n c) (h : OwR w base e s A n c rows) (r : List Value) (hr : r.length = s) (h1 : ∀ u ∈ r, u.oneCell' = true) (te : TypeId) (fr : Nat × Nat) (hx : a.eval y = .slice (some ⟨w.heap.size, 0, none⟩) 1 1)
    (h63 : n ≤ 1048576) (hb64 : bytes ≤ 64) (hbase : base ≤ w.heap.size)
    (hk : ∀ A' c' w', OwR w' base e s A' (n + 1) c' (rows ++ [r]) → Chg (fun k => blk A = some k) w w' → (blk A' = blk A ∨ ∃ k, w.heap.size ≤ k ∧ blk A' = some k) → K (a.put o.dst (.slice A' (n + 1) c')) w') :
    Oper.wpIn F n' P o a (w.alloc (.cells r.toArray te fr)) K Q := by
  obtain ⟨A', c', w', hrun, h2, h3, h4⟩ := run_append_row w E o.type h r hr h1 te fr h63 hb64 hbase
  refine ⟨fun f _ => hF f, ?_⟩
  rw [Oper.semAt_eq _ _ _ (by intro c hc; rw [ho] at hc; cases hc)]
  unfold execOp
  simp only [ho, resolve, invoke, builtin, Sem.run_bind, Sem.run_pure, Result.andThen_ok, List.map_toArray, List.map_cons, List.map_nil, hs, hx, hrun]
  exact hk A' c' w' h2 h3 h4
theorem KpP.trans {G m : Nat} {A B C : World} (h : KpP G m A B) (k : KpP G m B C) : KpP G m A C := Chg.trans h k (fun _ _ h => h)
theorem KpP.putObj {G m : Nat} {w : World} (hs : w.heap.size = m) (W : World) (l : Nat) (o o' : Obj) (hl : w.heap.size ≤ l) (h : W.heap[l]? = some o) (ho : o.isCells = false) (_ : o.isWalk = false) : KpP G m W (W.putObj l o') :=
  (chg_of_grown (grownBy_putObj' W l o')).mono (fun i _ hi => .inr (by cases hi; omega))
set_option maxRecDepth 100000 in
set_option maxHeartbeats 8000000 in
theorem pleaves_any (A : Option Addr) (n c : Nat) (es : List Ent) (nn : Int) (w : World) (hl : es.length = n) (hr : RdE w w.heap.size A es) (hc : n ≤ c) (hn : n ≤ 65536) (hI : nn ≤ 9223372036854775807) :
    Calls Tryz.prog 79 #[.slice A n c, .int .i64 nn] w fun e w' => ∃ A' c' vs, e = .returned (.slice A' vs.length c') ∧ OwR w' w.heap.size 48 1 A' vs.length c' (vs.map fun s => [Sl.val s]) ∧ RdC w' w'.heap.size vs (chks nn es) ∧ Below w.heap.size w w' := by
  obtain ⟨G, hG⟩ : ∃ G, w.heap.size = G := ⟨_, rfl⟩
  rw [hG] at hr ⊢
  obtain ⟨R, hR⟩ : ∃ R, chks nn es = R := ⟨_, rfl⟩
  rw [hR]
  have hnI : (n : Int) ≤ 65536 := by omega
  rcases Nat.eq_zero_or_pos n with rfl | hnp
  · obtain rfl : es = [] := List.eq_nil_of_length_eq_zero hl
    obtain rfl : [] = R := by rw [← hR]; rfl
    have hfin := hide (show Below G w w from Below.refl _ _)
    refine (callsIn_wide (n := 9)).1 ?_
    refine callsIn_of_wp_marks Tryz.func79 rfl trivial ?_ rfl
    refine wpIn_wide.2 ?_
    simp only [Tryz.ntmps79, List.size_toArray, List.length_cons, List.length_nil, Nat.reduceAdd, Nat.reduceSub, Array.replicate_succ, Array.replicate_zero, List.push_toArray, List.append_toArray, List.nil_append, List.cons_append]
    go_wp2
    exact ⟨_, results_tmp rfl _ _ _, none, 0, [], rfl, OwR.nil _ _ _ _, ⟨rfl, fun j h1 _ => absurd h1 (Nat.not_lt_zero _)⟩, hfin.out⟩
  · have hnz : ((n : Int) == 0) = false := by simp; omega
    obtain ⟨mI, hmI⟩ : ∃ mI, (if nn < 1 then (n : Int) else nn) = mI := ⟨_, rfl⟩
    have hm1 : 1 ≤ mI ∧ mI ≤ 9223372036854775807 := by rw [← hmI]; split <;> omega
    obtain ⟨M, hM⟩ : ∃ M : Nat, (M : Int) = mI := ⟨mI.toNat, by omega⟩
    have hMp : 1 ≤ M := by omega
    have hRc := hide (show chk M n es = R from by
      rw [← hR]
      unfold chks
      rw [hl, show (if nn < 1 then n else nn.toNat) = M from by
        by_cases h : nn < 1
        · rw [if_pos h] at hmI ⊢; omega
        · rw [if_neg h] at hmI ⊢; omega])
    refine (callsIn_wide (n := 9)).1 ?_
    refine callsIn_of_wp_marks Tryz.func79 rfl trivial ?_ rfl
    refine wpIn_wide.2 ?_
    simp only [Tryz.ntmps79, List.size_toArray, List.length_cons, List.length_nil, Nat.reduceAdd, Nat.reduceSub, Array.replicate_succ, Array.replicate_zero, List.push_toArray, List.append_toArray, List.nil_append, List.cons_append]
    replace hr := hide hr
    go_upto_region 1 with fail
    iterate 18 go_step
    go_cut [1] from 10 to 13 (fun s1 wx => s1 = .int .i64 mI ∧ wx = w)
    case first =>
      by_cases h : nn < 1
      · rw [if_pos h] at hmI
        have hd : decide (nn < 1) = true := by simp [h]
        replace h := hide h
        subst hmI
        go_wp2
        go_meet
        exact ⟨rfl, rfl⟩
      · rw [if_neg h] at hmI
        have hd : decide (nn < 1) = false := by simp; omega
        replace h := hide h
        subst hmI
        go_wp2
        go_meet
        exact ⟨rfl, rfl⟩
    case rest =>
      obtain ⟨rfl, rfl⟩ := hcut
      obtain ⟨w1, hw1⟩ : ∃ W, wc.alloc (.cells #[.slice none 0 0] 94) = W := ⟨_, rfl⟩
      obtain ⟨w2, hw2⟩ : ∃ W, w1.alloc (.cells #[.slice A n c] 48) = W := ⟨_, rfl⟩
      obtain ⟨w3, hw3⟩ : ∃ W, w2.alloc (.cells #[.int .i64 mI] 3) = W := ⟨_, rfl⟩
      have s1 := hide (show w1.heap.size = G + 1 from by rw [← hw1, ← hG]; simp)
      have s2 := hide (show w2.heap.size = G + 1 + 1 from by rw [← hw2, ← s1.out]; simp)
      have s3 := hide (show w3.heap.size = G + 1 + 1 + 1 from by rw [← hw3, ← s2.out]; simp)
      have be12 := hide (show Below w1.heap.size w1 w2 from by rw [← hw2]; exact (Below.refl _ w1).alloc (Nat.le_refl _) _)
      have be23 := hide (show Below w2.heap.size w2 w3 from by rw [← hw3]; exact (Below.refl _ w2).alloc (Nat.le_refl _) _)
      have k1 := hide (show Blk w1 G 94 #[.slice none 0 0] from by rw [← hw1, ← hG]; exact Blk.new wc _ _)
      have k3 := hide ((k1.out.below be12.out k1.out.lt).below be23.out (by have := s2.out; omega))
      have q2 := hide (show Blk w2 (G + 1) 48 #[.slice A n c] from by rw [← hw2, ← s1.out]; exact Blk.new w1 _ _)
      have q3 := hide (q2.out.below be23.out q2.out.lt)
      have p3 := hide (show Blk w3 (G + 1 + 1) 3 #[.int .i64 mI] from by rw [← hw3, ← s2.out]; exact Blk.new w2 _ _)
      have bel3 := hide (show Below G wc w3 from by
        have h1 : Below G wc w1 := by rw [← hw1]; exact (Below.refl _ wc).alloc (by omega) _
        exact (h1.trans (be12.out.mono (by have := s1.out; omega))).trans (be23.out.mono (by have := s2.out; omega)))
      clear k1 q2 be12 be23
      go_wp2_with (go_at_call 102; (with_reducible refine (chunk_any _ _ _ _ hm1.1 _).mono ?_); rintro e w' ⟨rfl, rfl⟩)
      rw [s1.out]
      refine (wpIn_wide (n := 9)).1 ?_
      refine wpIn_rangeFunc_ownH (n := 9) rfl (by decide) (gf := 129) (lb := #[.pointer (some ⟨G + 1, 0, none⟩), .pointer (some ⟨G + 1 + 1, 0, none⟩)]) rfl trivial (enters_of Tryz.func129 (by kernel_rfl) rfl)
        (chunk_stops (9 - 1) (by decide) (G + 1) (G + 1 + 1) G (G + 1 + 1 + 1) A n c M mI hMp hM hm1.2 w3 (by rw [s3.out]; exact Nat.le_refl _) (by omega) (by omega) (by omega) (by omega) q3.out p3.out hn hc) KpP.trans (KpP.putObj s3.out) (Below.refl _ _) (fun _ => rfl)
        (fun (pre : List (Pt n)) W => (∃ A5 c5 vs, OwR W (G + 1 + 1 + 1) 48 1 A5 vs.length c5 (vs.map fun s => [Sl.val s]) ∧ Blk W G 94 #[.slice A5 vs.length c5] ∧ OwC W (G + 1 + 1 + 1) vs (pre.map fun x => (es.drop x.1.1).take x.1.2)) ∧ Below G wc W)
        (fun _ _ _ => False)
        (OwnFrom.and (fun _ _ _ _ hs hg hr => by
          have hc := calm_of hg (fun r e => (hr r e).2)
          obtain ⟨A5, c5, vs, h1, h2, h3⟩ := hs
          exact ⟨A5, c5, vs, h1.calm hc, h2.calm hc, h3.calm hc⟩) (ownFrom_below (by omega) (by have := s3.out; omega)))
        (fun _ _ _ _ _ hs _ _ => hs)
        ⟨⟨none, 0, [], OwR.nil _ _ _ _, k3.out, ⟨rfl, fun j h1 _ => absurd h1 (Nat.not_lt_zero _)⟩⟩, bel3.out⟩
        (fun x a' W => a' = { tmps := #[.slice A n c, .int .i64 mI, undef, undef, .slice none 0 0, .pointer (some ⟨G, 0, none⟩), ptv A x.1, .slice A n c, .int .i64 (n : Int), .bool false, u10, u11, u12, u13, .slice A n c, .int .i64 mI, .func (.func 129) #[] #[.pointer (some ⟨G + 1, 0, none⟩), .pointer (some ⟨G + 1 + 1, 0, none⟩)], ptv A x.1, undef, undef, undef, undef, undef, undef], defers := [] })
        (fun x a' _ X Y row hs hg hr => hs)
        ?assign ?body ?done ?stop
      case assign =>
        rintro l pre x W K ⟨⟨A5, c5, vs, i1, i2, i3⟩, i7⟩ hK
        gi_wp2
        exact hK _ _ (KeepsFrom.refl _ _) (Chg.refl _ _) ⟨⟨A5, c5, vs, i1, i2, i3⟩, i7⟩ rfl
      case body =>
        rintro l pre x a' W hlw ⟨r, hr'⟩ ⟨⟨A5, c5, vs, i1, i2, i3⟩, i7⟩ rfl hlt
        have hgp := x.2
        obtain ⟨⟨q, t⟩, hgq⟩ := x
        simp only at hgp
        have hvn : vs.length ≤ 65536 := by rw [i3.1, List.length_map]; omega
        clear hlt
        have hpl : (((es.drop q).take t)).length = t := by rw [List.length_take, List.length_drop, hl]; omega
        have i2d := hide (show Blk W.drew G 94 #[.slice A5 vs.length c5] from i2)
        have i1d := hide (show OwR W.drew (G + 1 + 1 + 1) 48 1 A5 vs.length c5 (vs.map fun s => [Sl.val s]) from i1)
        have cg : W.drew.cell? ⟨G, 0, none⟩ = some (.slice A5 vs.length c5) := i2d.out.cell 0
        have hcl := hide (clonee_any (A.map fun a => a.add (q * 4)) t t ((es.drop q).take t) W.drew G hpl (((hr.out.below (show Below G wc W.drew from i7.drew)).drop q).take t) (by have := i7.size; show G ≤ W.heap.size; omega) (by omega))
        have hGlt := hide (show G < W.drew.heap.size from i2d.out.lt)
        have hmW := hide (show G + 1 + 1 + 1 ≤ W.heap.size from by
          have h1 := (Array.getElem?_eq_some_iff.1 hr').1
          have h2 := s3.out
          omega)
        replace i1 := hide i1
        replace i2 := hide i2
        replace i3 := hide i3
        replace i7 := hide i7
        have hend := hide (fun (w4 w6 : World) (A4 : Option Addr) (c4 : Nat) (A6 : Option Addr) (c6 : Nat) (ho4 : OwR w4 W.drew.heap.size 36 4 A4 t c4 (((es.drop q).take t).map Ent.row)) (hb4 : Below W.drew.heap.size W.drew w4)
            (o6 : OwR w6 (G + 1 + 1 + 1) 48 1 A6 (vs.length + 1) c6 ((vs.map fun s => [Sl.val s]) ++ [[Sl.val ⟨A4, t, c4⟩]])) (hc6 : Chg (fun k => blk A5 = some k) w4 w6) => (show KeepsFrom w3.heap.size W (w6.setCell ⟨G, 0, none⟩ (.slice A6 (vs.length + 1) c6)) ∧ KpP G (G + 1 + 1 + 1) W (w6.setCell ⟨G, 0, none⟩ (.slice A6 (vs.length + 1) c6)) ∧ ((∃ A5 c5 vs', OwR (w6.setCell ⟨G, 0, none⟩ (.slice A6 (vs.length + 1) c6)) (G + 1 + 1 + 1) 48 1 A5 vs'.length c5 (vs'.map fun s => [Sl.val s]) ∧ Blk (w6.setCell ⟨G, 0, none⟩ (.slice A6 (vs.length + 1) c6)) G 94 #[.slice A5 vs'.length c5] ∧ OwC (w6.setCell ⟨G, 0, none⟩ (.slice A6 (vs.length + 1) c6)) (G + 1 + 1 + 1) vs' ((pre ++ [(⟨(q, t), hgq⟩ : Pt n)]).map fun x : Pt n => (es.drop x.1.1).take x.1.2)) ∧ Below G wc (w6.setCell ⟨G, 0, none⟩ (.slice A6 (vs.length + 1) c6))) from by
          have i1d : OwR W.drew (G + 1 + 1 + 1) 48 1 A5 vs.length c5 (vs.map fun s => [Sl.val s]) := i1.out
          have j1 := i1d.below hb4
          have hWs : W.heap.size = W.drew.heap.size := rfl
          have cW4 : Chg (fun k => k = G ∨ G + 1 + 1 + 1 ≤ k) W w4 := by
            have h1 : Chg (fun k => k = G ∨ G + 1 + 1 + 1 ≤ k) W.drew w4 := ⟨hb4.os, hb4.tape, hb4.output, hb4.size, fun i hi _ => hb4.block i hi⟩
            exact Chg.trans (b := W.drew) ((Chg.refl _ W).drew) h1 (fun _ _ h => h)
          have c46 : Chg (fun k => k = G ∨ G + 1 + 1 + 1 ≤ k) w4 w6 := hc6.mono (fun i hi h => .inr (j1.blk_lt i h).1)
          have k4 : Blk w4 G 94 #[.slice A5 vs.length c5] := i2d.out.below hb4 hGlt.out
          have k6 : Blk w6 G 94 #[.slice A5 vs.length c5] := k4.chg hc6 (j1.ne k4 (by decide))
          have c69 : Chg (fun k => k = G ∨ G + 1 + 1 + 1 ≤ k) w6 (w6.setCell ⟨G, 0, none⟩ (.slice A6 (vs.length + 1) c6)) := (Chg.refl _ w6).setCell (.inr (.inl rfl)) _
          have call : Chg (fun k => k = G ∨ G + 1 + 1 + 1 ≤ k) W (w6.setCell ⟨G, 0, none⟩ (.slice A6 (vs.length + 1) c6)) := (cW4.trans c46 (fun _ _ h => h)).trans c69 (fun _ _ h => h)
          have e1 : KeepsOthers W W.drew := KeepsOthers.drew W
          have e2 : KeepsOthers W.drew w4 := others_of_below hb4
          have e3 : KeepsOthers w4 w6 := others_of_chg hc6 (fun k hk => by obtain ⟨cur, hh⟩ := j1.row hk; exact ⟨_, hh, rfl⟩)
          have e4 : KeepsOthers w6 (w6.setCell ⟨G, 0, none⟩ (.slice A6 (vs.length + 1) c6)) := KeepsOthers.setCell _ _ _
          have c69' : Chg (fun k => k = G) w6 (w6.setCell ⟨G, 0, none⟩ (.slice A6 (vs.length + 1) c6)) := (Chg.refl (fun k => k = G) w6).setCell (p := ⟨G, 0, none⟩) (.inr rfl) _
          have o9 : OwR (w6.setCell ⟨G, 0, none⟩ (.slice A6 (vs.length + 1) c6)) (G + 1 + 1 + 1) 48 1 A6 (vs.length + 1) c6 ((vs.map fun s => [Sl.val s]) ++ [[Sl.val ⟨A4, t, c4⟩]]) := o6.chg c69' (fun g hg h => o6.ne k6 (by decide) (h ▸ hg))
          have hGc : ∀ {X : World} {u : Value}, Blk X G 94 #[u] → ∀ k cur, X.heap[k]? = some (.cells cur 36 (0, 0)) → ¬ k = G := fun hX k cur h h' => by
            subst h'
            exact Blk.same (w := _) h hX (by decide) rfl
          have hAc : ∀ k cur, w4.heap[k]? = some (.cells cur 36 (0, 0)) → ¬ blk A5 = some k := fun k cur h h' => by
            obtain ⟨cur', hh⟩ := j1.row h'
            rw [h] at hh
            injection hh with hh
            injection hh with h1 h2
            exact absurd h2 (by decide)
          have i3d : OwC W.drew (G + 1 + 1 + 1) vs (pre.map fun x => (es.drop x.1.1).take x.1.2) := i3.out
          have p4 := i3d.below hb4
          have p6 := p4.chg hc6 hAc
          have p9 := p6.chg c69' (hGc k6)
          have ho4' : OwR w4 (G + 1 + 1 + 1) 36 4 A4 t c4 (((es.drop q).take t).map Ent.row) := by
            refine ⟨ho4.1, ho4.2.1, ho4.2.2.1, ?_⟩
            rcases ho4.2.2.2 with h | ⟨g, cap, cur, hv, hg, r⟩
            · exact .inl h
            · exact .inr ⟨g, cap, cur, hv, by have := hmW.out; omega, r⟩
          have q6 := ho4'.chg hc6 (fun g hg => by obtain ⟨cur, hh⟩ := ho4'.row hg; exact hAc g cur hh)
          have q9 := q6.chg c69' (fun g hg => by obtain ⟨cur, hh⟩ := q6.row hg; exact hGc k6 g cur hh)
          refine ⟨((e1.trans e2).trans (e3.trans e4)).from _, call, ⟨A6, c6, vs ++ [⟨A4, t, c4⟩], by rw [List.length_append, List.map_append]; exact o9, by rw [List.length_append]; exact k6.set 0 _, by rw [List.map_append]; exact p9.snoc ⟨A4, t, c4⟩ _ hpl.symm q9⟩, i7.out.trans (call.to_below (by have := i7.out.size; omega) (fun i h => by omega))⟩))
        simp only [ptv]
        gi_wp2
        refine wpIn_region_any (by kernel_rfl) ?_
        change wpAnyIn _ _ _ .any _ _ 6 #[false, false, false, false, false, false] _ W.drew
        refine wpAnyIn_ready (rs := [0, 1]) (by kernel_rfl) (by simp) ?_
        refine AllReadyIn.cons rfl (fun K hK => ?_) ?_
        · skip
          rw [if_pos (by rfl)]
          go_simp
          refine hK _ _ ?_
          refine wpAnyIn_ready (rs := [1]) (by kernel_rfl) (by simp) ?_
          refine AllReadyIn.cons rfl (fun K hK => ?_) ?_
          · skip
            rw [if_pos (by rfl)]
            go_simp
            refine hK _ _ ?_
            refine wpAnyIn_ready (rs := [2]) (by kernel_rfl) (by simp) ?_
            refine AllReadyIn.cons rfl (fun K hK => ?_) ?_
            · skip
              rw [if_pos (by rfl)]
              gi_wp2_with (refine ⟨trivial, ?_⟩; gi_at_call 103; (with_reducible refine (CallsIn.inRound l (callsIn_wide.2 (hcl.out))).mono ?_); rintro e w4 ⟨A4, c4, rfl, ho4, hb4⟩; have cg4 := hide (i2d.out.below hb4 hGlt.out); have z4 : w4.cell? ⟨G, 0, none⟩ = some (.slice A5 vs.length c5) := cg4.out.cell 0; have z4a : (w4.alloc (.cells #[.slice A4 t c4] 48)).cell? ⟨G, 0, none⟩ = some (.slice A5 vs.length c5) := (cg4.out.alloc _).cell 0; replace ho4 := hide ho4; replace hb4 := hide hb4)
              refine wpAnyIn_ready (rs := [3]) (by kernel_rfl) (by simp) ?_
              refine AllReadyIn.cons rfl (fun K hK => ?_) ?_
              · skip
                rw [if_pos (by rfl)]
                go_simp
                refine hK _ _ ?_
                refine wpAnyIn_ready (rs := [4]) (by kernel_rfl) (by simp) ?_
                refine AllReadyIn.cons rfl (fun K hK => ?_) ?_
                · skip
                  rw [if_pos (by rfl)]
                  refine inop_append_row w4 (fun _ => trivial) (.tmp 18) (.tmp 21) rfl elem_part rfl (i1d.out.below hb4.out) [Sl.val ⟨A4, t, c4⟩] rfl (by intro u hu; simp at hu; subst hu; rfl) 48 _ rfl (by omega) (by omega) (by have := hmW.out; have := hb4.out.size; exact Nat.le_trans hmW.out hb4.out.size) ?_
                  intro A6 c6 w6 o6 hc6 hn6
                  have kg6 := hide (cg4.out.chg hc6 ((i1d.out.below hb4.out).ne cg4.out (by decide)))
                  have z6 : w6.cell? ⟨G, 0, none⟩ = some (.slice A5 vs.length c5) := kg6.out.cell 0
                  have f6 : w6.frozen? ⟨G, 0, none⟩ = false := kg6.out.free 0
                  replace o6 := hide o6
                  replace hc6 := hide hc6
                  refine hK _ _ ?_
                  refine wpAnyIn_ready (rs := [5]) (by kernel_rfl) (by simp) ?_
                  refine AllReadyIn.cons rfl (fun K hK => ?_) ?_
                  · skip
                    rw [if_pos (by rfl)]
                    go_simp
                    refine hK _ _ ?_
                    refine wpAnyIn_done (by kernel_rfl) ?_ _
                    exact hend.out w4 w6 A4 c4 A6 c6 ho4.out hb4.out o6.out hc6.out
                  exact AllReadyIn.nil
                exact AllReadyIn.nil
              exact AllReadyIn.nil
            exact AllReadyIn.nil
          exact AllReadyIn.nil
        refine AllReadyIn.cons rfl (fun K hK => ?_) ?_
        · skip
          rw [if_pos (by rfl)]
          go_simp
          refine hK _ _ ?_
          refine wpAnyIn_ready (rs := [0, 2]) (by kernel_rfl) (by simp) ?_
          refine AllReadyIn.cons rfl (fun K hK => ?_) ?_
          · skip
            rw [if_pos (by rfl)]
            go_simp
            refine hK _ _ ?_
            refine wpAnyIn_ready (rs := [2]) (by kernel_rfl) (by simp) ?_
            refine AllReadyIn.cons rfl (fun K hK => ?_) ?_
            · skip
              rw [if_pos (by rfl)]
              gi_wp2_with (refine ⟨trivial, ?_⟩; gi_at_call 103; (with_reducible refine (CallsIn.inRound l (callsIn_wide.2 (hcl.out))).mono ?_); rintro e w4 ⟨A4, c4, rfl, ho4, hb4⟩; have cg4 := hide (i2d.out.below hb4 hGlt.out); have z4 : w4.cell? ⟨G, 0, none⟩ = some (.slice A5 vs.length c5) := cg4.out.cell 0; have z4a : (w4.alloc (.cells #[.slice A4 t c4] 48)).cell? ⟨G, 0, none⟩ = some (.slice A5 vs.length c5) := (cg4.out.alloc _).cell 0; replace ho4 := hide ho4; replace hb4 := hide hb4)
              refine wpAnyIn_ready (rs := [3]) (by kernel_rfl) (by simp) ?_
              refine AllReadyIn.cons rfl (fun K hK => ?_) ?_
              · skip
                rw [if_pos (by rfl)]
                go_simp
                refine hK _ _ ?_
                refine wpAnyIn_ready (rs := [4]) (by kernel_rfl) (by simp) ?_
                refine AllReadyIn.cons rfl (fun K hK => ?_) ?_
                · skip
                  rw [if_pos (by rfl)]
                  refine inop_append_row w4 (fun _ => trivial) (.tmp 18) (.tmp 21) rfl elem_part rfl (i1d.out.below hb4.out) [Sl.val ⟨A4, t, c4⟩] rfl (by intro u hu; simp at hu; subst hu; rfl) 48 _ rfl (by omega) (by omega) (by have := hmW.out; have := hb4.out.size; exact Nat.le_trans hmW.out hb4.out.size) ?_
                  intro A6 c6 w6 o6 hc6 hn6
                  have kg6 := hide (cg4.out.chg hc6 ((i1d.out.below hb4.out).ne cg4.out (by decide)))
                  have z6 : w6.cell? ⟨G, 0, none⟩ = some (.slice A5 vs.length c5) := kg6.out.cell 0
                  have f6 : w6.frozen? ⟨G, 0, none⟩ = false := kg6.out.free 0
                  replace o6 := hide o6
                  replace hc6 := hide hc6
                  refine hK _ _ ?_
                  refine wpAnyIn_ready (rs := [5]) (by kernel_rfl) (by simp) ?_
                  refine AllReadyIn.cons rfl (fun K hK => ?_) ?_
                  · skip
                    rw [if_pos (by rfl)]
                    go_simp
                    refine hK _ _ ?_
                    refine wpAnyIn_done (by kernel_rfl) ?_ _
                    exact hend.out w4 w6 A4 c4 A6 c6 ho4.out hb4.out o6.out hc6.out
                  exact AllReadyIn.nil
                exact AllReadyIn.nil
              exact AllReadyIn.nil
            exact AllReadyIn.nil
          refine AllReadyIn.cons rfl (fun K hK => ?_) ?_
          · skip
            rw [if_pos (by rfl)]
            gi_wp2_with (refine ⟨trivial, ?_⟩; gi_at_call 103; (with_reducible refine (CallsIn.inRound l (callsIn_wide.2 (hcl.out))).mono ?_); rintro e w4 ⟨A4, c4, rfl, ho4, hb4⟩; have cg4 := hide (i2d.out.below hb4 hGlt.out); have z4 : w4.cell? ⟨G, 0, none⟩ = some (.slice A5 vs.length c5) := cg4.out.cell 0; have z4a : (w4.alloc (.cells #[.slice A4 t c4] 48)).cell? ⟨G, 0, none⟩ = some (.slice A5 vs.length c5) := (cg4.out.alloc _).cell 0; replace ho4 := hide ho4; replace hb4 := hide hb4)
            refine wpAnyIn_ready (rs := [0, 3]) (by kernel_rfl) (by simp) ?_
            refine AllReadyIn.cons rfl (fun K hK => ?_) ?_
            · skip
              rw [if_pos (by rfl)]
              go_simp
              refine hK _ _ ?_
              refine wpAnyIn_ready (rs := [3]) (by kernel_rfl) (by simp) ?_
              refine AllReadyIn.cons rfl (fun K hK => ?_) ?_
              · skip
                rw [if_pos (by rfl)]
                go_simp
                refine hK _ _ ?_
                refine wpAnyIn_ready (rs := [4]) (by kernel_rfl) (by simp) ?_
                refine AllReadyIn.cons rfl (fun K hK => ?_) ?_
                · skip
                  rw [if_pos (by rfl)]
                  refine inop_append_row w4 (fun _ => trivial) (.tmp 18) (.tmp 21) rfl elem_part rfl (i1d.out.below hb4.out) [Sl.val ⟨A4, t, c4⟩] rfl (by intro u hu; simp at hu; subst hu; rfl) 48 _ rfl (by omega) (by omega) (by have := hmW.out; have := hb4.out.size; exact Nat.le_trans hmW.out hb4.out.size) ?_
                  intro A6 c6 w6 o6 hc6 hn6
                  have kg6 := hide (cg4.out.chg hc6 ((i1d.out.below hb4.out).ne cg4.out (by decide)))
                  have z6 : w6.cell? ⟨G, 0, none⟩ = some (.slice A5 vs.length c5) := kg6.out.cell 0
                  have f6 : w6.frozen? ⟨G, 0, none⟩ = false := kg6.out.free 0
                  replace o6 := hide o6
                  replace hc6 := hide hc6
                  refine hK _ _ ?_
                  refine wpAnyIn_ready (rs := [5]) (by kernel_rfl) (by simp) ?_
                  refine AllReadyIn.cons rfl (fun K hK => ?_) ?_
                  · skip
                    rw [if_pos (by rfl)]
                    go_simp
                    refine hK _ _ ?_
                    refine wpAnyIn_done (by kernel_rfl) ?_ _
                    exact hend.out w4 w6 A4 c4 A6 c6 ho4.out hb4.out o6.out hc6.out
                  exact AllReadyIn.nil
                exact AllReadyIn.nil
              exact AllReadyIn.nil
            refine AllReadyIn.cons rfl (fun K hK => ?_) ?_
            · skip
              rw [if_pos (by rfl)]
              go_simp
              refine hK _ _ ?_
              refine wpAnyIn_ready (rs := [0]) (by kernel_rfl) (by simp) ?_
              refine AllReadyIn.cons rfl (fun K hK => ?_) ?_
              · skip
                rw [if_pos (by rfl)]
                go_simp
                refine hK _ _ ?_
                refine wpAnyIn_ready (rs := [4]) (by kernel_rfl) (by simp) ?_
                refine AllReadyIn.cons rfl (fun K hK => ?_) ?_
                · skip
                  rw [if_pos (by rfl)]
                  refine inop_append_row w4 (fun _ => trivial) (.tmp 18) (.tmp 21) rfl elem_part rfl (i1d.out.below hb4.out) [Sl.val ⟨A4, t, c4⟩] rfl (by intro u hu; simp at hu; subst hu; rfl) 48 _ rfl (by omega) (by omega) (by have := hmW.out; have := hb4.out.size; exact Nat.le_trans hmW.out hb4.out.size) ?_
                  intro A6 c6 w6 o6 hc6 hn6
                  have kg6 := hide (cg4.out.chg hc6 ((i1d.out.below hb4.out).ne cg4.out (by decide)))
                  have z6 : w6.cell? ⟨G, 0, none⟩ = some (.slice A5 vs.length c5) := kg6.out.cell 0
                  have f6 : w6.frozen? ⟨G, 0, none⟩ = false := kg6.out.free 0
                  replace o6 := hide o6
                  replace hc6 := hide hc6
                  refine hK _ _ ?_
                  refine wpAnyIn_ready (rs := [5]) (by kernel_rfl) (by simp) ?_
                  refine AllReadyIn.cons rfl (fun K hK => ?_) ?_
                  · skip
                    rw [if_pos (by rfl)]
                    go_simp
                    refine hK _ _ ?_
                    refine wpAnyIn_done (by kernel_rfl) ?_ _
                    exact hend.out w4 w6 A4 c4 A6 c6 ho4.out hb4.out o6.out hc6.out
                  exact AllReadyIn.nil
                exact AllReadyIn.nil
              exact AllReadyIn.nil
            exact AllReadyIn.nil
          exact AllReadyIn.nil
        exact AllReadyIn.nil
      case done =>
        rintro D xs W hlw hS ⟨⟨A5, c5, vs, i1, i2, i3⟩, i7⟩ hK
        have hcs : (xs.map fun x : Pt n => (es.drop x.1.1).take x.1.2) = R := by
          have h1 := cuts_chk M n es hl n 0
          rw [List.drop_zero, hRc.out, ← hS, List.map_map] at h1
          exact h1.symm
        rw [hcs] at i3
        have zg : W.cell? ⟨G, 0, none⟩ = some (.slice A5 vs.length c5) := i2.cell 0
        have hlD0 := hide hlw
        replace i1 := hide (i1.base (show G ≤ G + 1 + 1 + 1 by omega))
        replace i2 := hide i2
        replace i3 := hide i3
        replace i7 := hide i7
        replace hK := hide hK
        clear hS hcs hlw
        go_wp2
        refine ⟨by simp, .inl ⟨_, _, rfl, run_takeDeferred hK.out, ?_⟩⟩
        have hg2 := grownBy_putObj' W D (.deferred none)
        have hlD : D < W.heap.size := (Array.getElem?_eq_some_iff.1 hK.out).1
        have hcalm : Calm W (W.putObj D (.deferred none)) := calm_of hg2 (fun r e => by cases e; exact ⟨_, hK.out, rfl⟩)
        have hbD := belowK_b (n₀ := G) (w := w3) (by have := s3.out; omega) W D _ (.deferred none) hlD0.out hK.out rfl rfl
        exact ⟨_, results_tmp rfl _ _ _, A5, c5, vs, rfl, i1.out.calm hcalm, (i3.out.calm hcalm).rd, i7.out.trans hbD⟩
      case stop =>
        rintro D c' pre W _ _ h _
        exact h.elim
end Go.Proofs.YtaapjampmnanmaaGreat
