/- Layer 14 (pack): PackBuilds as a walk. The conditions: where the arguments lie; how long slices and strings can be. -/
import Derived.Test.YtaapjampmnanmaaGreatBdRBuild
import Derived.Test.YtaapjampmnanmaaGreatPkMuch
import Derived.Test.YtaapjampmnanmaaGreatPkLive
namespace Go.Proofs.YtaapjampmnanmaaGreat
open Go.RowKit
set_option linter.unusedVariables false
set_option linter.unusedSimpArgs false

theorem sortE_ex (l : List Im) : ∃ er, SortE l er ∧ er ≤ 8 := by
  by_cases h1 : ∃ m ∈ l, ¬ m.ok
  · refine ⟨8, ⟨fun _ => rfl, fun h => ?_, fun h => ?_, fun h => ?_⟩, by omega⟩ <;> (obtain ⟨m, hm, hn⟩ := h1; exact absurd (h m hm) hn)
  by_cases h2 : l = [] ∨ (∃ m ∈ l, m.n = 0) ∨ ∃ (i j : Nat) (hi : i < l.length) (hj : j < l.length), i < j ∧ l[i].num = l[j].num
  · refine ⟨3, ⟨fun h => absurd h h1, fun _ _ => rfl, fun _ h3 h4 h5 _ => ?_, fun _ h3 h4 h5 _ => ?_⟩, by omega⟩ <;>
      (rcases h2 with h | ⟨m, hm, h⟩ | ⟨i, j, hi, hj, hij, h⟩
       · exact absurd h h3
       · exact absurd h (h4 m hm)
       · exact absurd h (h5 i j hi hj hij))
  by_cases h3 : ∃ m ∈ l, 1048576 < m.n
  · refine ⟨5, ⟨fun h => absurd h h1, fun _ h => absurd h h2, fun _ _ _ _ h => ?_, fun _ _ _ _ _ => rfl⟩, by omega⟩
    obtain ⟨m, hm, h4⟩ := h3
    have := h m hm
    omega
  · exact ⟨0, ⟨fun h => absurd h h1, fun _ h => absurd h h2, fun _ _ _ _ _ => rfl, fun _ _ _ _ h => absurd h h3⟩, by omega⟩
theorem SortE.small {l : List Im} {er : Nat} (h : SortE l er) (h0 : er = 0) : ¬ ∃ m ∈ l, 1048576 < m.n := by
  intro hb
  have h1 := sorted_ok h h0
  have h2 : ¬ (l = [] ∨ (∃ m ∈ l, m.n = 0) ∨ ∃ (i j : Nat) (hi : i < l.length) (hj : j < l.length), i < j ∧ l[i].num = l[j].num) := fun hf => by
    have := h.form h1 hf
    omega
  have := h.long h1 (fun e => h2 (.inl e)) (fun m hm e => h2 (.inr (.inl ⟨m, hm, e⟩))) (fun i j hi hj hij e => h2 (.inr (.inr ⟨i, j, hi, hj, hij, e⟩))) hb
  omega
theorem le_nsum (l : List Im) : ∀ m ∈ l, m.n ≤ (l.map Im.n).sum := by
  induction l with
  | nil => intro m hm; cases hm
  | cons x t ih =>
    intro m hm
    rw [List.map_cons, List.sum_cons]
    rcases List.mem_cons.1 hm with rfl | h
    · omega
    · have := ih m h
      omega
theorem RdIm.mono' {w : World} {B B' : Nat} {A : Option Addr} {l : List Im} (h : RdIm w B A l) (hb : B ≤ B') : RdIm w B' A l := by
  intro j hj
  obtain ⟨b, o, h1, h2, r⟩ := h j hj
  exact ⟨b, o, h1, Nat.lt_of_lt_of_le h2 hb, r⟩
section
variable {o : Oper} {a : Act} {K : Act → Prop} {w : World}
theorem quiet_str (x : Operand) (ho : o.op = .convert 22 9 x) (A : Option Addr) (n c : Nat) (bs : List UInt8) (hx : a.eval x = .slice A n c) (hr : Rd w w.heap.size A n (bs.map bv)) (h : K (a.put o.dst (.string ⟨bs.toArray⟩))) : o.quiet Tryz.prog a (Grw w) K :=
  ⟨.string ⟨bs.toArray⟩, fun w' hw' => by
    have hc := str_pk (hr.below hw'.out) c
    unfold Oper.quietAt execOp
    simp only [ho, hx, Sem.run_bind, Sem.run_pure, Result.andThen_ok, hc]
    exact ⟨rfl, rfl⟩, h⟩
theorem quiet_same (X : Hd) (x y : Operand) (ho : o.op = .binOp .eql 30 x y 30) (hx : a.eval x = .agg X.cells) (hy : a.eval y = .agg X.cells) (h : K (a.put o.dst (.bool true))) : o.quiet Tryz.prog a (Grw w) K :=
  ⟨.bool true, fun w' hw' => by
    unfold Oper.quietAt
    rw [eql_hd X x y ho hx hy w']
    exact ⟨rfl, rfl⟩, h⟩
end
attribute [local go_sem] grw_all
set_option maxRecDepth 100000 in
set_option maxHeartbeats 8000000 in
theorem packbuilds_walk (A : Option Addr) (n c : Nat) (l : List Im) (q : Sp) (w : World) (hl : l.length = n) (hr : RdIm w w.heap.size A l) (hm : ∀ m ∈ l, m.n ≤ m.c ∧ m.n ≤ maxLen ∧ Rd w w.heap.size m.A m.n (m.bs.map bv)) (hml : n ≤ maxLen) (hI : q.leaf ≤ 9223372036854775807) (hmt : q.mtx.length ≤ maxLen) :
    Calls Tryz.prog 5 #[.slice A n c, q.val] w fun e w' => e = .returned (.bool true) ∧ Below w.heap.size w w' := by
  obtain ⟨G, hG⟩ : ∃ G, w.heap.size = G := ⟨_, rfl⟩
  obtain ⟨w1, hw1⟩ : ∃ W, w.alloc (.cells q.cells 61) = W := ⟨_, rfl⟩
  have k1 := hide (show Blk w1 G 61 q.cells from by rw [← hw1, ← hG]; exact Blk.new w _ _)
  have b1 := hide (show Below G w w1 from by rw [← hw1, ← hG]; exact (Below.refl _ w).alloc (Nat.le_refl _) _)
  have hs1 := hide (show w1.heap.size = G + 1 from by rw [← hw1]; simp [hG])
  rw [hG] at hr hm ⊢
  have hsz := hide (fun (W : World) (hb : Below G w W) => show G ≤ W.heap.size from by rw [← hG]; exact hb.size)
  have hrW := hide (fun (W : World) (hb : Below G w W) => (hr.below hb).mono' (hsz.out W hb))
  have hmu := much_any A c w1.heap.size l q w1 (hrW.out w1 b1.out) (Nat.le_refl _) (by rw [hl]; exact hml) (fun m h => (hm m h).2.1) hmt
  rw [show q.val = .agg q.cells from rfl, hl] at hmu
  rw [show q.val = .agg q.cells from rfl]
  have hlv := hide (fun (W : World) (hb : Below G w W) => (k14live_any W).mono fun e w' ⟨he, hb'⟩ => (show e = Ending.returned (.bool true) ∧ Below G w w' from ⟨he, hb.trans (hb'.mono (by rw [← hG]; exact hb.size))⟩))
  have hlv0 := hide (fun (W : World) => k14live_any W)
  obtain ⟨er, hE, her⟩ := sortE_ex l
  have hsp := hide (info_sp q)
  replace hmu := hide hmu
  replace hm := hide hm
  replace hE := hide hE
  replace hl := hide hl
  replace hmt := hide hmt
  clear hml hr
  go_enter Tryz.func5, Tryz.ntmps5
  go_upto_region 3 with (first
    | (with_reducible refine wpList_load_row (o := ⟨some 10, .load 61 (.tmp 3), _, _, _, _⟩) rfl 61 (.tmp 3) rfl G rfl 61 q.cells (0, 0) _ k1.out.eq Tryz.underlying61 rfl hsp.out ?_)
    | (go_at_call 19; (with_reducible refine hmu.out.mono ?_); rintro e w2 ⟨⟨b, rfl, hbf⟩, hb2⟩; have k2 := hide (k1.out.below hb2 k1.out.lt); have b2 := hide (b1.out.trans (hb2.mono (hsz.out _ b1.out))); clear hb2; replace hbf := hide hbf; cases b)
    | (go_at_call 20; (with_reducible refine (hlv.out _ b2.out).mono ?_); rintro e w3 ⟨rfl, hb3⟩; replace hb3 := hide hb3))
  · obtain ⟨h40, hsum⟩ := hbf.out (by first | rfl | trivial)
    have hby := hide (fun (W : World) (hb : Below G w W) (h0 : er = 0) => show ImBy W W.heap.size l from fun m h => by
      obtain ⟨h1, h2, h3⟩ := hm.out m h
      have h4 := hE.out.small h0
      refine ⟨(h3.below hb).mono (hsz.out W hb), h1, ?_⟩
      rcases Nat.lt_or_ge 1048576 m.n with h5 | h5
      · exact absurd ⟨m, h, h5⟩ h4
      · exact h5)
    have hsm := hide (show er = 0 → q.mtx.length ≤ 1048576 → q.mtx.length ≤ 4000 ∧ ∀ m ∈ l, m.n ≤ 4000 from fun h0 hM => by
      have h4 := hE.out.small h0
      rcases hsum with h6 | h6 | h6
      · exact ⟨by omega, fun m h => by have := le_nsum l m h; omega⟩
      · omega
      · exact absurd h6 h4)
    have hB1 := hide (fun (W : World) (hb : Below G w W) => build_any A c l q W (hrW.out _ hb) h40 ⟨0, 0, 0, none, 0, 0, []⟩ er hE.out her (hby.out _ hb) hsm.out hI hmt.out)
    have hB2 := hide (fun (W : World) (hb : Below G w W) => rbuild_any A c l q W (hrW.out _ hb) h40 ⟨0, 0, 0, none, 0, 0, []⟩ er hE.out her (hby.out _ hb) hsm.out hI hmt.out)
    rw [show q.val = .agg q.cells from rfl, hl.out] at hB1 hB2
    clear hsum hbf hmu
    go_upto_region 5 with (first
      | (with_reducible refine wpList_load_row (o := ⟨some 15, .load 61 (.tmp 3), _, _, _, _⟩) rfl 61 (.tmp 3) rfl G rfl 61 q.cells (0, 0) _ k2.out.eq Tryz.underlying61 rfl hsp.out ?_)
      | (go_at_call 21; (with_reducible refine (hB1.out w2 b2.out).mono ?_); rintro e w3 hP; obtain ⟨X, out, cs, r, hU, hRr, hX, h0, h1⟩ := hP; obtain ⟨o, ho⟩ : ∃ x, bdOut q l.length out cs er r = x := ⟨_, rfl⟩; rw [ho] at hU; have hr2 := (hB2.out); replace hRr := hide hRr; replace ho := hide ho; obtain ⟨A3, c3, rfl, hU3, hb3⟩ := hU; have k3 := hide (k2.out.below hb3 k2.out.lt); have b3 := hide (b2.out.trans (hb3.mono (hsz.out _ b2.out))); clear hb3; replace hU3 := hide hU3; have hr3 := hB2.out w3 b3.out X out cs r; clear hr2; rw [hl.out] at hX h0; rw [hl.out] at ho hRr; have hr4 := hr3 hX h0 h1 hRr.out; rw [ho.out] at hr4; replace hr4 := hide hr4; clear hr3 hX h0 h1 hB1 hB2)
      | (with_reducible refine wpList_load_row (o := ⟨some 21, .load 61 (.tmp 3), _, _, _, _⟩) rfl 61 (.tmp 3) rfl G rfl 61 q.cells (0, 0) _ k3.out.eq Tryz.underlying61 rfl hsp.out ?_)
      | (go_at_call 22; (with_reducible refine hr4.out.mono ?_); rintro e w4 ⟨A4, c4, rfl, hU4, hb4⟩; have k4 := hide (k3.out.below hb4 k3.out.lt); have b4 := hide (b3.out.trans (hb4.mono (hsz.out _ b3.out))); have hU3' := hide ((hU3.out.below hb4).mono hb4.size); clear hb4; replace hU4 := hide hU4))
    obtain ⟨bs, ec⟩ := o
    simp only at hU3' hU4 ⊢
    have hpe := fun (W : World) => pempty_any q W
    have hre := fun (W : World) => rempty_any q W
    rw [show q.val = .agg q.cells from rfl] at hpe hre
    replace hpe := hide hpe
    replace hre := hide hre
    refine wp_region_grw (by kernel_rfl) (by kernel_rfl) ?_
    try simp only [Act.put]
    repeat (first
      | go_big_quiet_skip
      | (go_big_quiet_want
         first
           | (with_reducible refine quiet_str (.tmp 25) (by rfl) A3 bs.length c3 bs (by first | rfl | (simp [go_sem]; done)) hU3'.out ?_
              simp only [Act.put, List.setIfInBounds_toArray, List.set_cons_zero, List.set_cons_succ]
              go_big_quiet_on)
           | (with_reducible refine quiet_str (.tmp 27) (by rfl) A4 bs.length c4 bs (by first | rfl | (simp [go_sem]; done)) hU4.out ?_
              simp only [Act.put, List.setIfInBounds_toArray, List.set_cons_zero, List.set_cons_succ]
              go_big_quiet_on)
           | (with_reducible refine quiet_load_row 61 (.tmp 3) (by rfl) G (by first | rfl | (simp [go_sem]; done)) 61 q.cells _ Tryz.underlying61 rfl hsp.out k4.out ?_
              simp only [Act.put, List.setIfInBounds_toArray, List.set_cons_zero, List.set_cons_succ]
              go_big_quiet_on)
           | (with_reducible refine quiet_same (emptyH q) (.tmp 38) (.tmp 40) (by rfl) (by first | rfl | (simp [go_sem]; done)) (by first | rfl | (simp [go_sem]; done)) ?_
              simp only [Act.put, List.setIfInBounds_toArray, List.set_cons_zero, List.set_cons_succ]
              go_big_quiet_on)
           | (go_big_quiet_op
              go_big_quiet_on)
           | (go_big_quiet_op
              apply Exists.intro
              refine ⟨fun w' hw' => ?_, ?_⟩
              · first
                  | (go_at_call 23; exact grw_same hw' (k14code_any _ w'))
                  | (go_at_call 24; exact grw_step hw' (hpe.out w'))
                  | (go_at_call 25; exact grw_step hw' (hre.out w'))
                  | (go_at_call 20; exact grw_step hw' (hlv0.out w'))
              go_big_quiet_on)))
    refine wpQuiet_nil ?_
    intro w9 hw9
    have b9 := hide (b4.out.trans (hw9.out.mono (hsz.out _ b4.out)))
    go_wp2
    go_ret
    exact ⟨rfl, b9.out⟩
  · go_ret
    exact ⟨rfl, hb3.out⟩
end Go.Proofs.YtaapjampmnanmaaGreat
