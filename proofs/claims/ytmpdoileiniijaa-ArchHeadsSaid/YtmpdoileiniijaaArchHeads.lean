/- Layer 13 (arch): headers of any bytes, bytes of any header: the law's walk. The conditions: what the arguments are. -/
import Derived.Test.YtmpdoileiniijaaArchLive
import Derived.Laws.StructEq
namespace Go.Proofs.Ytmpdoileiniijaa
open Go.RowKit

theorem eq_two (a b : Int) (W : World) : (Op.equalIn 9999 24 (.agg #[.int .u64 a, .int .u64 b]) (.agg #[.int .u64 a, .int .u64 b])).run Try.prog W = .ok true W := by
  have u3 := Try.underlying23
  have a3 := Try.isAgg23
  have z3 := Try.sizeOf23
  rw [show (9999 : Nat) = 9998 + 1 from rfl, Op.equalIn]
  simp only [Sem.run_bind, run_underlying Try.underlying24, Result.andThen_ok]
  simp only [Std.Legacy.Range.forIn_eq_forIn_range', Std.Legacy.Range.size, Nat.sub_zero, Nat.add_sub_cancel, Nat.div_one, List.range'_succ, List.range'_zero, List.forIn_cons, List.forIn_nil]
  go_simp
theorem eq_three (a b c : Int) (W : World) : (Op.equalIn 9999 25 (.agg #[.int .u64 a, .int .u64 b, .int .u64 c]) (.agg #[.int .u64 a, .int .u64 b, .int .u64 c])).run Try.prog W = .ok true W := by
  have u3 := Try.underlying23
  have a3 := Try.isAgg23
  have z3 := Try.sizeOf23
  rw [show (9999 : Nat) = 9998 + 1 from rfl, Op.equalIn]
  simp only [Sem.run_bind, run_underlying Try.underlying25, Result.andThen_ok]
  simp only [Std.Legacy.Range.forIn_eq_forIn_range', Std.Legacy.Range.size, Nat.sub_zero, Nat.add_sub_cancel, Nat.div_one, List.range'_succ, List.range'_zero, List.forIn_cons, List.forIn_nil]
  go_simp
set_option maxRecDepth 100000 in
set_option maxHeartbeats 4000000 in
theorem eql_hd (X : Hd) {o : Oper} {a : Act} (x y : Operand) (ho : o.op = .binOp .eql 29 x y 29) (hx : a.eval x = .agg X.cells) (hy : a.eval y = .agg X.cells) (W : World) :
    (execOp a.eval o).run Try.prog W = .ok (.value (.bool true)) W := by
  have e2 := eq_two
  have e3 := eq_three
  unfold execOp
  simp only [ho, hx, hy]
  clear ho hx hy
  unfold Hd.cells
  cases X
  simp only
  go_simp

section
variable {P : Program} {ops : Array Oper} {md : Region.Mode} {Q : Exit → Act → World → Prop} {S S' : World → Prop}
/-- A condition that says more may be kept instead. -/
theorem wpAnyH_strong (h : ∀ W, S' W → S W) : ∀ (fuel : Nat) (listed : Array Bool) (a : Act) (w : World), wpAnyH P md ops Q S' fuel listed a w → wpAnyH P md ops Q S fuel listed a w
  | 0, _, _, _, hh => hh
  | fuel + 1, _, _, _, hh => ⟨hh.1, fun i hi => wpOp_mono (fun a' w' h' => ⟨h _ h'.1, wpAnyH_strong h fuel _ a' w' h'.2⟩) (hh.2 i hi)⟩
theorem yields_row {o : Oper} {a : Act} (hw : Region.wanted o (yielded ops a.tmps) = true) (ty : TypeId) (x : Operand) (ho : o.op = .load ty x) (g : Nat) (hx : a.eval x = .pointer (some ⟨g, 0, none⟩)) (t : TypeId) (cs : Array Value) (d : TypeDesc)
    (hS : ∀ W, S W → Blk W g t cs) (hu : P.underlying ty = some d) (hd : (match d with | .struct _ | .array _ _ => true | _ => false) = true) (hi : (P.info? ty).map (·.size) = some cs.size) : YieldsIf P ops S o (.agg cs) a :=
  .inl ⟨hw, fun W hW => by
    unfold execOp
    simp only [ho, hx, Instr.loadAt, Instr.sureAddr, Sem.run_bind, Sem.run_pure, Result.andThen_ok, run_loadVar_row W g t ty cs (0, 0) d (hS W hW) hu hd hi]⟩
theorem yields_str {o : Oper} {a : Act} (hw : Region.wanted o (yielded ops a.tmps) = true) (x : Operand) (ho : o.op = .convert 22 9 x) (A : Option Addr) (n c B : Nat) (bs : List UInt8) (hx : a.eval x = .slice A n c)
    (hS : ∀ W, S W → Rd W B A n (bs.map bv)) : YieldsIf Try.prog ops S o (.string ⟨bs.toArray⟩) a :=
  .inl ⟨hw, fun W hW => by
    unfold execOp
    simp only [ho, hx, Sem.run_bind, Sem.run_pure, Result.andThen_ok, str13 (hS W hW) c]⟩
end

set_option maxRecDepth 100000 in
set_option maxHeartbeats 8000000 in
theorem archheads_walk (A : Option Addr) (len c : Nat) (bs : List UInt8) (h : Hd) (n : Int) (w : World) (hr : Rd w w.heap.size A len (bs.map bv)) (hcap : len ≤ c) (hmx : len ≤ maxLen) (hk : h.Ok) (hc : h.c0 ≤ 18446744073709551615 ∧ h.c1 ≤ 18446744073709551615 ∧ h.c2 ≤ 18446744073709551615) (hn : n ≤ 9223372036854775807) :
    Calls Try.prog 3 #[.slice A len c, .agg h.cells, .int .i64 n] w fun e w' => e = .returned (.bool true) ∧ Below w.heap.size w w' := by
  have hlen := hr.len
  subst hlen
  obtain ⟨G, hG⟩ : ∃ G, w.heap.size = G := ⟨_, rfl⟩
  have hput := hide (fun W => puthead_any h hk hc W)
  have hrput := hide (fun W => rputhead_any h hk hc W)
  obtain ⟨r2, hR2⟩ := RightR.ex h n
  have hri := hide (fun W => right_any h n W hn r2 hR2)
  have hrri := hide (fun W => rright_any h n W hn r2 hR2)
  have hsinfo := hide h.info
  have hmx' : bs.length ≤ 9223372036854775807 := by simp only [maxLen] at hmx; omega
  obtain ⟨r, hR⟩ := RightR.ex (headOf bs) bs.length
  have hh1 := hide (show ∀ W, Below G w W → Calls Try.prog 8 #[.slice A bs.length c] W fun e w' => e = .returned (.tuple #[.agg (headV bs r).1.cells, .int .i64 (headV bs r).2]) ∧ Below W.heap.size W w' from fun W hW => head_any A c bs W G (by rw [← hG]; exact hr.below (by rw [hG]; exact hW)) (by have := hW.size; omega) hcap hmx' r hR)
  have hh2 := hide (show ∀ W, Below G w W → Calls Try.prog 9 #[.slice A bs.length c] W fun e w' => e = .returned (.tuple #[.agg (headV bs r).1.cells, .int .i64 (headV bs r).2]) ∧ Below W.heap.size W w' from fun W hW => rhead_any A c bs W G (by rw [← hG]; exact hr.below (by rw [hG]; exact hW)) (by have := hW.size; omega) hcap hmx' r hR)
  obtain ⟨X, hX⟩ : ∃ X, (headV bs r).1 = X := ⟨_, rfl⟩
  obtain ⟨z, hz⟩ : ∃ z, (headV bs r).2 = z := ⟨_, rfl⟩
  rw [hX, hz] at hh1 hh2
  have heql := hide (show ∀ (o : Oper) (a : Act) (x y : Operand), o.op = .binOp .eql 29 x y 29 → a.eval x = .agg X.cells → a.eval y = .agg X.cells → ∀ W, (execOp a.eval o).run Try.prog W = .ok (.value (.bool true)) W from fun _ _ => eql_hd X)
  have xinfo := hide X.info
  have xsz := hide (z24hd X)
  have xone := hide X.one
  obtain ⟨SB, hSB⟩ : ∃ SB, headB h = SB := ⟨_, rfl⟩
  rw [hSB] at hput hrput
  generalize X.cells = xs at *
  generalize h.cells = hs at *
  obtain ⟨w1, hw1⟩ : ∃ W, w.alloc (.cells hs 29) = W := ⟨_, rfl⟩
  have kh1 := hide (show Blk w1 G 29 hs from by rw [← hw1, ← hG]; exact Blk.new w _ _)
  have hb1 := hide (show Below G w w1 from by rw [← hw1, ← hG]; exact (Below.refl _ w).alloc (Nat.le_refl _) _)
  have hlv := hide archlive_any
  have hlI : Hid (bs.length ≤ maxLen) := hide hmx
  obtain ⟨L, hL⟩ : ∃ L, bs.length = L := ⟨_, rfl⟩
  rw [hL] at hh1 hh2 ⊢
  rw [hG]
  clear hr hcap hk hc hn hR hR2 hX hz hSB hmx hmx' hlI
  replace hL := hide hL
  by_cases hlong : 3000 < L
  · have hI : (3000 : Int) < (L : Int) := by omega
    go_enter Try.func3, Try.ntmps3
    go_wp2_with (go_at_call 7; (with_reducible refine (hlv.out _).mono ?_); rintro e w2 ⟨rfl, hb2⟩; have hb2 := hide (hb1.out.trans (hb2.mono (by have := kh1.out.lt; omega))))
    go_ret
    exact ⟨rfl, hb2.out⟩
  · have hI : (L : Int) ≤ 3000 := by omega
    go_enter Try.func3, Try.ntmps3
    go_upto_region 5 with (first
      | (go_at_call 8; (with_reducible refine (hh1.out w1 hb1.out).mono ?_); rintro e w2 ⟨rfl, hb2⟩; obtain ⟨G2, hG2⟩ : ∃ g, w2.heap.size = g := ⟨_, rfl⟩; have hne2 := hide (show G < G2 from by have := kh1.out.lt; have := hb2.size; omega); obtain ⟨w3, hw3⟩ : ∃ W, w2.alloc (.cells #[.int .u64 0, .int .u64 0, .int .u64 0, .int .u64 0, .int .u64 0, .int .u64 0, .int .u64 0, .int .u64 0, .int .u64 0, .int .u64 0, .int .u64 0, .bool false, .int .i64 0, .int .i64 0, .int .i64 0, .int .i64 0, .int .i64 0, .int .i64 0, .int .i64 0, .int .i64 0, .int .i64 0, .int .i64 0, .int .i64 0, .int .i64 0] 29) = W := ⟨_, rfl⟩; have k3 := hide (show Blk w3 G2 29 #[.int .u64 0, .int .u64 0, .int .u64 0, .int .u64 0, .int .u64 0, .int .u64 0, .int .u64 0, .int .u64 0, .int .u64 0, .int .u64 0, .int .u64 0, .bool false, .int .i64 0, .int .i64 0, .int .i64 0, .int .i64 0, .int .i64 0, .int .i64 0, .int .i64 0, .int .i64 0, .int .i64 0, .int .i64 0, .int .i64 0, .int .i64 0] from by rw [← hw3, ← hG2]; exact Blk.new w2 _ _); have kh3 := hide (show Blk w3 G 29 hs from by rw [← hw3]; exact (kh1.out.below hb2 kh1.out.lt).alloc _); have hb3 := hide (show Below G w w3 from by rw [← hw3]; exact (hb1.out.trans (hb2.mono (by have := kh1.out.lt; omega))).alloc (by have := hne2.out; omega) _); obtain ⟨w4, hw4⟩ : ∃ W, w3.setRow G2 xs = W := ⟨_, rfl⟩; have k4 := hide (show Blk w4 G2 29 xs from by rw [← hw4]; exact k3.out.row _); have kh4 := hide (show Blk w4 G 29 hs from by rw [← hw4]; exact (setRow_other w3 G2 G xs (by have := hne2.out; omega)).trans kh3.out); have hb4 := hide (show Below G w w4 from by rw [← hw4]; exact below_row hb3.out (by have := hne2.out; omega) _); clear hb2 kh3 hb3)
      | ((with_reducible refine wpList_store_row (o := ⟨none, .store 29 (.tmp 7) (.tmp 18), _, _, _, _⟩) rfl 29 (.tmp 7) (.tmp 18) rfl G2 xs rfl rfl 29 _ k3.out.eq xinfo.out xsz.out xone.out ?_); rw [hw4])
      | (go_at_call 9; (with_reducible refine (hh2.out w4 hb4.out).mono ?_); rintro e w5 ⟨rfl, hb5⟩; obtain ⟨G3, hG3⟩ : ∃ g, w5.heap.size = g := ⟨_, rfl⟩; have hne3 := hide (show G2 < G3 from by have := k4.out.lt; have := hb5.size; omega); obtain ⟨w6, hw6⟩ : ∃ W, w5.alloc (.cells #[.int .u64 0, .int .u64 0, .int .u64 0, .int .u64 0, .int .u64 0, .int .u64 0, .int .u64 0, .int .u64 0, .int .u64 0, .int .u64 0, .int .u64 0, .bool false, .int .i64 0, .int .i64 0, .int .i64 0, .int .i64 0, .int .i64 0, .int .i64 0, .int .i64 0, .int .i64 0, .int .i64 0, .int .i64 0, .int .i64 0, .int .i64 0] 29) = W := ⟨_, rfl⟩; have k6 := hide (show Blk w6 G3 29 #[.int .u64 0, .int .u64 0, .int .u64 0, .int .u64 0, .int .u64 0, .int .u64 0, .int .u64 0, .int .u64 0, .int .u64 0, .int .u64 0, .int .u64 0, .bool false, .int .i64 0, .int .i64 0, .int .i64 0, .int .i64 0, .int .i64 0, .int .i64 0, .int .i64 0, .int .i64 0, .int .i64 0, .int .i64 0, .int .i64 0, .int .i64 0] from by rw [← hw6, ← hG3]; exact Blk.new w5 _ _); have kh6 := hide (show Blk w6 G 29 hs from by rw [← hw6]; exact (kh4.out.below hb5 kh4.out.lt).alloc _); have kx6 := hide (show Blk w6 G2 29 xs from by rw [← hw6]; exact (k4.out.below hb5 k4.out.lt).alloc _); have hb6 := hide (show Below G w w6 from by rw [← hw6]; exact (hb4.out.trans (hb5.mono (by have := kh4.out.lt; omega))).alloc (by have := hne2.out; have := hne3.out; omega) _); obtain ⟨w7, hw7⟩ : ∃ W, w6.setRow G3 xs = W := ⟨_, rfl⟩; have k7 := hide (show Blk w7 G3 29 xs from by rw [← hw7]; exact k6.out.row _); have kh7 := hide (show Blk w7 G 29 hs from by rw [← hw7]; exact (setRow_other w6 G3 G xs (by have := hne2.out; have := hne3.out; omega)).trans kh6.out); have kx7 := hide (show Blk w7 G2 29 xs from by rw [← hw7]; exact (setRow_other w6 G3 G2 xs (by have := hne3.out; omega)).trans kx6.out); have hb7 := hide (show Below G w w7 from by rw [← hw7]; exact below_row hb6.out (by have := hne2.out; have := hne3.out; omega) _); clear hb5 kh6 kx6 hb6)
      | ((with_reducible refine wpList_store_row (o := ⟨none, .store 29 (.tmp 9) (.tmp 23), _, _, _, _⟩) rfl 29 (.tmp 9) (.tmp 23) rfl G3 xs rfl rfl 29 _ k6.out.eq xinfo.out xsz.out xone.out ?_); rw [hw7]))
    have g7 := hide (show ∀ W, Grw w7 W → Blk W G 29 hs ∧ Blk W G2 29 xs ∧ Blk W G3 29 xs from fun W hW => ⟨kh7.out.below hW.out kh7.out.lt, kx7.out.below hW.out kx7.out.lt, k7.out.below hW.out k7.out.lt⟩)
    have hs0 := hide (show Grw w7 w7.drew from ⟨rfl, rfl, rfl, Nat.le_refl _, fun _ _ => rfl⟩)
    have hw8 : ∃ W, w7.drew = W := ⟨_, rfl⟩
    clear hh1 hh2 hb1 kh1 hb4 kh4 k4 k3 k6 hne2 hne3 k7 kh7 kx7
    refine wp_region_held_drew (S := Grw w7) (by kernel_rfl) hs0.out ?_
    obtain ⟨w8, hw8⟩ := hw8
    rw [hw8] at hs0 ⊢
    intro hS0
    refine take13 (i := 0) (d := 25) (v := .agg xs) rfl rfl (by kernel_rfl) (by kernel_rfl) (by kernel_rfl) (fun _ _ _ h => h) (yields_row rfl 29 (.tmp 7) rfl G2 rfl 29 xs _ (fun W hW => (g7.out W hW).2.1) Try.underlying29 rfl xinfo.out) (by assumption) ?_
    simp only [Act.put, List.setIfInBounds_toArray, List.set_cons_zero, List.set_cons_succ]
    refine take13 (i := 1) (d := 26) (v := .agg xs) rfl rfl (by kernel_rfl) (by kernel_rfl) (by kernel_rfl) (fun _ _ _ h => h) (yields_row rfl 29 (.tmp 9) rfl G3 rfl 29 xs _ (fun W hW => (g7.out W hW).2.2) Try.underlying29 rfl xinfo.out) (by assumption) ?_
    simp only [Act.put, List.setIfInBounds_toArray, List.set_cons_zero, List.set_cons_succ]
    refine take13 (i := 2) (d := 27) (v := .bool true) rfl rfl (by kernel_rfl) (by kernel_rfl) (by kernel_rfl) (fun _ _ _ h => h) (.inl ⟨rfl, fun W _ => heql.out _ _ (.tmp 25) (.tmp 26) rfl rfl rfl W⟩) (by assumption) ?_
    simp only [Act.put, List.setIfInBounds_toArray, List.set_cons_zero, List.set_cons_succ]
    refine take13 (i := 3) (d := 28) (v := .bool true) rfl rfl (by kernel_rfl) (by kernel_rfl) (by kernel_rfl) (fun _ _ _ h => h) (.inl ⟨rfl, fun W _ => by go_simp⟩) (by assumption) ?_
    simp only [Act.put, List.setIfInBounds_toArray, List.set_cons_zero, List.set_cons_succ]
    refine take13 (i := 4) (d := 29) (v := .int .i64 z) rfl rfl (by kernel_rfl) (by kernel_rfl) (by kernel_rfl) (fun _ _ _ h => h) (.inl ⟨rfl, fun W _ => by go_simp⟩) (by assumption) ?_
    simp only [Act.put, List.setIfInBounds_toArray, List.set_cons_zero, List.set_cons_succ]
    refine take13 (i := 6) (d := 31) (v := .int .i64 z) rfl rfl (by kernel_rfl) (by kernel_rfl) (by kernel_rfl) (fun _ _ _ h => h) (.inl ⟨rfl, fun W _ => by go_simp⟩) (by assumption) ?_
    simp only [Act.put, List.setIfInBounds_toArray, List.set_cons_zero, List.set_cons_succ]
    refine wpAnyH_ready (rs := [5]) (by kernel_rfl) (by simp) ?_
    refine AllReadyH.cons (o := ⟨some 30, _, _, _, _, _⟩) rfl (fun K hK => ?_) AllReadyH.nil
    rw [if_pos (by rfl)]
    go_simp
    go_at_call 10
    (with_reducible refine (acode_any _ _).mono ?_)
    rintro e w' ⟨rfl, rfl⟩
    skip
    refine hK.out _ _ (by assumption) (fun hS => ?_)
    clear hK
    refine take13 (i := 7) (d := 32) (v := .bool true) rfl rfl (by kernel_rfl) (by kernel_rfl) (by kernel_rfl) (fun _ _ _ h => h) (.inl ⟨rfl, fun W _ => by go_simp⟩) (by assumption) ?_
    simp only [Act.put, List.setIfInBounds_toArray, List.set_cons_zero, List.set_cons_succ]
    refine take13 (i := 8) (d := 33) (v := .bool true) rfl rfl (by kernel_rfl) (by kernel_rfl) (by kernel_rfl) (fun _ _ _ h => h) (.inl ⟨rfl, fun W _ => by go_simp⟩) (by assumption) ?_
    simp only [Act.put, List.setIfInBounds_toArray, List.set_cons_zero, List.set_cons_succ]
    refine take13 (i := 9) (d := 34) (v := .bool true) rfl rfl (by kernel_rfl) (by kernel_rfl) (by kernel_rfl) (fun _ _ _ h => h) (.inl ⟨rfl, fun W _ => by go_simp⟩) (by assumption) ?_
    simp only [Act.put, List.setIfInBounds_toArray, List.set_cons_zero, List.set_cons_succ]
    refine take13 (i := 10) (d := 35) (v := .agg hs) rfl rfl (by kernel_rfl) (by kernel_rfl) (by kernel_rfl) (fun _ _ _ h => h) (yields_row rfl 29 (.tmp 4) rfl G rfl 29 hs _ (fun W hW => (g7.out W hW).1) Try.underlying29 rfl hsinfo.out) (by assumption) ?_
    simp only [Act.put, List.setIfInBounds_toArray, List.set_cons_zero, List.set_cons_succ]
    refine take13 (i := 13) (d := 38) (v := .agg hs) rfl rfl (by kernel_rfl) (by kernel_rfl) (by kernel_rfl) (fun _ _ _ h => h) (yields_row rfl 29 (.tmp 4) rfl G rfl 29 hs _ (fun W hW => (g7.out W hW).1) Try.underlying29 rfl hsinfo.out) (by assumption) ?_
    simp only [Act.put, List.setIfInBounds_toArray, List.set_cons_zero, List.set_cons_succ]
    have hb7s := hide (show G ≤ w7.heap.size from by have := hb7.out.size; omega)
    refine wpAnyH_ready (rs := [11]) (by kernel_rfl) (by simp) ?_
    refine AllReadyH.cons (o := ⟨some 36, _, _, _, _, _⟩) rfl (fun K hK => ?_) AllReadyH.nil
    rw [if_pos (by rfl)]
    go_simp
    go_at_call 11
    (with_reducible refine (hput.out w8).mono ?_)
    rintro e w9 ⟨A9, c9, rfl, ho9, hbw9⟩
    have hsw9 : Grw w7 w9 := (hS0).out.trans (hbw9.mono (hS0).out.size)
    clear hbw9
    have ho9 := hide ho9.rd
    refine hK.out _ _ hsw9 (fun _ => ?_)
    clear hK
    refine wpAnyH_strong (S' := Grw w9) (fun W hW => Below.trans hsw9 (hW.out.mono hsw9.out.size)) _ _ _ _ ?_
    have gw9 := hide (show ∀ W, Grw w9 W → Blk W G 29 hs ∧ Blk W G2 29 xs ∧ Blk W G3 29 xs from fun W hW => g7.out W (Below.trans hsw9 (hW.out.mono hsw9.out.size)))
    have hqw9 := hide (show Below G w w9 from hb7.out.trans (hsw9.out.mono (by have := hb7.out.size; omega)))
    have h0w9 : Grw w9 w9 := Below.refl _ _
    refine take13 (i := 12) (d := 37) (v := .string ⟨SB.toArray⟩) rfl rfl (by kernel_rfl) (by kernel_rfl) (by kernel_rfl) (fun _ _ _ h => h) (yields_str rfl (.tmp 36) rfl A9 127 c9 w9.heap.size SB rfl (fun W hW => ho9.out.below hW.out)) (by assumption) ?_
    simp only [Act.put, List.setIfInBounds_toArray, List.set_cons_zero, List.set_cons_succ]
    refine wpAnyH_ready (rs := [14]) (by kernel_rfl) (by simp) ?_
    refine AllReadyH.cons (o := ⟨some 39, _, _, _, _, _⟩) rfl (fun K hK => ?_) AllReadyH.nil
    rw [if_pos (by rfl)]
    go_simp
    go_at_call 12
    (with_reducible refine (hrput.out w9).mono ?_)
    rintro e w10 ⟨A10, c10, rfl, ho10, hbw10⟩
    have hsw10 : Grw w9 w10 := (h0w9).out.trans (hbw10.mono (h0w9).out.size)
    clear hbw10
    have ho10 := hide ho10.rd
    refine hK.out _ _ hsw10 (fun _ => ?_)
    clear hK
    refine wpAnyH_strong (S' := Grw w10) (fun W hW => Below.trans hsw10 (hW.out.mono hsw10.out.size)) _ _ _ _ ?_
    have gw10 := hide (show ∀ W, Grw w10 W → Blk W G 29 hs ∧ Blk W G2 29 xs ∧ Blk W G3 29 xs from fun W hW => gw9.out W (Below.trans hsw10 (hW.out.mono hsw10.out.size)))
    have hqw10 := hide (show Below G w w10 from hqw9.out.trans (hsw10.out.mono (by have := hqw9.out.size; omega)))
    have h0w10 : Grw w10 w10 := Below.refl _ _
    refine take13 (i := 15) (d := 40) (v := .string ⟨SB.toArray⟩) rfl rfl (by kernel_rfl) (by kernel_rfl) (by kernel_rfl) (fun _ _ _ h => h) (yields_str rfl (.tmp 39) rfl A10 127 c10 w10.heap.size SB rfl (fun W hW => ho10.out.below hW.out)) (by assumption) ?_
    simp only [Act.put, List.setIfInBounds_toArray, List.set_cons_zero, List.set_cons_succ]
    refine take13 (i := 16) (d := 41) (v := .bool true) rfl rfl (by kernel_rfl) (by kernel_rfl) (by kernel_rfl) (fun _ _ _ h => h) (.inl ⟨rfl, fun W _ => by go_simp⟩) (by assumption) ?_
    simp only [Act.put, List.setIfInBounds_toArray, List.set_cons_zero, List.set_cons_succ]
    refine take13 (i := 17) (d := 42) (v := .bool true) rfl rfl (by kernel_rfl) (by kernel_rfl) (by kernel_rfl) (fun _ _ _ h => h) (.inl ⟨rfl, fun W _ => by go_simp⟩) (by assumption) ?_
    simp only [Act.put, List.setIfInBounds_toArray, List.set_cons_zero, List.set_cons_succ]
    refine take13 (i := 18) (d := 43) (v := .bool true) rfl rfl (by kernel_rfl) (by kernel_rfl) (by kernel_rfl) (fun _ _ _ h => h) (.inl ⟨rfl, fun W _ => by go_simp⟩) (by assumption) ?_
    simp only [Act.put, List.setIfInBounds_toArray, List.set_cons_zero, List.set_cons_succ]
    refine take13 (i := 19) (d := 44) (v := .agg hs) rfl rfl (by kernel_rfl) (by kernel_rfl) (by kernel_rfl) (fun _ _ _ h => h) (yields_row rfl 29 (.tmp 4) rfl G rfl 29 hs _ (fun W hW => (gw10.out W hW).1) Try.underlying29 rfl hsinfo.out) (by assumption) ?_
    simp only [Act.put, List.setIfInBounds_toArray, List.set_cons_zero, List.set_cons_succ]
    refine take13 (i := 20) (d := 45) (v := .int .i64 n) rfl rfl (by kernel_rfl) (by kernel_rfl) (by kernel_rfl) (fun _ _ _ h => h) (.inl ⟨rfl, fun W _ => by go_simp⟩) (by assumption) ?_
    simp only [Act.put, List.setIfInBounds_toArray, List.set_cons_zero, List.set_cons_succ]
    refine take13 (i := 23) (d := 48) (v := .agg hs) rfl rfl (by kernel_rfl) (by kernel_rfl) (by kernel_rfl) (fun _ _ _ h => h) (yields_row rfl 29 (.tmp 4) rfl G rfl 29 hs _ (fun W hW => (gw10.out W hW).1) Try.underlying29 rfl hsinfo.out) (by assumption) ?_
    simp only [Act.put, List.setIfInBounds_toArray, List.set_cons_zero, List.set_cons_succ]
    refine take13 (i := 24) (d := 49) (v := .int .i64 n) rfl rfl (by kernel_rfl) (by kernel_rfl) (by kernel_rfl) (fun _ _ _ h => h) (.inl ⟨rfl, fun W _ => by go_simp⟩) (by assumption) ?_
    simp only [Act.put, List.setIfInBounds_toArray, List.set_cons_zero, List.set_cons_succ]
    refine wpAnyH_ready (rs := [21]) (by kernel_rfl) (by simp) ?_
    refine AllReadyH.cons (o := ⟨some 46, _, _, _, _, _⟩) rfl (fun K hK => ?_) AllReadyH.nil
    rw [if_pos (by rfl)]
    go_simp
    go_at_call 13
    (with_reducible refine (hri.out w10).mono ?_)
    rintro e w11 ⟨rfl, hbw11⟩
    have hsw11 : Grw w10 w11 := (h0w10).out.trans (hbw11.mono (h0w10).out.size)
    clear hbw11
    refine hK.out _ _ hsw11 (fun _ => ?_)
    clear hK
    refine wpAnyH_strong (S' := Grw w11) (fun W hW => Below.trans hsw11 (hW.out.mono hsw11.out.size)) _ _ _ _ ?_
    have gw11 := hide (show ∀ W, Grw w11 W → Blk W G 29 hs ∧ Blk W G2 29 xs ∧ Blk W G3 29 xs from fun W hW => gw10.out W (Below.trans hsw11 (hW.out.mono hsw11.out.size)))
    have hqw11 := hide (show Below G w w11 from hqw10.out.trans (hsw11.out.mono (by have := hqw10.out.size; omega)))
    have h0w11 : Grw w11 w11 := Below.refl _ _
    refine wpAnyH_ready (rs := [22]) (by kernel_rfl) (by simp) ?_
    refine AllReadyH.cons (o := ⟨some 47, _, _, _, _, _⟩) rfl (fun K hK => ?_) AllReadyH.nil
    rw [if_pos (by rfl)]
    go_simp
    go_at_call 10
    (with_reducible refine (acode_any _ _).mono ?_)
    rintro e w' ⟨rfl, rfl⟩
    skip
    refine hK.out _ _ (by assumption) (fun hS => ?_)
    clear hK
    refine wpAnyH_ready (rs := [25]) (by kernel_rfl) (by simp) ?_
    refine AllReadyH.cons (o := ⟨some 50, _, _, _, _, _⟩) rfl (fun K hK => ?_) AllReadyH.nil
    rw [if_pos (by rfl)]
    go_simp
    go_at_call 14
    (with_reducible refine (hrri.out w11).mono ?_)
    rintro e w12 ⟨rfl, hbw12⟩
    have hsw12 : Grw w11 w12 := (h0w11).out.trans (hbw12.mono (h0w11).out.size)
    clear hbw12
    refine hK.out _ _ hsw12 (fun _ => ?_)
    clear hK
    refine wpAnyH_strong (S' := Grw w12) (fun W hW => Below.trans hsw12 (hW.out.mono hsw12.out.size)) _ _ _ _ ?_
    have gw12 := hide (show ∀ W, Grw w12 W → Blk W G 29 hs ∧ Blk W G2 29 xs ∧ Blk W G3 29 xs from fun W hW => gw11.out W (Below.trans hsw12 (hW.out.mono hsw12.out.size)))
    have hqw12 := hide (show Below G w w12 from hqw11.out.trans (hsw12.out.mono (by have := hqw11.out.size; omega)))
    have h0w12 : Grw w12 w12 := Below.refl _ _
    refine take13 (i := 26) (d := 51) (v := .bool true) rfl rfl (by kernel_rfl) (by kernel_rfl) (by kernel_rfl) (fun _ _ _ h => h) (.inl ⟨rfl, fun W _ => by go_simp⟩) (by assumption) ?_
    simp only [Act.put, List.setIfInBounds_toArray, List.set_cons_zero, List.set_cons_succ]
    refine take13 (i := 27) (d := 52) (v := .bool true) rfl rfl (by kernel_rfl) (by kernel_rfl) (by kernel_rfl) (fun _ _ _ h => h) (.inl ⟨rfl, fun W _ => by go_simp⟩) (by assumption) ?_
    simp only [Act.put, List.setIfInBounds_toArray, List.set_cons_zero, List.set_cons_succ]
    refine take13 (i := 28) (d := 53) (v := .bool true) rfl rfl (by kernel_rfl) (by kernel_rfl) (by kernel_rfl) (fun _ _ _ h => h) (.inl ⟨rfl, fun W _ => by go_simp⟩) (by assumption) ?_
    simp only [Act.put, List.setIfInBounds_toArray, List.set_cons_zero, List.set_cons_succ]
    refine wpAnyH_ready (rs := [29]) (by kernel_rfl) (by simp) ?_
    refine AllReadyH.cons (o := ⟨some 54, _, _, _, _, _⟩) rfl (fun K hK => ?_) AllReadyH.nil
    rw [if_pos (by rfl)]
    go_simp
    go_at_call 7
    (with_reducible refine (hlv.out w12).mono ?_)
    rintro e w13 ⟨rfl, hbw13⟩
    have hsw13 : Grw w12 w13 := (h0w12).out.trans (hbw13.mono (h0w12).out.size)
    clear hbw13
    refine hK.out _ _ hsw13 (fun _ => ?_)
    clear hK
    refine wpAnyH_strong (S' := Grw w13) (fun W hW => Below.trans hsw13 (hW.out.mono hsw13.out.size)) _ _ _ _ ?_
    have gw13 := hide (show ∀ W, Grw w13 W → Blk W G 29 hs ∧ Blk W G2 29 xs ∧ Blk W G3 29 xs from fun W hW => gw12.out W (Below.trans hsw13 (hW.out.mono hsw13.out.size)))
    have hqw13 := hide (show Below G w w13 from hqw12.out.trans (hsw13.out.mono (by have := hqw12.out.size; omega)))
    have h0w13 : Grw w13 w13 := Below.refl _ _
    refine take13 (i := 30) (d := 55) (v := .bool true) rfl rfl (by kernel_rfl) (by kernel_rfl) (by kernel_rfl) (fun _ _ _ h => h) (.inl ⟨rfl, fun W _ => by go_simp⟩) (by assumption) ?_
    simp only [Act.put, List.setIfInBounds_toArray, List.set_cons_zero, List.set_cons_succ]
    refine take13 (i := 31) (d := 6) (v := .bool true) rfl rfl (by kernel_rfl) (by kernel_rfl) (by kernel_rfl) (fun _ _ _ h => h) (.inl ⟨rfl, fun W _ => by go_simp⟩) (by assumption) ?_
    simp only [Act.put, List.setIfInBounds_toArray, List.set_cons_zero, List.set_cons_succ]
    refine wpAnyH_done (by kernel_rfl) ?_ _
    go_wp2
    go_ret
    exact ⟨rfl, hqw13.out⟩

end Go.Proofs.Ytmpdoileiniijaa
