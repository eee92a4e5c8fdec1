/- Layer 5 (deflate): one block by the fixed codes: deflate.fixed. The conditions: where the bytes and the writer lie. -/
import Derived.Test.YthplpoijkebjbaaDefKeep
import Derived.Test.YthplpoijkebjbaaHuffFixed
namespace Go.Proofs.Ythplpoijkebjbaa
open Go.RowKit Go.Shelf

attribute [local go_sem] Oper.semAt_some

def ls5 : List Nat := List.replicate 32 5
theorem ls5_fits : Huf.fits ls5 false := .inl (by decide +kernel)
theorem ls5_len : ls5.length = 32 := by decide +kernel
theorem ls5_le : ∀ x ∈ ls5, x ≤ 15 := by decide +kernel
theorem ls5_rd : ((List.range 30).map fun _ => jv 5) ++ [jv 5, jv 5] = (nz ls5).map iv := by rfl
def Def.litB (s : Nat) : List Bool := Huf.word (Huf.bits lsF 16 s) (fixL s)
def Def.dstC (s : Nat) : List Bool := Huf.word (Huf.bits ls5 16 s) 5
/-- A token's bits. -/
def Def.tokB (t : Nat × Nat) : List Bool :=
  if t.1 = 0 then Def.litB t.2
  else Def.litB (257 + Def.top Def.lenB t.1 29) ++ Bit.low (t.1 - Def.lenB (Def.top Def.lenB t.1 29)) (Def.lenX (Def.top Def.lenB t.1 29))
    ++ Def.dstC (Def.top Def.dstB t.2 30) ++ Bit.low (t.2 - Def.dstB (Def.top Def.dstB t.2 30)) (Def.dstX (Def.top Def.dstB t.2 30))
/-- A block by the fixed codes. -/
def Def.fixB (bs : List UInt8) : List Bool := [true, true, false] ++ (Def.parse bs).flatMap Def.tokB ++ Def.litB 256

theorem Def.top_lt (B : Nat → Nat) (n m : Nat) (hm : 0 < m) : Def.top B n m < m := by
  induction m with
  | zero => omega
  | succ m ih =>
    rw [Def.top]
    split
    · omega
    · rcases Nat.eq_zero_or_pos m with rfl | h
      · simp [Def.top]
      · have := ih h
        omega
theorem word_len (y x : Nat) : (Huf.word y x).length = x := by simp [Huf.word, Bit.low]
theorem low_len13 (v n : Nat) : (Bit.low v n).length = n := by simp [Bit.low]
theorem fixL_le (s : Nat) : fixL s ≤ 9 ∧ fixL s ≠ 0 := by unfold fixL; split <;> (try split) <;> omega
theorem Def.tokB_len (t : Nat × Nat) : (Def.tokB t).length ≤ 60 := by
  unfold Def.tokB Def.litB Def.dstC
  have h1 := (fixL_le t.2).1
  have h2 := (fixL_le (257 + Def.top Def.lenB t.1 29)).1
  have h3 := (Def.len_small _ (Def.top_lt Def.lenB t.1 29 (by decide))).2
  have h4 := (Def.dst_small _ (Def.top_lt Def.dstB t.2 30 (by decide))).2
  split
  · rw [word_len]
    omega
  · simp only [List.length_append, word_len, low_len13]
    omega
theorem Def.toksB_len (l : List (Nat × Nat)) : (l.flatMap Def.tokB).length ≤ 60 * l.length := by
  induction l with
  | nil => simp
  | cons t l ih =>
    rw [List.flatMap_cons, List.length_append, List.length_cons]
    have := Def.tokB_len t
    omega
theorem Def.toks_len (bs : List UInt8) (f at' : Nat) : (Def.toks bs f at').length ≤ f := by
  induction f generalizing at' with
  | zero => simp [Def.toks]
  | succ f ih =>
    rw [Def.toks]
    split
    · rw [List.length_cons]
      have := ih (at' + Def.stp (Def.tok bs at'))
      omega
    · simp
theorem lsF_get (i : Nat) (h : i < lsF.length) : lsF[i] = fixL i := by simp [lsF]
theorem ls5_get (i : Nat) (h : i < ls5.length) : ls5[i] = 5 := by simp only [ls5, List.getElem_replicate]
theorem lsF_sum : Huf.sum lsF ≤ 32768 := by decide +kernel
theorem ls5_sum : Huf.sum ls5 ≤ 32768 := by decide +kernel
theorem knear (g gw B0 B : Nat) (L : List Bool) (i : Nat) (w : World) (h : CodeAt B0 w g lsF) (hw : WrAt B w gw L) (hL : L.length ≤ 1000000000000) (hi : i < 288) :
    Calls Try.prog 74 #[.pointer (some ⟨g, 0, none⟩), .pointer (some ⟨gw, 0, none⟩), .int .i64 (i : Int)] w fun e w' => e = .returned (.int .i64 0) ∧ WrAt B w' gw (L ++ Def.litB i) ∧ Below B w w' ∧ Stp gw w w' := by
  have hl : i < lsF.length := by rw [lsF_len]; exact hi
  have h1 := kwrite g gw B0 B lsF L i w h hw hL (by rw [lsF_len]; decide) lsF_le lsF_sum hl (by rw [lsF_get i hl]; exact (fixL_le i).2)
  rw [lsF_get i hl] at h1
  exact h1
theorem kfar (g gw B0 B : Nat) (L : List Bool) (i : Nat) (w : World) (h : CodeAt B0 w g ls5) (hw : WrAt B w gw L) (hL : L.length ≤ 1000000000000) (hi : i < 32) :
    Calls Try.prog 74 #[.pointer (some ⟨g, 0, none⟩), .pointer (some ⟨gw, 0, none⟩), .int .i64 (i : Int)] w fun e w' => e = .returned (.int .i64 0) ∧ WrAt B w' gw (L ++ Def.dstC i) ∧ Below B w w' ∧ Stp gw w w' := by
  have hl : i < ls5.length := by rw [ls5_len]; exact hi
  have h1 := kwrite g gw B0 B ls5 L i w h hw hL (by rw [ls5_len]; decide) ls5_le ls5_sum hl (by rw [ls5_get i hl]; decide)
  rw [ls5_get i hl] at h1
  exact h1
theorem symN (n : Nat) (w : World) (h1 : 3 ≤ n) (h2 : n ≤ 258) : Calls Try.prog 19 #[.int .i64 (n : Int)] w fun e w' => e = .returned (.tuple #[.int .i64 ((257 + Def.top Def.lenB n 29 : Nat) : Int), .int .i64 ((n - Def.lenB (Def.top Def.lenB n 29) : Nat) : Int), .int .i64 ((Def.lenX (Def.top Def.lenB n 29) : Nat) : Int)]) ∧ w = w' := by
  have h := sym_any (n : Int) w
  have hs := (Def.top_spec Def.lenB n 29 (by rw [show Def.lenB 0 = 3 from by decide]; omega) (by decide)).2.1
  rw [show Def.symV (n : Int) = (((257 + Def.top Def.lenB n 29 : Nat) : Int), ((n - Def.lenB (Def.top Def.lenB n 29) : Nat) : Int), ((Def.lenX (Def.top Def.lenB n 29) : Nat) : Int)) from by
    unfold Def.symV
    rw [if_pos (by omega), Int.toNat_natCast, Int.ofNat_sub hs, Int.natCast_add]
    rfl] at h
  exact h
theorem farN (n : Nat) (w : World) (h1 : 1 ≤ n) (h2 : n ≤ 32768) : Calls Try.prog 21 #[.int .i64 (n : Int)] w fun e w' => e = .returned (.tuple #[.int .i64 ((Def.top Def.dstB n 30 : Nat) : Int), .int .i64 ((n - Def.dstB (Def.top Def.dstB n 30) : Nat) : Int), .int .i64 ((Def.dstX (Def.top Def.dstB n 30) : Nat) : Int)]) ∧ w = w' := by
  have h := far_any (n : Int) w
  have hs := (Def.top_spec Def.dstB n 30 (by rw [show Def.dstB 0 = 1 from by decide]; omega) (by decide)).2.1
  rw [show Def.farV (n : Int) = (((Def.top Def.dstB n 30 : Nat) : Int), ((n - Def.dstB (Def.top Def.dstB n 30) : Nat) : Int), ((Def.dstX (Def.top Def.dstB n 30) : Nat) : Int)) from by
    unfold Def.farV
    rw [if_pos (by omega), Int.toNat_natCast, Int.ofNat_sub hs, Int.zero_add]] at h
  exact h
theorem WrAt.hang {B g : Nat} {W : World} {l : List Bool} (h : WrAt B W g l) (k : Nat) (hk : Hang g W k) : B ≤ k ∧ k < W.heap.size := by
  obtain ⟨A, h1, h2, h3⟩ := h
  have h4 := h1
  obtain ⟨c, hb, ho⟩ := h4
  rcases (hang_wr h1 k).1 hk with rfl | h5
  · exact ⟨h2, hb.lt⟩
  · exact ho.blk_lt k h5

theorem CodeAt.chg {B g : Nat} {W W' : World} {ls : List Nat} {R : Nat → Prop} (h : CodeAt B W g ls) (hc : Chg R W W') (hR : ∀ k, B ≤ k → ¬ R k) : CodeAt B W' g ls := by
  obtain ⟨Ab, cb, Al, cl, Ao, co, h⟩ := h
  obtain ⟨cs, hk, hr⟩ := h.cells
  exact ⟨Ab, cb, Al, cl, Ao, co, ⟨cs, hk.chg hc (hR g h.hg), hr⟩, h.hg, h.ob.chg hc (fun k hk => hR k (h.ob.blk_lt k hk).1), h.ol.chg hc (fun k hk => hR k (h.ol.blk_lt k hk).1), fun s hs => (h.oo s hs).chg hc (fun k hk => hR k ((h.oo s hs).blk_lt k hk).1), h.apart, h.apartL⟩

set_option maxRecDepth 100000 in
set_option maxHeartbeats 8000000 in
theorem dfixed_any (g B : Nat) (l0 : List Bool) (A : Option Addr) (c : Nat) (bs : List UInt8) (Bb : Nat) (w : World) (hw : WrAt B w g l0) (hr : Rd w Bb A bs.length (bs.map bv)) (hBb : Bb ≤ B) (hl : bs.length ≤ 1048576) (hl0 : l0.length ≤ 1000000) :
    Calls Try.prog 45 #[.pointer (some ⟨g, 0, none⟩), .slice A bs.length c] w fun e w' => (∃ v, e = .returned v) ∧ WrAt B w' g (l0 ++ Def.fixB bs) ∧ Below B w w' := by
  obtain ⟨G, hG⟩ : ∃ G, w.heap.size = G := ⟨_, rfl⟩
  have hBw : B ≤ w.heap.size := by obtain ⟨_, _, _, h⟩ := hw; exact h
  obtain ⟨w1, hw1⟩ : ∃ W, w.alloc (.cells #[.pointer (some ⟨g, 0, none⟩)] 63) = W := ⟨_, rfl⟩
  have k1 := hide (show Blk w1 G 63 #[.pointer (some ⟨g, 0, none⟩)] from by rw [← hw1, ← hG]; exact Blk.new w _ _)
  have wr1 := hide (show WrAt B w1 g l0 from by rw [← hw1]; exact hw.below ((Below.refl _ w).alloc (Nat.le_refl _) _))
  have b1 := hide (show Below B w w1 from by rw [← hw1]; exact (Below.refl _ w).alloc hBw _)
  have hfix := hide (fixed_any w1)
  refine (callsIn_wide (n := 9)).1 ?_
  refine callsIn_of_wp_marks Try.func45 rfl trivial ?_ rfl
  refine wpIn_wide.2 ?_
  simp only [Try.ntmps45, List.size_toArray, List.length_cons, List.length_nil, Nat.reduceAdd, Nat.reduceSub, Array.replicate_succ, Array.replicate_zero, List.push_toArray, List.append_toArray, List.nil_append, List.cons_append]
  go_upto_region 2 with (go_at_call 72; (with_reducible refine hfix.out.mono ?_); rintro e w2 ⟨A1, c1, A2, c2, rfl, ho1, ho2, hb2⟩)
  have bel2 := hide (show Below w.heap.size w w2 from by
    have h1 : Below w.heap.size w w1 := by rw [← hw1]; exact (Below.refl _ w).alloc (Nat.le_refl _) _
    exact h1.trans (hb2.mono h1.size))
  have kb2 := hide (k1.out.below hb2 k1.out.lt)
  have hnew1 := hide (new_ok A1 288 c1 lsF false w2 w2.heap.size (by rw [← lsF_rd]; exact ho1.rd) (Nat.le_refl _) (by decide) lsF_le lsF_fits)
  replace ho1 := hide ho1
  replace ho2 := hide ho2
  replace hb2 := hide hb2
  go_upto_region 3 with (go_at_call 73; (with_reducible refine (hnew1.out).mono ?_); rintro e w3 ⟨g3, rfl, hcodeg3, hbng3⟩; have hbng3 := hide hbng3; have hcodeg3 := hide hcodeg3; obtain ⟨N3, hN3⟩ : ∃ S, w3.heap.size = S := ⟨_, rfl⟩; obtain ⟨w4, hw4⟩ : ∃ W, World.alloc w3 (.cells #[.pointer none] 104) = W := ⟨_, rfl⟩; have kw4 : Blk w4 N3 104 #[.pointer none] := (by rw [← hw4, ← hN3]; exact Blk.new w3 _ _); have xw4 : World.cell? w4 ⟨N3, 0, none⟩ = some (.pointer none) := kw4.cell 0; have yw4 : World.frozen? w4 ⟨N3, 0, none⟩ = false := kw4.free 0; obtain ⟨w5, hw5⟩ : ∃ W, World.setCell w4 ⟨N3, 0, none⟩ (.pointer (some ⟨g3, 0, none⟩)) = W := ⟨_, rfl⟩; have kw5 := hide (show Blk w5 N3 104 #[.pointer (some ⟨g3, 0, none⟩)] from by rw [← hw5]; exact kw4.set 0 _); have kw4 := hide kw4)
  have s1 := hide (show G < w1.heap.size from k1.out.lt)
  have be35 := hide (show Below w3.heap.size w3 w5 from by rw [← hw5, ← hw4]; exact ((Below.refl _ w3).alloc (Nat.le_refl _) _).setCell (by rw [hN3]; exact Nat.le_refl _) _)
  have be25 := hide (show Below w2.heap.size w2 w5 from hbng3.out.trans (be35.out.mono hbng3.out.size))
  have kb5 := hide (kb2.out.below be25.out kb2.out.lt)
  have code5 := hide (hcodeg3.out.below be35.out)
  have ho5 := hide (ho2.out.below be25.out)
  have bel5 := hide (bel2.out.trans (be25.out.mono bel2.out.size))
  obtain ⟨w6, hw6⟩ : ∃ W, w5.alloc (.cells #[.int .i64 5, .int .i64 5] 3) = W := ⟨_, rfl⟩
  have be56 := hide (show Below w5.heap.size w5 w6 from by rw [← hw6]; exact (Below.refl _ w5).alloc (Nat.le_refl _) _)
  have ho6 := hide (ho5.out.below be56.out)
  have rd6 := hide (show Rd w6 (w5.heap.size + 1) (some ⟨w5.heap.size, 0, none⟩) 2 [jv 5, jv 5] from by rw [← hw6]; exact Rd.new w5 #[.int .i64 5, .int .i64 5] 3 (0, 0))
  have hB6 := hide (show w1.heap.size ≤ w6.heap.size from Nat.le_trans hb2.out.size (Nat.le_trans be25.out.size be56.out.size))
  have kb6 := hide (kb5.out.below be56.out kb5.out.lt)
  have kn6 := hide (kw5.out.below be56.out kw5.out.lt)
  have code6 := hide (code5.out.below be56.out)
  have bel6 := hide (bel5.out.trans (be56.out.mono bel5.out.size))
  have hA2 := hide (show ∀ k, blk A2 = some k → w1.heap.size ≤ k ∧ k < w2.heap.size from fun k hk => (ho2.out.blk_lt k hk))
  go_upto_region 4 with (first
    | (at_builtin; refine wpList_append_rd w6 rfl (.tmp 24) (.tmp 25) rfl elem_int rfl ho6.out rfl rd6.out (by intro u hu; simp at hu; subst hu; rfl) (by decide) (by decide) hB6.out ?_; intro A7 c7 w7 ho7 hc7 hn7; have hc7 := hide hc7; have hnew2 := hide (new_ok A7 32 c7 ls5 false w7 w7.heap.size (by rw [← ls5_rd]; exact ho7.rd) (Nat.le_refl _) (by decide) ls5_le ls5_fits); have ho7 := hide ho7)
    | (go_at_call 73; (with_reducible refine (hnew2.out).mono ?_); rintro e w8 ⟨g8, rfl, hcodeg8, hbng8⟩; have hbng8 := hide hbng8; have hcodeg8 := hide hcodeg8; obtain ⟨N8, hN8⟩ : ∃ S, w8.heap.size = S := ⟨_, rfl⟩; obtain ⟨w9, hw9⟩ : ∃ W, World.alloc w8 (.cells #[.pointer none] 104) = W := ⟨_, rfl⟩; have kw9 : Blk w9 N8 104 #[.pointer none] := (by rw [← hw9, ← hN8]; exact Blk.new w8 _ _); have xw9 : World.cell? w9 ⟨N8, 0, none⟩ = some (.pointer none) := kw9.cell 0; have yw9 : World.frozen? w9 ⟨N8, 0, none⟩ = false := kw9.free 0; obtain ⟨w10, hw10⟩ : ∃ W, World.setCell w9 ⟨N8, 0, none⟩ (.pointer (some ⟨g8, 0, none⟩)) = W := ⟨_, rfl⟩; have kw10 := hide (show Blk w10 N8 104 #[.pointer (some ⟨g8, 0, none⟩)] from by rw [← hw10]; exact kw9.set 0 _); have kw9 := hide kw9))
  have kb7 := hide (kb6.out.chg hc7.out (ho6.out.ne kb6.out (by decide)))
  have kn7 := hide (kn6.out.chg hc7.out (ho6.out.ne kn6.out (by decide)))
  have code7 := hide (code6.out.chg hc7.out (fun k hk hr => by have := (hA2.out k hr).2; omega))
  have bel7 := hide (bel6.out.trans (hc7.out.to_below bel6.out.size (fun k hr => by have := (hA2.out k hr).1; have := bel2.out.size; have := s1.out; omega)))
  have be810 := hide (show Below w8.heap.size w8 w10 from by rw [← hw10, ← hw9]; exact ((Below.refl _ w8).alloc (Nat.le_refl _) _).setCell (by rw [hN8]; exact Nat.le_refl _) _)
  have be710 := hide (show Below w7.heap.size w7 w10 from hbng8.out.trans (be810.out.mono hbng8.out.size))
  have kb10 := hide (kb7.out.below be710.out kb7.out.lt)
  have kn10 := hide (kn7.out.below be710.out kn7.out.lt)
  have near10 := hide (code7.out.below be710.out)
  have far10 := hide (hcodeg8.out.below be810.out)
  have bel10 := hide (bel7.out.trans (be710.out.mono bel7.out.size))
  have wr10 := hide (hw.below bel10.out)
  have hbits := hide (show Calls Try.prog 70 #[.pointer (some ⟨g, 0, none⟩), .int .u32 3, .int .i64 3] w10 fun e w' => e = .returned (.int .i64 0) ∧ WrAt B w' g (l0 ++ [true, true, false]) ∧ Below B w10 w' ∧ Stp g w10 w' from ktbits wr10.out 3 3 (by omega) (by decide) (by decide))
  have z10 : w10.cell? ⟨G, 0, none⟩ = some (.pointer (some ⟨g, 0, none⟩)) := kb10.out.cell 0
  go_upto_region 5 with (go_at_call 70; (with_reducible refine hbits.out.mono ?_); rintro e w11 ⟨rfl, wr11, hb11, st11⟩; have wr11 := hide wr11; have hb11 := hide hb11; have st11 := hide st11)
  have bel11 := hide ((bel10.out.mono hBw).trans hb11.out)
  have kb11 := hide (st11.out.x.row kb10.out (by decide) (by decide) (by decide))
  have kn11 := hide (st11.out.x.row kn10.out (by decide) (by decide) (by decide))
  have kf11 := hide (st11.out.x.row kw10.out (by decide) (by decide) (by decide))
  have near11 := hide (near10.out.keep st11.out.x)
  have far11 := hide (far10.out.keep st11.out.x)
  obtain ⟨gb, hgb⟩ : ∃ k, w11.heap.size = k := ⟨_, rfl⟩
  obtain ⟨w12, hw12⟩ : ∃ W, w11.alloc (.cells #[.slice A bs.length c] 22) = W := ⟨_, rfl⟩
  have be1112 := hide (show Below w11.heap.size w11 w12 from by rw [← hw12]; exact (Below.refl _ w11).alloc (Nat.le_refl _) _)
  have kbb12 := hide (show Blk w12 gb 22 #[.slice A bs.length c] from by rw [← hw12, ← hgb]; exact Blk.new w11 _ _)
  have s12 := hide (show w12.heap.size = gb + 1 from by rw [← hw12, ← hgb]; simp)
  have kb12 := hide (kb11.out.below be1112.out kb11.out.lt)
  have kn12 := hide (kn11.out.below be1112.out kn11.out.lt)
  have kf12 := hide (kf11.out.below be1112.out kf11.out.lt)
  have near12 := hide (near11.out.below be1112.out)
  have far12 := hide (far11.out.below be1112.out)
  have wr12 := hide (wr11.out.below be1112.out)
  have bel12 := hide (bel11.out.trans (be1112.out.mono (by have := bel11.out.size; omega)))
  have hung12 := hide (show Hung g gb B w12 from fun k hk => by
    have h1 := wr11.out.hang k ((Hang.below (show g < w11.heap.size from by obtain ⟨_, ⟨_, hk, _⟩, _⟩ := wr11.out; exact hk.lt) be1112.out).1 hk)
    have h2 := s12.out
    exact ⟨by omega, by omega, h1.1⟩)
  have hr12 := hide (hr.below (bel12.out.mono hBb))
  have hB12 := hide (show B ≤ w12.heap.size from Nat.le_trans hBw bel12.out.size)
  have hgw := hide (show g < w12.heap.size from by obtain ⟨_, ⟨_, hk, _⟩, _⟩ := wr12.out; exact hk.lt)
  go_wp2_with (go_at_call 54; (with_reducible refine (matches_any _ _ _ _).mono ?_); rintro e w' ⟨rfl, rfl⟩)
  refine (wpIn_wide (n := 9)).1 ?_
  refine wpIn_rangeFunc_ownH (n := 9) rfl (by decide) (gf := 77) (lb := #[.pointer (some ⟨gb, 0, none⟩)]) rfl trivial (enters_of Try.func77 (by kernel_rfl) rfl)
    (matches_stops (9 - 1) (by decide) gb g B A c bs Bb w12 hBb (Nat.le_trans hBb hB12.out) kbb12.out hr12.out hung12.out hl) KpH.trans (KpH.putObj hgw.out) (Below.refl _ _) (fun _ => rfl)
    (fun (pre : List Tk) W => (WrAt B W g (l0 ++ [true, true, false] ++ (pre.map (·.1)).flatMap Def.tokB) ∧ Blk W G 63 #[.pointer (some ⟨g, 0, none⟩)] ∧ Blk W N3 104 #[.pointer (some ⟨g3, 0, none⟩)] ∧ Blk W N8 104 #[.pointer (some ⟨g8, 0, none⟩)] ∧ CodeAt w2.heap.size W g3 lsF ∧ CodeAt w7.heap.size W g8 ls5) ∧ Below B w W)
    (fun _ _ _ => False)
    (OwnFrom.and (fun _ _ _ _ hs hg hr => by
      have hc := calm_of hg (fun r e => (hr r e).2)
      exact ⟨hs.1.calm hc, hs.2.1.calm hc, hs.2.2.1.calm hc, hs.2.2.2.1.calm hc, hs.2.2.2.2.1.calm hc, hs.2.2.2.2.2.calm hc⟩) (ownFrom_below hBw hB12.out))
    (fun _ _ _ _ _ hs _ _ => hs)
    ⟨⟨by simpa using wr12.out, kb12.out, kn12.out, kf12.out, near12.out, far12.out⟩, bel12.out⟩
    (fun x a' W => ∃ Bx, Blk W Bx 38 #[.int .i64 (x.1.1 : Int), .int .i64 (x.1.2 : Int)] ∧ a' = { tmps := #[.pointer (some ⟨g, 0, none⟩), .slice A bs.length c, .pointer (some ⟨G, 0, none⟩), undef, .slice A1 288 c1, .slice A2 30 c2, .pointer (some ⟨N3, 0, none⟩), .int .i64 0, .pointer (some ⟨N8, 0, none⟩), .int .i64 0, .pointer (some ⟨Bx, 0, none⟩), undef, undef, undef, .tuple #[.slice A1 288 c1, .slice A2 30 c2], .tuple #[.slice A1 288 c1, .slice A2 30 c2], .slice A1 288 c1, .slice A2 30 c2, .tuple #[.pointer (some ⟨g3, 0, none⟩), .int .i64 0], .slice A1 288 c1, .tuple #[.pointer (some ⟨g3, 0, none⟩), .int .i64 0], .pointer (some ⟨g3, 0, none⟩), .int .i64 0, .tuple #[.pointer (some ⟨g8, 0, none⟩), .int .i64 0], .slice A2 30 c2, .slice (some ⟨w5.heap.size, 0, none⟩) 2 2, .slice A7 32 c7, .tuple #[.pointer (some ⟨g8, 0, none⟩), .int .i64 0], .pointer (some ⟨g8, 0, none⟩), .int .i64 0, .pointer (some ⟨g, 0, none⟩), .int .i64 0, .slice A bs.length c, .func (.func 77) #[] #[.pointer (some ⟨gb, 0, none⟩)], .agg #[.int .i64 (x.1.1 : Int), .int .i64 (x.1.2 : Int)], undef, undef, undef, undef, undef, undef, undef, undef, undef, undef, undef, undef, undef, undef, undef, undef, undef, undef, undef, undef, undef, undef, undef, undef, undef, undef, undef, undef, undef, undef, undef, undef, undef, undef, undef, undef, undef, undef, undef, undef, undef, undef, undef], defers := [] })
    (fun x a' _ X Y row hs hg hr => by obtain ⟨Bx, h1, h2⟩ := hs; exact ⟨Bx, h1.calm (calm_of hg (fun r e => (hr r e).2)), h2⟩)
    ?assign ?body ?done ?stop
  case assign =>
    rintro l pre ⟨⟨t1, t2⟩, hgood⟩ W K ⟨⟨i1, i2, i3, i4, i5, i6⟩, i7⟩ hK
    simp only [tv]
    gi_wp2
    have b := (Below.refl W.heap.size W).alloc (Nat.le_refl _) (.cells #[.int .i64 (t1 : Int), .int .i64 (t2 : Int)] 38)
    exact hK _ _ ((KeepsOthers.alloc _ _).from _) (KpH.below b) ⟨⟨i1.below b, i2.alloc _, i3.alloc _, i4.alloc _, i5.below b, i6.below b⟩, i7.alloc (Nat.le_trans hBw i7.size) _⟩ ⟨W.heap.size, Blk.new W _ _, rfl⟩
  case body =>
    rintro l pre ⟨⟨t1, t2⟩, hgood⟩ a' W hlw ⟨r, hr'⟩ ⟨⟨i1, i2, i3, i4, i5, i6⟩, i7⟩ ⟨Bx, kx, rfl⟩ hlt
    simp only at kx
    have hLen : (l0 ++ [true, true, false] ++ (pre.map (·.1)).flatMap Def.tokB).length ≤ 100000000 := by
      have h1 := Def.toksB_len (pre.map (·.1))
      rw [List.length_map] at h1
      simp only [List.length_append, List.length_cons, List.length_nil]
      omega
    have hgb := hide (show gb < W.heap.size from by have := i7.size; have := bel12.out.size; have := kbb12.out.lt; have := be1112.out.size; have := hlw; have h9 := (Array.getElem?_eq_some_iff.1 hr').1; omega)
    have hBW := hide (show B ≤ W.heap.size from Nat.le_trans hBw i7.size)
    have hsnoc := hide (show l0 ++ [true, true, false] ++ ((pre ++ [(⟨(t1, t2), hgood⟩ : Tk)]).map (·.1)).flatMap Def.tokB = l0 ++ [true, true, false] ++ (pre.map (·.1)).flatMap Def.tokB ++ Def.tokB (t1, t2) from by
      rw [List.map_append, List.flatMap_append, ← List.append_assoc]
      congr 1
      simp)
    obtain ⟨LL, hLL⟩ : ∃ LL, l0 ++ [true, true, false] ++ (pre.map (·.1)).flatMap Def.tokB = LL := ⟨_, rfl⟩
    rw [hLL] at i1 hLen
    replace hLL := hide hLL
    clear hlt hr' hlw
    have hPk := hide (show ∀ W1 W2, (fun W' => Blk W' G 63 #[.pointer (some ⟨g, 0, none⟩)] ∧ Blk W' N3 104 #[.pointer (some ⟨g3, 0, none⟩)] ∧ Blk W' N8 104 #[.pointer (some ⟨g8, 0, none⟩)] ∧ CodeAt w2.heap.size W' g3 lsF ∧ CodeAt w7.heap.size W' g8 ls5 ∧ Blk W' Bx 38 #[.int .i64 (t1 : Int), .int .i64 (t2 : Int)]) W1 → KeepX W1 W2 → (fun W' => Blk W' G 63 #[.pointer (some ⟨g, 0, none⟩)] ∧ Blk W' N3 104 #[.pointer (some ⟨g3, 0, none⟩)] ∧ Blk W' N8 104 #[.pointer (some ⟨g8, 0, none⟩)] ∧ CodeAt w2.heap.size W' g3 lsF ∧ CodeAt w7.heap.size W' g8 ls5 ∧ Blk W' Bx 38 #[.int .i64 (t1 : Int), .int .i64 (t2 : Int)]) W2 from fun W1 W2 h hx => ⟨hx.row h.1 (by decide) (by decide) (by decide), hx.row h.2.1 (by decide) (by decide) (by decide), hx.row h.2.2.1 (by decide) (by decide) (by decide), h.2.2.2.1.keep hx, h.2.2.2.2.1.keep hx, hx.row h.2.2.2.2.2 (by decide) (by decide) (by decide)⟩)
    have P1 := hide (show (fun W' => Blk W' G 63 #[.pointer (some ⟨g, 0, none⟩)] ∧ Blk W' N3 104 #[.pointer (some ⟨g3, 0, none⟩)] ∧ Blk W' N8 104 #[.pointer (some ⟨g8, 0, none⟩)] ∧ CodeAt w2.heap.size W' g3 lsF ∧ CodeAt w7.heap.size W' g8 ls5 ∧ Blk W' Bx 38 #[.int .i64 (t1 : Int), .int .i64 (t2 : Int)]) W from ⟨i2, i3, i4, i5, i6, kx⟩)
    replace i1 := hide i1
    replace i5 := hide i5
    replace i6 := hide i6
    replace i7 := hide i7
    clear i2 i3 i4 kx
    (have za1 : World.cell? W ⟨G, 0, none⟩ = some (.pointer (some ⟨g, 0, none⟩)) := P1.out.1.cell 0; have zb1 : World.cell? W ⟨N3, 0, none⟩ = some (.pointer (some ⟨g3, 0, none⟩)) := P1.out.2.1.cell 0; have zc1 : World.cell? W ⟨N8, 0, none⟩ = some (.pointer (some ⟨g8, 0, none⟩)) := P1.out.2.2.1.cell 0; have zd1 : World.cell? W ⟨Bx, 0, none⟩ = some (.int .i64 (t1 : Int)) := P1.out.2.2.2.2.2.cell 0; have ze1 : World.cell? W ⟨Bx, 1, none⟩ = some (.int .i64 (t2 : Int)) := P1.out.2.2.2.2.2.cell 1)
    by_cases ht : t1 = 0
    · subst ht
      have ht2 : t2 ≤ 255 := by
        rcases hgood with ⟨_, h⟩ | ⟨h, _⟩
        · exact h
        · omega
      have htok := hide (show Def.tokB (0, t2) = Def.litB t2 from if_pos rfl)
      have hw1 := hide (knear g3 g w2.heap.size B LL t2 W i5.out i1.out (by omega) (by omega))
      replace zd1 : World.cell? W ⟨Bx, 0, none⟩ = some (.int .i64 0) := zd1
      gi_wp2_with (refine ⟨trivial, ?_⟩; gi_at_call 74; (with_reducible refine (CallsIn.inRound l (callsIn_wide.2 (hw1.out))).mono ?_); rintro e W2 ⟨rfl, j2, b2, s2⟩; have P2 := hide (hPk.out W W2 P1.out s2.x); have j2 := hide j2; have b2 := hide b2; have s2 := hide s2)
      exact ⟨s2.out.o.from _, s2.out.h gb B hgb.out hBW.out, ⟨⟨by rw [hsnoc.out, hLL.out, htok.out]; exact j2.out, P2.out.1, P2.out.2.1, P2.out.2.2.1, P2.out.2.2.2.1, P2.out.2.2.2.2.1⟩, i7.out.trans b2.out⟩⟩
    · obtain ⟨h3, h4, h5, h6⟩ : 3 ≤ t1 ∧ t1 ≤ 258 ∧ 1 ≤ t2 ∧ t2 ≤ 256 := by
        rcases hgood with ⟨h, _⟩ | h
        · exact absurd h ht
        · exact h
      have htz : ((t1 : Int) == 0) = false := by simp; omega
      have htok := hide (show Def.tokB (t1, t2) = Def.litB (257 + Def.top Def.lenB t1 29) ++ Bit.low (t1 - Def.lenB (Def.top Def.lenB t1 29)) (Def.lenX (Def.top Def.lenB t1 29)) ++ Def.dstC (Def.top Def.dstB t2 30) ++ Bit.low (t2 - Def.dstB (Def.top Def.dstB t2 30)) (Def.dstX (Def.top Def.dstB t2 30)) from if_neg ht)
      have hs := hide (symN t1 W h3 h4)
      have hfa := hide (fun W => farN t2 W h5 (by omega))
      have hk1 := Def.top_lt Def.lenB t1 29 (by decide)
      have hk2 := Def.top_lt Def.dstB t2 30 (by decide)
      have hx1 := (Def.len_small _ hk1).2
      have hx2 := (Def.dst_small _ hk2).2
      obtain ⟨K1, hK1⟩ : ∃ K1, 257 + Def.top Def.lenB t1 29 = K1 := ⟨_, rfl⟩
      have hK1b : K1 < 288 := by omega
      rw [hK1] at hs htok
      generalize Def.lenB (Def.top Def.lenB t1 29) = B1 at *
      generalize Def.lenX (Def.top Def.lenB t1 29) = X1 at *
      generalize Def.dstB (Def.top Def.dstB t2 30) = B2 at *
      generalize Def.dstX (Def.top Def.dstB t2 30) = X2 at *
      generalize Def.top Def.dstB t2 30 = K2 at *
      obtain ⟨D1, hD1⟩ : ∃ D1, t1 - B1 = D1 := ⟨_, rfl⟩
      obtain ⟨D2, hD2⟩ : ∃ D2, t2 - B2 = D2 := ⟨_, rfl⟩
      have hD1b : D1 ≤ 258 := by omega
      have hD2b : D2 ≤ 256 := by omega
      have hu1 : IntKind.u32.wrap (D1 : Int) = (D1 : Int) := by rw [IntKind.wrap_u32]; omega
      have hu2 : IntKind.u32.wrap (D2 : Int) = (D2 : Int) := by rw [IntKind.wrap_u32]; omega
      rw [hD1] at hs htok
      rw [hD2] at hfa htok
      have hw1 := hide (knear g3 g w2.heap.size B LL K1 W i5.out i1.out (by omega) hK1b)
      have hl1 := hide (show (LL ++ Def.litB K1).length ≤ 200000000 from by rw [List.length_append, Def.litB, word_len]; have := (fixL_le K1).1; omega)
      have hl2 := hide (show (LL ++ Def.litB K1 ++ Bit.low D1 X1).length ≤ 300000000 from by rw [List.length_append, low_len13]; have := hl1.out; omega)
      have hl3 := hide (show (LL ++ Def.litB K1 ++ Bit.low D1 X1 ++ Def.dstC K2).length ≤ 400000000 from by rw [List.length_append, Def.dstC, word_len]; have := hl2.out; omega)
      have hbb1 := hide (fun W2 (h : WrAt B W2 g (LL ++ Def.litB K1)) => ktbits h D1 X1 (by have := hl1.out; omega) (by omega) (by omega))
      have hww2 := hide (fun W3 (hc : CodeAt w7.heap.size W3 g8 ls5) (h : WrAt B W3 g (LL ++ Def.litB K1 ++ Bit.low D1 X1)) => kfar g8 g w7.heap.size B _ K2 W3 hc h (by have := hl2.out; omega) (by omega))
      have hbb2 := hide (fun W4 (h : WrAt B W4 g (LL ++ Def.litB K1 ++ Bit.low D1 X1 ++ Def.dstC K2)) => ktbits h D2 X2 (by have := hl3.out; omega) (by omega) (by omega))
      clear hK1 hD1 hD2 hk1 hk2 hx1 hx2 ht hLen
      gi_wp2_with (first
        | (refine ⟨trivial, ?_⟩; gi_at_call 19; (with_reducible refine (CallsIn.inRound l (callsIn_wide.2 (hs.out))).mono ?_); rintro e w_ ⟨rfl, rfl⟩)
        | (refine ⟨trivial, ?_⟩; gi_at_call 74; (with_reducible refine (CallsIn.inRound l (callsIn_wide.2 (hw1.out))).mono ?_); rintro e W2 ⟨rfl, j2, b2, s2⟩; have P2 := hide (hPk.out W W2 P1.out s2.x); have za2 : World.cell? W2 ⟨G, 0, none⟩ = some (.pointer (some ⟨g, 0, none⟩)) := P2.out.1.cell 0; have zb2 : World.cell? W2 ⟨N3, 0, none⟩ = some (.pointer (some ⟨g3, 0, none⟩)) := P2.out.2.1.cell 0; have zc2 : World.cell? W2 ⟨N8, 0, none⟩ = some (.pointer (some ⟨g8, 0, none⟩)) := P2.out.2.2.1.cell 0; have zd2 : World.cell? W2 ⟨Bx, 0, none⟩ = some (.int .i64 (t1 : Int)) := P2.out.2.2.2.2.2.cell 0; have ze2 : World.cell? W2 ⟨Bx, 1, none⟩ = some (.int .i64 (t2 : Int)) := P2.out.2.2.2.2.2.cell 1; have hb1 := hide (hbb1.out W2 j2); have b2 := hide b2; have s2 := hide s2; clear j2)
        | (refine ⟨trivial, ?_⟩; gi_at_call 70; (with_reducible refine (CallsIn.inRound l (callsIn_wide.2 (hb1.out))).mono ?_); rintro e W3 ⟨rfl, j3, b3, s3⟩; have P3 := hide (hPk.out W2 W3 P2.out s3.x); have za3 : World.cell? W3 ⟨G, 0, none⟩ = some (.pointer (some ⟨g, 0, none⟩)) := P3.out.1.cell 0; have zb3 : World.cell? W3 ⟨N3, 0, none⟩ = some (.pointer (some ⟨g3, 0, none⟩)) := P3.out.2.1.cell 0; have zc3 : World.cell? W3 ⟨N8, 0, none⟩ = some (.pointer (some ⟨g8, 0, none⟩)) := P3.out.2.2.1.cell 0; have zd3 : World.cell? W3 ⟨Bx, 0, none⟩ = some (.int .i64 (t1 : Int)) := P3.out.2.2.2.2.2.cell 0; have ze3 : World.cell? W3 ⟨Bx, 1, none⟩ = some (.int .i64 (t2 : Int)) := P3.out.2.2.2.2.2.cell 1; have hw2 := hide (hww2.out W3 P3.out.2.2.2.2.1 j3); have hf3 := hide (hfa.out W3); have b3 := hide b3; have s3 := hide s3; clear j3)
        | (refine ⟨trivial, ?_⟩; gi_at_call 21; (with_reducible refine (CallsIn.inRound l (callsIn_wide.2 (hf3.out))).mono ?_); rintro e w_ ⟨rfl, rfl⟩)
        | (refine ⟨trivial, ?_⟩; gi_at_call 74; (with_reducible refine (CallsIn.inRound l (callsIn_wide.2 (hw2.out))).mono ?_); rintro e W4 ⟨rfl, j4, b4, s4⟩; have P4 := hide (hPk.out W3 W4 P3.out s4.x); have za4 : World.cell? W4 ⟨G, 0, none⟩ = some (.pointer (some ⟨g, 0, none⟩)) := P4.out.1.cell 0; have zb4 : World.cell? W4 ⟨N3, 0, none⟩ = some (.pointer (some ⟨g3, 0, none⟩)) := P4.out.2.1.cell 0; have zc4 : World.cell? W4 ⟨N8, 0, none⟩ = some (.pointer (some ⟨g8, 0, none⟩)) := P4.out.2.2.1.cell 0; have zd4 : World.cell? W4 ⟨Bx, 0, none⟩ = some (.int .i64 (t1 : Int)) := P4.out.2.2.2.2.2.cell 0; have ze4 : World.cell? W4 ⟨Bx, 1, none⟩ = some (.int .i64 (t2 : Int)) := P4.out.2.2.2.2.2.cell 1; have hb2 := hide (hbb2.out W4 j4); have b4 := hide b4; have s4 := hide s4; clear j4)
        | (refine ⟨trivial, ?_⟩; gi_at_call 70; (with_reducible refine (CallsIn.inRound l (callsIn_wide.2 (hb2.out))).mono ?_); rintro e W5 ⟨rfl, j5, b5, s5⟩; have P5 := hide (hPk.out W4 W5 P4.out s5.x); have j5 := hide j5; have b5 := hide b5; have s5 := hide s5))
      have sall := ((s2.out.trans s3.out).trans s4.out).trans s5.out
      exact ⟨sall.o.from _, sall.h gb B hgb.out hBW.out, ⟨⟨by rw [hsnoc.out, hLL.out, htok.out, ← List.append_assoc, ← List.append_assoc, ← List.append_assoc]; exact j5.out, P5.out.1, P5.out.2.1, P5.out.2.2.1, P5.out.2.2.2.1, P5.out.2.2.2.2.1⟩, ((((i7.out.trans b2.out).trans b3.out).trans b4.out).trans b5.out)⟩⟩
  case done =>
    rintro D xs W hlw hS ⟨⟨i1, i2, i3, i4, i5, i6⟩, i7⟩ hK
    rw [hS] at i1
    have hw1 := hide (show Calls Try.prog 74 #[.pointer (some ⟨g3, 0, none⟩), .pointer (some ⟨g, 0, none⟩), .int .i64 256] W fun e w' => e = .returned (.int .i64 0) ∧ WrAt B w' g (l0 ++ [true, true, false] ++ (Def.parse bs).flatMap Def.tokB ++ Def.litB 256) ∧ Below B W w' ∧ Stp g W w' from knear g3 g w2.heap.size B (l0 ++ [true, true, false] ++ (Def.parse bs).flatMap Def.tokB) 256 W i5 i1 (by
      have h1 := Def.toksB_len (Def.parse bs)
      have h2 := Def.toks_len bs bs.length 0
      rw [show Def.toks bs bs.length 0 = Def.parse bs from rfl] at h2
      simp only [List.length_append, List.length_cons, List.length_nil]
      omega) (by omega))
    have zb1 : World.cell? W ⟨N3, 0, none⟩ = some (.pointer (some ⟨g3, 0, none⟩)) := i3.cell 0
    have za1 : World.cell? W ⟨G, 0, none⟩ = some (.pointer (some ⟨g, 0, none⟩)) := i2.cell 0
    replace i7 := hide i7
    replace hK := hide hK
    have hlD0 := hide hlw
    clear i1 i2 i3 i4 i5 i6 hS hlw
    go_wp2_with (go_at_call 74; go_loud ((with_reducible refine (hw1.out).mono ?_); rintro e W2 ⟨rfl, j2, b2, s2⟩; have hK2 := hide (s2.o.2 _ _ hK.out rfl); have j2 := hide j2; have b2 := hide b2; clear s2))
    refine ⟨by simp, .inl ⟨_, _, rfl, run_takeDeferred hK2.out, ?_⟩⟩
    have hg2 := grownBy_putObj' W2 D (.deferred none)
    have hD2 : W2.heap[D]? = some (.deferred (some [])) := hK2.out
    have hlD : D < W2.heap.size := (Array.getElem?_eq_some_iff.1 hD2).1
    have hcalm : Calm W2 (W2.putObj D (.deferred none)) := calm_of hg2 (fun r e => by cases e; exact ⟨_, hD2, rfl⟩)
    have hbD := belowK_b (n₀ := B) (w := w12) hB12.out W2 D _ (.deferred none) hlD0.out hD2 rfl rfl
    have hwr := j2.out.calm hcalm
    rw [show l0 ++ [true, true, false] ++ (Def.parse bs).flatMap Def.tokB ++ Def.litB 256 = l0 ++ Def.fixB bs from by simp only [Def.fixB, List.append_assoc]] at hwr
    first
    | exact ⟨_, results_none rfl _ _ _, ⟨_, rfl⟩, hwr, (i7.out.trans b2.out).trans hbD⟩
    | exact ⟨_, results_tmp rfl _ _ _, ⟨_, rfl⟩, hwr, (i7.out.trans b2.out).trans hbD⟩
  case stop =>
    rintro D c' pre W _ _ h _
    exact h.elim

end Go.Proofs.Ythplpoijkebjbaa
