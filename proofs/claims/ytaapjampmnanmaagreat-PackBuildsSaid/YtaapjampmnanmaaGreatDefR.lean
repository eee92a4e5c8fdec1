/- A slice of pairs of integers that a call makes for itself: append of one, within and without a fence. There is no condition. Layer 5 (deflate): Parse, by the program and by the document. The conditions: where the bytes lie, and how many they are. Layer 5 (deflate), the document's: the bits of a text of digits. The condition: how long the text is. Layer 5 (deflate), the document's Data: the stored form. The conditions: where the bytes lie, and how many they are. Layer 5 (deflate), the document's Data: the form by fixed codes. The conditions: where the bytes lie, and how many they are. The law DeflateData: a walk. The condition: a slice's length is not above its capacity. -/
import Derived.Test.YtaapjampmnanmaaGreatMem
import Derived.OwnWalkIn
import Derived.Test.YtaapjampmnanmaaGreatDefX
import Derived.Test.YtaapjampmnanmaaGreatHuffX
import Derived.Test.YtaapjampmnanmaaGreatBitX
namespace Go.Proofs.YtaapjampmnanmaaGreat
open Go.RowKit
set_option linter.unusedVariables false

/-- The cells of pairs. -/
def pv2 (t : Nat × Nat) : List Value := [.int .i64 (t.1 : Int), .int .i64 (t.2 : Int)]
def flat2 (ts : List (Nat × Nat)) : List Value := ts.flatMap pv2
theorem flat2_at (ts : List (Nat × Nat)) : ∀ j (h : j < ts.length), (flat2 ts)[j * 2]? = some (.int .i64 (ts[j].1 : Int)) ∧ (flat2 ts)[j * 2 + 1]? = some (.int .i64 (ts[j].2 : Int)) := by
  induction ts with
  | nil => intro j h; simp at h
  | cons t ts ih =>
    intro j h
    rw [show flat2 (t :: ts) = pv2 t ++ flat2 ts from List.flatMap_cons]
    cases j with
    | zero => exact ⟨rfl, rfl⟩
    | succ j =>
      obtain ⟨h1, h2⟩ := ih j (by simpa using h)
      have hl : (pv2 t).length = 2 := rfl
      exact ⟨by rw [List.getElem?_append_right (by rw [hl]; omega), hl, show (j + 1) * 2 - 2 = j * 2 by omega, h1]; rfl, by rw [List.getElem?_append_right (by rw [hl]; omega), hl, show (j + 1) * 2 + 1 - 2 = j * 2 + 1 by omega, h2]; rfl⟩
theorem flat2_snoc (ts : List (Nat × Nat)) (t : Nat × Nat) : flat2 (ts ++ [t]) = flat2 ts ++ pv2 t := by
  rw [flat2, List.flatMap_append]
  simp [flat2]

/-- What the program's tables say of a slice type t of pairs of type e. -/
structure Elem2 (P : Program) (t e : TypeId) : Prop where
  under : P.underlying t = some (.slice e)
  info : (P.info? e).map (fun i => (i.zero, i.size, i.bytes)) = some (some (.agg #[.int .i64 0, .int .i64 0]), 2, 16)

/-- The slice value '.slice A n c' is the call's own and holds these pairs. -/
def OwM (w : World) (base : Nat) (e : TypeId) (A : Option Addr) (n c : Nat) (ts : List (Nat × Nat)) : Prop := ts.length = n ∧ w.ownsRow base e 2 (.slice A n c) n (flat2 ts)
section
variable {w w' : World} {base n c : Nat} {e : TypeId} {A : Option Addr} {ts : List (Nat × Nat)}
theorem OwM.nil (w : World) (base : Nat) (e : TypeId) : OwM w base e none 0 0 [] := ⟨rfl, World.ownsRow_nil w base e 2⟩
theorem OwM.form (h : OwM w base e A n c ts) : (A = none ∧ n = 0 ∧ c = 0) ∨ ∃ g, A = some ⟨g, 0, none⟩ ∧ base ≤ g ∧ g < w.heap.size := by
  rcases h.2.2 with ⟨hv, h0⟩ | ⟨g, cap, cur, hv, hg, hh, _⟩
  · injection hv with h1 h2 h3
    exact .inl ⟨h1, h0, h3⟩
  · injection hv with h1 h2 h3
    exact .inr ⟨g, h1, hg, lt_of_block hh⟩
theorem OwM.pos (h : OwM w base e A n c ts) (hn : 0 < n) : ∃ g, A = some ⟨g, 0, none⟩ ∧ base ≤ g ∧ g < w.heap.size := by
  rcases h.form with ⟨_, h0, _⟩ | h
  · omega
  · exact h
theorem OwM.blk_lt (h : OwM w base e A n c ts) : ∀ g, blk A = some g → base ≤ g ∧ g < w.heap.size := by
  intro g hg
  rcases h.form with ⟨rfl, _⟩ | ⟨g', rfl, h1, h2⟩
  · simp [blk] at hg
  · simp [blk] at hg
    subst hg
    exact ⟨h1, h2⟩
theorem OwM.row (h : OwM w base e A n c ts) {g : Nat} (hg : blk A = some g) : ∃ cur, w.heap[g]? = some (.cells cur e (0, 0)) := by
  rcases h.2.2 with ⟨hv, _⟩ | ⟨g', cap, cur, hv, _, hh, _⟩
  · injection hv with h1
    rw [h1] at hg
    simp [blk] at hg
  · injection hv with h1
    rw [h1] at hg
    have : g' = g := by simpa [blk] using hg
    subst this
    exact ⟨cur, hh⟩
theorem OwM.chg {R : Nat → Prop} (h : OwM w base e A n c ts) (hk : Chg R w w') (hn : ∀ g, blk A = some g → ¬ R g) : OwM w' base e A n c ts := by
  refine ⟨h.1, h.2.1, ?_⟩
  rcases h.2.2 with h2 | ⟨g, cap, cur, hv, hb, hh, r⟩
  · exact .inl h2
  · refine .inr ⟨g, cap, cur, hv, hb, ?_, r⟩
    injection hv with h1
    rw [hk.block g (lt_of_block hh) (hn g (by rw [h1]; rfl))]
    exact hh
theorem OwM.below (h : OwM w base e A n c ts) (hk : Below w.heap.size w w') : OwM w' base e A n c ts :=
  h.chg (R := fun _ => False) ⟨hk.os, hk.tape, hk.output, hk.size, fun k hl _ => hk.block k hl⟩ (fun _ _ h => h)
theorem OwM.ne (h : OwM w base e A n c ts) {g : Nat} {t : TypeId} {cs : Array Value} (hk : Blk w g t cs) (hne : e ≠ t) : blk A ≠ some g := by
  intro hg
  obtain ⟨cur, hh⟩ := h.row hg
  exact Blk.same (w := w) hh hk hne rfl
theorem OwM.cells (h : OwM w base e A n c ts) (j : Nat) (hj : j < n) : ∃ g, A = some ⟨g, 0, none⟩ ∧ w.cell? ⟨g, j * 2, none⟩ = some (.int .i64 ((ts[j]'(by rw [h.1]; exact hj)).1 : Int)) ∧ w.cell? ⟨g, j * 2 + 1, none⟩ = some (.int .i64 ((ts[j]'(by rw [h.1]; exact hj)).2 : Int)) := by
  obtain ⟨g, rfl, _, _⟩ := h.pos (by omega)
  obtain ⟨h1, h2⟩ := flat2_at ts j (by rw [h.1]; exact hj)
  refine ⟨g, rfl, ?_, ?_⟩
  · have := h.2.cells (g := g) rfl _ _ h1
    rwa [Addr.add_mid, Nat.zero_add] at this
  · have := h.2.cells (g := g) rfl _ _ h2
    rwa [Addr.add_mid, Nat.zero_add] at this
end
section
variable {P : Program}
/-- append of one pair, laid into a block of its own first: what runs. -/
theorem run_append_pair (w : World) {t e : TypeId} (E : Elem2 P t e) (ty : TypeId) {base n c : Nat} {A : Option Addr} {ts : List (Nat × Nat)} (h : OwM w base e A n c ts) (x1 x2 : Nat) (te : TypeId) (fr : Nat × Nat) (h63 : n ≤ 1048576) (hbase : base ≤ w.heap.size) :
    ∃ A' c' w', (Builtin.append_ #[t, t] ty #[.slice A n c, .slice (some ⟨w.heap.size, 0, none⟩) 1 1]).run P (w.alloc (.cells #[.int .i64 (x1 : Int), .int .i64 (x2 : Int)] te fr)) = .ok (.slice A' (n + 1) c') w' ∧ OwM w' base e A' (n + 1) c' (ts ++ [(x1, x2)]) ∧ Chg (fun k => blk A = some k) w w' ∧
      (blk A' = blk A ∨ ∃ k, w.heap.size ≤ k ∧ blk A' = some k) := by
  obtain ⟨i, hi, hz, hs, hb⟩ := info_parts E.info
  obtain ⟨v', w', hrun, h2, h3, _, h5⟩ := run_append_own_at (P := P) (w.alloc (.cells #[.int .i64 (x1 : Int), .int .i64 (x2 : Int)] te fr)) base t ty e i _ 2 16 E.under hi hz hs hb rfl (by omega) (.slice A n c) n (flat2 ts) (h.2.alloc _) ⟨w.heap.size, 0, none⟩ 1 1 (pv2 (x1, x2)) rfl
    (by
      intro j u hu
      rw [Addr.add_mid, cell_of_row _ _ _ #[.int .i64 (x1 : Int), .int .i64 (x2 : Int)] te fr (heap_alloc_new w _)]
      rw [← hu, Nat.zero_add]
      simp [pv2])
    (by
      intro u hu
      simp [pv2] at hu
      rcases hu with rfl | rfl <;> rfl) (by simp only [maxLen]; omega) (by omega) (by simp; omega)
  rw [show (Value.slice A n c).ownBlock = blk A from ownBlock_slice] at h3 h5
  have hc : Chg (fun k => blk A = some k) w w' := ((Chg.refl _ w).alloc _).trans (chg_of_grown h3) (fun _ _ h => h)
  rcases h2.2 with ⟨hv, h0⟩ | ⟨g, cap, cur, hv, r⟩
  · omega
  · rw [hv] at hrun h2 h5
    refine ⟨_, cap, w', hrun, ⟨by rw [List.length_append, h.1]; rfl, by rw [flat2_snoc]; exact h2⟩, hc, ?_⟩
    rw [ownBlock_slice] at h5
    rcases h5 with h5 | h5
    · exact .inl h5
    · exact .inr ⟨_, by simp, h5⟩
theorem wpList_append_pair {ops : Array Oper} {rest : List Oper} {o : Oper} {a : Act} {Q : Exit → Act → World → Prop} (w : World) (hgd : o.guard = none) (s y : Operand) {t e : TypeId}
    (ho : o.op = .call { callee := .builtin .append, args := #[s, y], argTypes := #[t, t] }) (E : Elem2 P t e)
    {base n c : Nat} {A : Option Addr} {ts : List (Nat × Nat)} (hs : a.eval s = .slice A n c) (h : OwM w base e A n c ts) (x1 x2 : Nat) (te : TypeId) (fr : Nat × Nat) (hx : a.eval y = .slice (some ⟨w.heap.size, 0, none⟩) 1 1)
    (h63 : n ≤ 1048576) (hbase : base ≤ w.heap.size)
    (hk : ∀ A' c' w', OwM w' base e A' (n + 1) c' (ts ++ [(x1, x2)]) → Chg (fun k => blk A = some k) w w' → (blk A' = blk A ∨ ∃ k, w.heap.size ≤ k ∧ blk A' = some k) → wpList P ops Q rest (a.put o.dst (.slice A' (n + 1) c')) w') :
    wpList P ops Q (o :: rest) a (w.alloc (.cells #[.int .i64 (x1 : Int), .int .i64 (x2 : Int)] te fr)) :=
  wpList_plain hgd fun _ hK => by
    obtain ⟨A', c', w', hrun, h2, h3, h4⟩ := run_append_pair w E o.type h x1 x2 te fr h63 hbase
    unfold Oper.wp execOp
    simp only [ho, resolve, invoke, builtin, Sem.run_bind, Sem.run_pure, Result.andThen_ok, List.map_toArray, List.map_cons, List.map_nil, hs, hx, hrun]
    exact hK _ _ (hk A' c' w' h2 h3 h4)
end

end Go.Proofs.YtaapjampmnanmaaGreat

namespace Go.Proofs.YtaapjampmnanmaaGreat
open Go.RowKit Go.Shelf
set_option linter.unusedVariables false

attribute [local go_sem] Oper.semAt_some

theorem elem_rmatch : Elem2 Tryz.prog 199 202 := ⟨Tryz.underlying199, by kernel_rfl⟩
theorem OwM.calm {W W' : World} {base n c : Nat} {e : TypeId} {A : Option Addr} {ts : List (Nat × Nat)} (h : OwM W base e A n c ts) (hc : Calm W W') : OwM W' base e A n c ts := by
  refine h.chg hc (fun g hg => ?_)
  obtain ⟨cur, hh⟩ := h.row hg
  exact calm_cells hh
set_option maxRecDepth 100000 in
set_option maxHeartbeats 8000000 in
theorem rparse_any (A : Option Addr) (c : Nat) (bs : List UInt8) (w : World) (hr : Rd w w.heap.size A bs.length (bs.map bv)) (hl : bs.length ≤ 1048576) :
    Calls Tryz.prog 138 #[.slice A bs.length c] w fun e w' => ∃ A' c', e = .returned (.slice A' (Def.parse bs).length c') ∧ OwM w' w.heap.size 202 A' (Def.parse bs).length c' (Def.parse bs) ∧ Below w.heap.size w w' := by
  have hr := hide hr
  obtain ⟨L, hL⟩ : ∃ L, bs.length = L := ⟨_, rfl⟩
  rw [hL] at hr hl ⊢
  have hLI : (L : Int) ≤ 1048576 := by omega
  go_enter Tryz.func138, Tryz.ntmps138
  go_wp2
  go_loopw [3, 4] (fun s3 s4 wr => ∃ (p : Nat) (ts : List (Nat × Nat)) (A1 : Option Addr) (N c1 : Nat), p ≤ L ∧ s4 = .int .i64 (p : Int) ∧ s3 = .slice A1 N c1 ∧ N ≤ p ∧ Hid (ts.length = N) ∧ Hid (Def.parse bs = ts ++ Def.rest bs p) ∧ Hid (OwM wr w.heap.size 202 A1 N c1 ts) ∧ Hid (Below w.heap.size w wr)) (fun _ s4 _ => L - (intOf s4).toNat)
  case atStart => exact ⟨0, [], none, 0, 0, Nat.zero_le _, rfl, rfl, Nat.le_refl _, hide rfl, hide rfl, hide (OwM.nil _ _ _), hide (Below.refl _ _)⟩
  case round =>
    obtain ⟨p, ts, A1, N, c1, hp, rfl, rfl, hNp, hts, hpar, ho, hb⟩ := hrel
    by_cases hlt : p < L
    · have hpI : (p : Int) < (L : Int) := by omega
      have hp0 : (0 : Int) ≤ (p : Int) := by omega
      have hrw := hr.out.below hb.out
      have hf := hide (rfind_any A c bs (p : Int) wr w.heap.size (by rw [hL]; exact hrw) hb.out.size (by omega))
      rw [show Def.findV bs (p : Int) = Def.mt bs p from by unfold Def.findV; rw [if_pos (by omega)]; rfl, hL] at hf
      obtain ⟨hm1, hm2, hm3, hm4⟩ := Def.mt_len bs p (by omega)
      have htok := hide (show Def.tok bs p = if (Def.mt bs p).1 = 0 then (0, (bs.getD p 0).toNat) else Def.mt bs p from rfl)
      have hstep := hide (Def.rest_step bs p (by omega))
      obtain ⟨b, o, hA, hbB, hcp⟩ := hrw.byte (j := p) hlt
      have hgx : bs.getD p 0 = bs[p]'(by omega) := bsAt bs p (by omega)
      obtain ⟨X, hX⟩ : ∃ X : Nat, (bs.getD p 0).toNat = X := ⟨_, rfl⟩
      rw [← hgx, hX] at hcp
      have hX8 : X ≤ 255 := by rw [← hX]; exact toNat_le _
      rw [hX] at htok
      subst hA
      obtain ⟨l1, hl1⟩ : ∃ l1, (Def.mt bs p).1 = l1 := ⟨_, rfl⟩
      obtain ⟨d1, hd1⟩ : ∃ d1, (Def.mt bs p).2 = d1 := ⟨_, rfl⟩
      have hmt : Def.mt bs p = (l1, d1) := by rw [← hl1, ← hd1]
      rw [hmt] at htok hf
      rw [hl1, hL] at hm1
      rw [hl1] at hm2
      simp only at hf
      have hN63 := hide (show N ≤ 1048576 from by omega)
      replace hts := hide hts.out
      clear hX hgx hl1 hd1 hmt hm3 hm4 hrw hbB
      by_cases hz : l1 = 0
      · subst hz
        replace htok := hide (show Def.tok bs p = (0, X) from by rw [htok.out, if_pos rfl])
        have hpar2 := hide (show Def.parse bs = (ts ++ [(0, X)]) ++ Def.rest bs (p + 1) from by rw [hpar.out, hstep.out, htok.out, List.append_assoc]; rfl)
        have hts2 := hide (show (ts ++ [(0, X)]).length = N + 1 from by rw [List.length_append, hts.out]; rfl)
        have hp1 : IntKind.i64.wrap ((p : Int) + 1) = (p : Int) + 1 := by rw [IntKind.wrap_i64]; omega
        have hX64 : IntKind.i64.wrap (X : Int) = (X : Int) := by rw [IntKind.wrap_i64]; omega
        rw [show ((0 : Nat) : Int) = 0 from rfl] at hf
        clear hm1 hm2 htok hstep hpar hts
        go_wp2_with fail
        refine hf.out.mono ?_
        rintro e w2 ⟨rfl, hb2⟩
        obtain ⟨S, hS⟩ : ∃ S, w2.heap.size = S := ⟨_, rfl⟩
        obtain ⟨w3, hw3⟩ : ∃ W, w2.alloc (.cells #[.int .i64 0, .int .i64 0] 202) = W := ⟨_, rfl⟩
        have k3 : Blk w3 S 202 #[.int .i64 0, .int .i64 0] := by rw [← hw3, ← hS]; exact Blk.new w2 _ _
        have x30 : w3.cell? ⟨S, 0, none⟩ = some (.int .i64 0) := k3.cell 0
        have x31 : w3.cell? ⟨S, 1, none⟩ = some (.int .i64 0) := k3.cell 1
        have f30 : w3.frozen? ⟨S, 0, none⟩ = false := k3.free 0
        have f31 : w3.frozen? ⟨S, 1, none⟩ = false := k3.free 1
        obtain ⟨w4, hw4⟩ : ∃ W, (w3.setCell ⟨S, 0, none⟩ (.int .i64 0)).setCell ⟨S, 1, none⟩ (.int .i64 (d1 : Int)) = W := ⟨_, rfl⟩
        have k4 : Blk w4 S 202 #[.int .i64 0, .int .i64 (d1 : Int)] := by rw [← hw4]; exact (k3.set 0 _).set 1 _
        have b24 : Below w2.heap.size w2 w4 := by rw [← hw4, ← hw3]; exact (((Below.refl _ w2).alloc (Nat.le_refl _) _).setCell (by simp; omega) _).setCell (by simp; omega) _
        have x40 : w4.cell? ⟨S, 0, none⟩ = some (.int .i64 0) := k4.cell 0
        have x41 : w4.cell? ⟨S, 1, none⟩ = some (.int .i64 (d1 : Int)) := k4.cell 1
        have b4 := hb2.trans (b24.mono hb2.size)
        have hcb : w4.cell? ⟨b, o + p, none⟩ = some (.int .u8 (X : Int)) := (b4.cell (p := ⟨b, o + p, none⟩) (World.block_lt_of_cell? wr _ hcp)).trans hcp
        have ho4 := hide (ho.out.below b4)
        have hbb4 := hide (hb.out.trans (b4.mono hb.out.size))
        have k4 := hide k4
        clear hf k3 b24 b4 hb2
        go_wp2_with (at_builtin; refine wpList_append_pair w4 rfl (.tmp 16) (.tmp 23) rfl elem_rmatch rfl ho4.out 0 X 202 _ rfl hN63.out hbb4.out.size ?_; intro A5 c5 w5 ho5 hg5 _; have hb5 := hide (hbb4.out.trans (hg5.to_below (B := w.heap.size) hbb4.out.size (fun i hi => (ho4.out.blk_lt i hi).1))); have ho5 := hide ho5; clear hg5)
        go_roundw
        case rel => exact ⟨p + 1, _, A5, N + 1, c5, by omega, by go_num, rfl, by omega, hts2, hpar2, ho5, hb5⟩
        case measure => simp [intOf] <;> omega
      · replace htok := hide (show Def.tok bs p = (l1, d1) from by rw [htok.out, if_neg hz])
        have hpar2 := hide (show Def.parse bs = (ts ++ [(l1, d1)]) ++ Def.rest bs (p + l1) from by rw [hpar.out, hstep.out, htok.out, List.append_assoc, show Def.stp (l1, d1) = l1 from if_neg hz]; rfl)
        have hts2 := hide (show (ts ++ [(l1, d1)]).length = N + 1 from by rw [List.length_append, hts.out]; rfl)
        have hp1 : IntKind.i64.wrap ((p : Int) + (l1 : Int)) = (p : Int) + (l1 : Int) := by rw [IntKind.wrap_i64]; omega
        have hlz : ((l1 : Int) == 0) = false := by simp; omega
        have hl1 : 1 ≤ l1 := by omega
        have hm1I : (p : Int) + (l1 : Int) ≤ (L : Int) := by omega
        clear hm2 htok hstep hpar hts hz
        go_wp2_with fail
        refine hf.out.mono ?_
        rintro e w2 ⟨rfl, hb2⟩
        obtain ⟨S, hS⟩ : ∃ S, w2.heap.size = S := ⟨_, rfl⟩
        obtain ⟨w3, hw3⟩ : ∃ W, w2.alloc (.cells #[.int .i64 0, .int .i64 0] 202) = W := ⟨_, rfl⟩
        have k3 : Blk w3 S 202 #[.int .i64 0, .int .i64 0] := by rw [← hw3, ← hS]; exact Blk.new w2 _ _
        have x30 : w3.cell? ⟨S, 0, none⟩ = some (.int .i64 0) := k3.cell 0
        have x31 : w3.cell? ⟨S, 1, none⟩ = some (.int .i64 0) := k3.cell 1
        have f30 : w3.frozen? ⟨S, 0, none⟩ = false := k3.free 0
        have f31 : w3.frozen? ⟨S, 1, none⟩ = false := k3.free 1
        obtain ⟨w4, hw4⟩ : ∃ W, (w3.setCell ⟨S, 0, none⟩ (.int .i64 (l1 : Int))).setCell ⟨S, 1, none⟩ (.int .i64 (d1 : Int)) = W := ⟨_, rfl⟩
        have k4 : Blk w4 S 202 #[.int .i64 (l1 : Int), .int .i64 (d1 : Int)] := by rw [← hw4]; exact (k3.set 0 _).set 1 _
        have b24 : Below w2.heap.size w2 w4 := by rw [← hw4, ← hw3]; exact (((Below.refl _ w2).alloc (Nat.le_refl _) _).setCell (by simp; omega) _).setCell (by simp; omega) _
        have x40 : w4.cell? ⟨S, 0, none⟩ = some (.int .i64 (l1 : Int)) := k4.cell 0
        have x41 : w4.cell? ⟨S, 1, none⟩ = some (.int .i64 (d1 : Int)) := k4.cell 1
        have b4 := hb2.trans (b24.mono hb2.size)
        have hSA := hide (show blk A1 ≠ some S from fun hg => by have := (ho.out.blk_lt S hg).2; have := hb2.size; omega)
        have ho4 := hide (ho.out.below b4)
        have hbb4 := hide (hb.out.trans (b4.mono hb.out.size))
        have k4 := hide k4
        clear hf k3 b24 b4 hb2
        go_wp2_with (at_builtin; refine wpList_append_pair w4 rfl (.tmp 27) (.tmp 29) rfl elem_rmatch rfl ho4.out l1 d1 202 _ rfl hN63.out hbb4.out.size ?_; intro A5 c5 w5 ho5 hg5 _; have hb5 := hide (hbb4.out.trans (hg5.to_below (B := w.heap.size) hbb4.out.size (fun i hi => (ho4.out.blk_lt i hi).1))); have ho5 := hide ho5; have x50 : w5.cell? ⟨S, 0, none⟩ = some (.int .i64 (l1 : Int)) := (k4.out.chg hg5 hSA.out).cell 0; clear hg5)
        go_roundw
        case rel => exact ⟨p + l1, _, A5, N + 1, c5, by omega, by go_num, rfl, by omega, hts2, hpar2, ho5, hb5⟩
        case measure => simp [intOf] <;> omega
    · obtain rfl : p = L := by omega
      have hend := hide (show Def.parse bs = ts from by rw [hpar.out, Def.rest_end bs p (by omega), List.append_nil])
      go_wp2
      refine bodyPost_ret (v := .slice A1 N c1) (by simp [results, Tryz.results138, go_sem]) rfl ?_
      exact ⟨A1, c1, by rw [hend.out, hts.out], by rw [hend.out, hts.out]; exact ho.out, hb.out⟩

end Go.Proofs.YtaapjampmnanmaaGreat

namespace Go.Proofs.YtaapjampmnanmaaGreat
open Go.RowKit Go.Shelf
set_option linter.unusedVariables false

attribute [local go_sem] Oper.semAt_some

theorem Huf.txt_dig5 (ls : List Nat) (i : Nat) (hi : i < ls.length) (h1 : 1 ≤ ls[i]) (h15 : ls[i] ≤ 15) : Huf.txt ls 16 0 i = Huf.dig (Huf.bits ls 16 i) ls[i] := by
  have hg : ls.getD i 0 = ls[i] := by rw [List.getD_eq_getElem?_getD, List.getElem?_eq_getElem hi]; rfl
  unfold Huf.txt Huf.bits
  rw [hg, if_pos ⟨h1, .inl (by omega)⟩, if_pos ⟨h1, by omega⟩]
theorem Huf.dig_word (y x : Nat) : (Huf.dig y x).map (fun b => b == 49) = Huf.word y x := by
  refine List.ext_getElem? fun j => ?_
  by_cases h : j < x
  · rw [Huf.word_get y x j h, List.getElem?_map, List.getElem?_eq_getElem (by rw [Huf.dig_length]; exact h), Huf.dig_get y x j h]
    simp only [Option.map_some, Option.some.injEq]
    split <;> simp_all
  · rw [List.getElem?_eq_none (by rw [List.length_map, Huf.dig_length]; omega), List.getElem?_eq_none (by rw [Huf.word_length]; omega)]

set_option maxHeartbeats 1000000 in
theorem dcode_any (bs : List UInt8) (n : Nat) (hn : bs.length = n) (w : World) (h : n ≤ 1000) :
    Calls Tryz.prog 139 #[sv bs] w fun e w' => ∃ A c, e = .returned (.slice A n c) ∧ Ow w' w.heap.size 4 A n c ((bs.map fun b => b == 49).map Value.bool) ∧ Below w.heap.size w w' := by
  unfold sv
  have hsz : (ByteArray.mk bs.toArray).size = n := by rw [← hn]; rfl
  go_enter Tryz.func139, Tryz.ntmps139
  go_wp2
  go_loopw [3, 4] (fun s i wr => ∃ k : Nat, ∃ A c, k ≤ n ∧ i = .int .i64 k ∧ s = .slice A k c ∧ Hid (Ow wr w.heap.size 4 A k c (((bs.take k).map fun b => b == 49).map Value.bool)) ∧ Hid (Below w.heap.size w wr)) (fun _ i _ => n - (intOf i).toNat)
  case atStart => exact ⟨0, none, 0, by omega, rfl, rfl, Ow.nil _ _ _, Below.refl _ _⟩
  case round =>
    obtain ⟨k, A, c, hk, rfl, rfl, ho, hb⟩ := hrel
    by_cases hlt : k < n
    · have hs := hide (take_snoc bs k (by omega))
      obtain ⟨x, hx⟩ : ∃ x, bs[k] = x := ⟨_, rfl⟩
      have hks : k < (ByteArray.mk bs.toArray).size := by rw [hsz]; exact hlt
      have hat : (ByteArray.mk bs.toArray)[k]'hks = x := by rw [← hx]; rfl
      rw [hx] at hs
      obtain ⟨tb, htb⟩ : ∃ tb, (x == 49) = tb := ⟨_, rfl⟩
      have htI : ((((ByteArray.mk bs.toArray)[k]'hks).toNat : Int) == 49) = tb := by rw [hat, ← htb]; rw [Bool.eq_iff_iff, beq_iff_eq, beq_iff_eq, ← UInt8.toNat_inj]; simp; omega
      have hs2 : Hid (((bs.take (k + 1)).map fun b => b == 49) = ((bs.take k).map fun b => b == 49) ++ [tb]) := hide (by rw [hs.out, List.map_append, ← htb]; rfl)
      clear hat
      go_wp2_with (at_builtin; refine wpList_append_one wr rfl (.tmp 11) (.tmp 16) rfl elem_bool rfl ho.out (.bool tb) 4 _ rfl rfl (by simp only [maxLen]; omega) (by omega) hb.out.size ?_; intro A3 c3 w3 ho3 hg3 hn3; have hb3 := hide (hb.out.trans (hg3.to_below (B := w.heap.size) hb.out.size (fun i hi => (ho.out.blk_lt i hi).1))); have ho3 := hide ho3; clear hg3 hn3)
      go_roundw
      case rel => exact ⟨k + 1, A3, c3, by omega, by go_num, rfl, (by rw [hs2.out, List.map_append]; exact ho3), hb3⟩
      case measure => simp [intOf] <;> omega
    · obtain rfl : k = n := by omega
      rw [show bs.take k = bs from List.take_of_length_le (by omega)] at ho
      go_wp2
      go_ret
      exact ⟨_, _, rfl, ho.out, hb.out⟩

end Go.Proofs.YtaapjampmnanmaaGreat

namespace Go.Proofs.YtaapjampmnanmaaGreat
open Go.RowKit Go.Shelf
set_option linter.unusedVariables false

attribute [local go_sem] Oper.semAt_some

end Go.Proofs.YtaapjampmnanmaaGreat

namespace Go.Proofs.YtaapjampmnanmaaGreat
open Go.RowKit Go.Shelf
set_option linter.unusedVariables false

attribute [local go_sem] Oper.semAt_some

theorem rsymN (n : Nat) (w : World) (h1 : 3 ≤ n) (h2 : n ≤ 258) : Calls Tryz.prog 140 #[.int .i64 (n : Int)] w fun e w' => e = .returned (.tuple #[.int .i64 ((257 + Def.top Def.lenB n 29 : Nat) : Int), .int .i64 ((n - Def.lenB (Def.top Def.lenB n 29) : Nat) : Int), .int .i64 ((Def.lenX (Def.top Def.lenB n 29) : Nat) : Int)]) ∧ w = w' := by
  have h := rsym_any (n : Int) w
  have hs := (Def.top_spec Def.lenB n 29 (by rw [show Def.lenB 0 = 3 from by decide]; omega) (by decide)).2.1
  rw [show Def.symV (n : Int) = (((257 + Def.top Def.lenB n 29 : Nat) : Int), ((n - Def.lenB (Def.top Def.lenB n 29) : Nat) : Int), ((Def.lenX (Def.top Def.lenB n 29) : Nat) : Int)) from by
    unfold Def.symV
    rw [if_pos (by omega), Int.toNat_natCast, Int.ofNat_sub hs, Int.natCast_add]
    rfl] at h
  exact h
theorem rfarN (n : Nat) (w : World) (h1 : 1 ≤ n) (h2 : n ≤ 32768) : Calls Tryz.prog 141 #[.int .i64 (n : Int)] w fun e w' => e = .returned (.tuple #[.int .i64 ((Def.top Def.dstB n 30 : Nat) : Int), .int .i64 ((n - Def.dstB (Def.top Def.dstB n 30) : Nat) : Int), .int .i64 ((Def.dstX (Def.top Def.dstB n 30) : Nat) : Int)]) ∧ w = w' := by
  have h := rfar_any (n : Int) w
  have hs := (Def.top_spec Def.dstB n 30 (by rw [show Def.dstB 0 = 1 from by decide]; omega) (by decide)).2.1
  rw [show Def.farV (n : Int) = (((Def.top Def.dstB n 30 : Nat) : Int), ((n - Def.dstB (Def.top Def.dstB n 30) : Nat) : Int), ((Def.dstX (Def.top Def.dstB n 30) : Nat) : Int)) from by
    unfold Def.farV
    rw [if_pos (by omega), Int.toNat_natCast, Int.ofNat_sub hs, Int.zero_add]] at h
  exact h
theorem Def.tok_good (bs : List UInt8) (p : Nat) (h : p ≤ bs.length) : Def.Good (Def.tok bs p) := by
  obtain ⟨h1, h2, h3, h4⟩ := Def.mt_len bs p h
  unfold Def.tok
  split
  · exact .inl ⟨rfl, toNat_le _⟩
  · rename_i hz
    rcases h4 with h4 | h4
    · exact absurd h4 hz
    · exact .inr ⟨h4.1, h2, h4.2, h3⟩
theorem Def.toks_good (bs : List UInt8) : ∀ (f p : Nat), ∀ t ∈ Def.toks bs f p, Def.Good t := by
  intro f
  induction f with
  | zero => intro p t h; simp [Def.toks] at h
  | succ f ih =>
    intro p t h
    rw [Def.toks] at h
    split at h
    · simp only [List.mem_cons] at h
      rcases h with rfl | h
      · exact Def.tok_good bs p (by omega)
      · exact ih _ _ h
    · cases h
theorem Def.parse_len (bs : List UInt8) : (Def.parse bs).length ≤ bs.length := Def.toks_len _ _ _
def Def.fillL (k j : Nat) : Nat := if j < k then fixL j else 0
def Def.fillD (k j : Nat) : Nat := if j < k then 5 else 0
theorem Def.fillL_up (k : Nat) : upd (Def.fillL k) k (fixL k) = Def.fillL (k + 1) := by
  funext j
  unfold upd Def.fillL
  split
  · rename_i h; subst h; rw [if_pos (by omega)]
  · by_cases h : j < k
    · rw [if_pos h, if_pos (by omega)]
    · rw [if_neg h, if_neg (by omega)]
theorem Def.fillD_up (k : Nat) : (List.range 32).map (fun j => jv (upd (Def.fillD k) (k % 32) 5 j)) = (List.range 32).map fun j => jv (Def.fillD (k + 1) j) := by
  refine List.map_congr_left fun j hj => ?_
  have hj : j < 32 := List.mem_range.1 hj
  unfold upd Def.fillD
  congr 1
  split
  · rw [if_pos (by omega)]
  · by_cases h : j < k
    · rw [if_pos h, if_pos (by omega)]
    · rw [if_neg h, if_neg (by omega)]
theorem Def.fillL_all : (List.range 288).map (fun j => jv (Def.fillL 288 j)) = (nz lsF).map iv := by
  rw [← lsF_rd]
  refine List.map_congr_left fun j hj => ?_
  rw [Def.fillL, if_pos (List.mem_range.1 hj)]
theorem Def.fillD_all : (List.range 32).map (fun j => jv (Def.fillD 288 j)) = (nz ls5).map iv := by rfl
theorem Def.fillL_no : (List.range 288).map (fun j => jv (Def.fillL 0 j)) = (List.range 288).map fun _ => jv 0 := List.map_congr_left fun j _ => by rw [Def.fillL, if_neg (by omega)]
theorem Def.fillD_no : (List.range 32).map (fun j => jv (Def.fillD 0 j)) = (List.range 32).map fun _ => jv 0 := List.map_congr_left fun j _ => by rw [Def.fillD, if_neg (by omega)]

/-- What the second part reads: the texts of both codes, and the matches. -/
def RTx (B G1 G2 B2 : Nat) (A2 : Option Addr) (T c2 : Nat) (ts : List (Nat × Nat)) (W : World) : Prop :=
  Ow W B 9 (some ⟨G1, 0, none⟩) 288 288 ((List.range 288).map fun i => sv (Huf.txt lsF 16 0 i)) ∧ Ow W B 9 (some ⟨G2, 0, none⟩) 32 32 ((List.range 32).map fun i => sv (Huf.txt ls5 16 0 i)) ∧ OwM W B2 202 A2 T c2 ts
theorem RTx.below {B G1 G2 B2 : Nat} {A2 : Option Addr} {T c2 : Nat} {ts : List (Nat × Nat)} {W W' : World} (h : RTx B G1 G2 B2 A2 T c2 ts W) (hb : Below W.heap.size W W') : RTx B G1 G2 B2 A2 T c2 ts W' := ⟨h.1.below hb, h.2.1.below hb, h.2.2.below hb⟩
theorem RTx.chg {B G1 G2 B2 : Nat} {A2 : Option Addr} {T c2 : Nat} {ts : List (Nat × Nat)} {W W' : World} {A : Option Addr} {n c : Nat} {xs : List Value} (h : RTx B G1 G2 B2 A2 T c2 ts W) (ho : Ow W B 4 A n c xs) (hc : Chg (fun k => blk A = some k) W W') : RTx B G1 G2 B2 A2 T c2 ts W' :=
  ⟨h.1.chg hc (h.1.ne_ow ho (by decide)), h.2.1.chg hc (h.2.1.ne_ow ho (by decide)), h.2.2.chg hc (fun g hg => by
    obtain ⟨cur, hh⟩ := h.2.2.row hg
    exact ho.ne (g := g) (t := 202) (cs := cur) hh (by decide))⟩
theorem RTx.near {B G1 G2 B2 : Nat} {A2 : Option Addr} {T c2 : Nat} {ts : List (Nat × Nat)} {W : World} (h : RTx B G1 G2 B2 A2 T c2 ts W) (i : Nat) (hi : i < 288) : W.cell? ⟨G1, i, none⟩ = some (sv (Huf.txt lsF 16 0 i)) := by
  have h1 := h.1.cells (g := G1) rfl i (sv (Huf.txt lsF 16 0 i)) (by simp [hi])
  rwa [Addr.add_mid, Nat.zero_add] at h1
theorem RTx.far {B G1 G2 B2 : Nat} {A2 : Option Addr} {T c2 : Nat} {ts : List (Nat × Nat)} {W : World} (h : RTx B G1 G2 B2 A2 T c2 ts W) (i : Nat) (hi : i < 32) : W.cell? ⟨G2, i, none⟩ = some (sv (Huf.txt ls5 16 0 i)) := by
  have h1 := h.2.1.cells (g := G2) rfl i (sv (Huf.txt ls5 16 0 i)) (by simp [hi])
  rwa [Addr.add_mid, Nat.zero_add] at h1
/-- The bits so far, and what the second part reads. -/
def RBt (B G1 G2 B2 : Nat) (A2 : Option Addr) (T c2 : Nat) (ts : List (Nat × Nat)) (w : World) (A : Option Addr) (n c : Nat) (l : List Bool) (W : World) : Prop :=
  Ow W B 4 A n c (l.map Value.bool) ∧ Below B w W ∧ RTx B G1 G2 B2 A2 T c2 ts W
theorem RBt.below {B G1 G2 B2 : Nat} {A2 : Option Addr} {T c2 : Nat} {ts : List (Nat × Nat)} {w W W' : World} {A : Option Addr} {n c : Nat} {l : List Bool} (h : RBt B G1 G2 B2 A2 T c2 ts w A n c l W) (hB : w.heap.size = B) (hb : Below W.heap.size W W') : RBt B G1 G2 B2 A2 T c2 ts w A n c l W' :=
  ⟨h.1.below hb, h.2.1.trans (hb.mono (by have := h.2.1.size; omega)), h.2.2.below hb⟩
theorem RBt.app {B G1 G2 B2 : Nat} {A2 : Option Addr} {T c2 : Nat} {ts : List (Nat × Nat)} {w W W' : World} {A A' : Option Addr} {n c m c' : Nat} {l x : List Bool} (h : RBt B G1 G2 B2 A2 T c2 ts w A n c l W) (hB : w.heap.size = B) (ho : Ow W' B 4 A' (n + m) c' (l.map Value.bool ++ x.map Value.bool)) (hc : Chg (fun k => blk A = some k) W W') : RBt B G1 G2 B2 A2 T c2 ts w A' (n + m) c' (l ++ x) W' :=
  ⟨by rw [List.map_append]; exact ho, h.2.1.trans (hc.to_below (by have := h.2.1.size; omega) (fun i hi => (h.1.blk_lt i hi).1)), h.2.2.chg h.1 hc⟩
theorem RBt.size {B G1 G2 B2 : Nat} {A2 : Option Addr} {T c2 : Nat} {ts : List (Nat × Nat)} {w W : World} {A : Option Addr} {n c : Nat} {l : List Bool} (h : RBt B G1 G2 B2 A2 T c2 ts w A n c l W) (hB : w.heap.size = B) : B ≤ W.heap.size := by
  have := h.2.1.size
  omega
theorem rlit (i : Nat) (hi : i < 288) (w : World) : Calls Tryz.prog 139 #[sv (Huf.txt lsF 16 0 i)] w fun e w' => ∃ A c, e = .returned (.slice A (Def.litB i).length c) ∧ Ow w' w.heap.size 4 A (Def.litB i).length c ((Def.litB i).map Value.bool) ∧ Below w.heap.size w w' := by
  have hl : i < lsF.length := by rw [lsF_len]; exact hi
  have hg := lsF_get i hl
  have h1 := fixL_le i
  have h2 := Huf.txt_dig5 lsF i hl (by rw [hg]; omega) (by rw [hg]; omega)
  rw [hg] at h2
  have h3 : (Huf.txt lsF 16 0 i).map (fun b => b == 49) = Def.litB i := by rw [h2, Huf.dig_word]; rfl
  have h4 : (Huf.txt lsF 16 0 i).length = (Def.litB i).length := by rw [← h3, List.length_map]
  have h5 := dcode_any (Huf.txt lsF 16 0 i) _ h4 w (by rw [Def.litB, word_len]; omega)
  rwa [h3] at h5
theorem rdst (i : Nat) (hi : i < 32) (w : World) : Calls Tryz.prog 139 #[sv (Huf.txt ls5 16 0 i)] w fun e w' => ∃ A c, e = .returned (.slice A (Def.dstC i).length c) ∧ Ow w' w.heap.size 4 A (Def.dstC i).length c ((Def.dstC i).map Value.bool) ∧ Below w.heap.size w w' := by
  have hl : i < ls5.length := by rw [ls5_len]; exact hi
  have hg : ls5[i] = 5 := List.getElem_replicate _
  have h2 := Huf.txt_dig5 ls5 i hl (by rw [hg]; omega) (by rw [hg]; omega)
  rw [hg] at h2
  have h3 : (Huf.txt ls5 16 0 i).map (fun b => b == 49) = Def.dstC i := by rw [h2, Huf.dig_word]; rfl
  have h4 : (Huf.txt ls5 16 0 i).length = (Def.dstC i).length := by rw [← h3, List.length_map]
  have h5 := dcode_any (Huf.txt ls5 16 0 i) _ h4 w (by rw [Def.dstC, word_len]; omega)
  rwa [h3] at h5
theorem ls5_sum5 : Huf.sum ls5 ≤ 32768 := by decide +kernel

set_option maxRecDepth 100000 in
set_option maxHeartbeats 4000000 in
theorem rdata_fix (A : Option Addr) (n c : Nat) (bs : List UInt8) (w : World) (hr : Rd w w.heap.size A n (bs.map bv)) (hc : n ≤ c) (hn : n ≤ 1048576) :
    Calls Tryz.prog 107 #[.slice A n c, .bool false] w fun e w' => ∃ A' m c', e = .returned (.slice A' m c') ∧ Rd w' w'.heap.size A' m ((Def.outB false bs).map bv) ∧ Below w.heap.size w w' := by
  have hl : bs.length = n := hr.len
  have hr := hide hr
  obtain ⟨B, hB⟩ : ∃ B, w.heap.size = B := ⟨_, rfl⟩
  have hm1 : ∀ W : World, (Instr.makeSlice 138 (.int .i64 288) (.int .i64 288)).run Tryz.prog W = .ok (.slice (some ⟨W.heap.size, 0, none⟩) 288 288) (W.alloc (.cells (madeCells #[.int .i64 0] 288) 3)) := fun W => run_make_row' 138 3 (.int .i64 0) 8 Tryz.underlying138 (by kernel_rfl) rfl .i64 .i64 288 (by omega) (by omega) W
  have hm2 : ∀ W : World, (Instr.makeSlice 138 (.int .i64 32) (.int .i64 32)).run Tryz.prog W = .ok (.slice (some ⟨W.heap.size, 0, none⟩) 32 32) (W.alloc (.cells (madeCells #[.int .i64 0] 32) 3)) := fun W => run_make_row' 138 3 (.int .i64 0) 8 Tryz.underlying138 (by kernel_rfl) rfl .i64 .i64 32 (by omega) (by omega) W
  obtain ⟨w1, hw1⟩ : ∃ W, w.alloc (.cells (madeCells #[.int .i64 0] 288) 3) = W := ⟨_, rfl⟩
  have s1 : w1.heap.size = B + 1 := by rw [← hw1, ← hB]; simp
  have o1 : Ow w1 B 3 (some ⟨B, 0, none⟩) 288 288 ((List.range 288).map fun _ => jv 0) := ow_made (Nat.le_refl _) (by decide) (by rw [← hw1, ← hB]; exact heap_alloc_new w _)
  have b1 : Below B w w1 := by rw [← hw1, ← hB]; exact (Below.refl _ w).alloc (Nat.le_refl _) _
  obtain ⟨w2, hw2⟩ : ∃ W, w1.alloc (.cells (madeCells #[.int .i64 0] 32) 3) = W := ⟨_, rfl⟩
  have s2 : w2.heap.size = B + 2 := by rw [← hw2]; simp [s1]
  have o2 := hide (show Ow w2 B 3 (some ⟨B, 0, none⟩) 288 288 ((List.range 288).map fun j => jv (Def.fillL 0 j)) from by rw [Def.fillL_no, ← hw2]; exact o1.alloc _)
  have p2 := hide (show Ow w2 B 3 (some ⟨B + 1, 0, none⟩) 32 32 ((List.range 32).map fun j => jv (Def.fillD 0 j)) from by rw [Def.fillD_no]; exact ow_made (by omega) (by decide) (by rw [← hw2, ← s1]; exact heap_alloc_new w1 _))
  have b2 := hide (show Below B w w2 from by rw [← hw2]; exact b1.alloc (by omega) _)
  have s2 := hide s2
  clear o1 b1
  go_enter Tryz.func107, Tryz.ntmps107
  go_wp2
  clear hm1 hm2 hw1 hw2
  go_loopw [10] (fun s10 wr => ∃ k : Nat, k ≤ 288 ∧ s10 = .int .i64 (k : Int) ∧ Hid (Ow wr B 3 (some ⟨B, 0, none⟩) 288 288 ((List.range 288).map fun j => jv (Def.fillL k j))) ∧ Hid (Ow wr B 3 (some ⟨B + 1, 0, none⟩) 32 32 ((List.range 32).map fun j => jv (Def.fillD k j))) ∧ Hid (Below B w wr)) (fun s10 _ => 288 - (intOf s10).toNat)
  case atStart => exact ⟨0, by omega, rfl, o2, p2, b2⟩
  case round =>
    clear o2 p2 b2 s2
    obtain ⟨k, hk, rfl, o, p, b⟩ := hrel
    by_cases hlt : k < 288
    · have hkI : (k : Int) < 288 := by omega
      obtain ⟨q, hq⟩ : ∃ q, k % 32 = q := ⟨_, rfl⟩
      have hqI : (k : Int) % 32 = (q : Int) := by omega
      have hq32 : q < 32 := by omega
      have hcf := hide (reffixed_any k wr (by omega))
      have f0 := o.out.free k
      have hc0 := o.out.cells (g := B) rfl k (jv (Def.fillL k k)) (by simp [hlt])
      rw [Addr.add_mid, Nat.zero_add] at hc0
      have hset := o.out.set k (jv (fixL k))
      rw [map_upd (Def.fillL k) jv, Def.fillL_up] at hset
      have hg1 : Chg (fun i => i = B) wr (wr.setCell ⟨B, k, none⟩ (jv (fixL k))) := (Chg.refl (fun i => i = B) wr).setCell (p := ⟨B, k, none⟩) (.inr rfl) _
      obtain ⟨w3, hw3⟩ : ∃ W, wr.setCell ⟨B, k, none⟩ (jv (fixL k)) = W := ⟨_, rfl⟩
      rw [hw3] at hset hg1
      have p3 := p.out.chg hg1 (fun g hg e => by simp [blk] at hg; omega)
      have b3 := b.out.trans (hg1.to_below (by have := b.out.size; omega) (by rintro i rfl; exact Nat.le_refl _))
      have f1 := p3.free q
      have hc1 := p3.cells (g := B + 1) rfl q (jv (Def.fillD k q)) (by simp [hq32])
      rw [Addr.add_mid, Nat.zero_add] at hc1
      have pset := p3.set q (jv 5)
      rw [map_upd (Def.fillD k) jv, ← hq, Def.fillD_up, hq] at pset
      have hg2 : Chg (fun i => i = B + 1) w3 (w3.setCell ⟨B + 1, q, none⟩ (jv 5)) := (Chg.refl (fun i => i = B + 1) w3).setCell (p := ⟨B + 1, q, none⟩) (.inr rfl) _
      have oset := hset.chg hg2 (fun g hg e => by simp [blk] at hg; omega)
      have b4 := hide (b3.trans (hg2.to_below (by have := b3.size; omega) (by rintro i rfl; omega)))
      have oset := hide oset
      have pset := hide pset
      unfold jv at hc0 hc1 hw3 b4 oset pset
      generalize Def.fillL k k = old1 at hc0
      generalize Def.fillD k q = old2 at hc1
      clear hset hg1 hg2 p3 b3 hq o p b
      go_wp2_with (go_at_call 136; (with_reducible refine (hcf.out).mono ?_); rintro e w' ⟨rfl, rfl⟩)
      go_roundw
      case rel => exact ⟨k + 1, by omega, by go_num, oset, pset, b4⟩
      case measure => simp [intOf] <;> omega
    · obtain rfl : k = 288 := by omega
      have hA := hide (refcodes_any (some ⟨B, 0, none⟩) 288 288 lsF wr wr.heap.size (by rw [← Def.fillL_all]; exact o.out.rd) (Nat.le_refl _) (by decide) lsF_le lsF_sum)
      have hC := hide (fun W (h : Below wr.heap.size wr W) => refcodes_any (some ⟨B + 1, 0, none⟩) 32 32 ls5 W W.heap.size (by rw [← Def.fillD_all]; exact (p.out.below h).rd) (Nat.le_refl _) (by decide) ls5_le ls5_sum5)
      have hP := hide (fun W (h : Below B w W) => show Calls Tryz.prog 138 #[.slice A n c] W _ from by have h1 := rparse_any A c bs W (by rw [hl]; exact (hr.out.below (by rw [hB]; exact h)).mono (by have := h.size; omega)) (by omega); rw [hl] at h1; exact h1)
      clear o p hr
      go_wp2_with (first
        | (go_at_call 137; (with_reducible refine (hA.out).mono ?_); rintro e w3 ⟨G1, rfl, n3, b3⟩; have hC := hide (hC.out w3 b3); have n3 := hide n3; have b3 := hide (b.out.trans (b3.mono (by have := b.out.size; omega))))
        | (go_at_call 137; (with_reducible refine (hC.out).mono ?_); rintro e w4 ⟨G2, rfl, m4, b4⟩; have n4 := hide (n3.out.below b4); have m4 := hide m4; have b4 := hide (b3.out.trans (b4.mono (by have := b3.out.size; omega)))))
      obtain ⟨w5, hw5⟩ : ∃ W, w4.alloc (.cells #[.bool true, .bool true, .bool false] 4) = W := ⟨_, rfl⟩
      obtain ⟨GL, hGL⟩ : ∃ g, w4.heap.size = g := ⟨_, rfl⟩
      rw [hw5, hGL]
      have be5 := hide (show Below w4.heap.size w4 w5 from by rw [← hw5]; exact (Below.refl _ w4).alloc (Nat.le_refl _) _)
      have hs3 := hide (show B ≤ wr.heap.size from by have := b.out.size; omega)
      have hs4 := hide (show B ≤ w3.heap.size from by have := b3.out.size; omega)
      have hs5 := hide (show B ≤ w4.heap.size from by have := b4.out.size; omega)
      have b5 := hide (b4.out.trans (be5.out.mono hs5.out))
      have l5 := hide (show Ow w5 B 4 (some ⟨GL, 0, none⟩) 3 3 ([true, true, false].map Value.bool) from by rw [← hw5, ← hGL]; exact Ow.lit (base := B) (e := 4) w4 #[.bool true, .bool true, .bool false] hs5.out (by decide))
      have n5 := hide ((n4.out.below be5.out).base_le (base' := B) (fun g hg => Nat.le_trans hs3.out (n4.out.blk_lt g hg).1))
      have m5 := hide ((m4.out.below be5.out).base_le (base' := B) (fun g hg => Nat.le_trans hs4.out (m4.out.blk_lt g hg).1))
      have hP5 := hide (hP.out w5 b5.out)
      obtain ⟨ts, hts⟩ : ∃ ts, Def.parse bs = ts := ⟨_, rfl⟩
      have hgood := hide (show ∀ t ∈ ts, Def.Good t from by rw [← hts]; exact Def.toks_good bs _ _)
      have hT4 := hide (show ts.length ≤ 1048576 from by rw [← hts]; have := Def.parse_len bs; omega)
      have hout := hide (show Def.outB false bs = Bit.pack (([true, true, false] ++ ts.flatMap Def.tokB) ++ Def.litB 256) from by rw [← hts]; rfl)
      rw [hts] at hP5
      obtain ⟨T, hT⟩ : ∃ T, ts.length = T := ⟨_, rfl⟩
      rw [hT] at hP5 hT4
      replace hT := hide hT
      refine hP5.out.mono ?_
      rintro e w6 ⟨A2, c2, rfl, o6, b6⟩
      have hs6 := hide (show B ≤ w5.heap.size from by have := b5.out.size; omega)
      have h6 := hide (show RBt B G1 G2 w5.heap.size A2 T c2 ts w (some ⟨GL, 0, none⟩) 3 3 ([true, true, false] ++ (ts.take 0).flatMap Def.tokB) w6 from by
        rw [List.take_zero]
        exact ⟨l5.out.below b6, b5.out.trans (b6.mono hs6.out), n5.out.below b6, m5.out.below b6, o6⟩)
      generalize w5.heap.size = B2 at h6
      clear hA hC hP hP5 n3 n4 m4 n5 m5 l5 be5 b b3 b4 b5 b6 o6 hw5 hGL hs3 hs4 hs5 hs6 s1 s2 hts hlt hk
      go_wp2
      go_loopw [13, 15] (fun s13 s15 wx => ∃ (k : Nat) (A1 : Option Addr) (L c1 : Nat), k ≤ T ∧ s15 = .int .i64 (k : Int) ∧ s13 = .slice A1 L c1 ∧ L ≤ 3 + 60 * k ∧ Hid (RBt B G1 G2 B2 A2 T c2 ts w A1 L c1 ([true, true, false] ++ (ts.take k).flatMap Def.tokB) wx)) (fun _ s15 _ => T - (intOf s15).toNat)
      case atStart => exact ⟨0, some ⟨GL, 0, none⟩, 3, 3, by omega, rfl, rfl, by omega, h6⟩
      case round =>
        clear h6
        obtain ⟨k, A1, L, c1, hk, rfl, rfl, hL, h⟩ := hrel
        have hT4' := hT4.out
        have hL64 := hide (show L ≤ 70000000 from by omega)
        by_cases hlt : k < T
        · have hkI : (k : Int) < (T : Int) := by omega
          have hkt : k < ts.length := by rw [hT.out]; exact hlt
          obtain ⟨g2, rfl, x1, x2⟩ := h.out.2.2.2.2.cells k hlt
          have hgd := hgood.out ts[k] (List.getElem_mem hkt)
          have htk := hide (show ([true, true, false] ++ (ts.take (k + 1)).flatMap Def.tokB) = ([true, true, false] ++ (ts.take k).flatMap Def.tokB) ++ Def.tokB ts[k] from by rw [take_snoc ts k hkt, List.flatMap_append, List.flatMap_cons, List.flatMap_nil, List.append_nil, List.append_assoc])
          obtain ⟨t, ht⟩ : ∃ t, ts[k] = t := ⟨_, rfl⟩
          rw [ht] at hgd htk x1 x2
          obtain ⟨t1, t2⟩ := t
          simp only at hgd x1 x2
          obtain ⟨l, hl⟩ : ∃ l, ([true, true, false] ++ (ts.take k).flatMap Def.tokB) = l := ⟨_, rfl⟩
          rw [hl] at h htk
          have hBw := hide (h.out.size hB)
          clear ht hl
          by_cases hz : t1 = 0
          · subst hz
            have ht2 : t2 ≤ 255 := by
              rcases hgd with h | h
              · exact h.2
              · have := h.1; omega
            have htok : Def.tokB (0, t2) = Def.litB t2 := if_pos rfl
            rw [htok] at htk
            have hcode := hide (fun W => rlit t2 (by omega) W)
            have hm := (fixL_le t2).1
            rw [← show (Def.litB t2).length = fixL t2 from word_len _ _] at hm
            have xs := h.out.2.2.near t2 (by omega)
            generalize sv (Huf.txt lsF 16 0 t2) = V at hcode xs
            obtain ⟨x, hx⟩ : ∃ x, Def.litB t2 = x := ⟨_, rfl⟩
            rw [hx] at hcode htk hm
            obtain ⟨m, hxm⟩ : ∃ m, x.length = m := ⟨_, rfl⟩
            rw [hxm] at hcode hm
            clear hgd htok hx hxm
            go_wp2_with (first
              | (go_at_call 139; (with_reducible refine (hcode.out _).mono ?_); rintro e w7 ⟨A5, c5, rfl, o7, b7⟩; have h7 := hide (h.out.below hB b7); have o7 := hide o7; have hB7 := hide (h7.out.size hB); clear b7)
              | (at_builtin; refine wpList_append_rd w7 rfl (.tmp 90) (.tmp 99) rfl elem_bool rfl h7.out.1 rfl o7.out.rd (bool_one _) (by have := hL64.out; simp only [maxLen]; omega) (by have := hL64.out; omega) hB7.out ?_; intro A8 c8 w8 o8 g8 _; have h8 := hide (h7.out.app hB o8 g8); clear o8 g8 h7 o7 hB7))
            go_roundw
            case rel => exact ⟨k + 1, A8, L + m, c8, by omega, by go_num, rfl, by omega, by rw [htk.out]; exact h8⟩
            case measure => simp [intOf] <;> omega
          · obtain ⟨h3, h4, h5, h6⟩ : 3 ≤ t1 ∧ t1 ≤ 258 ∧ 1 ≤ t2 ∧ t2 ≤ 256 := by
              rcases hgd with ⟨h, _⟩ | h
              · exact absurd h hz
              · exact h
            have htz : ((t1 : Int) == 0) = false := by simp; omega
            have htok : Def.tokB (t1, t2) = Def.litB (257 + Def.top Def.lenB t1 29) ++ Bit.low (t1 - Def.lenB (Def.top Def.lenB t1 29)) (Def.lenX (Def.top Def.lenB t1 29)) ++ Def.dstC (Def.top Def.dstB t2 30) ++ Bit.low (t2 - Def.dstB (Def.top Def.dstB t2 30)) (Def.dstX (Def.top Def.dstB t2 30)) := if_neg hz
            rw [htok] at htk
            have hsy := hide (rsymN t1 wr h3 h4)
            have hfa := hide (rfarN t2 wr h5 (by omega))
            have hk1 := Def.top_lt Def.lenB t1 29 (by decide)
            have hk2 := Def.top_lt Def.dstB t2 30 (by decide)
            have hx1 := (Def.len_small _ hk1).2
            have hx2 := (Def.dst_small _ hk2).2
            obtain ⟨K1, hK1⟩ : ∃ K1, 257 + Def.top Def.lenB t1 29 = K1 := ⟨_, rfl⟩
            have hK1b : K1 < 288 := by omega
            rw [hK1] at hsy htk
            generalize Def.lenB (Def.top Def.lenB t1 29) = B1 at *
            generalize Def.lenX (Def.top Def.lenB t1 29) = X1 at *
            generalize Def.dstB (Def.top Def.dstB t2 30) = B3 at *
            generalize Def.dstX (Def.top Def.dstB t2 30) = X2 at *
            generalize Def.top Def.dstB t2 30 = K2 at *
            obtain ⟨D1, hD1⟩ : ∃ D1, t1 - B1 = D1 := ⟨_, rfl⟩
            obtain ⟨D2, hD2⟩ : ∃ D2, t2 - B3 = D2 := ⟨_, rfl⟩
            have hD1b : D1 ≤ 258 := by omega
            have hD2b : D2 ≤ 256 := by omega
            have hu1 : IntKind.u32.wrap (D1 : Int) = (D1 : Int) := by rw [IntKind.wrap_u32]; omega
            have hu2 : IntKind.u32.wrap (D2 : Int) = (D2 : Int) := by rw [IntKind.wrap_u32]; omega
            rw [hD1] at hsy htk
            rw [hD2] at hfa htk
            have hc1 := hide (fun W => rlit K1 hK1b W)
            have hc2 := hide (fun W => rdst K2 (by omega) W)
            have hlo1 := hide (fun W => reflow_any D1 X1 W (by omega) (by omega))
            have hlo2 := hide (fun W => reflow_any D2 X2 W (by omega) (by omega))
            have hm1 : (Def.litB K1).length ≤ 9 := by rw [Def.litB, word_len]; exact (fixL_le K1).1
            have hm2 : (Def.dstC K2).length ≤ 9 := by rw [Def.dstC, word_len]; omega
            have xs1 := h.out.2.2.near K1 hK1b
            have hfar := hide (fun W (hh : RTx B G1 G2 B2 (some ⟨g2, 0, none⟩) T c2 ts W) => hh.far K2 (by omega))
            generalize sv (Huf.txt lsF 16 0 K1) = V1 at hc1 xs1
            generalize sv (Huf.txt ls5 16 0 K2) = V2 at hc2 hfar
            generalize Def.litB K1 = y1 at hc1 htk hm1
            generalize Def.dstC K2 = y2 at hc2 htk hm2
            generalize Bit.low D1 X1 = z1 at hlo1 htk
            generalize Bit.low D2 X2 = z2 at hlo2 htk
            obtain ⟨m1, hxm1⟩ : ∃ m, y1.length = m := ⟨_, rfl⟩
            obtain ⟨m2, hxm2⟩ : ∃ m, y2.length = m := ⟨_, rfl⟩
            rw [hxm1] at hc1 hm1
            rw [hxm2] at hc2 hm2
            have hk2I : (K2 : Int) < 32 := by omega
            have hk1I : (K1 : Int) < 288 := by omega
            clear hgd htok hxm1 hxm2 hK1 hD1 hD2 hk1
            go_upto_region 30 with (first
              | (go_at_call 140; (with_reducible refine (hsy.out).mono ?_); rintro e w7 ⟨rfl, rfl⟩)
              | (go_at_call 141; (with_reducible refine (hfa.out).mono ?_); rintro e w7 ⟨rfl, rfl⟩)
              | (go_at_call 139; (with_reducible refine (hc1.out _).mono ?_); rintro e w7 ⟨A5, c5, rfl, o7, b7⟩; have h7 := hide (h.out.below hB b7); have o7 := hide o7; have hB7 := hide (h7.out.size hB); clear b7)
              | (at_builtin; refine wpList_append_rd w7 rfl (.tmp 121) (.tmp 126) rfl elem_bool rfl h7.out.1 rfl o7.out.rd (bool_one _) (by have := hL64.out; simp only [maxLen]; omega) (by have := hL64.out; omega) hB7.out ?_; intro A8 c8 w8 o8 g8 _; have h8 := hide (h7.out.app hB o8 g8); have hB8 := hide (h8.out.size hB); clear o8 g8 h7 o7 hB7)
              | (go_at_call 142; (with_reducible refine (hlo1.out _).mono ?_); rintro e w9 ⟨A9, c9, rfl, o9, b9⟩; have h9 := hide (h8.out.below hB b9); have o9 := hide o9; have hB9 := hide (h9.out.size hB); clear b9)
              | (at_builtin; refine wpList_append_rd w9 rfl (.tmp 127) (.tmp 131) rfl elem_bool rfl h9.out.1 rfl o9.out.rd (bool_one _) (by have := hL64.out; simp only [maxLen]; omega) (by have := hL64.out; omega) hB9.out ?_; intro A10 c10 w10 o10 g10 _; have h10 := hide (h9.out.app hB o10 g10); have hB10 := hide (h10.out.size hB); clear o10 g10 h9 o9 hB9))
            have xs2 := hfar.out _ h10.out.2.2
            go_wp2_with (first
              | (go_at_call 139; (with_reducible refine (hc2.out _).mono ?_); rintro e w11 ⟨A11, c11, rfl, o11, b11⟩; have h11 := hide (h10.out.below hB b11); have o11 := hide o11; have hB11 := hide (h11.out.size hB); clear b11)
              | (at_builtin; refine wpList_append_rd w11 rfl (.tmp 133) (.tmp 138) rfl elem_bool rfl h11.out.1 rfl o11.out.rd (bool_one _) (by have := hL64.out; simp only [maxLen]; omega) (by have := hL64.out; omega) hB11.out ?_; intro A12 c12 w12 o12 g12 _; have h12 := hide (h11.out.app hB o12 g12); have hB12 := hide (h12.out.size hB); clear o12 g12 h11 o11 hB11)
              | (go_at_call 142; (with_reducible refine (hlo2.out _).mono ?_); rintro e w13 ⟨A13, c13, rfl, o13, b13⟩; have h13 := hide (h12.out.below hB b13); have o13 := hide o13; have hB13 := hide (h13.out.size hB); clear b13)
              | (at_builtin; refine wpList_append_rd w13 rfl (.tmp 139) (.tmp 143) rfl elem_bool rfl h13.out.1 rfl o13.out.rd (bool_one _) (by have := hL64.out; simp only [maxLen]; omega) (by have := hL64.out; omega) hB13.out ?_; intro A14 c14 w14 o14 g14 _; have h14 := hide (h13.out.app hB o14 g14); clear o14 g14 h13 o13 hB13))
            go_roundw
            case rel => exact ⟨k + 1, A14, L + m1 + X1 + m2 + X2, c14, by omega, by go_num, rfl, by omega, by rw [htk.out]; simpa only [List.append_assoc] using h14⟩
            case measure => simp [intOf] <;> omega
        · obtain rfl : k = T := by omega
          rw [show ts.take k = ts from List.take_of_length_le (by have := hT.out; omega)] at h
          have hcode := hide (fun W => rlit 256 (by decide) W)
          have hm : (Def.litB 256).length ≤ 9 := by rw [Def.litB, word_len]; exact (fixL_le 256).1
          have xs := h.out.2.2.near 256 (by decide)
          have hBw := hide (h.out.size hB)
          generalize sv (Huf.txt lsF 16 0 256) = V at hcode xs
          obtain ⟨x, hx⟩ : ∃ x, Def.litB 256 = x := ⟨_, rfl⟩
          rw [hx] at hcode hout hm
          obtain ⟨m, hxm⟩ : ∃ m, x.length = m := ⟨_, rfl⟩
          rw [hxm] at hcode hm
          obtain ⟨l, hl⟩ : ∃ l, ([true, true, false] ++ ts.flatMap Def.tokB) = l := ⟨_, rfl⟩
          rw [hl] at h hout
          clear hx hxm hl
          have hL2 := hide (show L + m ≤ 100000000 from by have := hL64.out; omega)
          go_wp2_with (first
            | (go_at_call 139; (with_reducible refine (hcode.out _).mono ?_); rintro e w7 ⟨A5, c5, rfl, o7, b7⟩; have h7 := hide (h.out.below hB b7); have o7 := hide o7; have hB7 := hide (h7.out.size hB); clear b7)
            | (at_builtin; refine wpList_append_rd w7 rfl (.tmp 145) (.tmp 149) rfl elem_bool rfl h7.out.1 rfl o7.out.rd (bool_one _) (by have := hL64.out; simp only [maxLen]; omega) (by have := hL64.out; omega) hB7.out ?_; intro A8 c8 w8 o8 g8 _; have h8 := hide (h7.out.app hB o8 g8); have hB8 := hide (h8.out.size hB); have hby := hide (refbytes_any A8 (L + m) c8 (l ++ x) w8 _ h8.out.1.rd (Nat.le_refl _) hL2.out); clear o8 g8 h7 o7 hB7)
            | (go_at_call 143; (with_reducible refine (hby.out).mono ?_); rintro e w9 ⟨A9, c9, rfl, o9, b9⟩; have o9 := hide o9; have b9 := hide (h8.out.2.1.trans (b9.mono hB8.out))))
          go_ret
          exact ⟨A9, Bit.size (L + m), c9, rfl, by rw [hout.out]; exact o9.out.rd, hB ▸ b9.out⟩

end Go.Proofs.YtaapjampmnanmaaGreat

namespace Go.Proofs.YtaapjampmnanmaaGreat
open Go.RowKit
set_option linter.unusedVariables false

end Go.Proofs.YtaapjampmnanmaaGreat
