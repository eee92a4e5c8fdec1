/- Layer 5 (deflate): the iterator 'matches': what it hands on, whatever the loop's body does, if the body writes only what hangs at one block. The conditions: where the bytes lie. -/
import Derived.Test.YthplpoijkebjbaaDefFind
import Derived.RangeFuncNested
import Derived.RangeFuncBound
import Derived.RangeFuncCalls
import Derived.RangeFuncLeaves
import Derived.RangeFuncFrom
import Derived.Shelf.Abstract
import Derived.Shelf.RegionOpen
import Derived.WalkKit
import Derived.OwnWalkIn
import Derived.TacticsInMore
import Derived.LoopNIn
import Derived.LoopIn
namespace Go.Proofs.Ythplpoijkebjbaa
open Go.RowKit Go.Shelf

attribute [local go_sem] Oper.semAt_some

/-- What hangs at block g: the block, and the slice that its first cell holds. -/
def Hang (g : Nat) (W : World) (k : Nat) : Prop := k = g ∨ ∃ A n c, W.cell? ⟨g, 0, none⟩ = some (.slice A n c) ∧ blk A = some k
/-- It lies in the heap, from m on, and is not block gb. -/
def Hung (g gb m : Nat) (W : World) : Prop := ∀ k, Hang g W k → k < W.heap.size ∧ k ≠ gb ∧ m ≤ k
/-- Only what hangs at g may have changed, and new blocks. -/
structure KeepH (g : Nat) (W W' : World) : Prop where
  size : W.heap.size ≤ W'.heap.size
  keep : ∀ k cs t fz, W.heap[k]? = some (.cells cs t fz) → ¬ Hang g W k → W'.heap[k]? = some (.cells cs t fz)
  new : ∀ k, k < W.heap.size → Hang g W' k → Hang g W k
/-- The same, where things hang as they should; and they do so afterwards. -/
def KpH (g gb m : Nat) (W W' : World) : Prop := Hung g gb m W → KeepH g W W' ∧ Hung g gb m W'
theorem KpH.trans {g gb m : Nat} {A B C : World} (h : KpH g gb m A B) (k : KpH g gb m B C) : KpH g gb m A C := fun hA => by
  obtain ⟨h1, h2⟩ := h hA
  obtain ⟨k1, k2⟩ := k h2
  refine ⟨⟨Nat.le_trans h1.size k1.size, fun i cs t fz hi hn => ?_, fun i hi hh => h1.new i hi (k1.new i (Nat.lt_of_lt_of_le hi h1.size) hh)⟩, k2⟩
  exact k1.keep i cs t fz (h1.keep i cs t fz hi hn) (fun hb => hn (h1.new i (lt_of_block hi) hb))
theorem Hang.below {g k : Nat} {W W' : World} (hg : g < W.heap.size) (hb : Below W.heap.size W W') : Hang g W' k ↔ Hang g W k := by
  unfold Hang
  rw [hb.cell (p := ⟨g, 0, none⟩) hg]
theorem Hung.below {g gb m : Nat} {W W' : World} (h : Hung g gb m W) (hb : Below W.heap.size W W') : Hung g gb m W' := fun k hk => by
  obtain ⟨h1, h2, h3⟩ := h k ((Hang.below (h g (.inl rfl)).1 hb).1 hk)
  exact ⟨Nat.lt_of_lt_of_le h1 hb.size, h2, h3⟩
theorem KpH.below {g gb m : Nat} {W W' : World} (hb : Below W.heap.size W W') : KpH g gb m W W' := fun h =>
  ⟨⟨hb.size, fun k _ _ _ hk _ => (hb.block k (lt_of_block hk)).trans hk, fun _ _ hk => (Hang.below (h g (.inl rfl)).1 hb).1 hk⟩, h.below hb⟩
theorem KpH.putObj {g gb m : Nat} {w : World} (hg : g < w.heap.size) (W : World) (l : Nat) (o o' : Obj) (hl : w.heap.size ≤ l) (h : W.heap[l]? = some o) (ho : o.isCells = false) (_ : o.isWalk = false) : KpH g gb m W (W.putObj l o') := fun hh => by
  have hne : g ≠ l := by omega
  have hc : (W.putObj l o').cell? ⟨g, 0, none⟩ = W.cell? ⟨g, 0, none⟩ := World.cell?_of_block (w := W) (World.putObj_heap_other hne)
  have hhang : ∀ k, Hang g (W.putObj l o') k ↔ Hang g W k := fun k => by unfold Hang; rw [hc]
  refine ⟨⟨by simp, fun k cs t fz hk _ => ?_, fun k _ hk => (hhang k).1 hk⟩, fun k hk => ?_⟩
  · have : k ≠ l := by
      rintro rfl
      rw [h] at hk
      injection hk with hk
      subst hk
      cases ho
    exact (World.putObj_heap_other this).trans hk
  · obtain ⟨h1, h2, h3⟩ := hh k ((hhang k).1 hk)
    exact ⟨by simpa using h1, h2, h3⟩

/-- What a token may be. -/
def Def.Good (t : Nat × Nat) : Prop := (t.1 = 0 ∧ t.2 ≤ 255) ∨ (3 ≤ t.1 ∧ t.1 ≤ 258 ∧ 1 ≤ t.2 ∧ t.2 ≤ 256)
abbrev Tk := { t : Nat × Nat // Def.Good t }
/-- A token as a value. -/
def tv (t : Nat × Nat) : Value := .agg #[.int .i64 (t.1 : Int), .int .i64 (t.2 : Int)]

theorem matches_any (A : Option Addr) (L c : Nat) (w : World) : Calls Try.prog 54 #[.slice A L c] w fun e w' => e = .returned (.func (.func 77) #[] #[.pointer (some ⟨w.heap.size, 0, none⟩)]) ∧ w' = w.alloc (.cells #[.slice A L c] 22) := by
  go_enter Try.func54, Try.ntmps54
  go_wp2
  go_ret
  exact ⟨rfl, rfl⟩

theorem row_of_cell {W : World} {b o : Nat} {v : Value} (h : W.cell? ⟨b, o, none⟩ = some v) : ∃ cs t fz, W.heap[b]? = some (.cells cs t fz) := by
  unfold World.cell? at h
  simp only at h
  cases hh : W.heap[b]? with
  | none => rw [hh] at h; cases h
  | some ob =>
    rw [hh] at h
    cases ob with
    | cells cs t fz => exact ⟨cs, t, fz, rfl⟩
    | _ => cases h
theorem KeepH.cell {g b o : Nat} {W W' : World} {v : Value} (h : KeepH g W W') (hc : W.cell? ⟨b, o, none⟩ = some v) (hn : ¬ Hang g W b) : W'.cell? ⟨b, o, none⟩ = some v := by
  obtain ⟨cs, t, fz, hb⟩ := row_of_cell hc
  rw [← hc]
  exact World.cell?_of_block (w := W) ((h.keep b cs t fz hb hn).trans hb.symm)
theorem KeepH.rd {g gb m B n : Nat} {W W' : World} {A : Option Addr} {xs : List Value} (h : KeepH g W W') (hh : Hung g gb m W) (hB : B ≤ m) (hr : Rd W B A n xs) : Rd W' B A n xs :=
  ⟨hr.1, fun j hj => by
    obtain ⟨b, o, e, hb, hc⟩ := hr.2 j hj
    have hj' : j < xs.length := by rw [hr.1]; exact hj
    rw [List.getElem?_eq_getElem hj'] at hc
    refine ⟨b, o, e, hb, ?_⟩
    rw [List.getElem?_eq_getElem hj']
    exact h.cell hc (fun hk => by have := (hh b hk).2.2; omega)⟩

set_option maxRecDepth 100000 in
set_option maxHeartbeats 4000000 in
theorem matches_stops (n : Nat) (hn : 3 ≤ n) (gb g m : Nat) (A : Option Addr) (c : Nat) (bs : List UInt8) (B : Nat) (w0 : World) (hBm : B ≤ m) (hBw : B ≤ w0.heap.size) (hk0 : Blk w0 gb 22 #[.slice A bs.length c]) (hr0 : Rd w0 B A bs.length (bs.map bv)) (hh0 : Hung g gb m w0) (hl : bs.length ≤ 1048576) :
    SeqStopsK Fence.wide n Try.prog 77 #[.pointer (some ⟨gb, 0, none⟩)] (fun x : Tk => #[tv x.1]) (KpH g gb m) (fun xs => xs.map (·.1) = Def.parse bs) (fun _ => True) bs.length w0 := by
  intro l J Jx W hW hJ hJx hY h0
  have hJm : Hid (∀ pre W1 W2, J pre W1 → Below W1.heap.size W1 W2 → J pre W2) := hide (fun pre W1 W2 hj hb => hJ pre W1 W2 none hj ⟨hb.os, hb.tape, hb.output, hb.size, fun k hk _ => hb.block k hk⟩ (fun r e => by cases e))
  have hkW := hide (hk0.below hW hk0.lt)
  have hrW := hide (hr0.below (hW.mono hBw))
  have hhW := hide (hh0.below hW)
  have hBW := hide (Nat.le_trans hBw hW.size)
  have hY' := hide hY
  clear hY hJ hJx hW hk0 hr0 hh0 hBw
  obtain ⟨L, hL⟩ : ∃ L, bs.length = L := ⟨_, rfl⟩
  have hLI : (L : Int) ≤ 1048576 := by omega
  have hpar := hide (show Def.parse bs = ([] : List Tk).map (·.1) ++ Def.rest bs 0 from rfl)
  rw [hL] at hkW hrW hY'
  refine callsIn_of_wp Try.func77 rfl trivial ?_ rfl
  simp only [Try.ntmps77, List.size_toArray, List.length_cons, List.length_nil, Nat.reduceAdd, Nat.reduceSub, Array.replicate_succ, Array.replicate_zero, List.push_toArray, List.append_toArray, List.nil_append, List.cons_append]
  gi_wp2
  gi_loopw [3] (fun i wr => ∃ (p : Nat) (pre : List Tk), p ≤ L ∧ i = .int .i64 (p : Int) ∧ Hid (Def.parse bs = pre.map (·.1) ++ Def.rest bs p) ∧ Hid (pre.length ≤ p) ∧ Hid (J pre wr) ∧ Hid (Hung g gb m wr) ∧ Hid (Blk wr gb 22 #[.slice A L c]) ∧ Hid (Rd wr B A L (bs.map bv)) ∧ Hid (B ≤ wr.heap.size)) (fun i _ => L - (intOf i).toNat)
  case atStart => exact ⟨0, [], by omega, rfl, hpar, hide (by simp), hide h0, hhW, hkW, hrW, hBW⟩
  case round =>
    obtain ⟨p, pre, hp, rfl, hpre, hlen, hJp, hh, hk, hr, hB⟩ := hrel
    have hn1 : 1 ≤ n := by omega
    have c1 : wr.cell? ⟨gb, 0, none⟩ = some (.slice A L c) := hk.out.cell 0
    by_cases hlt : p < L
    · have hpI : (p : Int) < (L : Int) := by omega
      have hp0 : (0 : Int) ≤ (p : Int) := by omega
      have hf := hide (find_any A c bs (p : Int) wr B (by rw [hL]; exact hr.out) hB.out hl)
      rw [show Def.findV bs (p : Int) = Def.mt bs p from by unfold Def.findV; rw [if_pos (by omega)]; rfl, hL] at hf
      obtain ⟨hm1, hm2, hm3, hm4⟩ := Def.mt_len bs p (by omega)
      have hb0 := Def.mt_best bs p
      have htok := hide (show Def.tok bs p = if (Def.mt bs p).1 = 0 then (0, (bs.getD p 0).toNat) else Def.mt bs p from rfl)
      obtain ⟨b, o, hA, hbB, hcp⟩ := hr.out.byte (j := p) hlt
      have hpb := hide (show p < bs.length from by omega)
      have hgx : bs.getD p 0 = bs[p]'(by omega) := bsAt bs p (by omega)
      obtain ⟨X, hX⟩ : ∃ X : Nat, (bs.getD p 0).toNat = X := ⟨_, rfl⟩
      rw [← hgx, hX] at hcp
      have hX8 : X ≤ 255 := by rw [← hX]; exact toNat_le _
      rw [hX] at htok
      subst hA
      obtain ⟨l1, hl1⟩ : ∃ l1, (Def.mt bs p).1 = l1 := ⟨_, rfl⟩
      obtain ⟨d1, hd1⟩ : ∃ d1, (Def.mt bs p).2 = d1 := ⟨_, rfl⟩
      have hmt : Def.mt bs p = (l1, d1) := by rw [← hl1, ← hd1]
      rw [hmt] at htok hf
      rw [hl1, hL] at hm1
      rw [hl1] at hm2 hm4
      rw [hd1] at hm3 hm4
      rw [hl1, hd1] at hb0
      simp only at hf
      clear hX hgx hl1 hd1 hmt
      by_cases hz : l1 = 0
      · subst hz
        have hd0 : d1 = 0 := by
          rcases hb0 with ⟨_, h2, _⟩ | ⟨h1, _⟩
          · exact h2
          · omega
        subst hd0
        replace htok := hide (show Def.tok bs p = (0, X) from by rw [htok.out, if_pos rfl])
        have hstp := hide (show Def.stp (0, X) = 1 from rfl)
        have hp1 : IntKind.i64.wrap ((p : Int) + 1) = (p : Int) + 1 := by rw [IntKind.wrap_i64]; omega
        have hX64 : IntKind.i64.wrap (X : Int) = (X : Int) := by rw [IntKind.wrap_i64]; omega
        rw [show ((0 : Nat) : Int) = 0 from rfl] at hf
        clear hb0 hm1 hm2 hm3 hm4
        gi_wp2_with (refine ⟨trivial, ?_⟩; gi_at_call 23; refine (callsIn_wide.2 hf.out).mono ?_; rintro e w2 ⟨rfl, hb2⟩; obtain ⟨S, hS⟩ : ∃ S, w2.heap.size = S := ⟨_, rfl⟩; obtain ⟨w3, hw3⟩ : ∃ W, w2.alloc (.cells #[.int .i64 0, .int .i64 0] 38) = W := ⟨_, rfl⟩; have k3 : Blk w3 S 38 #[.int .i64 0, .int .i64 0] := (by rw [← hw3, ← hS]; exact Blk.new w2 _ _); have x30 : w3.cell? ⟨S, 0, none⟩ = some (.int .i64 0) := k3.cell 0; have x31 : w3.cell? ⟨S, 1, none⟩ = some (.int .i64 0) := k3.cell 1; have f30 : w3.frozen? ⟨S, 0, none⟩ = false := k3.free 0; have f31 : w3.frozen? ⟨S, 1, none⟩ = false := k3.free 1; obtain ⟨w4, hw4⟩ : ∃ W, (w3.setCell ⟨S, 0, none⟩ (.int .i64 0)).setCell ⟨S, 1, none⟩ (.int .i64 0) = W := ⟨_, rfl⟩; have k4 : Blk w4 S 38 #[.int .i64 0, .int .i64 0] := (by rw [← hw4]; exact (k3.set 0 _).set 1 _); have hSS := hide (show wr.heap.size ≤ S from by have := hb2.size; omega); have b3 : Below wr.heap.size wr w3 := (by rw [← hw3]; exact hb2.alloc hb2.size _); have b4 : Below wr.heap.size wr w4 := (by rw [← hw4]; exact (b3.setCell hSS.out _).setCell hSS.out _); have x40 : w4.cell? ⟨S, 0, none⟩ = some (.int .i64 0) := k4.cell 0; have x41 : w4.cell? ⟨S, 1, none⟩ = some (.int .i64 0) := k4.cell 1; have f41 : w4.frozen? ⟨S, 1, none⟩ = false := k4.free 1; have c4 : w4.cell? ⟨gb, 0, none⟩ = some (.slice (some ⟨b, o, none⟩) L c) := (hk.out.below b4 hk.out.lt).cell 0; have xb : w4.cell? ⟨b, o + p, none⟩ = some (.int .u8 (X : Int)) := (b4.cell (p := ⟨b, o + p, none⟩) (Nat.lt_of_lt_of_le hbB hB.out)).trans hcp; obtain ⟨w5, hw5⟩ : ∃ W, w4.setCell ⟨S, 1, none⟩ (.int .i64 (X : Int)) = W := ⟨_, rfl⟩; have k5 : Blk w5 S 38 #[.int .i64 0, .int .i64 (X : Int)] := (by rw [← hw5]; exact k4.set 1 _); have x50 : w5.cell? ⟨S, 0, none⟩ = some (.int .i64 0) := k5.cell 0; have x51 : w5.cell? ⟨S, 1, none⟩ = some (.int .i64 (X : Int)) := k5.cell 1; have b5 := hide (show Below wr.heap.size wr w5 from by rw [← hw5]; exact b4.setCell hSS.out _); have J5 := hJm.out pre wr w5 hJp.out b5.out; obtain ⟨fn, tmps, assign, body, hy, hR⟩ := hY'.out pre ⟨(0, X), .inl ⟨rfl, hX8⟩⟩ w5 J5 (by have := hlen.out; omega); have k3 := hide k3; have k4 := hide k4; have k5 := hide k5; have b3 := hide b3; have b4 := hide b4; simp only [tv] at hy; rw [show ((0 : Nat) : Int) = 0 from rfl] at hy; clear J5 hb2)
        refine hR.mono ?_
        rintro e W6 (⟨rfl, hJ6, hk6⟩ | ⟨rfl, hJx6⟩)
        · have hh5 := hide (hh.out.below b5.out)
          obtain ⟨hkeep, hh6⟩ := hk6 hh5.out
          have y0 : W6.cell? ⟨S, 0, none⟩ = some (.int .i64 0) := hkeep.cell x50 (fun hx => by have := (hh.out S ((Hang.below (hh.out g (.inl rfl)).1 b5.out).1 hx)).1; have := hSS.out; omega)
          have hk6' := hide (show Blk W6 gb 22 #[.slice (some ⟨b, o, none⟩) L c] from hkeep.keep gb _ _ _ (hk.out.below b5.out hk.out.lt) (fun hx => (hh5.out gb hx).2.1 rfl))
          have hr6 := hide (hkeep.rd hh5.out hBm (hr.out.below (b5.out.mono hB.out)))
          have hB6 := hide (Nat.le_trans hB.out (Nat.le_trans b5.out.size hkeep.size))
          have hpre2 := hide (show Def.parse bs = (pre ++ [(⟨(0, X), .inl ⟨rfl, hX8⟩⟩ : Tk)]).map (·.1) ++ Def.rest bs (p + 1) from by rw [hpre.out, Def.rest_step bs p hpb.out, htok.out, hstp.out, List.map_append, List.append_assoc]; rfl)
          have hlen2 := hide (show (pre ++ [(⟨(0, X), .inl ⟨rfl, hX8⟩⟩ : Tk)]).length ≤ p + 1 from by rw [List.length_append]; have := hlen.out; simp; omega)
          replace hJ6 := hide hJ6
          replace hh6 := hide hh6
          clear hkeep hk6
          gi_wp2
          go_roundw
          case rel => exact ⟨p + 1, _, by omega, by go_num, hpre2, hlen2, hJ6, hh6, hk6', hr6, hB6⟩
          case measure => simp [intOf] <;> omega
        · gi_wp2
          refine bodyPost_ret (results_none rfl _ _ _) rfl ?_
          exact ⟨⟨_, rfl⟩, .inr ⟨_, trivial, hJx6⟩⟩
      · replace htok := hide (show Def.tok bs p = (l1, d1) from by rw [htok.out, if_neg hz])
        have hstp := hide (show Def.stp (l1, d1) = l1 from if_neg hz)
        obtain ⟨h3, h4⟩ : 3 ≤ l1 ∧ 1 ≤ d1 := by omega
        have hlI : (3 : Int) ≤ (l1 : Int) := by omega
        have hlz : ((l1 : Int) == 0) = false := by simp; omega
        have hmx1 : (if (l1 : Int) < 1 then 1 else (l1 : Int)) = (l1 : Int) := if_neg (by omega)
        have hmx2 : (if (1 : Int) < (l1 : Int) then (l1 : Int) else 1) = (l1 : Int) := if_pos (by omega)
        have hp1 : IntKind.i64.wrap ((p : Int) + (l1 : Int)) = (p : Int) + (l1 : Int) := by rw [IntKind.wrap_i64]; omega
        clear hb0 hz
        gi_wp2_with (refine ⟨trivial, ?_⟩; gi_at_call 23; refine (callsIn_wide.2 hf.out).mono ?_; rintro e w2 ⟨rfl, hb2⟩; obtain ⟨S, hS⟩ : ∃ S, w2.heap.size = S := ⟨_, rfl⟩; obtain ⟨w3, hw3⟩ : ∃ W, w2.alloc (.cells #[.int .i64 0, .int .i64 0] 38) = W := ⟨_, rfl⟩; have k3 : Blk w3 S 38 #[.int .i64 0, .int .i64 0] := (by rw [← hw3, ← hS]; exact Blk.new w2 _ _); have x30 : w3.cell? ⟨S, 0, none⟩ = some (.int .i64 0) := k3.cell 0; have x31 : w3.cell? ⟨S, 1, none⟩ = some (.int .i64 0) := k3.cell 1; have f30 : w3.frozen? ⟨S, 0, none⟩ = false := k3.free 0; have f31 : w3.frozen? ⟨S, 1, none⟩ = false := k3.free 1; obtain ⟨w4, hw4⟩ : ∃ W, (w3.setCell ⟨S, 0, none⟩ (.int .i64 (l1 : Int))).setCell ⟨S, 1, none⟩ (.int .i64 (d1 : Int)) = W := ⟨_, rfl⟩; have k4 : Blk w4 S 38 #[.int .i64 (l1 : Int), .int .i64 (d1 : Int)] := (by rw [← hw4]; exact (k3.set 0 _).set 1 _); have hSS := hide (show wr.heap.size ≤ S from by have := hb2.size; omega); have b3 : Below wr.heap.size wr w3 := (by rw [← hw3]; exact hb2.alloc hb2.size _); have b4 : Below wr.heap.size wr w4 := (by rw [← hw4]; exact (b3.setCell hSS.out _).setCell hSS.out _); have x40 : w4.cell? ⟨S, 0, none⟩ = some (.int .i64 (l1 : Int)) := k4.cell 0; have x41 : w4.cell? ⟨S, 1, none⟩ = some (.int .i64 (d1 : Int)) := k4.cell 1; have b5 := hide b4; have J5 := hJm.out pre wr w4 hJp.out b5.out; obtain ⟨fn, tmps, assign, body, hy, hR⟩ := hY'.out pre ⟨(l1, d1), .inr ⟨h3, hm2, h4, hm3⟩⟩ w4 J5 (by have := hlen.out; omega); have k3 := hide k3; have k4 := hide k4; have b3 := hide b3; have b4 := hide b4; simp only [tv] at hy; clear J5 hb2)
        refine hR.mono ?_
        rintro e W6 (⟨rfl, hJ6, hk6⟩ | ⟨rfl, hJx6⟩)
        · have hh5 := hide (hh.out.below b5.out)
          obtain ⟨hkeep, hh6⟩ := hk6 hh5.out
          have y0 : W6.cell? ⟨S, 0, none⟩ = some (.int .i64 (l1 : Int)) := hkeep.cell x40 (fun hx => by have := (hh.out S ((Hang.below (hh.out g (.inl rfl)).1 b5.out).1 hx)).1; have := hSS.out; omega)
          have hk6' := hide (show Blk W6 gb 22 #[.slice (some ⟨b, o, none⟩) L c] from hkeep.keep gb _ _ _ (hk.out.below b5.out hk.out.lt) (fun hx => (hh5.out gb hx).2.1 rfl))
          have hr6 := hide (hkeep.rd hh5.out hBm (hr.out.below (b5.out.mono hB.out)))
          have hB6 := hide (Nat.le_trans hB.out (Nat.le_trans b5.out.size hkeep.size))
          have hpre2 := hide (show Def.parse bs = (pre ++ [(⟨(l1, d1), .inr ⟨h3, hm2, h4, hm3⟩⟩ : Tk)]).map (·.1) ++ Def.rest bs (p + l1) from by rw [hpre.out, Def.rest_step bs p hpb.out, htok.out, hstp.out, List.map_append, List.append_assoc]; rfl)
          have hlen2 := hide (show (pre ++ [(⟨(l1, d1), .inr ⟨h3, hm2, h4, hm3⟩⟩ : Tk)]).length ≤ p + l1 from by rw [List.length_append]; have := hlen.out; simp; omega)
          replace hJ6 := hide hJ6
          replace hh6 := hide hh6
          clear hkeep hk6
          gi_wp2
          go_roundw
          case rel => exact ⟨p + l1, _, by omega, by go_num, hpre2, hlen2, hJ6, hh6, hk6', hr6, hB6⟩
          case measure => simp [intOf] <;> omega
        · gi_wp2
          refine bodyPost_ret (results_none rfl _ _ _) rfl ?_
          exact ⟨⟨_, rfl⟩, .inr ⟨_, trivial, hJx6⟩⟩
    · obtain rfl : p = L := by omega
      have hend := hide (show Def.parse bs = pre.map (·.1) from by rw [hpre.out, Def.rest_end bs p (by omega), List.append_nil])
      gi_wp2
      go_end0
      exact ⟨⟨_, rfl⟩, .inl ⟨pre, hend.out.symm, hJp.out⟩⟩

end Go.Proofs.Ythplpoijkebjbaa
