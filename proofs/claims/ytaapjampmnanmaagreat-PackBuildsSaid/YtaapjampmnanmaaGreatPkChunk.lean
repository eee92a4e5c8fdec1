/- Layer 14 (pack): slices.Chunk over entries, and Leaves. The conditions: where the entries lie; at most 65536 of them. -/
import Derived.Test.YtaapjampmnanmaaGreatPkClone
import Derived.Test.YtaapjampmnanmaaGreatPkLeaf
import Derived.RangeFuncNested
import Derived.RangeFuncBound
import Derived.RangeFuncCalls
import Derived.RangeFuncLeaves
import Derived.RangeFuncFrom
import Derived.Shelf.Abstract
import Derived.Shelf.RegionOpen
import Derived.WalkKit
import Derived.OwnWalkIn
import Derived.TacticsInMore
import Derived.LoopNIn
import Derived.LoopIn
import Derived.RangeFuncOwn
import Derived.BigRegionIn
import Derived.Lib.MinMax
namespace Go.Proofs.YtaapjampmnanmaaGreat
open Go.RowKit Go.Shelf
set_option linter.unusedVariables false
set_option linter.unusedSimpArgs false

attribute [local go_sem] Oper.semAt_some

/-- Where the parts begin, and how long they are. -/
def cuts (M n : Nat) : Nat → Nat → List (Nat × Nat)
  | 0, _ => []
  | f + 1, i => if n ≤ i then [] else (i, min M (n - i)) :: cuts M n f (i + M)
theorem cuts_end (M n f i : Nat) (h : n ≤ i) : cuts M n f i = [] := by
  cases f with
  | zero => rfl
  | succ f => rw [cuts, if_pos h]
theorem cuts_step (M n f i : Nat) (h : i < n) : cuts M n (f + 1) i = (i, min M (n - i)) :: cuts M n f (i + M) := by rw [cuts, if_neg (by omega)]
theorem cuts_chk (M n : Nat) (es : List Ent) (hl : es.length = n) : ∀ (f i : Nat), chk M f (es.drop i) = (cuts M n f i).map fun x => (es.drop x.1).take x.2 := by
  intro f
  induction f with
  | zero => intro i; rfl
  | succ f ih =>
    intro i
    by_cases h : n ≤ i
    · rw [List.drop_eq_nil_of_le (by omega), chk_nil, cuts_end M n _ i h]; rfl
    · rw [chk, if_neg (by intro h0; have := congrArg List.length h0; rw [List.length_drop] at this; simp at this; omega), cuts_step M n f i (by omega), List.map_cons, List.drop_drop, ih (i + M)]
      congr 1
      simp only
      rw [List.take_eq_take_iff, List.length_drop, hl]
      omega
abbrev Pt (L : Nat) := { x : Nat × Nat // 1 ≤ x.2 ∧ x.1 + x.2 ≤ L }
/-- A part as a slice. -/
def ptv (A : Option Addr) (x : Nat × Nat) : Value := .slice (A.map fun a => a.add (x.1 * 4)) x.2 x.2

theorem chunk_any (A : Option Addr) (n c : Nat) (m : Int) (hm : 1 ≤ m) (w : World) : Calls Tryz.prog 102 #[.slice A n c, .int .i64 m] w fun e w' =>
    e = .returned (.func (.func 129) #[] #[.pointer (some ⟨w.heap.size, 0, none⟩), .pointer (some ⟨w.heap.size + 1, 0, none⟩)]) ∧ w' = (w.alloc (.cells #[.slice A n c] 48)).alloc (.cells #[.int .i64 m] 3) := by
  have hd : decide (m < 1) = false := by simp; omega
  go_enter Tryz.func102, Tryz.ntmps102
  go_wp2
  go_ret
  exact ⟨by simp, rfl⟩

def KpP (G m : Nat) (W W' : World) : Prop := Chg (fun k => k = G ∨ m ≤ k) W W'

set_option maxRecDepth 100000 in
set_option maxHeartbeats 4000000 in
theorem chunk_stops (n : Nat) (hn : 3 ≤ n) (b1 b2 G m : Nat) (A : Option Addr) (L c : Nat) (M : Nat) (mI : Int) (hM : 1 ≤ M) (hMI : (M : Int) = mI) (hMx : mI ≤ 9223372036854775807) (w0 : World) (hm : m ≤ w0.heap.size) (h1 : b1 < m) (h2 : b2 < m) (g1 : b1 ≠ G) (g2 : b2 ≠ G) (hk1 : Blk w0 b1 48 #[.slice A L c]) (hk2 : Blk w0 b2 3 #[.int .i64 mI]) (hl : L ≤ 65536) (hc : L ≤ c) :
    SeqStopsK Fence.wide n Tryz.prog 129 #[.pointer (some ⟨b1, 0, none⟩), .pointer (some ⟨b2, 0, none⟩)] (fun x : Pt L => #[ptv A x.1]) (KpP G m) (fun xs => xs.map (·.1) = cuts M L L 0) (fun _ => True) L w0 := by
  intro l J Jx W hW hJ hJx hY h0
  have hJm : Hid (∀ pre W1 W2, J pre W1 → Below W1.heap.size W1 W2 → J pre W2) := hide (fun pre W1 W2 hj hb => hJ pre W1 W2 none hj ⟨hb.os, hb.tape, hb.output, hb.size, fun k hk _ => hb.block k hk⟩ (fun r e => by cases e))
  have kW1 := hide (hk1.below hW hk1.lt)
  have kW2 := hide (hk2.below hW hk2.lt)
  have hBW := hide (Nat.le_trans hm hW.size)
  have hY' := hide hY
  clear hY hJ hJx hW hk1 hk2 hm
  have hLI : (L : Int) ≤ 65536 := by omega
  refine callsIn_of_wp Tryz.func129 rfl trivial ?_ rfl
  simp only [Tryz.ntmps129, List.size_toArray, List.length_cons, List.length_nil, Nat.reduceAdd, Nat.reduceSub, Array.replicate_succ, Array.replicate_zero, List.push_toArray, List.append_toArray, List.nil_append, List.cons_append]
  gi_wp2
  gi_loopw [4] (fun i wr => ∃ (p : Int) (pre : List (Pt L)) (f : Nat), i = .int .i64 p ∧ 0 ≤ p ∧ (p = 0 ∨ mI ≤ p) ∧ Hid (cuts M L L 0 = pre.map (·.1) ++ cuts M L f p.toNat) ∧ Hid (pre.length + f = L) ∧ Hid (L ≤ p.toNat + f) ∧ Hid (J pre wr) ∧ Hid (Blk wr b1 48 #[.slice A L c]) ∧ Hid (Blk wr b2 3 #[.int .i64 mI]) ∧ Hid (m ≤ wr.heap.size)) (fun i _ => L - (intOf i).toNat)
  case atStart => exact ⟨0, [], L, rfl, by omega, .inl rfl, hide rfl, hide (by simp), hide (by simp), hide h0, kW1, kW2, hBW⟩
  case round =>
    obtain ⟨p, pre, f, rfl, hp0, hpm, hpre, hlen, hf, hJp, k1, k2, hB⟩ := hrel
    have hn1 : 1 ≤ n := by omega
    have c1 : wr.cell? ⟨b1, 0, none⟩ = some (.slice A L c) := k1.out.cell 0
    have c2 : wr.cell? ⟨b2, 0, none⟩ = some (.int .i64 mI) := k2.out.cell 0
    by_cases hlt : p < (L : Int)
    · obtain ⟨q, rfl⟩ : ∃ q : Nat, p = (q : Int) := ⟨p.toNat, by omega⟩
      obtain ⟨t, ht⟩ : ∃ t, min M (L - q) = t := ⟨_, rfl⟩
      have htI : (1 : Int) ≤ (t : Int) ∧ (q : Int) + (t : Int) ≤ (L : Int) := by omega
      have hmn : min mI ((L - q : Nat) : Int) = (t : Int) := by omega
      have hw1 : IntKind.i64.wrap ((q : Int) + mI) = (q : Int) + mI := by rw [IntKind.wrap_i64]; omega
      have hw2 : IntKind.i64.wrap ((q : Int) + (t : Int)) = (q : Int) + (t : Int) := by rw [IntKind.wrap_i64]; omega
      obtain ⟨f', rfl⟩ : ∃ f', f = f' + 1 := ⟨f - 1, by have := hf.out; omega⟩
      have hgp : 1 ≤ t ∧ q + t ≤ L := by omega
      obtain ⟨fn, tmps, assign, body, hy, hR⟩ := hY'.out pre ⟨(q, t), hgp⟩ wr.drew (hJm.out _ _ _ hJp.out (Below.refl _ _).drew) (by have := hlen.out; omega)
      simp only [ptv] at hy
      have d1 : (wr.drew).cell? ⟨b1, 0, none⟩ = some (.slice A L c) := c1
      have d2 : (wr.drew).cell? ⟨b2, 0, none⟩ = some (.int .i64 mI) := c2
      replace hR := hide hR
      gi_wp2
      gi_region
      gi_wp2
      refine hR.out.mono ?_
      rintro e W6 (⟨rfl, hJ6, hk6⟩ | ⟨rfl, hJx6⟩)
      · have hc6 : Chg (fun k => k = G ∨ m ≤ k) wr W6 := by
          refine Chg.trans (b := wr.drew) ((Chg.refl _ wr).drew) hk6 (fun _ _ h => h)
        have e1 := hide (k1.out.chg hc6 (fun h => by omega))
        have e2 := hide (k2.out.chg hc6 (fun h => by omega))
        have hB6 := hide (Nat.le_trans hB.out hc6.size)
        have z1 : W6.cell? ⟨b1, 0, none⟩ = some (.slice A L c) := e1.out.cell 0
        have z2 : W6.cell? ⟨b2, 0, none⟩ = some (.int .i64 mI) := e2.out.cell 0
        have hpre2 := hide (show cuts M L L 0 = (pre ++ [(⟨(q, t), hgp⟩ : Pt L)]).map (·.1) ++ cuts M L f' ((q : Int) + mI).toNat from by
          rw [hpre.out, Int.toNat_natCast, cuts_step M L f' q (by omega), ht, List.map_append, List.append_assoc, show ((q : Int) + mI).toNat = q + M by omega]
          rfl)
        have hlen2 := hide (show (pre ++ [(⟨(q, t), hgp⟩ : Pt L)]).length + f' = L from by rw [List.length_append]; have := hlen.out; simp; omega)
        have hf2 := hide (show L ≤ ((q : Int) + mI).toNat + f' from by have := hf.out; omega)
        replace hJ6 := hide hJ6
        clear hc6 hk6 hR hy
        gi_wp2
        go_roundw
        case rel => exact ⟨(q : Int) + mI, _, f', by go_num, by omega, .inr (by omega), hpre2, hlen2, hf2, hJ6, e1, e2, hB6⟩
        case measure => simp [intOf] <;> omega
      · gi_wp2
        refine bodyPost_ret (results_none rfl _ _ _) rfl ?_
        exact ⟨⟨_, rfl⟩, .inr ⟨_, trivial, hJx6⟩⟩
    · have hend := hide (show cuts M L L 0 = pre.map (·.1) from by rw [hpre.out, cuts_end M L f _ (by omega), List.append_nil])
      gi_wp2
      go_end0
      exact ⟨⟨_, rfl⟩, .inl ⟨pre, hend.out.symm, hJp.out⟩⟩

end Go.Proofs.YtaapjampmnanmaaGreat
