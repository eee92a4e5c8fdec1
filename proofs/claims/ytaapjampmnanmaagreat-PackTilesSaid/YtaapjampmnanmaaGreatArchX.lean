/- Layer 13 (arch): a number of bytes, the lowest first, as the document reads it. The conditions: where the slice lies; the place lies in it. Layer 13 (arch): parse's small functions: a word, half a word, a pair, a point. The conditions: where parse's variables lie. A region that draws its order: all operations but a forced tail yield one value in every world of a class. There is no condition. -/
import Derived.Test.YtaapjampmnanmaaGreatArchK
import Derived.Laws.Bits64b
import Derived.Deep.RegionWith
import Derived.Test.YtaapjampmnanmaaGreatBase
import Derived.StillTail
import Derived.BigQuiet
namespace Go.Proofs.YtaapjampmnanmaaGreat
open Go.RowKit
def num (bs : List UInt8) (p : Nat) : Nat → Nat
  | 0 => 0
  | k + 1 => (bs.getD p 0).toNat + 256 * num bs (p + 1) k
theorem num_lt (bs : List UInt8) (p k : Nat) : num bs p k < 256 ^ k := by
  induction k generalizing p with
  | zero => simp [num]
  | succ k ih =>
    have h1 := ih (p + 1)
    have h2 := toNat_le (bs.getD p 0)
    rw [num, Nat.pow_succ]
    omega
theorem num_up (bs : List UInt8) (p k : Nat) : num bs p (k + 1) = num bs p k + (bs.getD (p + k) 0).toNat * 256 ^ k := by
  induction k generalizing p with
  | zero => simp [num]
  | succ k ih =>
    rw [num, ih (p + 1), num, Nat.mul_add, Nat.pow_succ, show p + 1 + k = p + (k + 1) by omega, Nat.add_assoc]
    congr 2
    rw [Nat.mul_comm 256, Nat.mul_assoc]
def sg (bs : List UInt8) (p : Nat) : Int := if 2147483648 ≤ num bs p 4 then (num bs p 4 : Int) - 4294967296 else (num bs p 4 : Int)
theorem or_add13 (a x m : Nat) (h : a < 2 ^ m) : a ||| (x * 2 ^ m) = a + x * 2 ^ m := by
  rw [Nat.mul_comm x, Nat.or_comm, ← Nat.two_pow_add_eq_or_of_lt h, Nat.add_comm]
theorem pnumber_any (A : Option Addr) (c : Nat) (bs : List UInt8) (p n gb : Nat) (w : World) (B : Nat) (hk : Blk w gb 22 #[.slice A bs.length c]) (hr : Rd w B A bs.length (bs.map bv)) (hp : p + n ≤ bs.length) (hn : n ≤ 8) (hl : bs.length ≤ 4194304) :
    Calls Tryz.prog 52 #[.int .i64 (p : Int), .int .i64 (n : Int), .pointer (some ⟨gb, 0, none⟩)] w fun e w' => e = .returned (.int .u64 ((num bs p n : Nat) : Int)) ∧ w = w' := by
  obtain ⟨L, hL⟩ : ∃ L, bs.length = L := ⟨_, rfl⟩
  rw [hL] at hr hp hl hk
  have hLI : (L : Int) ≤ 4194304 := by omega
  have hnI : (n : Int) ≤ 8 := by omega
  have c0 : w.cell? ⟨gb, 0, none⟩ = some (.slice A L c) := hk.cell 0
  go_enter Tryz.func52, Tryz.ntmps52
  go_wp2
  go_loopw [6, 9] (fun s6 s9 wr => ∃ (i V : Nat), i ≤ n ∧ s6 = .int .u64 (V : Int) ∧ s9 = .int .i64 (i : Int) ∧ Hid (num bs p i = V) ∧ Hid (w = wr)) (fun _ s9 _ => n - (intOf s9).toNat)
  case atStart => exact ⟨0, 0, by omega, rfl, rfl, hide rfl, hide rfl⟩
  case round =>
    obtain ⟨i, V, hin, rfl, rfl, hV, hw⟩ := hrel
    have hw' := hw.out
    subst hw'
    by_cases hlt : i < n
    · have hiI : (i : Int) < (n : Int) := by omega
      obtain ⟨pq, hpq⟩ : ∃ pq, p + i = pq := ⟨_, rfl⟩
      have hpqI : (p : Int) + (i : Int) = (pq : Int) := by omega
      have hpqL : pq < bs.length := by omega
      have hpqL2 : (pq : Int) < (L : Int) := by omega
      obtain ⟨b, o, rfl, _, hc⟩ := hr.byte (j := pq) (by omega)
      obtain ⟨x, hx⟩ : ∃ x, bs[pq].toNat = x := ⟨_, rfl⟩
      have hx8 : x ≤ 255 := by rw [← hx]; exact toNat_le _
      rw [hx] at hc
      have h256 : (256 : Nat) ^ i = 2 ^ (8 * i) := by rw [Nat.pow_mul]
      have hVb : V < 2 ^ (8 * i) := by rw [← hV.out, ← h256]; exact num_lt bs p i
      obtain ⟨X, hX⟩ : ∃ X, x * 2 ^ (8 * i) = X := ⟨_, rfl⟩
      have hXb : V + X < 18446744073709551616 := by
        have h1 := num_lt bs p (i + 1)
        rw [num_up, hV.out, hpq, List.getD_eq_getElem?_getD, List.getElem?_eq_getElem hpqL, Option.getD_some, hx, h256, hX] at h1
        have h2 : 256 ^ (i + 1) ≤ 256 ^ 8 := Nat.pow_le_pow_right (by decide) (by omega)
        have h3 : (256 : Nat) ^ 8 = 18446744073709551616 := by decide
        omega
      have hXI : (x : Int) * 2 ^ (8 * i) = (X : Int) := by rw [← hX]; simp
      have hXW : IntKind.u64.wrap ((x : Int) * 2 ^ (8 * i)) = (X : Int) := by rw [hXI, IntKind.wrap_u64]; omega
      have hxw : IntKind.u64.wrap (x : Int) = (x : Int) := by rw [IntKind.wrap_u64]; omega
      obtain ⟨V2, hV2⟩ : ∃ V2, V + X = V2 := ⟨_, rfl⟩
      have hor : bits .or .u64 (V : Int) (X : Int) = (V2 : Int) := by
        rw [bits_or_u64_nat _ _ (by omega) (by omega), ← hX, or_add13 V x (8 * i) hVb, hX, hV2]
      have hnum : Hid (num bs p (i + 1) = V2) := hide (by
        rw [num_up, hV.out, hpq, List.getD_eq_getElem?_getD, List.getElem?_eq_getElem hpqL, Option.getD_some, hx, h256, hX, hV2])
      clear h256 hVb hX hXb hV2 hx hx8 hXI
      replace hpq := hide hpq
      go_wp2
      go_roundw
      case rel => exact ⟨i + 1, V2, by omega, rfl, by go_num, hnum, by first | exact hide rfl | exact hide trivial⟩
      case measure => simp [intOf] <;> omega
    · obtain rfl : i = n := by omega
      go_wp2
      go_ret
      exact ⟨by rw [← hV.out]; rfl, rfl⟩
end Go.Proofs.YtaapjampmnanmaaGreat
namespace Go.Proofs.YtaapjampmnanmaaGreat
open Go.RowKit
structure Ps (w : World) (B gb gn : Nat) (A : Option Addr) (c : Nat) (bs : List UInt8) : Prop where
  kb : Blk w gb 22 #[.slice A bs.length c]
  kn : Blk w gn 102 #[.func (.func 52) #[] #[.pointer (some ⟨gb, 0, none⟩)]]
  rd : Rd w B A bs.length (bs.map bv)
theorem word_any (A : Option Addr) (c : Nat) (bs : List UInt8) (p gb gn : Nat) (w : World) (B : Nat) (h : Ps w B gb gn A c bs) (hp : p + 8 ≤ bs.length) (hl : bs.length ≤ 4194304) :
    Calls Tryz.prog 53 #[.int .i64 (p : Int), .pointer (some ⟨gn, 0, none⟩)] w fun e w' => e = .returned (.int .u64 ((num bs p 8 : Nat) : Int)) ∧ w = w' := by
  have hq := hide (show Calls Tryz.prog 52 #[.int .i64 (p : Int), .int .i64 8, .pointer (some ⟨gb, 0, none⟩)] w _ from pnumber_any A c bs p 8 gb w B h.kb h.rd hp (by decide) hl)
  have c0 : w.cell? ⟨gn, 0, none⟩ = some (.func (.func 52) #[] #[.pointer (some ⟨gb, 0, none⟩)]) := h.kn.cell 0
  generalize num bs p 8 = N at *
  clear h hp hl
  go_enter Tryz.func53, Tryz.ntmps53
  go_wp2_with (go_at_call 52; (with_reducible refine hq.out.mono ?_); rintro e w' ⟨rfl, rfl⟩)
  go_ret
  exact ⟨rfl, rfl⟩
theorem sg_wrap (bs : List UInt8) (p : Nat) : IntKind.i32.wrap ((num bs p 4 : Nat) : Int) = sg bs p ∧ -2147483648 ≤ sg bs p ∧ sg bs p ≤ 2147483647 := by
  have h1 := num_lt bs p 4
  have h2 : (256 : Nat) ^ 4 = 4294967296 := by decide
  rw [IntKind.wrap_i32]
  unfold sg
  split <;> omega
theorem half_any (A : Option Addr) (c : Nat) (bs : List UInt8) (p gb gn : Nat) (w : World) (B : Nat) (h : Ps w B gb gn A c bs) (hp : p + 4 ≤ bs.length) (hl : bs.length ≤ 4194304) :
    Calls Tryz.prog 54 #[.int .i64 (p : Int), .pointer (some ⟨gn, 0, none⟩)] w fun e w' => e = .returned (.int .i64 (sg bs p)) ∧ w = w' := by
  have hq := hide (show Calls Tryz.prog 52 #[.int .i64 (p : Int), .int .i64 4, .pointer (some ⟨gb, 0, none⟩)] w _ from pnumber_any A c bs p 4 gb w B h.kb h.rd hp (by decide) hl)
  have c0 : w.cell? ⟨gn, 0, none⟩ = some (.func (.func 52) #[] #[.pointer (some ⟨gb, 0, none⟩)]) := h.kn.cell 0
  obtain ⟨h1, h2, h3⟩ := sg_wrap bs p
  generalize num bs p 4 = N at *
  generalize sg bs p = z at *
  have h4 : IntKind.i64.wrap z = z := by rw [IntKind.wrap_i64]; omega
  clear h hp hl h2 h3
  go_enter Tryz.func54, Tryz.ntmps54
  go_wp2_with (go_at_call 52; (with_reducible refine hq.out.mono ?_); rintro e w' ⟨rfl, rfl⟩)
  go_ret
  exact ⟨rfl, rfl⟩
theorem Ps.alloc {w : World} {B gb gn : Nat} {A : Option Addr} {c : Nat} {bs : List UInt8} (h : Ps w B gb gn A c bs) (hB : B ≤ w.heap.size) (o : Obj) : Ps (w.alloc o) B gb gn A c bs := ⟨h.kb.alloc o, h.kn.alloc o, h.rd.alloc hB o⟩
set_option maxRecDepth 100000 in
set_option maxHeartbeats 4000000 in
theorem pair_any (A : Option Addr) (c : Nat) (bs : List UInt8) (p gb gn gw : Nat) (w : World) (B : Nat) (h : Ps w B gb gn A c bs) (hB : B ≤ w.heap.size) (hw : Blk w gw 103 #[.func (.func 53) #[] #[.pointer (some ⟨gn, 0, none⟩)]]) (hp : p + 16 ≤ bs.length) (hl : bs.length ≤ 4194304) :
    Calls Tryz.prog 55 #[.int .i64 (p : Int), .pointer (some ⟨gw, 0, none⟩)] w fun e w' => e = .returned (.agg #[.int .u64 ((num bs p 8 : Nat) : Int), .int .u64 ((num bs (p + 8) 8 : Nat) : Int)]) ∧ Below w.heap.size w w' := by
  obtain ⟨w1, hw1⟩ : ∃ W, w.alloc (.cells #[.int .u64 0, .int .u64 0] 25) = W := ⟨_, rfl⟩
  have h1 : Ps w1 B gb gn A c bs := by rw [← hw1]; exact h.alloc hB _
  have q1 := hide (word_any A c bs p gb gn w1.drew B ⟨h1.kb.drew, h1.kn.drew, h1.rd⟩ (by omega) hl)
  have q2 := hide (word_any A c bs (p + 8) gb gn w1.drew B ⟨h1.kb.drew, h1.kn.drew, h1.rd⟩ (by omega) hl)
  have c0 : w1.drew.cell? ⟨gw, 0, none⟩ = some (.func (.func 53) #[] #[.pointer (some ⟨gn, 0, none⟩)]) := by rw [← hw1]; exact (hw.alloc _).drew.cell 0
  obtain ⟨G, hG⟩ : ∃ G, w.heap.size = G := ⟨_, rfl⟩
  obtain ⟨p8, hp8⟩ : ∃ p8, p + 8 = p8 := ⟨_, rfl⟩
  have hpI : (p : Int) + 8 = (p8 : Int) := by omega
  have hpW : IntKind.i64.wrap ((p : Int) + 8) = (p8 : Int) := by rw [IntKind.wrap_i64]; omega
  have hpW2 : IntKind.i64.wrap (p8 : Int) = (p8 : Int) := by rw [IntKind.wrap_i64]; omega
  have hk : Blk w1 G 25 #[.int .u64 0, .int .u64 0] := by rw [← hw1, ← hG]; exact Blk.new w _ _
  have hb1 : Below G w w1 := by rw [← hw1, ← hG]; exact (Below.refl _ w).alloc (Nat.le_refl _) _
  rw [hp8] at q2 ⊢
  generalize num bs p 8 = N1 at *
  generalize num bs p8 8 = N2 at *
  rw [hG]
  replace hb1 := hide hb1
  clear hk h h1 hp hl hB hw hp8
  go_enter Tryz.func55, Tryz.ntmps55
  subst hG
  subst hw1
  go_wp2
  go_region_with (first
    | (go_at_call 53; (with_reducible refine q1.out.mono ?_); rintro e w' ⟨rfl, rfl⟩)
    | (go_at_call 53; (with_reducible refine q2.out.mono ?_); rintro e w' ⟨rfl, rfl⟩))
  all_goals go_wp2
  all_goals exact bodyPost_ret_by (results_cell_row rfl _ _ w.heap.size 25 #[.int .u64 (N1 : Int), .int .u64 (N2 : Int)] (0, 0) _ rfl (Blk.drew (Blk.new w 25 #[.int .u64 (N1 : Int), .int .u64 (N2 : Int)])) Tryz.underlying25 rfl (by kernel_rfl)) rfl ⟨rfl, ((Below.refl _ w).alloc (Nat.le_refl _) _).trans ⟨rfl, rfl, rfl, Nat.le_refl _, fun _ _ => rfl⟩⟩
set_option maxRecDepth 100000 in
set_option maxHeartbeats 4000000 in
theorem point_any (A : Option Addr) (c : Nat) (bs : List UInt8) (p gb gn gw : Nat) (w : World) (B : Nat) (h : Ps w B gb gn A c bs) (hB : B ≤ w.heap.size) (hw : Blk w gw 104 #[.func (.func 54) #[] #[.pointer (some ⟨gn, 0, none⟩)]]) (hp : p + 8 ≤ bs.length) (hl : bs.length ≤ 4194304) :
    Calls Tryz.prog 56 #[.int .i64 (p : Int), .pointer (some ⟨gw, 0, none⟩)] w fun e w' => e = .returned (.agg #[.int .i64 (sg bs p), .int .i64 (sg bs (p + 4))]) ∧ Below w.heap.size w w' := by
  obtain ⟨w1, hw1⟩ : ∃ W, w.alloc (.cells #[.int .i64 0, .int .i64 0] 28) = W := ⟨_, rfl⟩
  have h1 : Ps w1 B gb gn A c bs := by rw [← hw1]; exact h.alloc hB _
  have q1 := hide (half_any A c bs p gb gn w1.drew B ⟨h1.kb.drew, h1.kn.drew, h1.rd⟩ (by omega) hl)
  have q2 := hide (half_any A c bs (p + 4) gb gn w1.drew B ⟨h1.kb.drew, h1.kn.drew, h1.rd⟩ (by omega) hl)
  have c0 : w1.drew.cell? ⟨gw, 0, none⟩ = some (.func (.func 54) #[] #[.pointer (some ⟨gn, 0, none⟩)]) := by rw [← hw1]; exact (hw.alloc _).drew.cell 0
  obtain ⟨G, hG⟩ : ∃ G, w.heap.size = G := ⟨_, rfl⟩
  obtain ⟨p8, hp8⟩ : ∃ p8, p + 4 = p8 := ⟨_, rfl⟩
  have hpI : (p : Int) + 4 = (p8 : Int) := by omega
  have hpW : IntKind.i64.wrap ((p : Int) + 4) = (p8 : Int) := by rw [IntKind.wrap_i64]; omega
  have hpW2 : IntKind.i64.wrap (p8 : Int) = (p8 : Int) := by rw [IntKind.wrap_i64]; omega
  have hk : Blk w1 G 28 #[.int .i64 0, .int .i64 0] := by rw [← hw1, ← hG]; exact Blk.new w _ _
  have hb1 : Below G w w1 := by rw [← hw1, ← hG]; exact (Below.refl _ w).alloc (Nat.le_refl _) _
  rw [hp8] at q2 ⊢
  generalize sg bs p = N1 at *
  generalize sg bs p8 = N2 at *
  rw [hG]
  replace hb1 := hide hb1
  clear hk h h1 hp hl hB hw hp8
  go_enter Tryz.func56, Tryz.ntmps56
  subst hG
  subst hw1
  go_wp2
  go_region_with (first
    | (go_at_call 54; (with_reducible refine q1.out.mono ?_); rintro e w' ⟨rfl, rfl⟩)
    | (go_at_call 54; (with_reducible refine q2.out.mono ?_); rintro e w' ⟨rfl, rfl⟩))
  all_goals go_wp2
  all_goals exact bodyPost_ret_by (results_cell_row rfl _ _ w.heap.size 28 #[.int .i64 N1, .int .i64 N2] (0, 0) _ rfl (Blk.drew (Blk.new w 28 #[.int .i64 N1, .int .i64 N2])) Tryz.underlying28 rfl (by kernel_rfl)) rfl ⟨rfl, ((Below.refl _ w).alloc (Nat.le_refl _) _).trans ⟨rfl, rfl, rfl, Nat.le_refl _, fun _ _ => rfl⟩⟩
end Go.Proofs.YtaapjampmnanmaaGreat
namespace Go.Proofs.YtaapjampmnanmaaGreat
open Go.RowKit
section
variable {P : Program} {ops : Array Oper} {md : Region.Mode} {C : World → Prop}
def wpAnyQL (P : Program) (md : Region.Mode) (ops : Array Oper) (C : World → Prop) (n : Nat) (L : Array Bool → Act → Prop) : Nat → Array Bool → Act → Prop
  | 0, listed, a => L listed a
  | f + 1, listed, a =>
    Region.ready md ops listed ≠ [] ∧ ∀ i ∈ Region.ready md ops listed, i < n ∧ qOp P ops C i (wpAnyQL P md ops C n L f (listed.setIfInBounds i true)) a
theorem wpAny_of_qhead {n g : Nat} {L : Array Bool → Act → Prop} {Q' : Exit → Act → World → Prop} (hL : ∀ listed a w, C w → L listed a → wpAny P md ops Q' g listed a w) :
    ∀ (f : Nat) (listed : Array Bool) (a : Act) (w : World), C w → wpAnyQL P md ops C n L f listed a → wpAny P md ops Q' (f + g) listed a w
  | 0, listed, a, w, hw, h => by rw [Nat.zero_add]; exact hL _ _ _ hw h
  | f + 1, listed, a, w, hw, h => by
    rw [show f + 1 + g = (f + g) + 1 by omega]
    exact ⟨fun h0 => absurd h0 h.1, fun i hi => wpOp_of_qOp hw (fun a' w' hw' h' => wpAny_of_qhead hL f _ a' w' hw' h') (h.2 i hi).2⟩
theorem wpAnyQL_first {n i : Nat} {oi : Oper} {v : Value} {L : Array Bool → Act → Prop} (hi : ops[i]? = some oi) (hsel : ∀ (j : Nat) (o : Oper) cs b, ops[j]? = some o → o.op ≠ .select cs b)
    (hs : Region.sinkB md ops n = true) (hc : Region.chainB md ops n = true) (hn : n < ops.size) (hin : i < n)
    (hdone : ∀ listed a, L listed a → ∀ j ∈ Region.ready md ops listed, n ≤ j) :
    ∀ (f : Nat) (listed : Array Bool) (a : Act), HeadInv md ops n listed →
      (∀ j oj, ops[j]? = some oj → j ≠ i → listed.getD j true = false → (∀ e ∈ oj.after, Region.binds md e = true → e.on ≠ i) → oi.apart ops oj = true) →
      i ∈ Region.ready md ops listed → YieldsIn P ops C oi v a →
      wpAnyQL P md ops C n L f (listed.setIfInBounds i true) (a.put oi.dst v) → wpAnyQL P md ops C n L (f + 1) listed a := by
  intro f
  induction f with
  | zero =>
    intro listed a inv _ hr hy H
    have hun := (mem_ready.1 hr).1
    refine ⟨fun h => (by rw [h] at hr; cases hr), fun j hj => ?_⟩
    have hjn : j < n := by
      rcases Nat.lt_or_ge j n with h | h
      · exact h
      · exact absurd hj (tail_waits hs hc hn inv _ i rfl hin hun j h)
    refine ⟨hjn, ?_⟩
    by_cases hji : j = i
    · subst hji; exact hy.qOp hi H
    · have := hdone _ _ H j (ready_mono hj hji)
      omega
  | succ f ih =>
    intro listed a inv hfree hr hy H
    have hun := (mem_ready.1 hr).1
    refine ⟨fun h => (by rw [h] at hr; cases hr), fun j hj => ?_⟩
    have hjn : j < n := by
      rcases Nat.lt_or_ge j n with h | h
      · exact h
      · exact absurd hj (tail_waits hs hc hn inv _ i rfl hin hun j h)
    refine ⟨hjn, ?_⟩
    by_cases hji : j = i
    · subst hji; exact hy.qOp hi H
    · have h1 := (H.2 j (ready_mono hj hji)).2
      obtain ⟨hjun, oj, hoj, hall⟩ := mem_ready.1 hj
      have hnot : ∀ e ∈ oj.after, Region.binds md e = true → e.on ≠ i := fun e he hb heq => by
        have h1 := hall e he hb
        rw [heq, getD_both hun] at h1
        cases h1
      have h2 := qOp_put hoj (hfree j oj hoj hji hjun hnot) (fun cs b => hsel i oi cs b hi) (fun cs b => hsel j oj cs b hoj) hy h1
      have hfree' : ∀ k ok, ops[k]? = some ok → k ≠ i → (listed.setIfInBounds j true).getD k true = false →
          (∀ e ∈ ok.after, Region.binds md e = true → e.on ≠ i) → oi.apart ops ok = true := fun k ok hk hki hun hno => by
        refine hfree k ok hk hki ?_ hno
        by_cases hjk : j = k
        · subst hjk; exact hjun
        · rw [getD_set_ne true hjk] at hun; exact hun
      refine qOp_mono (fun a' h3 => ih (listed.setIfInBounds j true) a' (inv.set hj hjn) hfree' (ready_mono hr (Ne.symm hji)) h3.1 ?_) h2
      rw [Array.setIfInBounds_comm _ _ hji]
      exact h3.2
theorem wpAnyQL_lex {n g : Nat} {Lq : Act → Prop} (hsel : Region.noSelect ops = true) (hs : Region.sinkB md ops n = true) (hc : Region.chainB md ops n = true) (hn : n < ops.size) :
    ∀ (l : List Oper) (k : Nat) (listed : Array Bool) (a : Act), (∀ j, j < l.length → l[j]? = ops[k + j]?) → k + l.length = n → HeadInv md ops n listed →
    Region.lexHead md ops g l.length k listed = true → wpQuiet P ops C Lq l a →
    wpAnyQL P md ops C n (fun listed' a' => Region.seqB md ops g n listed' = true ∧ Lq a') l.length listed a
  | [], k, listed, a, _, hk, _, hB, h => by
    have : k = n := by simpa using hk
    subst this
    exact ⟨by simpa [Region.lexHead] using hB, h⟩
  | o :: l, k, listed, a, hl, hk, inv, hB, h => by
    have h0 : ops[k]? = some o := by simpa using (hl 0 (by simp)).symm
    simp only [List.length_cons, Region.lexHead, Bool.and_eq_true] at hB
    obtain ⟨⟨hr, hf⟩, hB'⟩ := hB
    have hkn : k < n := by simp only [List.length_cons] at hk; omega
    have hr' : k ∈ Region.ready md ops listed := by simpa using hr
    have hst : qOp P ops C k (wpQuiet P ops C Lq l) a := by unfold qOp; simp only [h0]; exact h
    obtain ⟨v, hy, hK⟩ := yieldsIn_of_qOp h0 hst
    exact wpAnyQL_first h0 (Region.noSelect_spec hsel) hs hc hn hkn (fun listed' a' hL => seqB_ready hL.1) l.length listed a inv (Region.free_spec h0 hf) hr' hy
      (wpAnyQL_lex hsel hs hc hn l (k + 1) _ _ (fun j hj => by have := hl (j + 1) (by simp; omega); simpa [Nat.add_assoc, Nat.add_comm 1 j] using this) (by simp only [List.length_cons] at hk; omega) (inv.set hr' hkn) hB' hK)
theorem wp_region_quiet_tail {id : Nat} {Q : Exit → Act → World → Prop} {a : Act} {w : World} {l : List Oper} (n : Nat) (hm : P.follows .mixedOrders = true) (hB : Region.lexTailB .any l.toArray n = true) (hC : C { w with drawn := w.drawn + 1 })
    (h : wpQuiet P l.toArray C (fun a' => ∀ w', C w' → wpList P l.toArray Q (l.drop n) a' w') (l.take n) a) : (Code.region id l.toArray true).wp P Q a w := by
  simp only [Region.lexTailB, Bool.and_eq_true, decide_eq_true_eq] at hB
  obtain ⟨⟨⟨⟨hsel, hn⟩, hs⟩, hc⟩, hlex⟩ := hB
  have hn' : n < l.length := by simpa using hn
  have htl : (l.take n).length = n := by simp; omega
  have hdl : (l.drop n).length = l.toArray.size - n := by simp
  have inv0 : HeadInv .any l.toArray n (Array.replicate l.toArray.size false) :=
    ⟨by simp, fun j oj _ hl => (by rw [getD_replicate_false] at hl; cases hl), fun t _ ht => getD_in (by simpa using ht) (getD_replicate_false _ _)⟩
  have H := wpAnyQL_lex (md := .any) (g := l.toArray.size - n) hsel hs hc hn (l.take n) 0 _ a (fun j hj => by
    have hj' : j < n := by rw [htl] at hj; exact hj
    simp [hj']) (by simpa using htl) inv0 (by rw [htl]; exact hlex) h
  refine wp_region_any hm ?_
  have := wpAny_of_qhead (Q' := Q) (g := l.toArray.size - n) (fun listed a' w' hw' hL => by
    have := wpAny_of_seq (md := .any) (Q' := Q) (l.drop n) n listed a' w' (fun j => by simp [List.getElem?_drop]) (by rw [hdl]; exact hL.1) (hL.2 w' hw')
    rwa [hdl] at this) _ _ _ _ hC H
  rw [htl, show n + (l.toArray.size - n) = l.toArray.size by omega] at this
  exact this
theorem wp_region_grw_tail {id : Nat} {Q : Exit → Act → World → Prop} {a : Act} {w : World} {l : List Oper} (n : Nat) (hm : P.follows .mixedOrders = true) (hB : Region.lexTailB .any l.toArray n = true)
    (h : wpQuiet P l.toArray (Grw w) (fun a' => ∀ w', Grw w w' → wpList P l.toArray Q (l.drop n) a' w') (l.take n) a) : (Code.region id l.toArray true).wp P Q a w :=
  wp_region_quiet_tail n hm hB ⟨rfl, rfl, rfl, Nat.le_refl _, fun _ _ => rfl⟩ h
end
end Go.Proofs.YtaapjampmnanmaaGreat
