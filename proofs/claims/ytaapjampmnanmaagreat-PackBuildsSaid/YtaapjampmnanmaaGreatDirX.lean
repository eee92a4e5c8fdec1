/- Layer 12 (dir): entries in memory, which of them may be, and the two walks that tell it. There is no condition but where the slice lies. Layer 12 (dir): entries put as bytes: numbers as bytes (wire), the closure that appends one, and Put. There is no condition but where the slice lies. Layer 12 (dir): the document's bytes of a number, and of entries. There is no condition but where the slices lie. Layer 12 (dir): the walks that find an entry. There is no condition but where the slice lies. Layer 12 (dir): a slice of entries that a call makes for itself: append of one, a store into one's field. There is no condition. -/
import Derived.Test.YtaapjampmnanmaaGreatMem
import Derived.BigQuiet
import Derived.BigRegion
import Derived.Deep.Cut
import Derived.Deep.AppendLies
import Derived.Deep.RegionLaw
import Derived.RegionTactic
import Derived.Deep.DeepCutAuto
import Derived.Deep.RegionWith
import Derived.Laws.ResultCell
import Derived.Laws.Rows
import Derived.Laws.Tables
namespace Go.Proofs.YtaapjampmnanmaaGreat
open Go.RowKit

/-- An entry: number, place, length, run. -/
structure Ent where
  id : Nat
  off : Nat
  len : Nat
  run : Nat
deriving DecidableEq
def qv (x : Nat) : Value := .int .u64 (x : Int)
def Ent.cells (x : Ent) : Array Value := #[.int .u64 (x.id : Int), .int .u64 (x.off : Int), .int .u64 (x.len : Int), .int .u64 (x.run : Int)]
def Ent.big (x : Ent) : Prop := x.id ≤ 18446744073709551615 ∧ x.off ≤ 18446744073709551615 ∧ x.len ≤ 18446744073709551615 ∧ x.run ≤ 18446744073709551615
/-- A slice of entries that lies below B. -/
def RdE (w : World) (B : Nat) (A : Option Addr) (es : List Ent) : Prop :=
  ∀ j (hj : j < es.length), ∃ b o, A = some ⟨b, o, none⟩ ∧ b < B ∧ w.cell? ⟨b, o + j * 4, none⟩ = some (.int .u64 (es[j].id : Int)) ∧ w.cell? ⟨b, o + j * 4 + 1, none⟩ = some (.int .u64 (es[j].off : Int)) ∧ w.cell? ⟨b, o + j * 4 + 2, none⟩ = some (.int .u64 (es[j].len : Int)) ∧ w.cell? ⟨b, o + j * 4 + 3, none⟩ = some (.int .u64 (es[j].run : Int))
theorem RdE.below {w w' : World} {B : Nat} {A : Option Addr} {es : List Ent} (h : RdE w B A es) (hb : Below B w w') : RdE w' B A es := by
  intro j hj
  obtain ⟨b, o, h1, h2, h3, h4, h5, h6⟩ := h j hj
  exact ⟨b, o, h1, h2, by rw [hb.cell (p := ⟨_, _, none⟩) h2]; exact h3, by rw [hb.cell (p := ⟨_, _, none⟩) h2]; exact h4, by rw [hb.cell (p := ⟨_, _, none⟩) h2]; exact h5, by rw [hb.cell (p := ⟨_, _, none⟩) h2]; exact h6⟩
theorem RdE.mono {w : World} {B B' : Nat} {A : Option Addr} {es : List Ent} (h : RdE w B A es) (hb : B ≤ B') : RdE w B' A es := by
  intro j hj
  obtain ⟨b, o, h1, h2, h3⟩ := h j hj
  exact ⟨b, o, h1, by omega, h3⟩

def Ent.ok (x : Ent) : Prop := x.id < 4611686018427387904 ∧ x.run < 4294967296 ∧ 1 ≤ x.len ∧ x.len ≤ 4194304 ∧ x.off ≤ 4194304
def Ent.next (p x : Ent) : Prop := p.id + max p.run 1 ≤ x.id
/-- These entries may be. -/
def RightE (es : List Ent) : Prop := 1 ≤ es.length ∧ es.length ≤ 65536 ∧ (∀ j (h : j < es.length), es[j].ok) ∧ ∀ j (h : j + 1 < es.length), es[j].next es[j + 1]

/-- How far the entries were found right. -/
def RightTo (es : List Ent) (k : Nat) : Prop := (∀ j (h : j < es.length), j < k → es[j].ok) ∧ ∀ j (h : j + 1 < es.length), j + 1 < k → es[j].next es[j + 1]
theorem RightTo.zero (es : List Ent) : RightTo es 0 := ⟨fun _ _ h => absurd h (Nat.not_lt_zero _), fun _ _ h => absurd h (Nat.not_lt_zero _)⟩
theorem RightTo.succ {es : List Ent} {k : Nat} (h : RightTo es k) (hk : k < es.length) (h1 : es[k].ok) (h2 : ∀ q (hq : k = q + 1), (es[q]'(by omega)).next es[k]) : RightTo es (k + 1) := by
  constructor
  · intro j hj hjk
    by_cases e : j = k
    · subst e; exact h1
    · exact h.1 j hj (by omega)
  · intro j hj hjk
    by_cases e : j + 1 = k
    · subst e; exact h2 j rfl
    · exact h.2 j hj (by omega)
theorem RightTo.done {es : List Ent} (h : RightTo es es.length) (h1 : 1 ≤ es.length) (h2 : es.length ≤ 65536) : RightE es := ⟨h1, h2, fun j hj => h.1 j hj hj, fun j hj => h.2 j hj hj⟩

set_option maxRecDepth 100000 in
set_option maxHeartbeats 4000000 in
theorem dright_any (A : Option Addr) (c : Nat) (es : List Ent) (w : World) (B : Nat) (hr : RdE w B A es) (hB : B ≤ w.heap.size) (hbg : ∀ x ∈ es, x.big) (hn : es.length ≤ maxLen) (v : Bool) (hv : RightE es ↔ v = true) :
    Calls Tryz.prog 60 #[.slice A es.length c] w fun e w' => e = .returned (.bool v) ∧ Below w.heap.size w w' := by
  obtain ⟨n, hl⟩ : ∃ n, es.length = n := ⟨_, rfl⟩
  rw [hl]
  replace hv := hide hv
  have hfalse : Hid (¬ RightE es → v = false) := hide (fun h => by
    cases v
    · rfl
    · exact absurd (hv.out.2 rfl) h)
  by_cases h0 : n = 0
  · obtain rfl := hfalse.out (fun h => by have := h.1; omega)
    subst h0
    clear hr hv hn hfalse
    go_enter Tryz.func60, Tryz.ntmps60
    go_wp2
    go_ret
    exact ⟨rfl, Below.refl _ _⟩
  have h0b : ((n : Int) == 0) = false := by simp; omega
  by_cases h6 : 65536 < n
  · obtain rfl := hfalse.out (fun h => by have := h.2.1; omega)
    have hnI : (65537 : Int) ≤ n := by omega
    have hnI2 : (n : Int) ≤ 9223372036854775807 := by simp only [maxLen] at hn; omega
    clear hr hv hn hfalse h0 h6
    go_enter Tryz.func60, Tryz.ntmps60
    go_wp2
    go_ret
    exact ⟨rfl, Below.refl _ _⟩
  have hnI : (n : Int) ≤ 65536 := by omega
  have hn1 := hide (show 1 ≤ n by omega)
  have hn6 := hide (show n ≤ 65536 by omega)
  replace hr := hide hr
  replace hbg := hide hbg
  replace hB := hide hB
  clear hn h0 h6
  go_enter Tryz.func60, Tryz.ntmps60
  go_wp2
  go_loopw [15] (fun i wr => ∃ k : Nat, k ≤ n ∧ i = .int .i64 k ∧ Hid (RightTo es k) ∧ Hid (Below w.heap.size w wr)) (fun i _ => n - (intOf i).toNat)
  case atStart => exact ⟨0, by omega, rfl, hide (RightTo.zero es), hide (Below.refl _ _)⟩
  case round =>
    obtain ⟨k, hk, rfl, hT, hb⟩ := hrel
    by_cases hlt : k < n
    · have hkl : k < es.length := by omega
      have hkI : (k : Int) < n := by omega
      obtain ⟨b, o, rfl, hbB, e0, e1, e2, e3⟩ := (hr.out.below (hb.out.mono hB.out)) k hkl
      have hx := hbg.out es[k] (List.getElem_mem hkl)
      have hbad : Hid (¬ es[k].ok → v = false) := hide (fun h => hfalse.out (fun hR => h (hR.2.2.1 k hkl)))
      have hbad2 : Hid (∀ q (hq : k = q + 1), ¬ (es[q]'(by omega)).next es[k] → v = false) := hide (fun q hq h => hfalse.out (fun hR => by subst hq; exact h (hR.2.2.2 q hkl)))
      have hgo : Hid (es[k].ok → (∀ q (hq : k = q + 1), (es[q]'(by omega)).next es[k]) → RightTo es (k + 1)) := hide (fun h1 h2 => hT.out.succ hkl h1 h2)
      have hprev : Hid (∀ q (hq : k = q + 1), (es[q]'(by omega)).ok) := hide (fun q hq => hT.out.1 q (by omega) (by omega))
      obtain ⟨xe, hxe⟩ : ∃ xe, es[k] = xe := ⟨_, rfl⟩
      rw [hxe] at e0 e1 e2 e3 hx hbad hgo
      obtain ⟨id, off, len, run⟩ := xe
      simp only at e0 e1 e2 e3
      replace hx := hide hx
      have hbs := hide hb.out.size
      have hbx := hide (hb.out.trans ((Below.refl w.heap.size wr).alloc hbs.out (Obj.cells #[Value.int .u64 (id : Int), .int .u64 (off : Int), .int .u64 (len : Int), .int .u64 (run : Int)] 36)))
      have hret : ∀ (hvf : v = false), Hid (v = false) := fun h => h
      by_cases hok : (⟨id, off, len, run⟩ : Ent).ok
      · have hok' := hok
        obtain ⟨h1, h2, h3, h4, h5⟩ := hok
        simp only at h1 h2 h3 h4 h5
        have d1 : decide ((4611686018427387904 : Int) ≤ (id : Int)) = false := decide_eq_false (by omega)
        have d2 : decide ((4294967296 : Int) ≤ (run : Int)) = false := decide_eq_false (by omega)
        have d3 : decide ((len : Int) < 1) = false := decide_eq_false (by omega)
        have d4 : decide ((4194304 : Int) < (len : Int)) = false := decide_eq_false (by omega)
        have d5 : decide ((4194304 : Int) < (off : Int)) = false := decide_eq_false (by omega)
        rcases Nat.eq_zero_or_pos k with hk0 | hkp
        · have hgo2 := hide (hgo.out hok' (fun q hq => by omega))
          subst hk0
          simp only [Nat.zero_mul, Nat.add_zero] at e0 e1 e2 e3
          clear hok' h1 h2 h3 h4 h5 hbad hbad2 hgo hprev hret hxe hx
          go_upto_region 8 with fail
          go_region
          go_wp2
          go_roundw
          case rel => exact ⟨1, by omega, by go_num, hgo2, by first | exact hbx | exact hide (below_drewN hbx.out 1)⟩
          case measure => simp [intOf] <;> omega
        · obtain ⟨q, rfl⟩ : ∃ q, k = q + 1 := ⟨k - 1, by omega⟩
          have hql : q < es.length := by omega
          obtain ⟨b2, o2, hA2, _, p0, _, _, p3⟩ := (hr.out.below (hb.out.mono hB.out)) q hql
          injection hA2 with hA2
          injection hA2 with ee1 ee2
          subst ee1 ee2
          have hpo := hprev.out q rfl
          have hb2 := hide (hbad2.out q rfl)
          have hg2 : Hid ((es[q]'(by omega)).next ⟨id, off, len, run⟩ → RightTo es (q + 1 + 1)) := hide (fun h => hgo.out hok' (fun q' hq' => by
            obtain rfl : q' = q := by omega
            exact h))
          rw [hxe] at hb2
          generalize es[q] = pe at *
          obtain ⟨pid, poff, plen, prun⟩ := pe
          simp only [Ent.ok, Ent.next] at hpo hb2 hg2 p0 p3
          obtain ⟨M, hM⟩ : ∃ M : Nat, max prun 1 = M := ⟨_, rfl⟩
          rw [hM] at hb2 hg2
          have hMI : (if (prun : Int) < 1 then (1 : Int) else (prun : Int)) = (M : Int) := by split <;> omega
          obtain ⟨S, hS⟩ : ∃ S : Nat, pid + M = S := ⟨_, rfl⟩
          have hSI : IntKind.u64.wrap ((pid : Int) + (M : Int)) = (S : Int) := by rw [IntKind.wrap_u64]; omega
          rw [hS] at hb2 hg2
          clear hok' h1 h2 h3 h4 h5 hbad hbad2 hgo hprev hret hxe hx hpo hM hS
          have hkb := Blk.new wr 36 #[Value.int .u64 (id : Int), .int .u64 (off : Int), .int .u64 (len : Int), .int .u64 (run : Int)]
          have f0 := hkb.cell 0
          simp only [List.getElem?_toArray, List.getElem?_cons_zero] at f0
          have hbr : b < wr.heap.size := by have := hbs.out; have := hB.out; omega
          have g0 := ((Below.refl wr.heap.size wr).alloc (Nat.le_refl _) (Obj.cells #[Value.int .u64 (id : Int), .int .u64 (off : Int), .int .u64 (len : Int), .int .u64 (run : Int)] 36)).cell (p := ⟨b, o + q * 4, none⟩) hbr
          have g3 := ((Below.refl wr.heap.size wr).alloc (Nat.le_refl _) (Obj.cells #[Value.int .u64 (id : Int), .int .u64 (off : Int), .int .u64 (len : Int), .int .u64 (run : Int)] 36)).cell (p := ⟨b, o + q * 4 + 3, none⟩) hbr
          rw [p0] at g0
          rw [p3] at g3
          clear p0 p3
          by_cases hlt2 : S ≤ id
          · have d6 : (S : Int) ≤ (id : Int) := by omega
            replace hg2 := hide (hg2.out hlt2)
            clear hb2 hlt2 hbr hkb
            go_upto_region 8 with fail
            clear e0 e1 e2 e3
            generalize wr.alloc (Obj.cells #[Value.int .u64 (id : Int), .int .u64 (off : Int), .int .u64 (len : Int), .int .u64 (run : Int)] 36) = W at *
            generalize wr.heap.size = G at *
            go_region
            all_goals
              go_wp2
              go_roundw
              case rel => exact ⟨q + 1 + 1, by omega, by go_num, hg2, by first | exact hbx | exact hide (below_drewN hbx.out 1)⟩
              case measure => simp [intOf] <;> omega
          · have d6 : (id : Int) < (S : Int) := by omega
            replace hb2 := hide (hb2.out hlt2)
            clear hg2 hlt2 hbr hkb
            go_upto_region 8 with fail
            clear e0 e1 e2 e3
            generalize wr.alloc (Obj.cells #[Value.int .u64 (id : Int), .int .u64 (off : Int), .int .u64 (len : Int), .int .u64 (run : Int)] 36) = W at *
            generalize wr.heap.size = G at *
            go_region
            all_goals
              go_wp2
              go_ret
              exact ⟨by rw [hb2.out]; rfl, by first | exact hbx.out | exact below_drewN hbx.out 1⟩
      · have hvf := hide (hbad.out hok)
        have hc : (id ≥ 4611686018427387904) ∨ (id < 4611686018427387904 ∧ run ≥ 4294967296) ∨ (id < 4611686018427387904 ∧ run < 4294967296 ∧ len < 1) ∨ (id < 4611686018427387904 ∧ run < 4294967296 ∧ 1 ≤ len ∧ 4194304 < len) ∨ (id < 4611686018427387904 ∧ run < 4294967296 ∧ 1 ≤ len ∧ len ≤ 4194304 ∧ 4194304 < off) := by
          simp only [Ent.ok] at hok
          omega
        clear hok hbad hbad2 hgo hprev hret hxe hlt
        rcases hc with h1 | ⟨h1, h2⟩ | ⟨h1, h2, h3⟩ | ⟨h1, h2, h3, h4⟩ | ⟨h1, h2, h3, h4, h5⟩
        · have d1 : decide ((4611686018427387904 : Int) ≤ (id : Int)) = true := decide_eq_true (by omega)
          clear h1
          go_wp2
          go_ret
          exact ⟨by rw [hvf.out]; rfl, hbx.out⟩
        · have d1 : decide ((4611686018427387904 : Int) ≤ (id : Int)) = false := decide_eq_false (by omega)
          have d2 : decide ((4294967296 : Int) ≤ (run : Int)) = true := decide_eq_true (by omega)
          clear h1 h2
          go_wp2
          go_ret
          exact ⟨by rw [hvf.out]; rfl, hbx.out⟩
        · have d1 : decide ((4611686018427387904 : Int) ≤ (id : Int)) = false := decide_eq_false (by omega)
          have d2 : decide ((4294967296 : Int) ≤ (run : Int)) = false := decide_eq_false (by omega)
          have d3 : decide ((len : Int) < 1) = true := decide_eq_true (by omega)
          clear h1 h2 h3
          go_wp2
          go_ret
          exact ⟨by rw [hvf.out]; rfl, hbx.out⟩
        · have d1 : decide ((4611686018427387904 : Int) ≤ (id : Int)) = false := decide_eq_false (by omega)
          have d2 : decide ((4294967296 : Int) ≤ (run : Int)) = false := decide_eq_false (by omega)
          have d3 : decide ((len : Int) < 1) = false := decide_eq_false (by omega)
          have d4 : decide ((4194304 : Int) < (len : Int)) = true := decide_eq_true (by omega)
          clear h1 h2 h3 h4
          go_wp2
          go_ret
          exact ⟨by rw [hvf.out]; rfl, hbx.out⟩
        · have d1 : decide ((4611686018427387904 : Int) ≤ (id : Int)) = false := decide_eq_false (by omega)
          have d2 : decide ((4294967296 : Int) ≤ (run : Int)) = false := decide_eq_false (by omega)
          have d3 : decide ((len : Int) < 1) = false := decide_eq_false (by omega)
          have d4 : decide ((4194304 : Int) < (len : Int)) = false := decide_eq_false (by omega)
          have d5 : decide ((4194304 : Int) < (off : Int)) = true := decide_eq_true (by omega)
          clear h1 h2 h3 h4 h5
          go_wp2
          go_ret
          exact ⟨by rw [hvf.out]; rfl, hbx.out⟩
    · obtain rfl : k = n := by omega
      have hR : Hid (v = true) := hide (hv.out.1 (by
        have := hT.out
        rw [← hl] at this
        exact this.done (by have := hn1.out; omega) (by have := hn6.out; omega)))
      go_wp2
      go_ret
      exact ⟨by rw [hR.out]; rfl, hb.out⟩

set_option maxRecDepth 100000 in
set_option maxHeartbeats 4000000 in
theorem refdright_any (A : Option Addr) (c : Nat) (es : List Ent) (w : World) (B : Nat) (hr : RdE w B A es) (hB : B ≤ w.heap.size) (hbg : ∀ x ∈ es, x.big) (hn : es.length ≤ maxLen) (v : Bool) (hv : RightE es ↔ v = true) :
    Calls Tryz.prog 46 #[.slice A es.length c] w fun e w' => e = .returned (.bool v) ∧ Below w.heap.size w w' := by
  obtain ⟨n, hl⟩ : ∃ n, es.length = n := ⟨_, rfl⟩
  rw [hl]
  replace hv := hide hv
  have hfalse : Hid (¬ RightE es → v = false) := hide (fun h => by
    cases v
    · rfl
    · exact absurd (hv.out.2 rfl) h)
  by_cases h0 : n = 0
  · obtain rfl := hfalse.out (fun h => by have := h.1; omega)
    subst h0
    clear hr hv hn hfalse
    go_enter Tryz.func46, Tryz.ntmps46
    go_wp2
    go_ret
    exact ⟨rfl, Below.refl _ _⟩
  have h0b : (1 : Int) ≤ n := by omega
  by_cases h6 : 65536 < n
  · obtain rfl := hfalse.out (fun h => by have := h.2.1; omega)
    have hnI : (65537 : Int) ≤ n := by omega
    have hnI2 : (n : Int) ≤ 9223372036854775807 := by simp only [maxLen] at hn; omega
    clear hr hv hn hfalse h0 h6
    go_enter Tryz.func46, Tryz.ntmps46
    go_wp2
    go_ret
    exact ⟨rfl, Below.refl _ _⟩
  have hnI : (n : Int) ≤ 65536 := by omega
  have hn1 := hide (show 1 ≤ n by omega)
  have hn6 := hide (show n ≤ 65536 by omega)
  replace hr := hide hr
  replace hbg := hide hbg
  replace hB := hide hB
  clear hn h0 h6
  go_enter Tryz.func46, Tryz.ntmps46
  go_wp2
  go_loopw [3] (fun i wr => ∃ k : Nat, k ≤ n ∧ i = .int .i64 k ∧ Hid (RightTo es k) ∧ Hid (Below w.heap.size w wr)) (fun i _ => n - (intOf i).toNat)
  case atStart => exact ⟨0, by omega, rfl, hide (RightTo.zero es), hide (Below.refl _ _)⟩
  case round =>
    obtain ⟨k, hk, rfl, hT, hb⟩ := hrel
    by_cases hlt : k < n
    · have hkl : k < es.length := by omega
      have hkI : (k : Int) < n := by omega
      obtain ⟨b, o, rfl, hbB, e0, e1, e2, e3⟩ := (hr.out.below (hb.out.mono hB.out)) k hkl
      have hx := hbg.out es[k] (List.getElem_mem hkl)
      have hbad : Hid (¬ es[k].ok → v = false) := hide (fun h => hfalse.out (fun hR => h (hR.2.2.1 k hkl)))
      have hbad2 : Hid (∀ q (hq : k = q + 1), ¬ (es[q]'(by omega)).next es[k] → v = false) := hide (fun q hq h => hfalse.out (fun hR => by subst hq; exact h (hR.2.2.2 q hkl)))
      have hgo : Hid (es[k].ok → (∀ q (hq : k = q + 1), (es[q]'(by omega)).next es[k]) → RightTo es (k + 1)) := hide (fun h1 h2 => hT.out.succ hkl h1 h2)
      have hprev : Hid (∀ q (hq : k = q + 1), (es[q]'(by omega)).ok) := hide (fun q hq => hT.out.1 q (by omega) (by omega))
      obtain ⟨xe, hxe⟩ : ∃ xe, es[k] = xe := ⟨_, rfl⟩
      rw [hxe] at e0 e1 e2 e3 hx hbad hgo
      obtain ⟨id, off, len, run⟩ := xe
      simp only at e0 e1 e2 e3
      replace hx := hide hx
      have hbs := hide hb.out.size
      have hbx := hide (hb.out.trans ((Below.refl w.heap.size wr).alloc hbs.out (Obj.cells #[Value.int .u64 (id : Int), .int .u64 (off : Int), .int .u64 (len : Int), .int .u64 (run : Int)] 36)))
      have hret : ∀ (hvf : v = false), Hid (v = false) := fun h => h
      by_cases hok : (⟨id, off, len, run⟩ : Ent).ok
      · have hok' := hok
        obtain ⟨h1, h2, h3, h4, h5⟩ := hok
        simp only at h1 h2 h3 h4 h5
        have d1 : decide ((4611686018427387904 : Int) ≤ (id : Int)) = false := decide_eq_false (by omega)
        have d2 : decide ((4294967296 : Int) ≤ (run : Int)) = false := decide_eq_false (by omega)
        have d3 : ((len : Int) == 0) = false := by simp; omega
        have d4 : decide ((4194304 : Int) < (len : Int)) = false := decide_eq_false (by omega)
        have d5 : decide ((4194304 : Int) < (off : Int)) = false := decide_eq_false (by omega)
        rcases Nat.eq_zero_or_pos k with hk0 | hkp
        · have hgo2 := hide (hgo.out hok' (fun q hq => by omega))
          subst hk0
          simp only [Nat.zero_mul, Nat.add_zero] at e0 e1 e2 e3
          clear hok' h1 h2 h3 h4 h5 hbad hbad2 hgo hprev hret hxe hx
          go_upto_region 9 with fail
          go_quiet (fail)
          go_wp2
          go_roundw
          case rel => exact ⟨1, by omega, by go_num, hgo2, hide (below_drewN hbx.out _)⟩
          case measure => simp [intOf] <;> omega
        · obtain ⟨q, rfl⟩ : ∃ q, k = q + 1 := ⟨k - 1, by omega⟩
          have hql : q < es.length := by omega
          have hqI : (q : Int) < (n : Int) := by omega
          have hqI0 : (0 : Int) ≤ (q : Int) := by omega
          have hwq : IntKind.i64.wrap (q : Int) = (q : Int) := by rw [IntKind.wrap_i64]; omega
          obtain ⟨b2, o2, hA2, _, p0, _, _, p3⟩ := (hr.out.below (hb.out.mono hB.out)) q hql
          injection hA2 with hA2
          injection hA2 with ee1 ee2
          subst ee1 ee2
          have hpo := hprev.out q rfl
          have hb2 := hide (hbad2.out q rfl)
          have hg2 : Hid ((es[q]'(by omega)).next ⟨id, off, len, run⟩ → RightTo es (q + 1 + 1)) := hide (fun h => hgo.out hok' (fun q' hq' => by
            obtain rfl : q' = q := by omega
            exact h))
          rw [hxe] at hb2
          generalize es[q] = pe at *
          obtain ⟨pid, poff, plen, prun⟩ := pe
          simp only [Ent.ok, Ent.next] at hpo hb2 hg2 p0 p3
          obtain ⟨S, hS⟩ : ∃ S : Nat, pid + prun = S := ⟨_, rfl⟩
          have hSI : IntKind.u64.wrap ((pid : Int) + (prun : Int)) = (S : Int) := by rw [IntKind.wrap_u64]; omega
          have hSI2 : ((pid : Int) + (prun : Int)) % 18446744073709551616 = (S : Int) := by omega
          have hnx : (pid + max prun 1 ≤ id) ↔ (pid < id ∧ S ≤ id) := by omega
          rw [hnx] at hb2 hg2
          clear hok' h1 h2 h3 h4 h5 hbad hbad2 hgo hprev hret hxe hx hpo hS hnx
          have hkb := Blk.new wr 36 #[Value.int .u64 (id : Int), .int .u64 (off : Int), .int .u64 (len : Int), .int .u64 (run : Int)]
          have f0 := hkb.cell 0
          simp only [List.getElem?_toArray, List.getElem?_cons_zero] at f0
          have hbr : b < wr.heap.size := by have := hbs.out; have := hB.out; omega
          have g0 := ((Below.refl wr.heap.size wr).alloc (Nat.le_refl _) (Obj.cells #[Value.int .u64 (id : Int), .int .u64 (off : Int), .int .u64 (len : Int), .int .u64 (run : Int)] 36)).cell (p := ⟨b, o + q * 4, none⟩) hbr
          have g3 := ((Below.refl wr.heap.size wr).alloc (Nat.le_refl _) (Obj.cells #[Value.int .u64 (id : Int), .int .u64 (off : Int), .int .u64 (len : Int), .int .u64 (run : Int)] 36)).cell (p := ⟨b, o + q * 4 + 3, none⟩) hbr
          rw [p0] at g0
          rw [p3] at g3
          clear p0 p3
          by_cases hlt1 : pid < id
          · have d6 : decide (id ≤ pid) = false := decide_eq_false (by omega)
            by_cases hlt2 : S ≤ id
            · have d7 : decide (id < S) = false := decide_eq_false (by omega)
              replace hg2 := hide (hg2.out ⟨hlt1, hlt2⟩)
              clear hb2 hlt1 hlt2 hbr hkb
              go_upto_region 9 with fail
              clear e0 e1 e2 e3
              generalize wr.alloc (Obj.cells #[Value.int .u64 (id : Int), .int .u64 (off : Int), .int .u64 (len : Int), .int .u64 (run : Int)] 36) = W at *
              generalize wr.heap.size = G at *
              go_quiet (fail)
              go_wp2
              go_roundw
              case rel => exact ⟨q + 1 + 1, by omega, by go_num, hg2, hide (below_drewN hbx.out _)⟩
              case measure => simp [intOf] <;> omega
            · have d7 : decide (id < S) = true := decide_eq_true (by omega)
              replace hb2 := hide (hb2.out (fun h => hlt2 h.2))
              clear hg2 hlt1 hlt2 hbr hkb
              go_upto_region 9 with fail
              clear e0 e1 e2 e3
              generalize wr.alloc (Obj.cells #[Value.int .u64 (id : Int), .int .u64 (off : Int), .int .u64 (len : Int), .int .u64 (run : Int)] 36) = W at *
              generalize wr.heap.size = G at *
              go_quiet (fail)
              go_wp2
              go_ret
              exact ⟨by rw [hb2.out]; rfl, below_drewN hbx.out _⟩
          · have d6 : decide (id ≤ pid) = true := decide_eq_true (by omega)
            replace hb2 := hide (hb2.out (fun h => hlt1 h.1))
            clear hg2 hlt1 hbr hkb
            go_upto_region 9 with fail
            clear e0 e1 e2 e3
            generalize wr.alloc (Obj.cells #[Value.int .u64 (id : Int), .int .u64 (off : Int), .int .u64 (len : Int), .int .u64 (run : Int)] 36) = W at *
            generalize wr.heap.size = G at *
            go_quiet (fail)
            go_wp2
            go_ret
            exact ⟨by rw [hb2.out]; rfl, below_drewN hbx.out _⟩
      · have hvf := hide (hbad.out hok)
        have hc : (id ≥ 4611686018427387904) ∨ (id < 4611686018427387904 ∧ run ≥ 4294967296) ∨ (id < 4611686018427387904 ∧ run < 4294967296 ∧ len < 1) ∨ (id < 4611686018427387904 ∧ run < 4294967296 ∧ 1 ≤ len ∧ 4194304 < len) ∨ (id < 4611686018427387904 ∧ run < 4294967296 ∧ 1 ≤ len ∧ len ≤ 4194304 ∧ 4194304 < off) := by
          simp only [Ent.ok] at hok
          omega
        clear hok hbad hbad2 hgo hprev hret hxe hlt
        rcases hc with h1 | ⟨h1, h2⟩ | ⟨h1, h2, h3⟩ | ⟨h1, h2, h3, h4⟩ | ⟨h1, h2, h3, h4, h5⟩
        · have d1 : decide ((4611686018427387904 : Int) ≤ (id : Int)) = true := decide_eq_true (by omega)
          clear h1
          go_wp2
          go_ret
          exact ⟨by rw [hvf.out]; rfl, hbx.out⟩
        · have d1 : decide ((4611686018427387904 : Int) ≤ (id : Int)) = false := decide_eq_false (by omega)
          have d2 : decide ((4294967296 : Int) ≤ (run : Int)) = true := decide_eq_true (by omega)
          clear h1 h2
          go_wp2
          go_ret
          exact ⟨by rw [hvf.out]; rfl, hbx.out⟩
        · have d1 : decide ((4611686018427387904 : Int) ≤ (id : Int)) = false := decide_eq_false (by omega)
          have d2 : decide ((4294967296 : Int) ≤ (run : Int)) = false := decide_eq_false (by omega)
          have d3 : ((len : Int) == 0) = true := by simp; omega
          clear h1 h2 h3
          go_wp2
          go_ret
          exact ⟨by rw [hvf.out]; rfl, hbx.out⟩
        · have d1 : decide ((4611686018427387904 : Int) ≤ (id : Int)) = false := decide_eq_false (by omega)
          have d2 : decide ((4294967296 : Int) ≤ (run : Int)) = false := decide_eq_false (by omega)
          have d3 : ((len : Int) == 0) = false := by simp; omega
          have d4 : decide ((4194304 : Int) < (len : Int)) = true := decide_eq_true (by omega)
          clear h1 h2 h3 h4
          go_wp2
          go_ret
          exact ⟨by rw [hvf.out]; rfl, hbx.out⟩
        · have d1 : decide ((4611686018427387904 : Int) ≤ (id : Int)) = false := decide_eq_false (by omega)
          have d2 : decide ((4294967296 : Int) ≤ (run : Int)) = false := decide_eq_false (by omega)
          have d3 : ((len : Int) == 0) = false := by simp; omega
          have d4 : decide ((4194304 : Int) < (len : Int)) = false := decide_eq_false (by omega)
          have d5 : decide ((4194304 : Int) < (off : Int)) = true := decide_eq_true (by omega)
          clear h1 h2 h3 h4 h5
          go_wp2
          go_ret
          exact ⟨by rw [hvf.out]; rfl, hbx.out⟩
    · obtain rfl : k = n := by omega
      have hR : Hid (v = true) := hide (hv.out.1 (by
        have := hT.out
        rw [← hl] at this
        exact this.done (by have := hn1.out; omega) (by have := hn6.out; omega)))
      go_wp2
      go_ret
      exact ⟨by rw [hR.out]; rfl, hb.out⟩

end Go.Proofs.YtaapjampmnanmaaGreat

namespace Go.Proofs.YtaapjampmnanmaaGreat
open Go.RowKit

/-- A number as bytes, seven bits in each, the lowest first. -/
def vbF : Nat → Nat → List UInt8
  | 0, v => [UInt8.ofNat v]
  | f + 1, v => if v < 128 then [UInt8.ofNat v] else UInt8.ofNat (v % 128 + 128) :: vbF f (v / 128)
def vb (v : Nat) : List UInt8 := vbF 9 v
theorem vbF_len (f v : Nat) : (vbF f v).length ≤ f + 1 := by
  induction f generalizing v with
  | zero => simp [vbF]
  | succ f ih =>
    unfold vbF
    split
    · simp
    · have := ih (v / 128)
      simp
      omega
theorem vb_len (v : Nat) : (vb v).length ≤ 10 := vbF_len 9 v
theorem delem_byte : Elem1 Tryz.prog 22 5 (.int .u8 0) 1 := ⟨Tryz.underlying22, by kernel_rfl, rfl⟩
theorem dbv_one (bs : List UInt8) : ∀ u ∈ bs.map bv, u.oneCell' = true := by
  intro u hu
  obtain ⟨b, _, rfl⟩ := List.mem_map.1 hu
  rfl
theorem or128 : ∀ x, x < 256 → x ||| 128 = x % 128 + 128 := by decide +kernel

theorem clone_nil (w : World) : Calls Tryz.prog 68 #[.slice none 0 0] w fun e w' => e = .returned (.slice none 0 0) ∧ w = w' := by
  have he := fun (W : World) (x : Option Addr) (i j : Nat) => Lib.run_eql_slice_nil (P := Tryz.prog) W 22 5 x i j 0 0 Tryz.underlying22
  go_enter Tryz.func68, Tryz.ntmps68
  go_wp2
  go_ret
  exact ⟨rfl, rfl⟩

structure Sm (V k : Nat) : Prop where
  h : V ≤ 18446744073709551615 / 128 ^ k

set_option maxRecDepth 100000 in
set_option maxHeartbeats 1000000 in
theorem putvarint_any (v : Nat) (w : World) (hv : Sm v 0) :
    Calls Tryz.prog 100 #[.slice none 0 0, .int .u64 (v : Int)] w fun e w' => ∃ A c, e = .returned (.slice A (vb v).length c) ∧ Ow w' w.heap.size 5 A (vb v).length c ((vb v).map bv) ∧ Below w.heap.size w w' := by
  have hcl := hide (fun W => clone_nil W)
  go_enter Tryz.func100, Tryz.ntmps100
  go_wp2_with (go_at_call 68; (with_reducible refine (hcl.out _).mono ?_); rintro e w' ⟨rfl, rfl⟩)
  go_loopw [0, 1] (fun s x wr => ∃ k V : Nat, ∃ pre : List UInt8, ∃ A c, k ≤ 9 ∧ x = .int .u64 (V : Int) ∧ s = .slice A pre.length c ∧ Sm V k ∧ Hid (vb v = pre ++ vbF (9 - k) V) ∧ Hid (pre.length = k) ∧ Hid (Ow wr w.heap.size 5 A pre.length c (pre.map bv)) ∧ Hid (Below w.heap.size w wr)) (fun _ x _ => (intOf x).toNat)
  case atStart => exact ⟨0, v, [], none, 0, by omega, rfl, rfl, hv, hide rfl, hide rfl, hide (Ow.nil _ _ _), hide (Below.refl _ _)⟩
  case round =>
    obtain ⟨k, V, pre, A, c, hk, rfl, rfl, hV, hpre, hpl, ho, hb⟩ := hrel
    have hpl10 : pre.length ≤ 9 := by have := hpl.out; omega
    by_cases hlt : V < 128
    · have hVI : (V : Int) ≤ 127 := by omega
      have he : Hid (vb v = pre ++ [UInt8.ofNat V]) := hide (by
        rw [hpre.out]
        cases h9 : 9 - k with
        | zero => rfl
        | succ f => rw [vbF, if_pos hlt])
      have hlen : Hid ((vb v).length = pre.length + 1) := hide (by rw [he.out, List.length_append]; rfl)
      have hbv : Hid (bv (UInt8.ofNat V) = .int .u8 (V : Int)) := hide (by rw [bv, UInt8.toNat_ofNat', Nat.mod_eq_of_lt (by omega)])
      clear hlt hk
      go_wp2_with (at_builtin; refine wpList_append_one wr rfl (.tmp 17) (.tmp 20) rfl delem_byte rfl ho.out (.int .u8 (V : Int)) 5 _ rfl rfl (by simp only [maxLen]; omega) (by omega) hb.out.size ?_; intro A3 c3 w3 ho3 hg3 hn3; have hb3 := hide (hb.out.trans (hg3.to_below (B := w.heap.size) hb.out.size (fun i hi => (ho.out.blk_lt i hi).1))); have ho3 := hide ho3; clear hg3 hn3)
      go_ret
      exact ⟨A3, c3, by rw [hlen.out]; rfl, by rw [hlen.out, he.out, List.map_append, List.map_singleton, hbv.out]; exact ho3.out, hb3.out⟩
    · have hk9 : k < 9 := by
        rcases Nat.lt_or_ge k 9 with h | h
        · exact h
        · obtain rfl : k = 9 := by omega
          have := hV.h
          omega
      have hVI : (128 : Int) ≤ V := by omega
      have he : Hid (vb v = (pre ++ [UInt8.ofNat (V % 128 + 128)]) ++ vbF (9 - (k + 1)) (V / 128)) := hide (by
        rw [hpre.out, show 9 - k = 9 - (k + 1) + 1 from by omega, vbF, if_neg hlt, List.append_assoc]
        rfl)
      have hV2 : Sm (V / 128) (k + 1) := ⟨by rw [Nat.pow_succ, ← Nat.div_div_eq_div_mul]; exact Nat.div_le_div_right hV.h⟩
      have hor : bits .or .u8 ((V : Int) % 256) 128 = ((V % 128 + 128 : Nat) : Int) := by
        rw [show (V : Int) % 256 = ((V % 256 : Nat) : Int) from by omega, show (128 : Int) = ((128 : Nat) : Int) from rfl, u8_or_nat _ _ (by omega) (by omega), or128 _ (by omega)]
        omega
      have hbv : Hid (bv (UInt8.ofNat (V % 128 + 128)) = .int .u8 ((V % 128 + 128 : Nat) : Int)) := hide (by rw [bv, UInt8.toNat_ofNat', Nat.mod_eq_of_lt (by omega)])
      have hm : Hid (V / 128 < V) := hide (by omega)
      obtain ⟨X, hX⟩ : ∃ X, V % 128 + 128 = X := ⟨_, rfl⟩
      rw [hX] at hor hbv he
      clear hlt hX
      go_wp2_with (at_builtin; refine wpList_append_one wr rfl (.tmp 9) (.tmp 13) rfl delem_byte rfl ho.out (.int .u8 (X : Int)) 5 _ rfl rfl (by simp only [maxLen]; omega) (by omega) hb.out.size ?_; intro A3 c3 w3 ho3 hg3 hn3; have hb3 := hide (hb.out.trans (hg3.to_below (B := w.heap.size) hb.out.size (fun i hi => (ho.out.blk_lt i hi).1))); have ho3 := hide ho3; clear hg3 hn3)
      go_roundw
      case rel => exact ⟨k + 1, V / 128, pre ++ [UInt8.ofNat X], A3, c3, by omega, int_eq (by omega), by rw [List.length_append]; rfl, hV2, he, hide (by rw [List.length_append, hpl.out]; rfl), hide (by rw [List.map_append, List.map_singleton, hbv.out, List.length_append]; exact ho3.out), hb3⟩
      case measure => simp [intOf] <;> (have := hm.out; omega)

theorem step_append_rd' {P : Program} (w : World) {ops : Array Oper} {o : Oper} {a : Act} {K : Act → World → Prop} {Q : Exit → Act → World → Prop} {E0 : Prop} (hgd : o.guard = none) (s x : Operand) {t e : TypeId}
    (ho : o.op = .call { callee := .builtin .append, args := #[s, x], argTypes := #[t, t] }) {z : Value} {bytes : Nat} (E : Elem1 P t e z bytes)
    {base n c : Nat} {A : Option Addr} {xs : List Value} (hs : a.eval s = .slice A n c) (h : Ow w base e A n c xs)
    {B m c2 : Nat} {A2 : Option Addr} {news : List Value} (hx : a.eval x = .slice A2 m c2) (hr : Rd w B A2 m news) (h1 : ∀ u ∈ news, u.oneCell' = true)
    (h63 : n + m ≤ maxLen) (hbytes : (n + m) * bytes ≤ 140737488355328) (hbase : base ≤ w.heap.size)
    (hk : ∀ A' c' w', Ow w' base e A' (n + m) c' (xs ++ news) → Chg (fun k => blk A = some k) w w' → (blk A' = blk A ∨ blk A' = some w.heap.size) → K (a.put o.dst (.slice A' (n + m) c')) w') :
    if Region.wanted o (yielded ops a.tmps) = true then Oper.wp P o a w K Q else E0 := by
  have hw : Region.wanted o (yielded ops a.tmps) = true := by simp [Region.wanted, hgd]
  rw [if_pos hw]
  obtain ⟨A', c', w', hrun, h2, h3, h4⟩ := run_append_rd (P := P) w E o.type (c2 := c2) h hr h1 h63 hbytes hbase
  unfold Oper.wp execOp
  simp only [ho, resolve, invoke, builtin, Sem.run_bind, Sem.run_pure, Result.andThen_ok, List.map_toArray, List.map_cons, List.map_nil, hs, hx, hrun]
  exact hk A' c' w' h2 h3 h4

/-- The variable at block g holds the call's own bytes. -/
def BoxB (B : Nat) (w : World) (g : Nat) (bs : List UInt8) : Prop := ∃ A c, Blk w g 22 #[.slice A bs.length c] ∧ Ow w B 5 A bs.length c (bs.map bv) ∧ B ≤ g ∧ B ≤ w.heap.size
theorem BoxB.below {B g : Nat} {w w' : World} {bs : List UInt8} (h : BoxB B w g bs) (hb : Below w.heap.size w w') : BoxB B w' g bs := by
  obtain ⟨A, c, hk, ho, h1, h2⟩ := h
  exact ⟨A, c, hk.below hb hk.lt, ho.below hb, h1, Nat.le_trans h2 hb.size⟩

set_option maxRecDepth 100000 in
set_option maxHeartbeats 1000000 in
theorem put_any (B g v : Nat) (bs : List UInt8) (w : World) (h : BoxB B w g bs) (hv : Sm v 0) (hn : bs.length ≤ 1048576) :
    Calls Tryz.prog 101 #[.int .u64 (v : Int), .pointer (some ⟨g, 0, none⟩)] w fun e w' => e = .returned (.tuple #[]) ∧ BoxB B w' g (bs ++ vb v) ∧ Below B w w' ∧ ∀ k cs, Blk w k 36 cs → Blk w' k 36 cs := by
  obtain ⟨A, c, hk, ho, hBg, hBw⟩ := h
  have hE : Hid (∀ k cs, Blk w k 36 cs → Blk w.drew k 36 cs) := hide (fun _ _ h => h)
  have hpv := hide (fun W => putvarint_any v W hv)
  have hvl := vb_len v
  have c0 : w.cell? ⟨g, 0, none⟩ = some (.slice A bs.length c) := hk.cell 0
  have hq1 := hide (show bs.length + (vb v).length ≤ maxLen by simp only [maxLen]; omega)
  have hq2 := hide (show (bs.length + (vb v).length) * 1 ≤ 140737488355328 by omega)
  have hk' := hide (show Blk w.drew g 22 #[.slice A bs.length c] from hk)
  have ho' := hide (show Ow w.drew B 5 A bs.length c (bs.map bv) from ho)
  have hbd := hide (show Below B w w.drew from below_drewN (Below.refl B w) 1)
  have hBd : Hid (B ≤ w.drew.heap.size) := hide (by have := hbd.out.size; omega)
  have hone := hide (dbv_one (vb v))
  have hlen : Hid ((bs ++ vb v).length = bs.length + (vb v).length) := hide (by simp)
  have hmap : Hid ((bs ++ vb v).map bv = bs.map bv ++ (vb v).map bv) := hide (by simp)
  generalize bs ++ vb v = bs2 at *
  generalize vb v = vs at *
  clear hn hvl ho
  go_enter Tryz.func101, Tryz.ntmps101
  go_upto_region 0 with fail
  go_region_law (first
    | (refine step_append_rd' _ (by rfl) (.tmp 3) (.tmp 5) (by rfl) delem_byte (by rfl) ho1.out (by rfl) hv1.out.rd hone.out hq1.out hq2.out hs1.out ?_; intro A3 c3 w3 ho3 hc3 hn3; have hk3 := hk1.out.chg hc3 (by intro hx; exact ho1.out.ne hk1.out (by decide) hx); have f3 := hk3.free 0; have d3 := hk3.cell 0; have hb3 := hide (hb1.out.trans (hc3.to_below (B := B) hs1.out (fun i hi => (ho1.out.blk_lt i hi).1))); have hE3 := hide (fun k cs (h : Blk w k 36 cs) => (hE1.out k cs h).chg hc3 (fun hx => ho1.out.ne (hE1.out k cs h) (by decide) hx)); have ho3 := hide ho3; have hk3 := hide hk3; clear hc3 hn3)
    | (go_simp; go_at_call 100; (with_reducible refine (hpv.out _).mono ?_); rintro e w1 ⟨A1, c1, rfl, hv1, hb1⟩; have hk1 := hide (hk'.out.below hb1 hk'.out.lt); have hE1 := hide (fun k cs (h : Blk w k 36 cs) => (hE.out k cs h).below hb1 (hE.out k cs h).lt); have ho1 := hide (ho'.out.below hb1); have d1 := hk1.out.cell 0; have hb1 := hide (hbd.out.trans (hb1.mono hBd.out)); have hs1 := hide (show B ≤ w1.heap.size by have := hb1.out.size; omega); have hv1 := hide hv1))
  all_goals
    go_end0
    have hset : Chg (fun k => k = g) w3 (w3.setCell ⟨g, 0, none⟩ (.slice A3 (bs.length + vs.length) c3)) := (Chg.refl (fun k => k = g) w3).setCell (p := ⟨g, 0, none⟩) (.inr rfl) _
    have hw3 : B ≤ w3.heap.size := by have := hb3.out.size; omega
    refine ⟨rfl, ⟨A3, c3, ?_, ?_, hBg, ?_⟩, ?_, ?_⟩
    · rw [hlen.out]
      exact hk3.out.set 0 _
    · rw [hlen.out, hmap.out]
      exact ho3.out.chg hset (by rintro k hkk rfl; exact ho3.out.ne hk3.out (by decide) hkk)
    · exact Nat.le_trans hw3 hset.size
    · exact hb3.out.trans (hset.to_below hw3 (by rintro k rfl; exact hBg))
    · intro k cs h
      have h3 := hE3.out k cs h
      exact h3.chg hset (by rintro rfl; exact h3.same hk3.out (by decide) rfl)

/-- Numbers as bytes, one behind the other. -/
def partB (f : Nat → Nat) (k : Nat) : List UInt8 := (List.range k).flatMap fun j => vb (f j)
theorem partB_succ (f : Nat → Nat) (k : Nat) : partB f (k + 1) = partB f k ++ vb (f k) := by simp [partB, List.range_succ]
theorem partB_len (f : Nat → Nat) (k : Nat) : (partB f k).length ≤ 10 * k := by
  induction k with
  | zero => simp [partB]
  | succ k ih => rw [partB_succ, List.length_append]; have := vb_len (f k); omega
def ent (es : List Ent) (j : Nat) : Ent := es.getD j ⟨0, 0, 0, 0⟩
def prevId (es : List Ent) (k : Nat) : Nat := if k = 0 then 0 else (ent es (k - 1)).id
def fId (es : List Ent) (j : Nat) : Nat := (ent es j).id - prevId es j
def fRun (es : List Ent) (j : Nat) : Nat := (ent es j).run
def fLen (es : List Ent) (j : Nat) : Nat := (ent es j).len
def fOff (es : List Ent) (j : Nat) : Nat := if 0 < j ∧ (ent es j).off = (ent es (j - 1)).off + (ent es (j - 1)).len then 0 else (ent es j).off + 1
/-- The bytes of entries. -/
def putB (es : List Ent) : List UInt8 := vb es.length ++ partB (fId es) es.length ++ partB (fRun es) es.length ++ partB (fLen es) es.length ++ partB (fOff es) es.length
theorem ent_at (es : List Ent) (j : Nat) (h : j < es.length) : ent es j = es[j] := by rw [ent, List.getD_eq_getElem?_getD, List.getElem?_eq_getElem h]; rfl
theorem Sm.of {v : Nat} (h : v ≤ 4611686018427387904) : Sm v 0 := ⟨by simp; omega⟩

set_option maxRecDepth 100000 in
set_option maxHeartbeats 4000000 in
theorem put_ok (A : Option Addr) (c : Nat) (es : List Ent) (w : World) (B : Nat) (hr : RdE w B A es) (hB : B ≤ w.heap.size) (hbg : ∀ x ∈ es, x.big) (hn : es.length ≤ 200) (hR : RightE es) :
    Calls Tryz.prog 78 #[.slice A es.length c] w fun e w' => ∃ A' c', e = .returned (.tuple #[.slice A' (putB es).length c', .int .i64 0]) ∧ Ow w' w.heap.size 5 A' (putB es).length c' ((putB es).map bv) ∧ Below w.heap.size w w' := by
  have hrt := hide (dright_any A c es w B hr hB hbg (by simp only [maxLen]; omega) true ⟨fun _ => rfl, fun _ => hR⟩)
  have hpv := hide (fun W => putvarint_any es.length W (Sm.of (by omega)))
  have hvl0 := hide (vb_len es.length)
  have hpl := hide (fun f => partB_len f es.length)
  obtain ⟨G, hG⟩ : ∃ G, w.heap.size = G := ⟨_, rfl⟩
  rw [hG] at hrt hB ⊢
  have hput := hide (fun (W : World) (g v : Nat) (bs : List UInt8) (h : BoxB G W g bs) (hv : Sm v 0) (hn : bs.length ≤ 1048576) => put_any G g v bs W h hv hn)
  have hrW := hide (fun W (h : Below G w W) => (hr.below (h.mono hB)))
  obtain ⟨n, hl⟩ : ∃ n, es.length = n := ⟨_, rfl⟩
  rw [hl] at hrt hpv hvl0 hpl ⊢
  have hnI : (n : Int) ≤ 200 := by omega
  have hn200 := hide (show n ≤ 200 by omega)
  replace hR := hide hR
  clear hr hbg hn
  go_enter Tryz.func78, Tryz.ntmps78
  go_upto_region 6 with (first
    | (go_at_call 60; (with_reducible refine hrt.out.mono ?_); rintro e w1 ⟨rfl, hb1⟩; have hb1 := hide hb1)
    | (go_at_call 100; (with_reducible refine (hpv.out _).mono ?_); rintro e w2 ⟨A2, c2, rfl, hv2, hb2⟩; have hz1 := hide hb1.out.size; have hv2 := hide (hv2.base_le (base' := G) (fun g hg => by have := (hv2.blk_lt g hg).1; have := hz1.out; omega)); have hb2 := hide (hb1.out.trans (hb2.mono (by have := hz1.out; omega)))))
  have hbx : Hid (BoxB G (w2.alloc (.cells #[Value.slice A2 (vb n).length c2] 22)) w2.heap.size (vb n)) := hide ⟨A2, c2, Blk.new w2 _ _, hv2.out.alloc _, by have := hb2.out.size; have := hz1.out; omega, by have := hb2.out.size; simp; omega⟩
  have hb3 := hide (hb2.out.trans ((Below.refl G w2).alloc (by have := hb2.out.size; omega) (.cells #[Value.slice A2 (vb n).length c2] 22)))
  generalize w2.alloc (.cells #[Value.slice A2 (vb n).length c2] 22) = W0 at *
  generalize w2.heap.size = gb at *
  clear hv2 hb2 hz1 hrt hpv hb1
  have hstep : Hid (∀ (wr : World) (f : Nat → Nat) (bs : List UInt8) (k : Nat), BoxB G wr gb (bs ++ partB f k) → ∀ (o : Obj), BoxB G (wr.alloc o) gb (bs ++ partB f k)) := hide (fun wr f bs k h o => h.below ((Below.refl _ wr).alloc (Nat.le_refl _) o))
  go_wp2
  go_loopw [6, 25] (fun x i wr => ∃ k : Nat, k ≤ n ∧ i = .int .i64 k ∧ x = .int .u64 (prevId es k : Int) ∧ Hid (BoxB G wr gb (vb n ++ partB (fId es) k)) ∧ Hid (Below G w wr)) (fun _ i _ => n - (intOf i).toNat)
  case atStart => exact ⟨0, by omega, rfl, rfl, by rw [show partB (fId es) 0 = [] from rfl, List.append_nil]; exact hbx, hb3⟩
  case round =>
    obtain ⟨k, hk, rfl, rfl, hbx, hb⟩ := hrel
    by_cases hlt : k < n
    · have hkl : k < es.length := by omega
      have hkI : (k : Int) < n := by omega
      obtain ⟨b, o, rfl, hbB, e0, e1, e2, e3⟩ := (hrW.out wr hb.out) k hkl
      have hok := hR.out.2.2.1 k hkl
      have hprev : prevId es k ≤ es[k].id := by
        unfold prevId
        split
        · exact Nat.zero_le _
        · have h8 := hR.out.2.2.2 (k - 1) (by omega)
          have h9 : es[k - 1 + 1] = es[k] := by congr 1; omega
          rw [h9] at h8
          rw [ent_at es (k - 1) (by omega)]
          unfold Ent.next at h8
          omega
      have hf : fId es k = es[k].id - prevId es k := by rw [fId, ent_at es k hkl]
      have hnx : Hid (prevId es (k + 1) = es[k].id) := hide (by rw [prevId, if_neg (by omega), Nat.add_sub_cancel, ent_at es k hkl])
      have hps := hide (partB_succ (fId es) k)
      have hln := hide (show (vb n ++ partB (fId es) k).length ≤ 1048576 by rw [List.length_append]; have := partB_len (fId es) k; have := hvl0.out; have := hn200.out; omega)
      generalize es[k] = xe at *
      obtain ⟨xi, xo, xl, xr⟩ := xe
      simp only [Ent.ok] at e0 e1 e2 e3 hok hprev hf hnx
      generalize prevId es k = P at *
      obtain ⟨v, hv⟩ : ∃ v, fId es k = v := ⟨_, rfl⟩
      rw [hv] at hf hps
      have hvI : ((xi : Int) - (P : Int)) % 18446744073709551616 = (v : Int) := by omega
      have hvW : IntKind.u64.wrap ((xi : Int) - (P : Int)) = (v : Int) := by rw [IntKind.wrap_u64]; omega
      have hsm : Sm v 0 := Sm.of (by omega)
      have hbx2 := hide (hstep.out wr _ _ _ hbx.out (Obj.cells #[Value.int .u64 (xi : Int), .int .u64 (xo : Int), .int .u64 (xl : Int), .int .u64 (xr : Int)] 36))
      have hba := hide (hb.out.trans ((Below.refl G wr).alloc (by have := hb.out.size; omega) (Obj.cells #[Value.int .u64 (xi : Int), .int .u64 (xo : Int), .int .u64 (xl : Int), .int .u64 (xr : Int)] 36)))
      have hcall := hide (hput.out _ _ v _ hbx2.out hsm hln.out)
      have hkb := hide (Blk.new wr 36 #[Value.int .u64 (xi : Int), .int .u64 (xo : Int), .int .u64 (xl : Int), .int .u64 (xr : Int)])
      clear hok hprev hf hv
      go_wp2_with (go_at_call 101; (with_reducible refine hcall.out.mono ?_); rintro e w3 ⟨rfl, hbx3, hbb3, hkk3⟩; have hbx3 := hide hbx3; have hbb3 := hide (hba.out.trans hbb3); have f0 := (hkk3 _ _ hkb.out).cell 0; simp only [List.getElem?_toArray, List.getElem?_cons_zero] at f0; clear hkk3)
      go_roundw
      case rel => exact ⟨k + 1, by omega, by go_num, by rw [hnx.out], by rw [hps.out, ← List.append_assoc]; exact hbx3, hbb3⟩
      case measure => simp [intOf] <;> omega
    · obtain rfl : k = n := by omega
      obtain ⟨S1, hS1e⟩ : ∃ S, vb k ++ partB (fId es) k = S := ⟨_, rfl⟩
      have hS1 : Hid (S1.length ≤ 10 + 2000 * 1) := hide (by rw [← hS1e, List.length_append]; have := partB_len (fId es) k; have := hn200.out; have := hvl0.out; omega)
      rw [hS1e] at hbx
      replace hS1e := hide hS1e
      go_wp2
      go_loopw [40] (fun i wr => ∃ j : Nat, j ≤ k ∧ i = .int .i64 j ∧ Hid (BoxB G wr gb (S1 ++ partB (fRun es) j)) ∧ Hid (Below G w wr)) (fun i _ => k - (intOf i).toNat)
      case atStart => exact ⟨0, by omega, rfl, by rw [show partB (fRun es) 0 = [] from rfl, List.append_nil]; exact hbx, hb⟩
      case round =>
        obtain ⟨j, hj, rfl, hbx, hb⟩ := hrel
        by_cases hlt : j < k
        · have hkl : j < es.length := by omega
          have hkI : (j : Int) < k := by omega
          obtain ⟨b, o, rfl, hbB, e0, e1, e2, e3⟩ := (hrW.out _ hb.out) j hkl
          have hok := hR.out.2.2.1 j hkl
          have hf : fRun es j = es[j].run := by rw [fRun, ent_at es j hkl]
          have hps := hide (partB_succ (fRun es) j)
          have hln := hide (show (S1 ++ partB (fRun es) j).length ≤ 1048576 by rw [List.length_append]; have := partB_len (fRun es) j; have := hS1.out; have := hn200.out; omega)
          generalize es[j] = xe at *
          obtain ⟨xi, xo, xl, xr⟩ := xe
          simp only [Ent.ok] at e0 e1 e2 e3 hok hf
          rw [hf] at hps
          have hsm : Sm xr 0 := Sm.of (by omega)
          have hbx2 := hide (hbx.out.below ((Below.refl _ _).alloc (Nat.le_refl _) (Obj.cells #[Value.int .u64 (xi : Int), .int .u64 (xo : Int), .int .u64 (xl : Int), .int .u64 (xr : Int)] 36)))
          have hba := hide (hb.out.trans ((Below.refl G _).alloc (by have := hb.out.size; omega) (Obj.cells #[Value.int .u64 (xi : Int), .int .u64 (xo : Int), .int .u64 (xl : Int), .int .u64 (xr : Int)] 36)))
          have hcall := hide (hput.out _ _ xr _ hbx2.out hsm hln.out)
          clear hok hf
          go_wp2_with (go_at_call 101; (with_reducible refine hcall.out.mono ?_); rintro e w3 ⟨rfl, hbx3, hbb3, _⟩; have hbx3 := hide hbx3; have hbb3 := hide (hba.out.trans hbb3))
          go_roundw
          case rel => exact ⟨j + 1, by omega, by go_num, by rw [hps.out, ← List.append_assoc]; exact hbx3, hbb3⟩
          case measure => simp [intOf] <;> omega
        · have hjk : Hid (j = k) := hide (by omega)
          rw [hjk.out] at hbx
          obtain ⟨S2, hS2e⟩ : ∃ S, S1 ++ partB (fRun es) k = S := ⟨_, rfl⟩
          have hS2 : Hid (S2.length ≤ 10 + 2000 * 2) := hide (by rw [← hS2e, List.length_append]; have := partB_len (fRun es) k; have := hn200.out; have := hS1.out; omega)
          rw [hS2e] at hbx
          replace hS2e := hide hS2e
          go_wp2
          go_loopw [51] (fun i wr => ∃ j : Nat, j ≤ k ∧ i = .int .i64 j ∧ Hid (BoxB G wr gb (S2 ++ partB (fLen es) j)) ∧ Hid (Below G w wr)) (fun i _ => k - (intOf i).toNat)
          case atStart => exact ⟨0, by omega, rfl, by rw [show partB (fLen es) 0 = [] from rfl, List.append_nil]; exact hbx, hb⟩
          case round =>
            obtain ⟨j, hj, rfl, hbx, hb⟩ := hrel
            by_cases hlt : j < k
            · have hkl : j < es.length := by omega
              have hkI : (j : Int) < k := by omega
              obtain ⟨b, o, rfl, hbB, e0, e1, e2, e3⟩ := (hrW.out _ hb.out) j hkl
              have hok := hR.out.2.2.1 j hkl
              have hf : fLen es j = es[j].len := by rw [fLen, ent_at es j hkl]
              have hps := hide (partB_succ (fLen es) j)
              have hln := hide (show (S2 ++ partB (fLen es) j).length ≤ 1048576 by rw [List.length_append]; have := partB_len (fLen es) j; have := hS2.out; have := hn200.out; omega)
              generalize es[j] = xe at *
              obtain ⟨xi, xo, xl, xr⟩ := xe
              simp only [Ent.ok] at e0 e1 e2 e3 hok hf
              rw [hf] at hps
              have hsm : Sm xl 0 := Sm.of (by omega)
              have hbx2 := hide (hbx.out.below ((Below.refl _ _).alloc (Nat.le_refl _) (Obj.cells #[Value.int .u64 (xi : Int), .int .u64 (xo : Int), .int .u64 (xl : Int), .int .u64 (xr : Int)] 36)))
              have hba := hide (hb.out.trans ((Below.refl G _).alloc (by have := hb.out.size; omega) (Obj.cells #[Value.int .u64 (xi : Int), .int .u64 (xo : Int), .int .u64 (xl : Int), .int .u64 (xr : Int)] 36)))
              have hcall := hide (hput.out _ _ xl _ hbx2.out hsm hln.out)
              clear hok hf
              go_wp2_with (go_at_call 101; (with_reducible refine hcall.out.mono ?_); rintro e w3 ⟨rfl, hbx3, hbb3, _⟩; have hbx3 := hide hbx3; have hbb3 := hide (hba.out.trans hbb3))
              go_roundw
              case rel => exact ⟨j + 1, by omega, by go_num, by rw [hps.out, ← List.append_assoc]; exact hbx3, hbb3⟩
              case measure => simp [intOf] <;> omega
            · have hjk : Hid (j = k) := hide (by omega)
              rw [hjk.out] at hbx
              obtain ⟨S3, hS3e⟩ : ∃ S, S2 ++ partB (fLen es) k = S := ⟨_, rfl⟩
              have hS3 : Hid (S3.length ≤ 10 + 2000 * 3) := hide (by rw [← hS3e, List.length_append]; have := partB_len (fLen es) k; have := hn200.out; have := hS2.out; omega)
              rw [hS3e] at hbx
              replace hS3e := hide hS3e
              go_wp2
              go_loopw [62] (fun i wr => ∃ j : Nat, j ≤ k ∧ i = .int .i64 j ∧ Hid (BoxB G wr gb (S3 ++ partB (fOff es) j)) ∧ Hid (Below G w wr)) (fun i _ => k - (intOf i).toNat)
              case atStart => exact ⟨0, by omega, rfl, by rw [show partB (fOff es) 0 = [] from rfl, List.append_nil]; exact hbx, hb⟩
              case round =>
                obtain ⟨j, hj, rfl, hbx, hb⟩ := hrel
                by_cases hlt : j < k
                · have hkl : j < es.length := by omega
                  have hkI : (j : Int) < k := by omega
                  obtain ⟨b, o, rfl, hbB, e0, e1, e2, e3⟩ := (hrW.out _ hb.out) j hkl
                  have hok := hR.out.2.2.1 j hkl
                  have hpr : Hid (∀ q (hq : j = q + 1), (es[q]'(by omega)).ok) := hide (fun q hq => hR.out.2.2.1 q (by omega))
                  have hf : fOff es j = if 0 < j ∧ es[j].off = (ent es (j - 1)).off + (ent es (j - 1)).len then 0 else es[j].off + 1 := by rw [fOff, ent_at es j hkl]
                  have hps := hide (partB_succ (fOff es) j)
                  have hln := hide (show (S3 ++ partB (fOff es) j).length ≤ 1048576 by rw [List.length_append]; have := partB_len (fOff es) j; have := hS3.out; have := hn200.out; omega)
                  obtain ⟨xe, hxe⟩ : ∃ xe, es[j] = xe := ⟨_, rfl⟩
                  rw [hxe] at e0 e1 e2 e3 hok hf
                  clear hxe
                  obtain ⟨xi, xo, xl, xr⟩ := xe
                  simp only [Ent.ok] at e0 e1 e2 e3 hok hf
                  have hbx2 := hide (hbx.out.below ((Below.refl _ wr).alloc (Nat.le_refl _) (Obj.cells #[Value.int .u64 (xi : Int), .int .u64 (xo : Int), .int .u64 (xl : Int), .int .u64 (xr : Int)] 36)))
                  have hba := hide (hb.out.trans ((Below.refl G wr).alloc (by have := hb.out.size; omega) (Obj.cells #[Value.int .u64 (xi : Int), .int .u64 (xo : Int), .int .u64 (xl : Int), .int .u64 (xr : Int)] 36)))
                  have hkb := Blk.new wr 36 #[Value.int .u64 (xi : Int), .int .u64 (xo : Int), .int .u64 (xl : Int), .int .u64 (xr : Int)]
                  have f1 := hkb.cell 1
                  simp only [List.getElem?_toArray, List.getElem?_cons_zero, List.getElem?_cons_succ] at f1
                  have hcall := hide (fun (v m : Nat) (hsm : Sm v 0) => hput.out ((wr.alloc (Obj.cells #[Value.int .u64 (xi : Int), .int .u64 (xo : Int), .int .u64 (xl : Int), .int .u64 (xr : Int)] 36)).drewN m) _ v _ (hbx2.out.below (below_drewN (Below.refl _ _) m)) hsm hln.out)
                  have hbd := hide (fun m => below_drewN hba.out m)
                  have hbw := hide hb.out.size
                  rcases Nat.eq_zero_or_pos j with hj0 | hjp
                  · subst hj0
                    rw [if_neg (by omega)] at hf
                    rw [hf] at hps
                    simp only [Nat.zero_mul, Nat.add_zero] at e0 e1 e2 e3
                    obtain ⟨v, hv⟩ : ∃ v, xo + 1 = v := ⟨_, rfl⟩
                    rw [hv] at hps
                    have hvI : ((xo : Int) + 1) % 18446744073709551616 = (v : Int) := by omega
                    have hvW : IntKind.u64.wrap ((xo : Int) + 1) = (v : Int) := by rw [IntKind.wrap_u64]; omega
                    have hsm : Sm v 0 := Sm.of (by omega)
                    have hcl := hide (fun m => hcall.out v m hsm)
                    clear hok hf hv hkb hpr hcall
                    go_upto_region 25 with fail
                    clear e0 e1 e2 e3
                    generalize wr.alloc (Obj.cells #[Value.int .u64 (xi : Int), .int .u64 (xo : Int), .int .u64 (xl : Int), .int .u64 (xr : Int)] 36) = W at *
                    generalize wr.heap.size = Gx at *
                    go_quiet (fail)
                    go_wp2_with (go_at_call 101; (with_reducible refine (hcl.out _).mono ?_); rintro e w3 ⟨rfl, hbx3, hbb3, _⟩; have hbx3 := hide hbx3; have hbb3 := hide ((hbd.out _).trans hbb3))
                    go_roundw
                    case rel => exact ⟨1, by omega, by go_num, by rw [hps.out, ← List.append_assoc]; exact hbx3, hbb3⟩
                    case measure => simp [intOf] <;> omega
                  · obtain ⟨q, rfl⟩ : ∃ q, j = q + 1 := ⟨j - 1, by omega⟩
                    have hql : q < es.length := by omega
                    have hqI : (q : Int) < (k : Int) := by omega
                    have hqI0 : (0 : Int) ≤ (q : Int) := by omega
                    have hk2 : (k : Int) ≤ 200 := by have := hn200.out; omega
                    have hwq : IntKind.i64.wrap (q : Int) = (q : Int) := by rw [IntKind.wrap_i64]; omega
                    obtain ⟨b2, o2, hA2, _, _, p1, p2, _⟩ := (hrW.out _ hb.out) q hql
                    injection hA2 with hA2
                    injection hA2 with ee1 ee2
                    subst ee1 ee2
                    have hpo := hpr.out q rfl
                    rw [Nat.add_sub_cancel, ent_at es q hql] at hf
                    generalize es[q] = pe at *
                    obtain ⟨pi, po, pl, prn⟩ := pe
                    simp only [Ent.ok] at hpo hf p1 p2
                    have hbr : b < wr.heap.size := by have := hbw.out; omega
                    have g1 := ((Below.refl wr.heap.size wr).alloc (Nat.le_refl _) (Obj.cells #[Value.int .u64 (xi : Int), .int .u64 (xo : Int), .int .u64 (xl : Int), .int .u64 (xr : Int)] 36)).cell (p := ⟨b, o + q * 4 + 1, none⟩) hbr
                    have g2 := ((Below.refl wr.heap.size wr).alloc (Nat.le_refl _) (Obj.cells #[Value.int .u64 (xi : Int), .int .u64 (xo : Int), .int .u64 (xl : Int), .int .u64 (xr : Int)] 36)).cell (p := ⟨b, o + q * 4 + 2, none⟩) hbr
                    rw [p1] at g1
                    rw [p2] at g2
                    obtain ⟨S, hS⟩ : ∃ S, po + pl = S := ⟨_, rfl⟩
                    have hSI : ((po : Int) + (pl : Int)) % 18446744073709551616 = (S : Int) := by omega
                    have hSW : IntKind.u64.wrap ((po : Int) + (pl : Int)) = (S : Int) := by rw [IntKind.wrap_u64]; omega
                    rw [hS] at hf
                    by_cases heq : xo = S
                    · rw [if_pos ⟨by omega, heq⟩] at hf
                      rw [hf] at hps
                      have he1 : ((xo : Int) == (S : Int)) = true := by simp; omega
                      have he2 : (xo == S) = true := by simp; omega
                      have hcl := hide (fun m => hcall.out 0 m (Sm.of (by omega)))
                      rw [show ((0 : Nat) : Int) = 0 from rfl] at hcl
                      clear hok hf hpo hS heq hkb hpr hcall hbr p1 p2
                      go_upto_region 25 with fail
                      clear e0 e1 e2 e3
                      generalize wr.alloc (Obj.cells #[Value.int .u64 (xi : Int), .int .u64 (xo : Int), .int .u64 (xl : Int), .int .u64 (xr : Int)] 36) = W at *
                      generalize wr.heap.size = Gx at *
                      go_quiet (fail)
                      go_wp2_with (go_at_call 101; (with_reducible refine (hcl.out _).mono ?_); rintro e w3 ⟨rfl, hbx3, hbb3, _⟩; have hbx3 := hide hbx3; have hbb3 := hide ((hbd.out _).trans hbb3))
                      go_roundw
                      case rel => exact ⟨q + 1 + 1, by omega, by go_num, by rw [hps.out, ← List.append_assoc]; exact hbx3, hbb3⟩
                      case measure => simp [intOf] <;> omega
                    · rw [if_neg (fun h => heq h.2)] at hf
                      rw [hf] at hps
                      have he1 : ((xo : Int) == (S : Int)) = false := by simp; omega
                      have he2 : (xo == S) = false := by simp; omega
                      obtain ⟨v, hv⟩ : ∃ v, xo + 1 = v := ⟨_, rfl⟩
                      rw [hv] at hps
                      have hvI : ((xo : Int) + 1) % 18446744073709551616 = (v : Int) := by omega
                      have hvW : IntKind.u64.wrap ((xo : Int) + 1) = (v : Int) := by rw [IntKind.wrap_u64]; omega
                      have hsm : Sm v 0 := Sm.of (by omega)
                      have hcl := hide (fun m => hcall.out v m hsm)
                      clear hok hf hpo hS heq hkb hpr hcall hbr p1 p2 hv
                      go_upto_region 25 with fail
                      clear e0 e1 e2 e3
                      generalize wr.alloc (Obj.cells #[Value.int .u64 (xi : Int), .int .u64 (xo : Int), .int .u64 (xl : Int), .int .u64 (xr : Int)] 36) = W at *
                      generalize wr.heap.size = Gx at *
                      go_quiet (fail)
                      go_wp2_with (go_at_call 101; (with_reducible refine (hcl.out _).mono ?_); rintro e w3 ⟨rfl, hbx3, hbb3, _⟩; have hbx3 := hide hbx3; have hbb3 := hide ((hbd.out _).trans hbb3))
                      go_roundw
                      case rel => exact ⟨q + 1 + 1, by omega, by go_num, by rw [hps.out, ← List.append_assoc]; exact hbx3, hbb3⟩
                      case measure => simp [intOf] <;> omega
                · have hjk : Hid (j = k) := hide (by omega)
                  rw [hjk.out] at hbx
                  obtain ⟨A9, c9, hk9, ho9, _, _⟩ := hbx.out
                  have d9 := hk9.cell 0
                  simp only [List.getElem?_toArray, List.getElem?_cons_zero] at d9
                  have hpB : Hid (putB es = S3 ++ partB (fOff es) k) := hide (by rw [putB, hl, hS1e.out, hS2e.out, hS3e.out])
                  replace ho9 := hide ho9
                  go_wp2
                  go_ret2
                  exact ⟨A9, c9, by rw [hpB.out, List.length_append]; rfl, by rw [hpB.out]; exact ho9.out, hb.out⟩

end Go.Proofs.YtaapjampmnanmaaGreat

namespace Go.Proofs.YtaapjampmnanmaaGreat
open Go.RowKit

set_option maxRecDepth 100000 in
set_option maxHeartbeats 1000000 in
theorem rbytes_any (v : Nat) (w : World) (hv : Sm v 0) :
    Calls Tryz.prog 85 #[.int .u64 (v : Int)] w fun e w' => ∃ A c, e = .returned (.slice A (vb v).length c) ∧ Ow w' w.heap.size 5 A (vb v).length c ((vb v).map bv) ∧ Below w.heap.size w w' := by
  go_enter Tryz.func85, Tryz.ntmps85
  go_wp2
  go_loopw [0, 3] (fun x s wr => ∃ k V : Nat, ∃ pre : List UInt8, ∃ A c, k ≤ 9 ∧ x = .int .u64 (V : Int) ∧ s = .slice A pre.length c ∧ Sm V k ∧ Hid (vb v = pre ++ vbF (9 - k) V) ∧ Hid (pre.length = k) ∧ Hid (Ow wr w.heap.size 5 A pre.length c (pre.map bv)) ∧ Hid (Below w.heap.size w wr)) (fun x _ _ => (intOf x).toNat)
  case atStart => exact ⟨0, v, [], none, 0, by omega, rfl, rfl, hv, hide rfl, hide rfl, hide (Ow.nil _ _ _), hide (Below.refl _ _)⟩
  case round =>
    obtain ⟨k, V, pre, A, c, hk, rfl, rfl, hV, hpre, hpl, ho, hb⟩ := hrel
    have hpl10 : pre.length ≤ 9 := by have := hpl.out; omega
    by_cases hlt : V < 128
    · have hq : (V : Int).tdiv 128 = 0 := by rw [Int.tdiv_eq_ediv_of_nonneg (by omega)]; omega
      have hq2 : (V : Int) / 128 = 0 := by omega
      have hqn : V / 128 = 0 := by omega
      have hVI : (V : Int) ≤ 127 := by omega
      have hVm : (V : Int) % 256 = V := by omega
      have he : Hid (vb v = pre ++ [UInt8.ofNat V]) := hide (by
        rw [hpre.out]
        cases h9 : 9 - k with
        | zero => rfl
        | succ f => rw [vbF, if_pos hlt])
      have hlen : Hid ((vb v).length = pre.length + 1) := hide (by rw [he.out, List.length_append]; rfl)
      have hbv : Hid (bv (UInt8.ofNat V) = .int .u8 (V : Int)) := hide (by rw [bv, UInt8.toNat_ofNat', Nat.mod_eq_of_lt (by omega)])
      clear hlt hk
      go_wp2_with (at_builtin; refine wpList_append_one wr rfl (.tmp 16) (.tmp 19) rfl delem_byte rfl ho.out (.int .u8 (V : Int)) 5 _ rfl rfl (by simp only [maxLen]; omega) (by omega) hb.out.size ?_; intro A3 c3 w3 ho3 hg3 hn3; have hb3 := hide (hb.out.trans (hg3.to_below (B := w.heap.size) hb.out.size (fun i hi => (ho.out.blk_lt i hi).1))); have ho3 := hide ho3; clear hg3 hn3)
      go_ret
      exact ⟨A3, c3, by rw [hlen.out]; rfl, by rw [hlen.out, he.out, List.map_append, List.map_singleton, hbv.out]; exact ho3.out, hb3.out⟩
    · have hk9 : k < 9 := by
        rcases Nat.lt_or_ge k 9 with h | h
        · exact h
        · obtain rfl : k = 9 := by omega
          have := hV.h
          omega
      have hVI : (128 : Int) ≤ V := by omega
      have he : Hid (vb v = (pre ++ [UInt8.ofNat (V % 128 + 128)]) ++ vbF (9 - (k + 1)) (V / 128)) := hide (by
        rw [hpre.out, show 9 - k = 9 - (k + 1) + 1 from by omega, vbF, if_neg hlt, List.append_assoc]
        rfl)
      have hV2 : Sm (V / 128) (k + 1) := ⟨by rw [Nat.pow_succ, ← Nat.div_div_eq_div_mul]; exact Nat.div_le_div_right hV.h⟩
      have hV64 : V ≤ 18446744073709551615 := Nat.le_trans hV.h (Nat.div_le_self _ _)
      obtain ⟨Q, hQ⟩ : ∃ Q, V / 128 = Q := ⟨_, rfl⟩
      obtain ⟨X, hX⟩ : ∃ X, V % 128 + 128 = X := ⟨_, rfl⟩
      have hq : (V : Int).tdiv 128 = (Q : Int) := by rw [Int.tdiv_eq_ediv_of_nonneg (by omega)]; omega
      have hqI : (1 : Int) ≤ Q := by omega
      have hqw : IntKind.u64.wrap (Q : Int) = (Q : Int) := by rw [IntKind.wrap_u64]; omega
      obtain ⟨R, hR⟩ : ∃ R, V % 128 = R := ⟨_, rfl⟩
      have hr : (V : Int).tmod 128 = (R : Int) := by rw [Int.tmod_eq_emod_of_nonneg (by omega)]; omega
      have hqe : (V : Int) / 128 = (Q : Int) := by omega
      have hre : (R : Int) + 128 = (X : Int) := by omega
      have hrm : (V : Int) % 128 = (R : Int) := by omega
      clear hR
      have hxm : (X : Int) % 256 = X := by omega
      have hxI : (X : Int) ≤ 255 := by omega
      rw [hQ] at he hV2
      rw [hX] at he
      have hbv : Hid (bv (UInt8.ofNat X) = .int .u8 (X : Int)) := hide (by rw [bv, UInt8.toNat_ofNat', Nat.mod_eq_of_lt (by omega)])
      have hm : Hid (Q < V) := hide (by omega)
      clear hlt hX hQ hV64
      go_wp2_with (at_builtin; refine wpList_append_one wr rfl (.tmp 7) (.tmp 12) rfl delem_byte rfl ho.out (.int .u8 (X : Int)) 5 _ rfl rfl (by simp only [maxLen]; omega) (by omega) hb.out.size ?_; intro A3 c3 w3 ho3 hg3 hn3; have hb3 := hide (hb.out.trans (hg3.to_below (B := w.heap.size) hb.out.size (fun i hi => (ho.out.blk_lt i hi).1))); have ho3 := hide ho3; clear hg3 hn3)
      go_roundw
      case rel => exact ⟨k + 1, Q, pre ++ [UInt8.ofNat X], A3, c3, by omega, rfl, by rw [List.length_append]; rfl, hV2, he, hide (by rw [List.length_append, hpl.out]; rfl), hide (by rw [List.map_append, List.map_singleton, hbv.out, List.length_append]; exact ho3.out), hb3⟩
      case measure => simp [intOf] <;> (have := hm.out; omega)

/-! ### Four slices of bytes of the call's own, apart from each other -/
def Ap (A A' : Option Addr) : Prop := ∀ g, blk A = some g → blk A' ≠ some g
theorem Ap.symm {A A' : Option Addr} (h : Ap A A') : Ap A' A := fun g hg h2 => h g h2 hg
theorem Ap.step {w : World} {B n c : Nat} {e : TypeId} {A A1 A' : Option Addr} {xs : List Value} (h : Ap A A') (ho : Ow w B e A' n c xs) (hd : blk A1 = blk A ∨ blk A1 = some w.heap.size) : Ap A1 A' := by
  intro g hg hg'
  rcases hd with hd | hd
  · exact h g (hd ▸ hg) hg'
  · have h1 := (ho.blk_lt g hg').2
    rw [hd] at hg
    injection hg with hg
    omega
structure Fs (w : World) (B : Nat) (A1 : Option Addr) (c1 : Nat) (b1 : List UInt8) (A2 : Option Addr) (c2 : Nat) (b2 : List UInt8) (A3 : Option Addr) (c3 : Nat) (b3 : List UInt8) (A4 : Option Addr) (c4 : Nat) (b4 : List UInt8) : Prop where
  o1 : Ow w B 5 A1 b1.length c1 (b1.map bv)
  o2 : Ow w B 5 A2 b2.length c2 (b2.map bv)
  o3 : Ow w B 5 A3 b3.length c3 (b3.map bv)
  o4 : Ow w B 5 A4 b4.length c4 (b4.map bv)
  a12 : Ap A1 A2
  a13 : Ap A1 A3
  a14 : Ap A1 A4
  a23 : Ap A2 A3
  a24 : Ap A2 A4
  a34 : Ap A3 A4
  hB : B ≤ w.heap.size
section
variable {w w' : World} {B c1 c2 c3 c4 : Nat} {A1 A2 A3 A4 : Option Addr} {b1 b2 b3 b4 : List UInt8}
theorem Fs.rot (h : Fs w B A1 c1 b1 A2 c2 b2 A3 c3 b3 A4 c4 b4) : Fs w B A2 c2 b2 A3 c3 b3 A4 c4 b4 A1 c1 b1 :=
  ⟨h.o2, h.o3, h.o4, h.o1, h.a23, h.a24, h.a12.symm, h.a34, h.a13.symm, h.a14.symm, h.hB⟩
theorem Fs.below (h : Fs w B A1 c1 b1 A2 c2 b2 A3 c3 b3 A4 c4 b4) (hb : Below w.heap.size w w') : Fs w' B A1 c1 b1 A2 c2 b2 A3 c3 b3 A4 c4 b4 :=
  ⟨h.o1.below hb, h.o2.below hb, h.o3.below hb, h.o4.below hb, h.a12, h.a13, h.a14, h.a23, h.a24, h.a34, Nat.le_trans h.hB hb.size⟩
theorem Fs.p1 (h : Fs w B A1 c1 b1 A2 c2 b2 A3 c3 b3 A4 c4 b4) {A : Option Addr} {c : Nat} {n : List UInt8} (ho : Ow w' B 5 A (b1.length + n.length) c (b1.map bv ++ n.map bv)) (hc : Chg (fun k => blk A1 = some k) w w') (hd : blk A = blk A1 ∨ blk A = some w.heap.size) :
    Fs w' B A c (b1 ++ n) A2 c2 b2 A3 c3 b3 A4 c4 b4 :=
  ⟨by rw [List.length_append, List.map_append]; exact ho, h.o2.chg hc (fun g hg h1 => h.a12 g h1 hg), h.o3.chg hc (fun g hg h1 => h.a13 g h1 hg), h.o4.chg hc (fun g hg h1 => h.a14 g h1 hg), h.a12.step h.o2 hd, h.a13.step h.o3 hd, h.a14.step h.o4 hd, h.a23, h.a24, h.a34, Nat.le_trans h.hB hc.size⟩
theorem Fs.p2 (h : Fs w B A1 c1 b1 A2 c2 b2 A3 c3 b3 A4 c4 b4) {A : Option Addr} {c : Nat} {n : List UInt8} (ho : Ow w' B 5 A (b2.length + n.length) c (b2.map bv ++ n.map bv)) (hc : Chg (fun k => blk A2 = some k) w w') (hd : blk A = blk A2 ∨ blk A = some w.heap.size) :
    Fs w' B A1 c1 b1 A c (b2 ++ n) A3 c3 b3 A4 c4 b4 := (h.rot.p1 ho hc hd).rot.rot.rot
theorem Fs.p3 (h : Fs w B A1 c1 b1 A2 c2 b2 A3 c3 b3 A4 c4 b4) {A : Option Addr} {c : Nat} {n : List UInt8} (ho : Ow w' B 5 A (b3.length + n.length) c (b3.map bv ++ n.map bv)) (hc : Chg (fun k => blk A3 = some k) w w') (hd : blk A = blk A3 ∨ blk A = some w.heap.size) :
    Fs w' B A1 c1 b1 A2 c2 b2 A c (b3 ++ n) A4 c4 b4 := (h.rot.rot.p1 ho hc hd).rot.rot
theorem Fs.p4 (h : Fs w B A1 c1 b1 A2 c2 b2 A3 c3 b3 A4 c4 b4) {A : Option Addr} {c : Nat} {n : List UInt8} (ho : Ow w' B 5 A (b4.length + n.length) c (b4.map bv ++ n.map bv)) (hc : Chg (fun k => blk A4 = some k) w w') (hd : blk A = blk A4 ∨ blk A = some w.heap.size) :
    Fs w' B A1 c1 b1 A2 c2 b2 A3 c3 b3 A c (b4 ++ n) := (h.rot.rot.rot.p1 ho hc hd).rot
/-- .. and a fifth. -/
structure F5 (w : World) (B : Nat) (A1 : Option Addr) (c1 : Nat) (b1 : List UInt8) (A2 : Option Addr) (c2 : Nat) (b2 : List UInt8) (A3 : Option Addr) (c3 : Nat) (b3 : List UInt8) (A4 : Option Addr) (c4 : Nat) (b4 : List UInt8) (A5 : Option Addr) (c5 : Nat) (b5 : List UInt8) : Prop where
  f : Fs w B A1 c1 b1 A2 c2 b2 A3 c3 b3 A4 c4 b4
  o5 : Ow w B 5 A5 b5.length c5 (b5.map bv)
  a1 : Ap A5 A1
  a2 : Ap A5 A2
  a3 : Ap A5 A3
  a4 : Ap A5 A4
theorem F5.new (h : Fs w B A1 c1 b1 A2 c2 b2 A3 c3 b3 A4 c4 b4) (hb : Below w.heap.size w w') {A5 : Option Addr} {c5 : Nat} {b5 : List UInt8} (ho : Ow w' w.heap.size 5 A5 b5.length c5 (b5.map bv)) : F5 w' B A1 c1 b1 A2 c2 b2 A3 c3 b3 A4 c4 b4 A5 c5 b5 :=
  ⟨h.below hb, ho.base_le (fun g hg => Nat.le_trans h.hB (ho.blk_lt g hg).1), fun g hg h1 => by have := (ho.blk_lt g hg).1; have := (h.o1.blk_lt g h1).2; omega, fun g hg h1 => by have := (ho.blk_lt g hg).1; have := (h.o2.blk_lt g h1).2; omega, fun g hg h1 => by have := (ho.blk_lt g hg).1; have := (h.o3.blk_lt g h1).2; omega, fun g hg h1 => by have := (ho.blk_lt g hg).1; have := (h.o4.blk_lt g h1).2; omega⟩
theorem F5.push {A5 A : Option Addr} {c5 c : Nat} {b5 n : List UInt8} (h : F5 w B A1 c1 b1 A2 c2 b2 A3 c3 b3 A4 c4 b4 A5 c5 b5) (ho : Ow w' B 5 A (b5.length + n.length) c (b5.map bv ++ n.map bv)) (hc : Chg (fun k => blk A5 = some k) w w') (hd : blk A = blk A5 ∨ blk A = some w.heap.size) : F5 w' B A1 c1 b1 A2 c2 b2 A3 c3 b3 A4 c4 b4 A c (b5 ++ n) :=
  ⟨⟨h.f.o1.chg hc (fun g hg h1 => h.a1 g h1 hg), h.f.o2.chg hc (fun g hg h1 => h.a2 g h1 hg), h.f.o3.chg hc (fun g hg h1 => h.a3 g h1 hg), h.f.o4.chg hc (fun g hg h1 => h.a4 g h1 hg), h.f.a12, h.f.a13, h.f.a14, h.f.a23, h.f.a24, h.f.a34, Nat.le_trans h.f.hB hc.size⟩,
    by rw [List.length_append, List.map_append]; exact ho, h.a1.step h.f.o1 hd, h.a2.step h.f.o2 hd, h.a3.step h.f.o3 hd, h.a4.step h.f.o4 hd⟩
/-- The four, made empty. -/
theorem Fs.new (w : World) (B : Nat) (hB : B ≤ w.heap.size) : Fs ((((w.alloc (.cells #[] 5)).alloc (.cells #[] 5)).alloc (.cells #[] 5)).alloc (.cells #[] 5)) B (some ⟨w.heap.size, 0, none⟩) 0 [] (some ⟨w.heap.size + 1, 0, none⟩) 0 [] (some ⟨w.heap.size + 1 + 1, 0, none⟩) 0 [] (some ⟨w.heap.size + 1 + 1 + 1, 0, none⟩) 0 [] := by
  have h1 := Ow.lit (base := B) (e := 5) w #[] hB (by simp)
  have h2 := Ow.lit (base := B) (e := 5) (w.alloc (.cells #[] 5)) #[] (by simp; omega) (by simp)
  have h3 := Ow.lit (base := B) (e := 5) ((w.alloc (.cells #[] 5)).alloc (.cells #[] 5)) #[] (by simp; omega) (by simp)
  have h4 := Ow.lit (base := B) (e := 5) (((w.alloc (.cells #[] 5)).alloc (.cells #[] 5)).alloc (.cells #[] 5)) #[] (by simp; omega) (by simp)
  have hs1 : (w.alloc (.cells #[] 5)).heap.size = w.heap.size + 1 := by simp
  have hs2 : ((w.alloc (.cells #[] 5)).alloc (.cells #[] 5)).heap.size = w.heap.size + 1 + 1 := by simp
  have hs3 : (((w.alloc (.cells #[] 5)).alloc (.cells #[] 5)).alloc (.cells #[] 5)).heap.size = w.heap.size + 1 + 1 + 1 := by simp
  rw [hs1] at h2
  rw [hs2] at h3
  rw [hs3] at h4
  exact ⟨((h1.alloc _).alloc _).alloc _, (h2.alloc _).alloc _, h3.alloc _, h4, by intro g; simp [blk]; omega, by intro g; simp [blk]; omega, by intro g; simp [blk]; omega, by intro g; simp [blk]; omega, by intro g; simp [blk]; omega, by intro g; simp [blk]; omega, by simp; omega⟩
end

set_option maxRecDepth 100000 in
set_option maxHeartbeats 4000000 in
theorem rput_ok (A : Option Addr) (c : Nat) (es : List Ent) (w : World) (B : Nat) (hr : RdE w B A es) (hB : B ≤ w.heap.size) (hn : es.length ≤ 200) (hR : RightE es) :
    Calls Tryz.prog 48 #[.slice A es.length c] w fun e w' => ∃ A' c', e = .returned (.slice A' (putB es).length c') ∧ Ow w' w.heap.size 5 A' (putB es).length c' ((putB es).map bv) ∧ Below w.heap.size w w' := by
  have hby := hide (fun (v : Nat) W (h : Sm v 0) => rbytes_any v W h)
  have hvl := hide (fun v => vb_len v)
  have hpl := hide (fun f k => partB_len f k)
  have hN := hide (fun W => rbytes_any es.length W (Sm.of (by omega)))
  obtain ⟨G, hG⟩ : ∃ G, w.heap.size = G := ⟨_, rfl⟩
  rw [hG] at hB ⊢
  have hnew := hide (Fs.new w G (by omega))
  have hrW := hide (fun W (h : Below G w W) => (hr.below (h.mono hB)))
  obtain ⟨n, hl⟩ : ∃ n, es.length = n := ⟨_, rfl⟩
  have hpB : Hid (putB es = vb n ++ partB (fId es) n ++ partB (fRun es) n ++ partB (fLen es) n ++ partB (fOff es) n) := hide (by rw [putB, hl])
  rw [hl] at hN ⊢
  have hnI : (n : Int) ≤ 200 := by omega
  have hn200 := hide (show n ≤ 200 by omega)
  replace hR := hide hR
  have hb0 := hide (((((Below.refl G w).alloc (by omega) (.cells #[] 5)).alloc (by simp; omega) (.cells #[] 5)).alloc (by simp; omega) (.cells #[] 5)).alloc (by simp; omega) (.cells #[] 5))
  replace hG := hide hG
  clear hr hn
  go_enter Tryz.func48, Tryz.ntmps48
  go_wp2
  go_loopw [3, 4, 5, 6, 7] (fun s1 s2 s3 s4 i wr => ∃ k : Nat, ∃ A1 c1 A2 c2 A3 c3 A4 c4, k ≤ n ∧ i = .int .i64 k ∧ s1 = .slice A1 (partB (fId es) k).length c1 ∧ s2 = .slice A2 (partB (fRun es) k).length c2 ∧ s3 = .slice A3 (partB (fLen es) k).length c3 ∧ s4 = .slice A4 (partB (fOff es) k).length c4 ∧ Hid (Fs wr G A1 c1 (partB (fId es) k) A2 c2 (partB (fRun es) k) A3 c3 (partB (fLen es) k) A4 c4 (partB (fOff es) k)) ∧ Hid (Below G w wr)) (fun _ _ _ _ i _ => n - (intOf i).toNat)
  case atStart => exact ⟨0, _, _, _, _, _, _, _, _, by omega, rfl, rfl, rfl, rfl, rfl, hnew, hb0⟩
  case round =>
    obtain ⟨k, A1, c1, A2, c2, A3, c3, A4, c4, hk, rfl, rfl, rfl, rfl, rfl, hF, hb⟩ := hrel
    by_cases hlt : k < n
    · have hkl : k < es.length := by omega
      have hkI : (k : Int) < n := by omega
      obtain ⟨b, o, rfl, hbB, e0, e1, e2, e3⟩ := (hrW.out wr hb.out) k hkl
      have hok := hR.out.2.2.1 k hkl
      have hprev : prevId es k ≤ es[k].id := by
        unfold prevId
        split
        · exact Nat.zero_le _
        · have h8 := hR.out.2.2.2 (k - 1) (by omega)
          have h9 : es[k - 1 + 1] = es[k] := by congr 1; omega
          rw [h9] at h8
          rw [ent_at es (k - 1) (by omega)]
          unfold Ent.next at h8
          omega
      have hf1 : fId es k = es[k].id - prevId es k := by rw [fId, ent_at es k hkl]
      have hf2 : fRun es k = es[k].run := by rw [fRun, ent_at es k hkl]
      have hf3 : fLen es k = es[k].len := by rw [fLen, ent_at es k hkl]
      have hf4 : fOff es k = if 0 < k ∧ es[k].off = (ent es (k - 1)).off + (ent es (k - 1)).len then 0 else es[k].off + 1 := by rw [fOff, ent_at es k hkl]
      have hps1 := hide (partB_succ (fId es) k)
      have hps2 := hide (partB_succ (fRun es) k)
      have hps3 := hide (partB_succ (fLen es) k)
      have hps4 := hide (partB_succ (fOff es) k)
      have hl1 := hide (show (partB (fId es) k).length + (vb (fId es k)).length ≤ 2010 by have := hpl.out (fId es) k; have := hvl.out (fId es k); have := hn200.out; omega)
      have hl2 := hide (show (partB (fRun es) k).length + (vb (fRun es k)).length ≤ 2010 by have := hpl.out (fRun es) k; have := hvl.out (fRun es k); have := hn200.out; omega)
      have hl3 := hide (show (partB (fLen es) k).length + (vb (fLen es k)).length ≤ 2010 by have := hpl.out (fLen es) k; have := hvl.out (fLen es k); have := hn200.out; omega)
      have hl4 := hide (show (partB (fOff es) k).length + (vb (fOff es k)).length ≤ 2010 by have := hpl.out (fOff es) k; have := hvl.out (fOff es k); have := hn200.out; omega)
      have hpr : Hid (∀ q (hq : k = q + 1), (es[q]'(by omega)).ok) := hide (fun q hq => hR.out.2.2.1 q (by omega))
      obtain ⟨xe, hxe⟩ : ∃ xe, es[k] = xe := ⟨_, rfl⟩
      rw [hxe] at e0 e1 e2 e3 hok hf1 hf2 hf3 hf4 hprev
      obtain ⟨xi, xo, xl, xr⟩ := xe
      simp only [Ent.ok] at e0 e1 e2 e3 hok hf1 hf2 hf3 hf4 hprev
      rw [hf2] at hps2 hl2
      rw [hf3] at hps3 hl3
      obtain ⟨V1, hV1⟩ : ∃ v, fId es k = v := ⟨_, rfl⟩
      obtain ⟨V4, hV4⟩ : ∃ v, fOff es k = v := ⟨_, rfl⟩
      rw [hV1] at hf1 hps1 hl1
      rw [hV4] at hf4 hps4 hl4
      have hx1 : xo + 1 ≤ 4194305 := by omega
      have hxw : IntKind.u64.wrap ((xo : Int) + 1) = ((xo + 1 : Nat) : Int) := by rw [IntKind.wrap_u64]; omega
      have hxm : ((xo : Int) + 1) % 18446744073709551616 = ((xo + 1 : Nat) : Int) := by omega
      have hc1 := hide (fun W => hby.out V1 W (Sm.of (by omega)))
      have hc2 := hide (fun W => hby.out xr W (Sm.of (by omega)))
      have hc3 := hide (fun W => hby.out xl W (Sm.of (by omega)))
      have hc4 := hide (fun W => hby.out V4 W (Sm.of (by split at hf4 <;> omega)))
      replace hxe := hide hxe
      replace hok := hide hok
      replace hprev := hide hprev
      replace hf1 := hide hf1
      replace hf4 := hide hf4
      clear hV1 hV4 hf2 hf3 hx1
      generalize hpe1 : partB (fId es) k = P1 at *
      generalize hpe2 : partB (fRun es) k = P2 at *
      generalize hpe3 : partB (fLen es) k = P3 at *
      generalize hpe4 : partB (fOff es) k = P4 at *
      clear hpe1 hpe2 hpe3 hpe4
      go_upto_region 5 with fail
      go_quiet (fail)
      iterate 3 go_step

      go_cut [8, 9] from 20 to 83 (fun s8 s9 wx => s8 = .int .u64 (V1 : Int) ∧ s9 = .int .u64 (V4 : Int) ∧ ∃ m, wx = wr.drewN m)
      case first =>
        rcases Nat.eq_zero_or_pos k with hk0 | hkp
        · subst hk0
          have h1 := hf1.out
          have h4 := hf4.out
          rw [if_neg (by omega)] at h4
          simp only [prevId, if_true, Nat.sub_zero] at h1
          go_wp2
          go_meet
          exact ⟨by rw [h1], int_eq (by omega), ⟨_, rfl⟩⟩
        · obtain ⟨q, rfl⟩ : ∃ q, k = q + 1 := ⟨k - 1, by omega⟩
          have hql : q < es.length := by omega
          obtain ⟨b2, o2, hA2, _, p0, p1, p2, _⟩ := (hrW.out _ hb.out) q hql
          injection hA2 with hA2
          injection hA2 with ee1 ee2
          subst ee1 ee2
          have hpo := hpr.out q rfl
          have hp9 := hprev.out
          have hf1 := hf1.out
          have hf4 := hf4.out
          have hok := hok.out
          rw [Nat.add_sub_cancel, ent_at es q hql] at hf4
          rw [prevId, if_neg (by omega), Nat.add_sub_cancel, ent_at es q hql] at hf1 hp9
          generalize es[q] = pe at *
          obtain ⟨pi, po, pl, prn⟩ := pe
          simp only [Ent.ok] at hpo hf4 hf1 hp9 p0 p1 p2
          obtain ⟨S, hS⟩ : ∃ S, po + pl = S := ⟨_, rfl⟩
          have hSI : ((po : Int) + (pl : Int)) % 18446744073709551616 = (S : Int) := by omega
          have hSW : IntKind.u64.wrap ((po : Int) + (pl : Int)) = (S : Int) := by rw [IntKind.wrap_u64]; omega
          have hvI : ((xi : Int) - (pi : Int)) % 18446744073709551616 = (V1 : Int) := by omega
          have hvW : IntKind.u64.wrap ((xi : Int) - (pi : Int)) = (V1 : Int) := by rw [IntKind.wrap_u64]; omega
          have hqI : (q : Int) < (n : Int) := by omega
          have hqI0 : (0 : Int) ≤ (q : Int) := by omega
          have hwq : IntKind.i64.wrap (q : Int) = (q : Int) := by rw [IntKind.wrap_i64]; omega
          rw [hS] at hf4
          by_cases heq : xo = S
          · rw [if_pos ⟨by omega, heq⟩] at hf4
            have he1 : ((xo : Int) == (S : Int)) = true := by simp; omega
            have he2 : (xo == S) = true := by simp; omega
            clear hpo hok hp9 hS heq
            go_upto_region 8 with fail
            go_quiet (fail)
            go_wp2
            go_meet
            exact ⟨by rw [hf1], by rw [hf4]; rfl, ⟨_, rfl⟩⟩
          · rw [if_neg (fun h => heq h.2)] at hf4
            have he1 : ((xo : Int) == (S : Int)) = false := by simp; omega
            have he2 : (xo == S) = false := by simp; omega
            clear hpo hok hp9 hS heq
            go_upto_region 8 with fail
            go_quiet (fail)
            go_wp2
            go_meet
            exact ⟨by rw [hf1], int_eq (by omega), ⟨_, rfl⟩⟩
      case rest =>
        obtain ⟨rfl, rfl, md, rfl⟩ := hcut
        replace hF := hide (show Fs (wr.drewN md) G A1 c1 P1 A2 c2 P2 A3 c3 P3 A4 c4 P4 from hF.out.below (below_drewN (Below.refl _ _) _))
        replace hb := hide (below_drewN hb.out md)
        generalize wr.drewN md = W0 at *
        have hxe := hxe.out
        clear e0 e1 e2 e3 hok hprev hf1 hf4 hpr hxw hxm
        have hF0 := hide hF.out.hB
        go_upto_region 11 with (first
          | (go_at_call 85; (with_reducible refine (hc1.out _).mono ?_); rintro e v1 ⟨A9, c9, rfl, ho9, hb9⟩; have ho9 := hide ho9.rd; have hF := hide (hF.out.below hb9); have hb := hide (hb.out.trans (hb9.mono hF0.out)); clear hb9)
          | (at_builtin; refine wpList_append_rd v1 rfl (.tmp 60) (.tmp 62) rfl delem_byte rfl hF.out.o1 rfl ho9.out (dbv_one _) (by have := hl1.out; simp only [maxLen]; omega) (by have := hl1.out; omega) hF.out.hB ?_; intro A1n c1n y1 ho hg hd; have hb := hide (hb.out.trans (hg.to_below (B := G) hF.out.hB (fun i hi => (hF.out.o1.blk_lt i hi).1))); have hF := hide (hF.out.p1 ho hg hd); clear ho hg hd ho9 hF0))
        obtain ⟨_, _, hAA, _, e0, e1, e2, e3⟩ := (hrW.out _ hb.out) k hkl
        cases hAA
        rw [hxe] at e0 e1 e2 e3
        simp only at e0 e1 e2 e3
        have hF0 := hide hF.out.hB
        go_upto_region 12 with (first
          | (go_at_call 85; (with_reducible refine (hc2.out _).mono ?_); rintro e v2 ⟨A9, c9, rfl, ho9, hb9⟩; have ho9 := hide ho9.rd; have hF := hide (hF.out.below hb9); have hb := hide (hb.out.trans (hb9.mono hF0.out)); clear hb9)
          | (at_builtin; refine wpList_append_rd v2 rfl (.tmp 64) (.tmp 70) rfl delem_byte rfl hF.out.o2 rfl ho9.out (dbv_one _) (by have := hl2.out; simp only [maxLen]; omega) (by have := hl2.out; omega) hF.out.hB ?_; intro A2n c2n y2 ho hg hd; have hb := hide (hb.out.trans (hg.to_below (B := G) hF.out.hB (fun i hi => (hF.out.o2.blk_lt i hi).1))); have hF := hide (hF.out.p2 ho hg hd); clear ho hg hd ho9 hF0))
        obtain ⟨_, _, hAA, _, e0, e1, e2, e3⟩ := (hrW.out _ hb.out) k hkl
        cases hAA
        rw [hxe] at e0 e1 e2 e3
        simp only at e0 e1 e2 e3
        have hF0 := hide hF.out.hB
        go_upto_region 13 with (first
          | (go_at_call 85; (with_reducible refine (hc3.out _).mono ?_); rintro e v3 ⟨A9, c9, rfl, ho9, hb9⟩; have ho9 := hide ho9.rd; have hF := hide (hF.out.below hb9); have hb := hide (hb.out.trans (hb9.mono hF0.out)); clear hb9)
          | (at_builtin; refine wpList_append_rd v3 rfl (.tmp 72) (.tmp 78) rfl delem_byte rfl hF.out.o3 rfl ho9.out (dbv_one _) (by have := hl3.out; simp only [maxLen]; omega) (by have := hl3.out; omega) hF.out.hB ?_; intro A3n c3n y3 ho hg hd; have hb := hide (hb.out.trans (hg.to_below (B := G) hF.out.hB (fun i hi => (hF.out.o3.blk_lt i hi).1))); have hF := hide (hF.out.p3 ho hg hd); clear ho hg hd ho9 hF0))
        have hF0 := hide hF.out.hB
        go_upto_region 4 with (first
          | (go_at_call 85; (with_reducible refine (hc4.out _).mono ?_); rintro e v4 ⟨A9, c9, rfl, ho9, hb9⟩; have ho9 := hide ho9.rd; have hF := hide (hF.out.below hb9); have hb := hide (hb.out.trans (hb9.mono hF0.out)); clear hb9)
          | (at_builtin; refine wpList_append_rd v4 rfl (.tmp 80) (.tmp 82) rfl delem_byte rfl hF.out.o4 rfl ho9.out (dbv_one _) (by have := hl4.out; simp only [maxLen]; omega) (by have := hl4.out; omega) hF.out.hB ?_; intro A4n c4n y4 ho hg hd; have hb := hide (hb.out.trans (hg.to_below (B := G) hF.out.hB (fun i hi => (hF.out.o4.blk_lt i hi).1))); have hF := hide (hF.out.p4 ho hg hd); clear ho hg hd ho9 hF0))
        go_wp2
        go_roundw
        case rel => exact ⟨k + 1, A1n, c1n, A2n, c2n, A3n, c3n, A4n, c4n, by omega, by go_num, by rw [hps1.out, List.length_append], by rw [hps2.out, List.length_append], by rw [hps3.out, List.length_append], by rw [hps4.out, List.length_append], by rw [hps1.out, hps2.out, hps3.out, hps4.out]; exact hF, hb⟩
        case measure => simp [intOf] <;> omega
    · obtain rfl : k = n := by omega
      have hvn := hide (hvl.out k)
      have hp1 := hide (hpl.out (fId es) k)
      have hp2 := hide (hpl.out (fRun es) k)
      have hp3 := hide (hpl.out (fLen es) k)
      have hp4 := hide (hpl.out (fOff es) k)
      generalize partB (fId es) k = P1 at *
      generalize partB (fRun es) k = P2 at *
      generalize partB (fLen es) k = P3 at *
      generalize partB (fOff es) k = P4 at *
      generalize vb k = P0 at *
      have hq1 := hide (show P0.length + P1.length ≤ 9000 by have := hvn.out; have := hp1.out; have := hn200.out; omega)
      have hq2 := hide (show P0.length + P1.length + P2.length ≤ 9000 by have := hvn.out; have := hp1.out; have := hp2.out; have := hn200.out; omega)
      have hq3 := hide (show P0.length + P1.length + P2.length + P3.length ≤ 9000 by have := hvn.out; have := hp1.out; have := hp2.out; have := hp3.out; have := hn200.out; omega)
      have hq4 := hide (show P0.length + P1.length + P2.length + P3.length + P4.length ≤ 9000 by have := hvn.out; have := hp1.out; have := hp2.out; have := hp3.out; have := hp4.out; have := hn200.out; omega)
      have hF0 := hide hF.out.hB
      clear hvn hp1 hp2 hp3 hp4 hpl hvl hby hrW hB
      go_wp2_with (first
        | (go_at_call 85; (with_reducible refine (hN.out _).mono ?_); rintro e w5 ⟨A9, c9, rfl, ho9, hb9⟩; have hX := hide (F5.new hF.out hb9 ho9); have hb := hide (hb.out.trans (hb9.mono hF0.out)); clear hb9 ho9 hF)
        | (at_builtin; refine wpList_append_rd w5 rfl (.tmp 87) (.tmp 88) rfl delem_byte rfl hX.out.o5 rfl hX.out.f.o1.rd (dbv_one _) (by  have := hq1.out; simp only [maxLen]; omega) (by  have := hq1.out; omega) hX.out.f.hB ?_; intro A1n c1n z1 ho hg hd; have hb := hide (hb.out.trans (hg.to_below (B := G) hX.out.f.hB (fun i hi => (hX.out.o5.blk_lt i hi).1))); have hX := hX.out.push ho hg hd; clear ho hg hd; obtain ⟨Q1, hQ1⟩ : ∃ Q, P0 ++ P1 = Q := ⟨_, rfl⟩; rw [hQ1] at hX; replace hX := hide hX; have hL1 : P0.length + P1.length = Q1.length := (by rw [← hQ1, List.length_append]); rw [hL1]; replace hL1 := hide hL1; replace hQ1 := hide hQ1)
        | (at_builtin; refine wpList_append_rd z1 rfl (.tmp 89) (.tmp 90) rfl delem_byte rfl hX.out.o5 rfl hX.out.f.o2.rd (dbv_one _) (by have := hL1.out; have := hq2.out; simp only [maxLen]; omega) (by have := hL1.out; have := hq2.out; omega) hX.out.f.hB ?_; intro A2n c2n z2 ho hg hd; have hb := hide (hb.out.trans (hg.to_below (B := G) hX.out.f.hB (fun i hi => (hX.out.o5.blk_lt i hi).1))); have hX := hX.out.push ho hg hd; clear ho hg hd; obtain ⟨Q2, hQ2⟩ : ∃ Q, Q1 ++ P2 = Q := ⟨_, rfl⟩; rw [hQ2] at hX; replace hX := hide hX; have hL2 : Q1.length + P2.length = Q2.length := (by rw [← hQ2, List.length_append]); rw [hL2]; replace hL2 := hide hL2; replace hQ2 := hide hQ2)
        | (at_builtin; refine wpList_append_rd z2 rfl (.tmp 91) (.tmp 92) rfl delem_byte rfl hX.out.o5 rfl hX.out.f.o3.rd (dbv_one _) (by have := hL1.out; have := hL2.out; have := hq3.out; simp only [maxLen]; omega) (by have := hL1.out; have := hL2.out; have := hq3.out; omega) hX.out.f.hB ?_; intro A3n c3n z3 ho hg hd; have hb := hide (hb.out.trans (hg.to_below (B := G) hX.out.f.hB (fun i hi => (hX.out.o5.blk_lt i hi).1))); have hX := hX.out.push ho hg hd; clear ho hg hd; obtain ⟨Q3, hQ3⟩ : ∃ Q, Q2 ++ P3 = Q := ⟨_, rfl⟩; rw [hQ3] at hX; replace hX := hide hX; have hL3 : Q2.length + P3.length = Q3.length := (by rw [← hQ3, List.length_append]); rw [hL3]; replace hL3 := hide hL3; replace hQ3 := hide hQ3)
        | (at_builtin; refine wpList_append_rd z3 rfl (.tmp 93) (.tmp 94) rfl delem_byte rfl hX.out.o5 rfl hX.out.f.o4.rd (dbv_one _) (by have := hL1.out; have := hL2.out; have := hL3.out; have := hq4.out; simp only [maxLen]; omega) (by have := hL1.out; have := hL2.out; have := hL3.out; have := hq4.out; omega) hX.out.f.hB ?_; intro A4n c4n z4 ho hg hd; have hb := hide (hb.out.trans (hg.to_below (B := G) hX.out.f.hB (fun i hi => (hX.out.o5.blk_lt i hi).1))); have hX := hX.out.push ho hg hd; clear ho hg hd; obtain ⟨Q4, hQ4⟩ : ∃ Q, Q3 ++ P4 = Q := ⟨_, rfl⟩; rw [hQ4] at hX; replace hX := hide hX; have hL4 : Q3.length + P4.length = Q4.length := (by rw [← hQ4, List.length_append]); rw [hL4]; replace hL4 := hide hL4; replace hQ4 := hide hQ4))
      go_ret
      rw [hQ1.out, hQ2.out, hQ3.out, hQ4.out] at hpB
      exact ⟨A4n, c4n, by rw [hpB.out]; rfl, by rw [hpB.out]; exact hX.out.o5, hb.out⟩

end Go.Proofs.YtaapjampmnanmaaGreat

namespace Go.Proofs.YtaapjampmnanmaaGreat
open Go.RowKit

def Ent.zero : Ent := ⟨0, 0, 0, 0⟩
theorem info_ent (a b c d : Value) : (Tryz.prog.info? 36).map (·.size) = some (#[a, b, c, d] : Array Value).size := by kernel_rfl
theorem ent_one (a b c d : Int) : (#[Value.int .u64 a, .int .u64 b, .int .u64 c, .int .u64 d] : Array Value).all (·.oneCell') = true := by simp [Value.oneCell']

end Go.Proofs.YtaapjampmnanmaaGreat

namespace Go.Proofs.YtaapjampmnanmaaGreat
open Go.RowKit

/-- The slice value '.slice A es.length c' is the call's own and holds these entries. -/
def OwE (w : World) (base : Nat) (A : Option Addr) (c : Nat) (es : List Ent) : Prop :=
  ∃ xs, w.ownsRow base 36 4 (.slice A es.length c) es.length xs ∧ ∀ j (h : j < es.length), xs[j * 4]? = some (qv es[j].id) ∧ xs[j * 4 + 1]? = some (qv es[j].off) ∧ xs[j * 4 + 2]? = some (qv es[j].len) ∧ xs[j * 4 + 3]? = some (qv es[j].run)

section
variable {w w' : World} {base c : Nat} {A : Option Addr} {es : List Ent}
theorem OwE.nil (w : World) (base : Nat) : OwE w base none 0 [] := ⟨[], World.ownsRow_nil w base _ 4, fun _ h => absurd h (Nat.not_lt_zero _)⟩
theorem OwE.form (h : OwE w base A c es) : (A = none ∧ es = [] ∧ c = 0) ∨ ∃ g, A = some ⟨g, 0, none⟩ ∧ base ≤ g ∧ g < w.heap.size := by
  obtain ⟨xs, h, _⟩ := h
  rcases h.2 with ⟨hv, h0⟩ | ⟨g, cap, cur, hv, hg, hh, _⟩
  · injection hv with h1 h2 h3
    exact .inl ⟨h1, List.eq_nil_of_length_eq_zero h0, h3⟩
  · injection hv with h1 h2 h3
    exact .inr ⟨g, h1, hg, lt_of_block hh⟩
theorem OwE.pos (h : OwE w base A c es) (hn : 0 < es.length) : ∃ g, A = some ⟨g, 0, none⟩ ∧ base ≤ g ∧ g < w.heap.size := by
  rcases h.form with ⟨_, h0, _⟩ | h
  · simp [h0] at hn
  · exact h
theorem OwE.blk_lt (h : OwE w base A c es) : ∀ g, blk A = some g → base ≤ g ∧ g < w.heap.size := by
  intro g hg
  rcases h.form with ⟨rfl, _⟩ | ⟨g', rfl, h1, h2⟩
  · simp [blk] at hg
  · simp [blk] at hg
    subst hg
    exact ⟨h1, h2⟩
theorem OwE.chg {R : Nat → Prop} (h : OwE w base A c es) (hk : Chg R w w') (hn : ∀ g, blk A = some g → ¬ R g) : OwE w' base A c es := by
  obtain ⟨xs, h, hx⟩ := h
  refine ⟨xs, ⟨h.1, ?_⟩, hx⟩
  rcases h.2 with h2 | ⟨g, cap, cur, hv, hb, hh, r⟩
  · exact .inl h2
  · refine .inr ⟨g, cap, cur, hv, hb, ?_, r⟩
    injection hv with h1
    rw [hk.block g (lt_of_block hh) (hn g (by rw [h1]; rfl))]
    exact hh
theorem OwE.below (h : OwE w base A c es) (hk : Below w.heap.size w w') : OwE w' base A c es :=
  h.chg (R := fun _ => False) ⟨hk.os, hk.tape, hk.output, hk.size, fun k hl _ => hk.block k hl⟩ (fun _ _ h => h)
theorem OwE.ne (h : OwE w base A c es) {g : Nat} {t : TypeId} {cs : Array Value} (hk : Blk w g t cs) (hne : 36 ≠ t) : blk A ≠ some g := by
  obtain ⟨xs, h, _⟩ := h
  intro hg
  rcases h.2 with ⟨hv, _⟩ | ⟨g', cap, cur, hv, _, hh, _⟩
  · injection hv with h1
    rw [h1] at hg
    simp [blk] at hg
  · injection hv with h1
    rw [h1] at hg
    have : g' = g := by simpa [blk] using hg
    subst this
    exact Blk.same (w := w) hh hk hne rfl
theorem OwE.ne_ow (h : OwE w base A c es) {base' n' c' : Nat} {e' : TypeId} {A' : Option Addr} {xs' : List Value} (h' : Ow w base' e' A' n' c' xs') (hne : 36 ≠ e') : ∀ g, blk A = some g → blk A' ≠ some g := by
  obtain ⟨xs, h, _⟩ := h
  intro g hg
  rcases h.2 with ⟨hv, _⟩ | ⟨g', cap, cur, hv, _, hh, _⟩
  · injection hv with h1
    rw [h1] at hg
    simp [blk] at hg
  · injection hv with h1
    rw [h1] at hg
    have : g' = g := by simpa [blk] using hg
    subst this
    exact h'.ne (t := 36) (cs := cur) hh (Ne.symm hne)
theorem OwE.rd (h : OwE w base A c es) : RdE w w.heap.size A es := by
  intro j hj
  obtain ⟨g, rfl, h1, h2⟩ := h.pos (by omega)
  obtain ⟨xs, h, hx⟩ := h
  obtain ⟨x0, x1, x2, x3⟩ := hx j hj
  refine ⟨g, 0, rfl, h2, ?_, ?_, ?_, ?_⟩
  · have := h.cells (g := g) rfl _ _ x0
    rwa [Addr.add_mid] at this
  · have := h.cells (g := g) rfl _ _ x1
    rwa [Addr.add_mid] at this
  · have := h.cells (g := g) rfl _ _ x2
    rwa [Addr.add_mid] at this
  · have := h.cells (g := g) rfl _ _ x3
    rwa [Addr.add_mid] at this
theorem OwE.free {g : Nat} (h : OwE w base (some ⟨g, 0, none⟩) c es) (i : Nat) : w.frozen? ⟨g, i, none⟩ = false := by
  obtain ⟨xs, h, _⟩ := h
  exact h.frozenAt i
/-- A store into an entry: the entry that then stands there. -/
theorem OwE.put {g : Nat} (h : OwE w base (some ⟨g, 0, none⟩) c es) (j : Nat) (hj : j < es.length) (f : Nat) (hf : f < 4) (x : Nat) (y : Ent)
    (hy : (f = 0 ∧ y = { es[j] with id := x }) ∨ (f = 1 ∧ y = { es[j] with off := x }) ∨ (f = 2 ∧ y = { es[j] with len := x }) ∨ (f = 3 ∧ y = { es[j] with run := x })) :
    OwE (w.setCell ⟨g, j * 4 + f, none⟩ (qv x)) base (some ⟨g, 0, none⟩) c (es.set j y) := by
  obtain ⟨xs, h, hx⟩ := h
  have hlen : xs.length = es.length * 4 := h.1
  refine ⟨xs.set (j * 4 + f) (qv x), by rw [List.length_set]; exact (h.stored _ _).1, ?_⟩
  intro i hi
  rw [List.length_set] at hi
  obtain ⟨x0, x1, x2, x3⟩ := hx i hi
  by_cases e : j = i
  · subst e
    rw [List.getElem_set_self]
    rcases hy with ⟨rfl, rfl⟩ | ⟨rfl, rfl⟩ | ⟨rfl, rfl⟩ | ⟨rfl, rfl⟩
    · exact ⟨by rw [Nat.add_zero, List.getElem?_set_self (by omega)], by rw [List.getElem?_set_ne (by omega), x1], by rw [List.getElem?_set_ne (by omega), x2], by rw [List.getElem?_set_ne (by omega), x3]⟩
    · exact ⟨by rw [List.getElem?_set_ne (by omega), x0], by rw [List.getElem?_set_self (by omega)], by rw [List.getElem?_set_ne (by omega), x2], by rw [List.getElem?_set_ne (by omega), x3]⟩
    · exact ⟨by rw [List.getElem?_set_ne (by omega), x0], by rw [List.getElem?_set_ne (by omega), x1], by rw [List.getElem?_set_self (by omega)], by rw [List.getElem?_set_ne (by omega), x3]⟩
    · exact ⟨by rw [List.getElem?_set_ne (by omega), x0], by rw [List.getElem?_set_ne (by omega), x1], by rw [List.getElem?_set_ne (by omega), x2], by rw [List.getElem?_set_self (by omega)]⟩
  · rw [List.getElem_set_ne e]
    exact ⟨by rw [List.getElem?_set_ne (by omega), x0], by rw [List.getElem?_set_ne (by omega), x1], by rw [List.getElem?_set_ne (by omega), x2], by rw [List.getElem?_set_ne (by omega), x3]⟩
end

theorem info_entry : (Tryz.prog.info? 36).map (fun i => (i.zero, i.size, i.bytes)) = some (some (.agg #[.int .u64 0, .int .u64 0, .int .u64 0, .int .u64 0]), 4, 32) := by kernel_rfl

/-- append of one entry, laid into a block of its own first: what runs. -/
theorem run_append_ent (w : World) (ty : TypeId) {base c : Nat} {A : Option Addr} {es : List Ent} (h : OwE w base A c es) (x : Ent) (fr : Nat × Nat) (h63 : es.length ≤ 1048576) (hbase : base ≤ w.heap.size) :
    ∃ A' c' w', (Builtin.append_ #[48, 48] ty #[.slice A es.length c, .slice (some ⟨w.heap.size, 0, none⟩) 1 1]).run Tryz.prog (w.alloc (.cells x.cells 36 fr)) = .ok (.slice A' (es ++ [x]).length c') w' ∧ OwE w' base A' c' (es ++ [x]) ∧ Chg (fun k => blk A = some k) w w' ∧
      (blk A' = blk A ∨ ∃ k, w.heap.size ≤ k ∧ blk A' = some k) := by
  obtain ⟨i, hi, hz, hs, hb⟩ := info_parts info_entry
  obtain ⟨xs, h, hx⟩ := h
  have hlen : xs.length = es.length * 4 := h.1
  obtain ⟨v', w', hrun, h2, h3, _, h5⟩ := run_append_own_at (P := Tryz.prog) (w.alloc (.cells x.cells 36 fr)) base 48 ty 36 i _ 4 32 Tryz.underlying48 hi hz hs hb rfl (by omega) (.slice A es.length c) es.length xs (h.alloc _) ⟨w.heap.size, 0, none⟩ 1 1 x.cells.toList rfl
    (by
      intro j u hu
      rw [Addr.add_mid, cell_of_row _ _ _ x.cells 36 fr (heap_alloc_new w _)]
      simpa using hu)
    (by
      intro u hu
      simp [Ent.cells] at hu
      rcases hu with rfl | rfl | rfl | rfl <;> rfl) (by simp only [maxLen]; omega) (by omega) (by simp; omega)
  rw [ownBlock_slice] at h3 h5
  have hent : ∀ j (hj : j < (es ++ [x]).length), (xs ++ x.cells.toList)[j * 4]? = some (qv (es ++ [x])[j].id) ∧ (xs ++ x.cells.toList)[j * 4 + 1]? = some (qv (es ++ [x])[j].off) ∧ (xs ++ x.cells.toList)[j * 4 + 2]? = some (qv (es ++ [x])[j].len) ∧ (xs ++ x.cells.toList)[j * 4 + 3]? = some (qv (es ++ [x])[j].run) := by
    intro j hj
    rw [List.length_append, List.length_singleton] at hj
    by_cases e : j < es.length
    · obtain ⟨x0, x1, x2, x3⟩ := hx j e
      rw [List.getElem_append_left e]
      exact ⟨by rw [List.getElem?_append_left (by omega), x0], by rw [List.getElem?_append_left (by omega), x1], by rw [List.getElem?_append_left (by omega), x2], by rw [List.getElem?_append_left (by omega), x3]⟩
    · obtain rfl : j = es.length := by omega
      rw [List.getElem_concat_length rfl]
      exact ⟨by rw [List.getElem?_append_right (by omega), show es.length * 4 - xs.length = 0 from by omega]; rfl, by rw [List.getElem?_append_right (by omega), show es.length * 4 + 1 - xs.length = 1 from by omega]; rfl, by rw [List.getElem?_append_right (by omega), show es.length * 4 + 2 - xs.length = 2 from by omega]; rfl, by rw [List.getElem?_append_right (by omega), show es.length * 4 + 3 - xs.length = 3 from by omega]; rfl⟩
  have hnl : (es ++ [x]).length = es.length + 1 := by simp
  have hc : Chg (fun k => blk A = some k) w w' := ((Chg.refl _ w).alloc _).trans (chg_of_grown h3) (fun _ _ h => h)
  rcases h2.2 with ⟨hv, h0⟩ | ⟨g, cap, cur, hv, r⟩
  · omega
  · rw [hv] at hrun h2 h5
    refine ⟨_, cap, w', by rw [hnl]; exact hrun, ⟨_, by rw [hnl]; exact h2, hent⟩, hc, ?_⟩
    rw [ownBlock_slice] at h5
    rcases h5 with h5 | h5
    · exact .inl h5
    · exact .inr ⟨_, by simp, h5⟩

theorem wpList_append_ent {ops : Array Oper} {rest : List Oper} {o : Oper} {a : Act} {Q : Exit → Act → World → Prop} (w : World) (hgd : o.guard = none) (s y : Operand)
    (ho : o.op = .call { callee := .builtin .append, args := #[s, y], argTypes := #[48, 48] })
    {base c : Nat} {A : Option Addr} {es : List Ent} (hs : a.eval s = .slice A es.length c) (h : OwE w base A c es) (x : Ent) (fr : Nat × Nat) (hx : a.eval y = .slice (some ⟨w.heap.size, 0, none⟩) 1 1)
    (h63 : es.length ≤ 1048576) (hbase : base ≤ w.heap.size)
    (hk : ∀ A' c' w', OwE w' base A' c' (es ++ [x]) → Chg (fun k => blk A = some k) w w' → (blk A' = blk A ∨ ∃ k, w.heap.size ≤ k ∧ blk A' = some k) → wpList Tryz.prog ops Q rest (a.put o.dst (.slice A' (es ++ [x]).length c')) w') :
    wpList Tryz.prog ops Q (o :: rest) a (w.alloc (.cells #[.int .u64 (x.id : Int), .int .u64 (x.off : Int), .int .u64 (x.len : Int), .int .u64 (x.run : Int)] 36 fr)) :=
  wpList_plain hgd fun _ hK => by
    obtain ⟨A', c', w', hrun, h2, h3, h4⟩ := run_append_ent w o.type h x fr h63 hbase
    unfold Ent.cells at hrun
    unfold Oper.wp execOp
    simp only [ho, resolve, invoke, builtin, Sem.run_bind, Sem.run_pure, Result.andThen_ok, List.map_toArray, List.map_cons, List.map_nil, hs, hx, hrun]
    exact hK _ _ (hk A' c' w' h2 h3 h4)

end Go.Proofs.YtaapjampmnanmaaGreat
