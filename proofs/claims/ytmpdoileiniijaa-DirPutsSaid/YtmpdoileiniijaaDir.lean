/- Layer 12 (dir): entries in memory, which of them may be, and the two walks that tell it. There is no condition but where the slice lies. -/
import Derived.Test.YtmpdoileiniijaaMem
import Derived.BigQuiet
import Derived.BigRegion
import Derived.Deep.Cut
namespace Go.Proofs.Ytmpdoileiniijaa
open Go.RowKit

/-- An entry: number, place, length, run. -/
structure Ent where
  id : Nat
  off : Nat
  len : Nat
  run : Nat
deriving DecidableEq
def qv (x : Nat) : Value := .int .u64 (x : Int)
def Ent.cells (x : Ent) : Array Value := #[.int .u64 (x.id : Int), .int .u64 (x.off : Int), .int .u64 (x.len : Int), .int .u64 (x.run : Int)]
def Ent.big (x : Ent) : Prop := x.id ≤ 18446744073709551615 ∧ x.off ≤ 18446744073709551615 ∧ x.len ≤ 18446744073709551615 ∧ x.run ≤ 18446744073709551615
/-- A slice of entries that lies below B. -/
def RdE (w : World) (B : Nat) (A : Option Addr) (es : List Ent) : Prop :=
  ∀ j (hj : j < es.length), ∃ b o, A = some ⟨b, o, none⟩ ∧ b < B ∧ w.cell? ⟨b, o + j * 4, none⟩ = some (.int .u64 (es[j].id : Int)) ∧ w.cell? ⟨b, o + j * 4 + 1, none⟩ = some (.int .u64 (es[j].off : Int)) ∧ w.cell? ⟨b, o + j * 4 + 2, none⟩ = some (.int .u64 (es[j].len : Int)) ∧ w.cell? ⟨b, o + j * 4 + 3, none⟩ = some (.int .u64 (es[j].run : Int))
theorem RdE.below {w w' : World} {B : Nat} {A : Option Addr} {es : List Ent} (h : RdE w B A es) (hb : Below B w w') : RdE w' B A es := by
  intro j hj
  obtain ⟨b, o, h1, h2, h3, h4, h5, h6⟩ := h j hj
  exact ⟨b, o, h1, h2, by rw [hb.cell (p := ⟨_, _, none⟩) h2]; exact h3, by rw [hb.cell (p := ⟨_, _, none⟩) h2]; exact h4, by rw [hb.cell (p := ⟨_, _, none⟩) h2]; exact h5, by rw [hb.cell (p := ⟨_, _, none⟩) h2]; exact h6⟩
theorem RdE.mono {w : World} {B B' : Nat} {A : Option Addr} {es : List Ent} (h : RdE w B A es) (hb : B ≤ B') : RdE w B' A es := by
  intro j hj
  obtain ⟨b, o, h1, h2, h3⟩ := h j hj
  exact ⟨b, o, h1, by omega, h3⟩

def Ent.ok (x : Ent) : Prop := x.id < 4611686018427387904 ∧ x.run < 4294967296 ∧ 1 ≤ x.len ∧ x.len ≤ 4194304 ∧ x.off ≤ 4194304
def Ent.next (p x : Ent) : Prop := p.id + max p.run 1 ≤ x.id
/-- These entries may be. -/
def RightE (es : List Ent) : Prop := 1 ≤ es.length ∧ es.length ≤ 65536 ∧ (∀ j (h : j < es.length), es[j].ok) ∧ ∀ j (h : j + 1 < es.length), es[j].next es[j + 1]

/-- How far the entries were found right. -/
def RightTo (es : List Ent) (k : Nat) : Prop := (∀ j (h : j < es.length), j < k → es[j].ok) ∧ ∀ j (h : j + 1 < es.length), j + 1 < k → es[j].next es[j + 1]
theorem RightTo.zero (es : List Ent) : RightTo es 0 := ⟨fun _ _ h => absurd h (Nat.not_lt_zero _), fun _ _ h => absurd h (Nat.not_lt_zero _)⟩
theorem RightTo.succ {es : List Ent} {k : Nat} (h : RightTo es k) (hk : k < es.length) (h1 : es[k].ok) (h2 : ∀ q (hq : k = q + 1), (es[q]'(by omega)).next es[k]) : RightTo es (k + 1) := by
  constructor
  · intro j hj hjk
    by_cases e : j = k
    · subst e; exact h1
    · exact h.1 j hj (by omega)
  · intro j hj hjk
    by_cases e : j + 1 = k
    · subst e; exact h2 j rfl
    · exact h.2 j hj (by omega)
theorem RightTo.done {es : List Ent} (h : RightTo es es.length) (h1 : 1 ≤ es.length) (h2 : es.length ≤ 65536) : RightE es := ⟨h1, h2, fun j hj => h.1 j hj hj, fun j hj => h.2 j hj hj⟩

set_option maxRecDepth 100000 in
set_option maxHeartbeats 4000000 in
theorem dright_any (A : Option Addr) (c : Nat) (es : List Ent) (w : World) (B : Nat) (hr : RdE w B A es) (hB : B ≤ w.heap.size) (hbg : ∀ x ∈ es, x.big) (hn : es.length ≤ maxLen) (v : Bool) (hv : RightE es ↔ v = true) :
    Calls Try.prog 23 #[.slice A es.length c] w fun e w' => e = .returned (.bool v) ∧ Below w.heap.size w w' := by
  obtain ⟨n, hl⟩ : ∃ n, es.length = n := ⟨_, rfl⟩
  rw [hl]
  replace hv := hide hv
  have hfalse : Hid (¬ RightE es → v = false) := hide (fun h => by
    cases v
    · rfl
    · exact absurd (hv.out.2 rfl) h)
  by_cases h0 : n = 0
  · obtain rfl := hfalse.out (fun h => by have := h.1; omega)
    subst h0
    clear hr hv hn hfalse
    go_enter Try.func23, Try.ntmps23
    go_wp2
    go_ret
    exact ⟨rfl, Below.refl _ _⟩
  have h0b : ((n : Int) == 0) = false := by simp; omega
  by_cases h6 : 65536 < n
  · obtain rfl := hfalse.out (fun h => by have := h.2.1; omega)
    have hnI : (65537 : Int) ≤ n := by omega
    have hnI2 : (n : Int) ≤ 9223372036854775807 := by simp only [maxLen] at hn; omega
    clear hr hv hn hfalse h0 h6
    go_enter Try.func23, Try.ntmps23
    go_wp2
    go_ret
    exact ⟨rfl, Below.refl _ _⟩
  have hnI : (n : Int) ≤ 65536 := by omega
  have hn1 := hide (show 1 ≤ n by omega)
  have hn6 := hide (show n ≤ 65536 by omega)
  replace hr := hide hr
  replace hbg := hide hbg
  replace hB := hide hB
  clear hn h0 h6
  go_enter Try.func23, Try.ntmps23
  go_wp2
  go_loopw [15] (fun i wr => ∃ k : Nat, k ≤ n ∧ i = .int .i64 k ∧ Hid (RightTo es k) ∧ Hid (Below w.heap.size w wr)) (fun i _ => n - (intOf i).toNat)
  case atStart => exact ⟨0, by omega, rfl, hide (RightTo.zero es), hide (Below.refl _ _)⟩
  case round =>
    obtain ⟨k, hk, rfl, hT, hb⟩ := hrel
    by_cases hlt : k < n
    · have hkl : k < es.length := by omega
      have hkI : (k : Int) < n := by omega
      obtain ⟨b, o, rfl, hbB, e0, e1, e2, e3⟩ := (hr.out.below (hb.out.mono hB.out)) k hkl
      have hx := hbg.out es[k] (List.getElem_mem hkl)
      have hbad : Hid (¬ es[k].ok → v = false) := hide (fun h => hfalse.out (fun hR => h (hR.2.2.1 k hkl)))
      have hbad2 : Hid (∀ q (hq : k = q + 1), ¬ (es[q]'(by omega)).next es[k] → v = false) := hide (fun q hq h => hfalse.out (fun hR => by subst hq; exact h (hR.2.2.2 q hkl)))
      have hgo : Hid (es[k].ok → (∀ q (hq : k = q + 1), (es[q]'(by omega)).next es[k]) → RightTo es (k + 1)) := hide (fun h1 h2 => hT.out.succ hkl h1 h2)
      have hprev : Hid (∀ q (hq : k = q + 1), (es[q]'(by omega)).ok) := hide (fun q hq => hT.out.1 q (by omega) (by omega))
      obtain ⟨xe, hxe⟩ : ∃ xe, es[k] = xe := ⟨_, rfl⟩
      rw [hxe] at e0 e1 e2 e3 hx hbad hgo
      obtain ⟨id, off, len, run⟩ := xe
      simp only at e0 e1 e2 e3
      replace hx := hide hx
      have hbs := hide hb.out.size
      have hbx := hide (hb.out.trans ((Below.refl w.heap.size wr).alloc hbs.out (Obj.cells #[Value.int .u64 (id : Int), .int .u64 (off : Int), .int .u64 (len : Int), .int .u64 (run : Int)] 43)))
      have hret : ∀ (hvf : v = false), Hid (v = false) := fun h => h
      by_cases hok : (⟨id, off, len, run⟩ : Ent).ok
      · have hok' := hok
        obtain ⟨h1, h2, h3, h4, h5⟩ := hok
        simp only at h1 h2 h3 h4 h5
        have d1 : decide ((4611686018427387904 : Int) ≤ (id : Int)) = false := decide_eq_false (by omega)
        have d2 : decide ((4294967296 : Int) ≤ (run : Int)) = false := decide_eq_false (by omega)
        have d3 : decide ((len : Int) < 1) = false := decide_eq_false (by omega)
        have d4 : decide ((4194304 : Int) < (len : Int)) = false := decide_eq_false (by omega)
        have d5 : decide ((4194304 : Int) < (off : Int)) = false := decide_eq_false (by omega)
        rcases Nat.eq_zero_or_pos k with hk0 | hkp
        · have hgo2 := hide (hgo.out hok' (fun q hq => by omega))
          subst hk0
          simp only [Nat.zero_mul, Nat.add_zero] at e0 e1 e2 e3
          clear hok' h1 h2 h3 h4 h5 hbad hbad2 hgo hprev hret hxe hx
          go_upto_region 8 with fail
          go_region
          go_wp2
          go_roundw
          case rel => exact ⟨1, by omega, by go_num, hgo2, by first | exact hbx | exact hide (below_drewN hbx.out 1)⟩
          case measure => simp [intOf] <;> omega
        · obtain ⟨q, rfl⟩ : ∃ q, k = q + 1 := ⟨k - 1, by omega⟩
          have hql : q < es.length := by omega
          obtain ⟨b2, o2, hA2, _, p0, _, _, p3⟩ := (hr.out.below (hb.out.mono hB.out)) q hql
          injection hA2 with hA2
          injection hA2 with ee1 ee2
          subst ee1 ee2
          have hpo := hprev.out q rfl
          have hb2 := hide (hbad2.out q rfl)
          have hg2 : Hid ((es[q]'(by omega)).next ⟨id, off, len, run⟩ → RightTo es (q + 1 + 1)) := hide (fun h => hgo.out hok' (fun q' hq' => by
            obtain rfl : q' = q := by omega
            exact h))
          rw [hxe] at hb2
          generalize es[q] = pe at *
          obtain ⟨pid, poff, plen, prun⟩ := pe
          simp only [Ent.ok, Ent.next] at hpo hb2 hg2 p0 p3
          obtain ⟨M, hM⟩ : ∃ M : Nat, max prun 1 = M := ⟨_, rfl⟩
          rw [hM] at hb2 hg2
          have hMI : (if (prun : Int) < 1 then (1 : Int) else (prun : Int)) = (M : Int) := by split <;> omega
          obtain ⟨S, hS⟩ : ∃ S : Nat, pid + M = S := ⟨_, rfl⟩
          have hSI : IntKind.u64.wrap ((pid : Int) + (M : Int)) = (S : Int) := by rw [IntKind.wrap_u64]; omega
          rw [hS] at hb2 hg2
          clear hok' h1 h2 h3 h4 h5 hbad hbad2 hgo hprev hret hxe hx hpo hM hS
          have hkb := Blk.new wr 43 #[Value.int .u64 (id : Int), .int .u64 (off : Int), .int .u64 (len : Int), .int .u64 (run : Int)]
          have f0 := hkb.cell 0
          simp only [List.getElem?_toArray, List.getElem?_cons_zero] at f0
          have hbr : b < wr.heap.size := by have := hbs.out; have := hB.out; omega
          have g0 := ((Below.refl wr.heap.size wr).alloc (Nat.le_refl _) (Obj.cells #[Value.int .u64 (id : Int), .int .u64 (off : Int), .int .u64 (len : Int), .int .u64 (run : Int)] 43)).cell (p := ⟨b, o + q * 4, none⟩) hbr
          have g3 := ((Below.refl wr.heap.size wr).alloc (Nat.le_refl _) (Obj.cells #[Value.int .u64 (id : Int), .int .u64 (off : Int), .int .u64 (len : Int), .int .u64 (run : Int)] 43)).cell (p := ⟨b, o + q * 4 + 3, none⟩) hbr
          rw [p0] at g0
          rw [p3] at g3
          clear p0 p3
          by_cases hlt2 : S ≤ id
          · have d6 : (S : Int) ≤ (id : Int) := by omega
            replace hg2 := hide (hg2.out hlt2)
            clear hb2 hlt2 hbr hkb
            go_upto_region 8 with fail
            clear e0 e1 e2 e3
            generalize wr.alloc (Obj.cells #[Value.int .u64 (id : Int), .int .u64 (off : Int), .int .u64 (len : Int), .int .u64 (run : Int)] 43) = W at *
            generalize wr.heap.size = G at *
            go_region
            all_goals
              go_wp2
              go_roundw
              case rel => exact ⟨q + 1 + 1, by omega, by go_num, hg2, by first | exact hbx | exact hide (below_drewN hbx.out 1)⟩
              case measure => simp [intOf] <;> omega
          · have d6 : (id : Int) < (S : Int) := by omega
            replace hb2 := hide (hb2.out hlt2)
            clear hg2 hlt2 hbr hkb
            go_upto_region 8 with fail
            clear e0 e1 e2 e3
            generalize wr.alloc (Obj.cells #[Value.int .u64 (id : Int), .int .u64 (off : Int), .int .u64 (len : Int), .int .u64 (run : Int)] 43) = W at *
            generalize wr.heap.size = G at *
            go_region
            all_goals
              go_wp2
              go_ret
              exact ⟨by rw [hb2.out]; rfl, by first | exact hbx.out | exact below_drewN hbx.out 1⟩
      · have hvf := hide (hbad.out hok)
        have hc : (id ≥ 4611686018427387904) ∨ (id < 4611686018427387904 ∧ run ≥ 4294967296) ∨ (id < 4611686018427387904 ∧ run < 4294967296 ∧ len < 1) ∨ (id < 4611686018427387904 ∧ run < 4294967296 ∧ 1 ≤ len ∧ 4194304 < len) ∨ (id < 4611686018427387904 ∧ run < 4294967296 ∧ 1 ≤ len ∧ len ≤ 4194304 ∧ 4194304 < off) := by
          simp only [Ent.ok] at hok
          omega
        clear hok hbad hbad2 hgo hprev hret hxe hlt
        rcases hc with h1 | ⟨h1, h2⟩ | ⟨h1, h2, h3⟩ | ⟨h1, h2, h3, h4⟩ | ⟨h1, h2, h3, h4, h5⟩
        · have d1 : decide ((4611686018427387904 : Int) ≤ (id : Int)) = true := decide_eq_true (by omega)
          clear h1
          go_wp2
          go_ret
          exact ⟨by rw [hvf.out]; rfl, hbx.out⟩
        · have d1 : decide ((4611686018427387904 : Int) ≤ (id : Int)) = false := decide_eq_false (by omega)
          have d2 : decide ((4294967296 : Int) ≤ (run : Int)) = true := decide_eq_true (by omega)
          clear h1 h2
          go_wp2
          go_ret
          exact ⟨by rw [hvf.out]; rfl, hbx.out⟩
        · have d1 : decide ((4611686018427387904 : Int) ≤ (id : Int)) = false := decide_eq_false (by omega)
          have d2 : decide ((4294967296 : Int) ≤ (run : Int)) = false := decide_eq_false (by omega)
          have d3 : decide ((len : Int) < 1) = true := decide_eq_true (by omega)
          clear h1 h2 h3
          go_wp2
          go_ret
          exact ⟨by rw [hvf.out]; rfl, hbx.out⟩
        · have d1 : decide ((4611686018427387904 : Int) ≤ (id : Int)) = false := decide_eq_false (by omega)
          have d2 : decide ((4294967296 : Int) ≤ (run : Int)) = false := decide_eq_false (by omega)
          have d3 : decide ((len : Int) < 1) = false := decide_eq_false (by omega)
          have d4 : decide ((4194304 : Int) < (len : Int)) = true := decide_eq_true (by omega)
          clear h1 h2 h3 h4
          go_wp2
          go_ret
          exact ⟨by rw [hvf.out]; rfl, hbx.out⟩
        · have d1 : decide ((4611686018427387904 : Int) ≤ (id : Int)) = false := decide_eq_false (by omega)
          have d2 : decide ((4294967296 : Int) ≤ (run : Int)) = false := decide_eq_false (by omega)
          have d3 : decide ((len : Int) < 1) = false := decide_eq_false (by omega)
          have d4 : decide ((4194304 : Int) < (len : Int)) = false := decide_eq_false (by omega)
          have d5 : decide ((4194304 : Int) < (off : Int)) = true := decide_eq_true (by omega)
          clear h1 h2 h3 h4 h5
          go_wp2
          go_ret
          exact ⟨by rw [hvf.out]; rfl, hbx.out⟩
    · obtain rfl : k = n := by omega
      have hR : Hid (v = true) := hide (hv.out.1 (by
        have := hT.out
        rw [← hl] at this
        exact this.done (by have := hn1.out; omega) (by have := hn6.out; omega)))
      go_wp2
      go_ret
      exact ⟨by rw [hR.out]; rfl, hb.out⟩

set_option maxRecDepth 100000 in
set_option maxHeartbeats 4000000 in
theorem refdright_any (A : Option Addr) (c : Nat) (es : List Ent) (w : World) (B : Nat) (hr : RdE w B A es) (hB : B ≤ w.heap.size) (hbg : ∀ x ∈ es, x.big) (hn : es.length ≤ maxLen) (v : Bool) (hv : RightE es ↔ v = true) :
    Calls Try.prog 24 #[.slice A es.length c] w fun e w' => e = .returned (.bool v) ∧ Below w.heap.size w w' := by
  obtain ⟨n, hl⟩ : ∃ n, es.length = n := ⟨_, rfl⟩
  rw [hl]
  replace hv := hide hv
  have hfalse : Hid (¬ RightE es → v = false) := hide (fun h => by
    cases v
    · rfl
    · exact absurd (hv.out.2 rfl) h)
  by_cases h0 : n = 0
  · obtain rfl := hfalse.out (fun h => by have := h.1; omega)
    subst h0
    clear hr hv hn hfalse
    go_enter Try.func24, Try.ntmps24
    go_wp2
    go_ret
    exact ⟨rfl, Below.refl _ _⟩
  have h0b : (1 : Int) ≤ n := by omega
  by_cases h6 : 65536 < n
  · obtain rfl := hfalse.out (fun h => by have := h.2.1; omega)
    have hnI : (65537 : Int) ≤ n := by omega
    have hnI2 : (n : Int) ≤ 9223372036854775807 := by simp only [maxLen] at hn; omega
    clear hr hv hn hfalse h0 h6
    go_enter Try.func24, Try.ntmps24
    go_wp2
    go_ret
    exact ⟨rfl, Below.refl _ _⟩
  have hnI : (n : Int) ≤ 65536 := by omega
  have hn1 := hide (show 1 ≤ n by omega)
  have hn6 := hide (show n ≤ 65536 by omega)
  replace hr := hide hr
  replace hbg := hide hbg
  replace hB := hide hB
  clear hn h0 h6
  go_enter Try.func24, Try.ntmps24
  go_wp2
  go_loopw [3] (fun i wr => ∃ k : Nat, k ≤ n ∧ i = .int .i64 k ∧ Hid (RightTo es k) ∧ Hid (Below w.heap.size w wr)) (fun i _ => n - (intOf i).toNat)
  case atStart => exact ⟨0, by omega, rfl, hide (RightTo.zero es), hide (Below.refl _ _)⟩
  case round =>
    obtain ⟨k, hk, rfl, hT, hb⟩ := hrel
    by_cases hlt : k < n
    · have hkl : k < es.length := by omega
      have hkI : (k : Int) < n := by omega
      obtain ⟨b, o, rfl, hbB, e0, e1, e2, e3⟩ := (hr.out.below (hb.out.mono hB.out)) k hkl
      have hx := hbg.out es[k] (List.getElem_mem hkl)
      have hbad : Hid (¬ es[k].ok → v = false) := hide (fun h => hfalse.out (fun hR => h (hR.2.2.1 k hkl)))
      have hbad2 : Hid (∀ q (hq : k = q + 1), ¬ (es[q]'(by omega)).next es[k] → v = false) := hide (fun q hq h => hfalse.out (fun hR => by subst hq; exact h (hR.2.2.2 q hkl)))
      have hgo : Hid (es[k].ok → (∀ q (hq : k = q + 1), (es[q]'(by omega)).next es[k]) → RightTo es (k + 1)) := hide (fun h1 h2 => hT.out.succ hkl h1 h2)
      have hprev : Hid (∀ q (hq : k = q + 1), (es[q]'(by omega)).ok) := hide (fun q hq => hT.out.1 q (by omega) (by omega))
      obtain ⟨xe, hxe⟩ : ∃ xe, es[k] = xe := ⟨_, rfl⟩
      rw [hxe] at e0 e1 e2 e3 hx hbad hgo
      obtain ⟨id, off, len, run⟩ := xe
      simp only at e0 e1 e2 e3
      replace hx := hide hx
      have hbs := hide hb.out.size
      have hbx := hide (hb.out.trans ((Below.refl w.heap.size wr).alloc hbs.out (Obj.cells #[Value.int .u64 (id : Int), .int .u64 (off : Int), .int .u64 (len : Int), .int .u64 (run : Int)] 43)))
      have hret : ∀ (hvf : v = false), Hid (v = false) := fun h => h
      by_cases hok : (⟨id, off, len, run⟩ : Ent).ok
      · have hok' := hok
        obtain ⟨h1, h2, h3, h4, h5⟩ := hok
        simp only at h1 h2 h3 h4 h5
        have d1 : decide ((4611686018427387904 : Int) ≤ (id : Int)) = false := decide_eq_false (by omega)
        have d2 : decide ((4294967296 : Int) ≤ (run : Int)) = false := decide_eq_false (by omega)
        have d3 : ((len : Int) == 0) = false := by simp; omega
        have d4 : decide ((4194304 : Int) < (len : Int)) = false := decide_eq_false (by omega)
        have d5 : decide ((4194304 : Int) < (off : Int)) = false := decide_eq_false (by omega)
        rcases Nat.eq_zero_or_pos k with hk0 | hkp
        · have hgo2 := hide (hgo.out hok' (fun q hq => by omega))
          subst hk0
          simp only [Nat.zero_mul, Nat.add_zero] at e0 e1 e2 e3
          clear hok' h1 h2 h3 h4 h5 hbad hbad2 hgo hprev hret hxe hx
          go_upto_region 9 with fail
          go_quiet (fail)
          go_wp2
          go_roundw
          case rel => exact ⟨1, by omega, by go_num, hgo2, hide (below_drewN hbx.out _)⟩
          case measure => simp [intOf] <;> omega
        · obtain ⟨q, rfl⟩ : ∃ q, k = q + 1 := ⟨k - 1, by omega⟩
          have hql : q < es.length := by omega
          have hqI : (q : Int) < (n : Int) := by omega
          have hqI0 : (0 : Int) ≤ (q : Int) := by omega
          have hwq : IntKind.i64.wrap (q : Int) = (q : Int) := by rw [IntKind.wrap_i64]; omega
          obtain ⟨b2, o2, hA2, _, p0, _, _, p3⟩ := (hr.out.below (hb.out.mono hB.out)) q hql
          injection hA2 with hA2
          injection hA2 with ee1 ee2
          subst ee1 ee2
          have hpo := hprev.out q rfl
          have hb2 := hide (hbad2.out q rfl)
          have hg2 : Hid ((es[q]'(by omega)).next ⟨id, off, len, run⟩ → RightTo es (q + 1 + 1)) := hide (fun h => hgo.out hok' (fun q' hq' => by
            obtain rfl : q' = q := by omega
            exact h))
          rw [hxe] at hb2
          generalize es[q] = pe at *
          obtain ⟨pid, poff, plen, prun⟩ := pe
          simp only [Ent.ok, Ent.next] at hpo hb2 hg2 p0 p3
          obtain ⟨S, hS⟩ : ∃ S : Nat, pid + prun = S := ⟨_, rfl⟩
          have hSI : IntKind.u64.wrap ((pid : Int) + (prun : Int)) = (S : Int) := by rw [IntKind.wrap_u64]; omega
          have hSI2 : ((pid : Int) + (prun : Int)) % 18446744073709551616 = (S : Int) := by omega
          have hnx : (pid + max prun 1 ≤ id) ↔ (pid < id ∧ S ≤ id) := by omega
          rw [hnx] at hb2 hg2
          clear hok' h1 h2 h3 h4 h5 hbad hbad2 hgo hprev hret hxe hx hpo hS hnx
          have hkb := Blk.new wr 43 #[Value.int .u64 (id : Int), .int .u64 (off : Int), .int .u64 (len : Int), .int .u64 (run : Int)]
          have f0 := hkb.cell 0
          simp only [List.getElem?_toArray, List.getElem?_cons_zero] at f0
          have hbr : b < wr.heap.size := by have := hbs.out; have := hB.out; omega
          have g0 := ((Below.refl wr.heap.size wr).alloc (Nat.le_refl _) (Obj.cells #[Value.int .u64 (id : Int), .int .u64 (off : Int), .int .u64 (len : Int), .int .u64 (run : Int)] 43)).cell (p := ⟨b, o + q * 4, none⟩) hbr
          have g3 := ((Below.refl wr.heap.size wr).alloc (Nat.le_refl _) (Obj.cells #[Value.int .u64 (id : Int), .int .u64 (off : Int), .int .u64 (len : Int), .int .u64 (run : Int)] 43)).cell (p := ⟨b, o + q * 4 + 3, none⟩) hbr
          rw [p0] at g0
          rw [p3] at g3
          clear p0 p3
          by_cases hlt1 : pid < id
          · have d6 : decide (id ≤ pid) = false := decide_eq_false (by omega)
            by_cases hlt2 : S ≤ id
            · have d7 : decide (id < S) = false := decide_eq_false (by omega)
              replace hg2 := hide (hg2.out ⟨hlt1, hlt2⟩)
              clear hb2 hlt1 hlt2 hbr hkb
              go_upto_region 9 with fail
              clear e0 e1 e2 e3
              generalize wr.alloc (Obj.cells #[Value.int .u64 (id : Int), .int .u64 (off : Int), .int .u64 (len : Int), .int .u64 (run : Int)] 43) = W at *
              generalize wr.heap.size = G at *
              go_quiet (fail)
              go_wp2
              go_roundw
              case rel => exact ⟨q + 1 + 1, by omega, by go_num, hg2, hide (below_drewN hbx.out _)⟩
              case measure => simp [intOf] <;> omega
            · have d7 : decide (id < S) = true := decide_eq_true (by omega)
              replace hb2 := hide (hb2.out (fun h => hlt2 h.2))
              clear hg2 hlt1 hlt2 hbr hkb
              go_upto_region 9 with fail
              clear e0 e1 e2 e3
              generalize wr.alloc (Obj.cells #[Value.int .u64 (id : Int), .int .u64 (off : Int), .int .u64 (len : Int), .int .u64 (run : Int)] 43) = W at *
              generalize wr.heap.size = G at *
              go_quiet (fail)
              go_wp2
              go_ret
              exact ⟨by rw [hb2.out]; rfl, below_drewN hbx.out _⟩
          · have d6 : decide (id ≤ pid) = true := decide_eq_true (by omega)
            replace hb2 := hide (hb2.out (fun h => hlt1 h.1))
            clear hg2 hlt1 hbr hkb
            go_upto_region 9 with fail
            clear e0 e1 e2 e3
            generalize wr.alloc (Obj.cells #[Value.int .u64 (id : Int), .int .u64 (off : Int), .int .u64 (len : Int), .int .u64 (run : Int)] 43) = W at *
            generalize wr.heap.size = G at *
            go_quiet (fail)
            go_wp2
            go_ret
            exact ⟨by rw [hb2.out]; rfl, below_drewN hbx.out _⟩
      · have hvf := hide (hbad.out hok)
        have hc : (id ≥ 4611686018427387904) ∨ (id < 4611686018427387904 ∧ run ≥ 4294967296) ∨ (id < 4611686018427387904 ∧ run < 4294967296 ∧ len < 1) ∨ (id < 4611686018427387904 ∧ run < 4294967296 ∧ 1 ≤ len ∧ 4194304 < len) ∨ (id < 4611686018427387904 ∧ run < 4294967296 ∧ 1 ≤ len ∧ len ≤ 4194304 ∧ 4194304 < off) := by
          simp only [Ent.ok] at hok
          omega
        clear hok hbad hbad2 hgo hprev hret hxe hlt
        rcases hc with h1 | ⟨h1, h2⟩ | ⟨h1, h2, h3⟩ | ⟨h1, h2, h3, h4⟩ | ⟨h1, h2, h3, h4, h5⟩
        · have d1 : decide ((4611686018427387904 : Int) ≤ (id : Int)) = true := decide_eq_true (by omega)
          clear h1
          go_wp2
          go_ret
          exact ⟨by rw [hvf.out]; rfl, hbx.out⟩
        · have d1 : decide ((4611686018427387904 : Int) ≤ (id : Int)) = false := decide_eq_false (by omega)
          have d2 : decide ((4294967296 : Int) ≤ (run : Int)) = true := decide_eq_true (by omega)
          clear h1 h2
          go_wp2
          go_ret
          exact ⟨by rw [hvf.out]; rfl, hbx.out⟩
        · have d1 : decide ((4611686018427387904 : Int) ≤ (id : Int)) = false := decide_eq_false (by omega)
          have d2 : decide ((4294967296 : Int) ≤ (run : Int)) = false := decide_eq_false (by omega)
          have d3 : ((len : Int) == 0) = true := by simp; omega
          clear h1 h2 h3
          go_wp2
          go_ret
          exact ⟨by rw [hvf.out]; rfl, hbx.out⟩
        · have d1 : decide ((4611686018427387904 : Int) ≤ (id : Int)) = false := decide_eq_false (by omega)
          have d2 : decide ((4294967296 : Int) ≤ (run : Int)) = false := decide_eq_false (by omega)
          have d3 : ((len : Int) == 0) = false := by simp; omega
          have d4 : decide ((4194304 : Int) < (len : Int)) = true := decide_eq_true (by omega)
          clear h1 h2 h3 h4
          go_wp2
          go_ret
          exact ⟨by rw [hvf.out]; rfl, hbx.out⟩
        · have d1 : decide ((4611686018427387904 : Int) ≤ (id : Int)) = false := decide_eq_false (by omega)
          have d2 : decide ((4294967296 : Int) ≤ (run : Int)) = false := decide_eq_false (by omega)
          have d3 : ((len : Int) == 0) = false := by simp; omega
          have d4 : decide ((4194304 : Int) < (len : Int)) = false := decide_eq_false (by omega)
          have d5 : decide ((4194304 : Int) < (off : Int)) = true := decide_eq_true (by omega)
          clear h1 h2 h3 h4 h5
          go_wp2
          go_ret
          exact ⟨by rw [hvf.out]; rfl, hbx.out⟩
    · obtain rfl : k = n := by omega
      have hR : Hid (v = true) := hide (hv.out.1 (by
        have := hT.out
        rw [← hl] at this
        exact this.done (by have := hn1.out; omega) (by have := hn6.out; omega)))
      go_wp2
      go_ret
      exact ⟨by rw [hR.out]; rfl, hb.out⟩

end Go.Proofs.Ytmpdoileiniijaa
