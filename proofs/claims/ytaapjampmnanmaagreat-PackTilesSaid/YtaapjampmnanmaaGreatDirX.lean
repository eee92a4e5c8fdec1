/- Layer 12 (dir): entries in memory, which of them may be, and the two walks that tell it. There is no condition but where the slice lies. Layer 12 (dir): entries put as bytes: numbers as bytes (wire), the closure that appends one, and Put. There is no condition but where the slice lies. Layer 7 (wire), as far as directories need it: a number read from bytes, by the program and by the document. The conditions: where the slice lies, and a place within it. Layer 12 (dir): a slice of entries that a call makes for itself: append of one, a store into one's field. There is no condition. Layer 12 (dir): what the bytes of a directory say: the numbers read one behind the other, and the entries they are. Plain, with no program in sight; no condition. Layer 12 (dir): the walks that find an entry. There is no condition but where the slice lies. -/
import Derived.Test.YtaapjampmnanmaaGreatMem
import Derived.BigQuiet
import Derived.BigRegion
import Derived.Deep.Cut
import Derived.Deep.AppendLies
import Derived.Deep.RegionLaw
import Derived.RegionTactic
import Derived.Laws.Bits64b
import Derived.Laws.ResultCell
import Derived.Laws.Rows
import Derived.Laws.Tables
namespace Go.Proofs.YtaapjampmnanmaaGreat
open Go.RowKit
structure Ent where
  id : Nat
  off : Nat
  len : Nat
  run : Nat
deriving DecidableEq
def qv (x : Nat) : Value := .int .u64 (x : Int)
def Ent.cells (x : Ent) : Array Value := #[.int .u64 (x.id : Int), .int .u64 (x.off : Int), .int .u64 (x.len : Int), .int .u64 (x.run : Int)]
def Ent.big (x : Ent) : Prop := x.id ≤ 18446744073709551615 ∧ x.off ≤ 18446744073709551615 ∧ x.len ≤ 18446744073709551615 ∧ x.run ≤ 18446744073709551615
def RdE (w : World) (B : Nat) (A : Option Addr) (es : List Ent) : Prop :=
  ∀ j (hj : j < es.length), ∃ b o, A = some ⟨b, o, none⟩ ∧ b < B ∧ w.cell? ⟨b, o + j * 4, none⟩ = some (.int .u64 (es[j].id : Int)) ∧ w.cell? ⟨b, o + j * 4 + 1, none⟩ = some (.int .u64 (es[j].off : Int)) ∧ w.cell? ⟨b, o + j * 4 + 2, none⟩ = some (.int .u64 (es[j].len : Int)) ∧ w.cell? ⟨b, o + j * 4 + 3, none⟩ = some (.int .u64 (es[j].run : Int))
theorem RdE.below {w w' : World} {B : Nat} {A : Option Addr} {es : List Ent} (h : RdE w B A es) (hb : Below B w w') : RdE w' B A es := by
  intro j hj
  obtain ⟨b, o, h1, h2, h3, h4, h5, h6⟩ := h j hj
  exact ⟨b, o, h1, h2, by rw [hb.cell (p := ⟨_, _, none⟩) h2]; exact h3, by rw [hb.cell (p := ⟨_, _, none⟩) h2]; exact h4, by rw [hb.cell (p := ⟨_, _, none⟩) h2]; exact h5, by rw [hb.cell (p := ⟨_, _, none⟩) h2]; exact h6⟩
def Ent.ok (x : Ent) : Prop := x.id < 4611686018427387904 ∧ x.run < 4294967296 ∧ 1 ≤ x.len ∧ x.len ≤ 4194304 ∧ x.off ≤ 4194304
def Ent.next (p x : Ent) : Prop := p.id + max p.run 1 ≤ x.id
def RightE (es : List Ent) : Prop := 1 ≤ es.length ∧ es.length ≤ 65536 ∧ (∀ j (h : j < es.length), es[j].ok) ∧ ∀ j (h : j + 1 < es.length), es[j].next es[j + 1]
def RightTo (es : List Ent) (k : Nat) : Prop := (∀ j (h : j < es.length), j < k → es[j].ok) ∧ ∀ j (h : j + 1 < es.length), j + 1 < k → es[j].next es[j + 1]
theorem RightTo.zero (es : List Ent) : RightTo es 0 := ⟨fun _ _ h => absurd h (Nat.not_lt_zero _), fun _ _ h => absurd h (Nat.not_lt_zero _)⟩
theorem RightTo.succ {es : List Ent} {k : Nat} (h : RightTo es k) (hk : k < es.length) (h1 : es[k].ok) (h2 : ∀ q (hq : k = q + 1), (es[q]'(by omega)).next es[k]) : RightTo es (k + 1) := by
  constructor
  · intro j hj hjk
    by_cases e : j = k
    · subst e; exact h1
    · exact h.1 j hj (by omega)
  · intro j hj hjk
    by_cases e : j + 1 = k
    · subst e; exact h2 j rfl
    · exact h.2 j hj (by omega)
theorem RightTo.done {es : List Ent} (h : RightTo es es.length) (h1 : 1 ≤ es.length) (h2 : es.length ≤ 65536) : RightE es := ⟨h1, h2, fun j hj => h.1 j hj hj, fun j hj => h.2 j hj hj⟩
set_option maxRecDepth 100000 in
set_option maxHeartbeats 4000000 in
theorem dright_any (A : Option Addr) (c : Nat) (es : List Ent) (w : World) (B : Nat) (hr : RdE w B A es) (hB : B ≤ w.heap.size) (hbg : ∀ x ∈ es, x.big) (hn : es.length ≤ maxLen) (v : Bool) (hv : RightE es ↔ v = true) :
    Calls Tryz.prog 60 #[.slice A es.length c] w fun e w' => e = .returned (.bool v) ∧ Below w.heap.size w w' := by
  obtain ⟨n, hl⟩ : ∃ n, es.length = n := ⟨_, rfl⟩
  rw [hl]
  replace hv := hide hv
  have hfalse : Hid (¬ RightE es → v = false) := hide (fun h => by
    cases v
    · rfl
    · exact absurd (hv.out.2 rfl) h)
  by_cases h0 : n = 0
  · obtain rfl := hfalse.out (fun h => by have := h.1; omega)
    subst h0
    clear hr hv hn hfalse
    go_enter Tryz.func60, Tryz.ntmps60
    go_wp2
    go_ret
    exact ⟨rfl, Below.refl _ _⟩
  have h0b : ((n : Int) == 0) = false := by simp; omega
  by_cases h6 : 65536 < n
  · obtain rfl := hfalse.out (fun h => by have := h.2.1; omega)
    have hnI : (65537 : Int) ≤ n := by omega
    have hnI2 : (n : Int) ≤ 9223372036854775807 := by simp only [maxLen] at hn; omega
    clear hr hv hn hfalse h0 h6
    go_enter Tryz.func60, Tryz.ntmps60
    go_wp2
    go_ret
    exact ⟨rfl, Below.refl _ _⟩
  have hnI : (n : Int) ≤ 65536 := by omega
  have hn1 := hide (show 1 ≤ n by omega)
  have hn6 := hide (show n ≤ 65536 by omega)
  replace hr := hide hr
  replace hbg := hide hbg
  replace hB := hide hB
  clear hn h0 h6
  go_enter Tryz.func60, Tryz.ntmps60
  go_wp2
  go_loopw [15] (fun i wr => ∃ k : Nat, k ≤ n ∧ i = .int .i64 k ∧ Hid (RightTo es k) ∧ Hid (Below w.heap.size w wr)) (fun i _ => n - (intOf i).toNat)
  case atStart => exact ⟨0, by omega, rfl, hide (RightTo.zero es), hide (Below.refl _ _)⟩
  case round =>
    obtain ⟨k, hk, rfl, hT, hb⟩ := hrel
    by_cases hlt : k < n
    · have hkl : k < es.length := by omega
      have hkI : (k : Int) < n := by omega
      obtain ⟨b, o, rfl, hbB, e0, e1, e2, e3⟩ := (hr.out.below (hb.out.mono hB.out)) k hkl
      have hx := hbg.out es[k] (List.getElem_mem hkl)
      have hbad : Hid (¬ es[k].ok → v = false) := hide (fun h => hfalse.out (fun hR => h (hR.2.2.1 k hkl)))
      have hbad2 : Hid (∀ q (hq : k = q + 1), ¬ (es[q]'(by omega)).next es[k] → v = false) := hide (fun q hq h => hfalse.out (fun hR => by subst hq; exact h (hR.2.2.2 q hkl)))
      have hgo : Hid (es[k].ok → (∀ q (hq : k = q + 1), (es[q]'(by omega)).next es[k]) → RightTo es (k + 1)) := hide (fun h1 h2 => hT.out.succ hkl h1 h2)
      have hprev : Hid (∀ q (hq : k = q + 1), (es[q]'(by omega)).ok) := hide (fun q hq => hT.out.1 q (by omega) (by omega))
      obtain ⟨xe, hxe⟩ : ∃ xe, es[k] = xe := ⟨_, rfl⟩
      rw [hxe] at e0 e1 e2 e3 hx hbad hgo
      obtain ⟨id, off, len, run⟩ := xe
      simp only at e0 e1 e2 e3
      replace hx := hide hx
      have hbs := hide hb.out.size
      have hbx := hide (hb.out.trans ((Below.refl w.heap.size wr).alloc hbs.out (Obj.cells #[Value.int .u64 (id : Int), .int .u64 (off : Int), .int .u64 (len : Int), .int .u64 (run : Int)] 36)))
      have hret : ∀ (hvf : v = false), Hid (v = false) := fun h => h
      by_cases hok : (⟨id, off, len, run⟩ : Ent).ok
      · have hok' := hok
        obtain ⟨h1, h2, h3, h4, h5⟩ := hok
        simp only at h1 h2 h3 h4 h5
        have d1 : decide ((4611686018427387904 : Int) ≤ (id : Int)) = false := decide_eq_false (by omega)
        have d2 : decide ((4294967296 : Int) ≤ (run : Int)) = false := decide_eq_false (by omega)
        have d3 : decide ((len : Int) < 1) = false := decide_eq_false (by omega)
        have d4 : decide ((4194304 : Int) < (len : Int)) = false := decide_eq_false (by omega)
        have d5 : decide ((4194304 : Int) < (off : Int)) = false := decide_eq_false (by omega)
        rcases Nat.eq_zero_or_pos k with hk0 | hkp
        · have hgo2 := hide (hgo.out hok' (fun q hq => by omega))
          subst hk0
          simp only [Nat.zero_mul, Nat.add_zero] at e0 e1 e2 e3
          clear hok' h1 h2 h3 h4 h5 hbad hbad2 hgo hprev hret hxe hx
          go_upto_region 8 with fail
          go_region
          go_wp2
          go_roundw
          case rel => exact ⟨1, by omega, by go_num, hgo2, by first | exact hbx | exact hide (below_drewN hbx.out 1)⟩
          case measure => simp [intOf] <;> omega
        · obtain ⟨q, rfl⟩ : ∃ q, k = q + 1 := ⟨k - 1, by omega⟩
          have hql : q < es.length := by omega
          obtain ⟨b2, o2, hA2, _, p0, _, _, p3⟩ := (hr.out.below (hb.out.mono hB.out)) q hql
          injection hA2 with hA2
          injection hA2 with ee1 ee2
          subst ee1 ee2
          have hpo := hprev.out q rfl
          have hb2 := hide (hbad2.out q rfl)
          have hg2 : Hid ((es[q]'(by omega)).next ⟨id, off, len, run⟩ → RightTo es (q + 1 + 1)) := hide (fun h => hgo.out hok' (fun q' hq' => by
            obtain rfl : q' = q := by omega
            exact h))
          rw [hxe] at hb2
          generalize es[q] = pe at *
          obtain ⟨pid, poff, plen, prun⟩ := pe
          simp only [Ent.ok, Ent.next] at hpo hb2 hg2 p0 p3
          obtain ⟨M, hM⟩ : ∃ M : Nat, max prun 1 = M := ⟨_, rfl⟩
          rw [hM] at hb2 hg2
          have hMI : (if (prun : Int) < 1 then (1 : Int) else (prun : Int)) = (M : Int) := by split <;> omega
          obtain ⟨S, hS⟩ : ∃ S : Nat, pid + M = S := ⟨_, rfl⟩
          have hSI : IntKind.u64.wrap ((pid : Int) + (M : Int)) = (S : Int) := by rw [IntKind.wrap_u64]; omega
          rw [hS] at hb2 hg2
          clear hok' h1 h2 h3 h4 h5 hbad hbad2 hgo hprev hret hxe hx hpo hM hS
          have hkb := Blk.new wr 36 #[Value.int .u64 (id : Int), .int .u64 (off : Int), .int .u64 (len : Int), .int .u64 (run : Int)]
          have f0 := hkb.cell 0
          simp only [List.getElem?_toArray, List.getElem?_cons_zero] at f0
          have hbr : b < wr.heap.size := by have := hbs.out; have := hB.out; omega
          have g0 := ((Below.refl wr.heap.size wr).alloc (Nat.le_refl _) (Obj.cells #[Value.int .u64 (id : Int), .int .u64 (off : Int), .int .u64 (len : Int), .int .u64 (run : Int)] 36)).cell (p := ⟨b, o + q * 4, none⟩) hbr
          have g3 := ((Below.refl wr.heap.size wr).alloc (Nat.le_refl _) (Obj.cells #[Value.int .u64 (id : Int), .int .u64 (off : Int), .int .u64 (len : Int), .int .u64 (run : Int)] 36)).cell (p := ⟨b, o + q * 4 + 3, none⟩) hbr
          rw [p0] at g0
          rw [p3] at g3
          clear p0 p3
          by_cases hlt2 : S ≤ id
          · have d6 : (S : Int) ≤ (id : Int) := by omega
            replace hg2 := hide (hg2.out hlt2)
            clear hb2 hlt2 hbr hkb
            go_upto_region 8 with fail
            clear e0 e1 e2 e3
            generalize wr.alloc (Obj.cells #[Value.int .u64 (id : Int), .int .u64 (off : Int), .int .u64 (len : Int), .int .u64 (run : Int)] 36) = W at *
            generalize wr.heap.size = G at *
            go_region
            all_goals
              go_wp2
              go_roundw
              case rel => exact ⟨q + 1 + 1, by omega, by go_num, hg2, by first | exact hbx | exact hide (below_drewN hbx.out 1)⟩
              case measure => simp [intOf] <;> omega
          · have d6 : (id : Int) < (S : Int) := by omega
            replace hb2 := hide (hb2.out hlt2)
            clear hg2 hlt2 hbr hkb
            go_upto_region 8 with fail
            clear e0 e1 e2 e3
            generalize wr.alloc (Obj.cells #[Value.int .u64 (id : Int), .int .u64 (off : Int), .int .u64 (len : Int), .int .u64 (run : Int)] 36) = W at *
            generalize wr.heap.size = G at *
            go_region
            all_goals
              go_wp2
              go_ret
              exact ⟨by rw [hb2.out]; rfl, by first | exact hbx.out | exact below_drewN hbx.out 1⟩
      · have hvf := hide (hbad.out hok)
        have hc : (id ≥ 4611686018427387904) ∨ (id < 4611686018427387904 ∧ run ≥ 4294967296) ∨ (id < 4611686018427387904 ∧ run < 4294967296 ∧ len < 1) ∨ (id < 4611686018427387904 ∧ run < 4294967296 ∧ 1 ≤ len ∧ 4194304 < len) ∨ (id < 4611686018427387904 ∧ run < 4294967296 ∧ 1 ≤ len ∧ len ≤ 4194304 ∧ 4194304 < off) := by
          simp only [Ent.ok] at hok
          omega
        clear hok hbad hbad2 hgo hprev hret hxe hlt
        rcases hc with h1 | ⟨h1, h2⟩ | ⟨h1, h2, h3⟩ | ⟨h1, h2, h3, h4⟩ | ⟨h1, h2, h3, h4, h5⟩
        · have d1 : decide ((4611686018427387904 : Int) ≤ (id : Int)) = true := decide_eq_true (by omega)
          clear h1
          go_wp2
          go_ret
          exact ⟨by rw [hvf.out]; rfl, hbx.out⟩
        · have d1 : decide ((4611686018427387904 : Int) ≤ (id : Int)) = false := decide_eq_false (by omega)
          have d2 : decide ((4294967296 : Int) ≤ (run : Int)) = true := decide_eq_true (by omega)
          clear h1 h2
          go_wp2
          go_ret
          exact ⟨by rw [hvf.out]; rfl, hbx.out⟩
        · have d1 : decide ((4611686018427387904 : Int) ≤ (id : Int)) = false := decide_eq_false (by omega)
          have d2 : decide ((4294967296 : Int) ≤ (run : Int)) = false := decide_eq_false (by omega)
          have d3 : decide ((len : Int) < 1) = true := decide_eq_true (by omega)
          clear h1 h2 h3
          go_wp2
          go_ret
          exact ⟨by rw [hvf.out]; rfl, hbx.out⟩
        · have d1 : decide ((4611686018427387904 : Int) ≤ (id : Int)) = false := decide_eq_false (by omega)
          have d2 : decide ((4294967296 : Int) ≤ (run : Int)) = false := decide_eq_false (by omega)
          have d3 : decide ((len : Int) < 1) = false := decide_eq_false (by omega)
          have d4 : decide ((4194304 : Int) < (len : Int)) = true := decide_eq_true (by omega)
          clear h1 h2 h3 h4
          go_wp2
          go_ret
          exact ⟨by rw [hvf.out]; rfl, hbx.out⟩
        · have d1 : decide ((4611686018427387904 : Int) ≤ (id : Int)) = false := decide_eq_false (by omega)
          have d2 : decide ((4294967296 : Int) ≤ (run : Int)) = false := decide_eq_false (by omega)
          have d3 : decide ((len : Int) < 1) = false := decide_eq_false (by omega)
          have d4 : decide ((4194304 : Int) < (len : Int)) = false := decide_eq_false (by omega)
          have d5 : decide ((4194304 : Int) < (off : Int)) = true := decide_eq_true (by omega)
          clear h1 h2 h3 h4 h5
          go_wp2
          go_ret
          exact ⟨by rw [hvf.out]; rfl, hbx.out⟩
    · obtain rfl : k = n := by omega
      have hR : Hid (v = true) := hide (hv.out.1 (by
        have := hT.out
        rw [← hl] at this
        exact this.done (by have := hn1.out; omega) (by have := hn6.out; omega)))
      go_wp2
      go_ret
      exact ⟨by rw [hR.out]; rfl, hb.out⟩
end Go.Proofs.YtaapjampmnanmaaGreat
namespace Go.Proofs.YtaapjampmnanmaaGreat
open Go.RowKit
def vbF : Nat → Nat → List UInt8
  | 0, v => [UInt8.ofNat v]
  | f + 1, v => if v < 128 then [UInt8.ofNat v] else UInt8.ofNat (v % 128 + 128) :: vbF f (v / 128)
def vb (v : Nat) : List UInt8 := vbF 9 v
theorem vbF_len (f v : Nat) : (vbF f v).length ≤ f + 1 := by
  induction f generalizing v with
  | zero => simp [vbF]
  | succ f ih =>
    unfold vbF
    split
    · simp
    · have := ih (v / 128)
      simp
      omega
theorem vb_len (v : Nat) : (vb v).length ≤ 10 := vbF_len 9 v
theorem delem_byte : Elem1 Tryz.prog 22 5 (.int .u8 0) 1 := ⟨Tryz.underlying22, by kernel_rfl, rfl⟩
theorem dbv_one (bs : List UInt8) : ∀ u ∈ bs.map bv, u.oneCell' = true := by
  intro u hu
  obtain ⟨b, _, rfl⟩ := List.mem_map.1 hu
  rfl
theorem or128 : ∀ x, x < 256 → x ||| 128 = x % 128 + 128 := by decide +kernel
theorem clone_nil (w : World) : Calls Tryz.prog 68 #[.slice none 0 0] w fun e w' => e = .returned (.slice none 0 0) ∧ w = w' := by
  have he := fun (W : World) (x : Option Addr) (i j : Nat) => Lib.run_eql_slice_nil (P := Tryz.prog) W 22 5 x i j 0 0 Tryz.underlying22
  go_enter Tryz.func68, Tryz.ntmps68
  go_wp2
  go_ret
  exact ⟨rfl, rfl⟩
structure Sm (V k : Nat) : Prop where
  h : V ≤ 18446744073709551615 / 128 ^ k
set_option maxRecDepth 100000 in
set_option maxHeartbeats 1000000 in
theorem putvarint_any (v : Nat) (w : World) (hv : Sm v 0) :
    Calls Tryz.prog 100 #[.slice none 0 0, .int .u64 (v : Int)] w fun e w' => ∃ A c, e = .returned (.slice A (vb v).length c) ∧ Ow w' w.heap.size 5 A (vb v).length c ((vb v).map bv) ∧ Below w.heap.size w w' := by
  have hcl := hide (fun W => clone_nil W)
  go_enter Tryz.func100, Tryz.ntmps100
  go_wp2_with (go_at_call 68; (with_reducible refine (hcl.out _).mono ?_); rintro e w' ⟨rfl, rfl⟩)
  go_loopw [0, 1] (fun s x wr => ∃ k V : Nat, ∃ pre : List UInt8, ∃ A c, k ≤ 9 ∧ x = .int .u64 (V : Int) ∧ s = .slice A pre.length c ∧ Sm V k ∧ Hid (vb v = pre ++ vbF (9 - k) V) ∧ Hid (pre.length = k) ∧ Hid (Ow wr w.heap.size 5 A pre.length c (pre.map bv)) ∧ Hid (Below w.heap.size w wr)) (fun _ x _ => (intOf x).toNat)
  case atStart => exact ⟨0, v, [], none, 0, by omega, rfl, rfl, hv, hide rfl, hide rfl, hide (Ow.nil _ _ _), hide (Below.refl _ _)⟩
  case round =>
    obtain ⟨k, V, pre, A, c, hk, rfl, rfl, hV, hpre, hpl, ho, hb⟩ := hrel
    have hpl10 : pre.length ≤ 9 := by have := hpl.out; omega
    by_cases hlt : V < 128
    · have hVI : (V : Int) ≤ 127 := by omega
      have he : Hid (vb v = pre ++ [UInt8.ofNat V]) := hide (by
        rw [hpre.out]
        cases h9 : 9 - k with
        | zero => rfl
        | succ f => rw [vbF, if_pos hlt])
      have hlen : Hid ((vb v).length = pre.length + 1) := hide (by rw [he.out, List.length_append]; rfl)
      have hbv : Hid (bv (UInt8.ofNat V) = .int .u8 (V : Int)) := hide (by rw [bv, UInt8.toNat_ofNat', Nat.mod_eq_of_lt (by omega)])
      clear hlt hk
      go_wp2_with (at_builtin; refine wpList_append_one wr rfl (.tmp 17) (.tmp 20) rfl delem_byte rfl ho.out (.int .u8 (V : Int)) 5 _ rfl rfl (by simp only [maxLen]; omega) (by omega) hb.out.size ?_; intro A3 c3 w3 ho3 hg3 hn3; have hb3 := hide (hb.out.trans (hg3.to_below (B := w.heap.size) hb.out.size (fun i hi => (ho.out.blk_lt i hi).1))); have ho3 := hide ho3; clear hg3 hn3)
      go_ret
      exact ⟨A3, c3, by rw [hlen.out]; rfl, by rw [hlen.out, he.out, List.map_append, List.map_singleton, hbv.out]; exact ho3.out, hb3.out⟩
    · have hk9 : k < 9 := by
        rcases Nat.lt_or_ge k 9 with h | h
        · exact h
        · obtain rfl : k = 9 := by omega
          have := hV.h
          omega
      have hVI : (128 : Int) ≤ V := by omega
      have he : Hid (vb v = (pre ++ [UInt8.ofNat (V % 128 + 128)]) ++ vbF (9 - (k + 1)) (V / 128)) := hide (by
        rw [hpre.out, show 9 - k = 9 - (k + 1) + 1 from by omega, vbF, if_neg hlt, List.append_assoc]
        rfl)
      have hV2 : Sm (V / 128) (k + 1) := ⟨by rw [Nat.pow_succ, ← Nat.div_div_eq_div_mul]; exact Nat.div_le_div_right hV.h⟩
      have hor : bits .or .u8 ((V : Int) % 256) 128 = ((V % 128 + 128 : Nat) : Int) := by
        rw [show (V : Int) % 256 = ((V % 256 : Nat) : Int) from by omega, show (128 : Int) = ((128 : Nat) : Int) from rfl, u8_or_nat _ _ (by omega) (by omega), or128 _ (by omega)]
        omega
      have hbv : Hid (bv (UInt8.ofNat (V % 128 + 128)) = .int .u8 ((V % 128 + 128 : Nat) : Int)) := hide (by rw [bv, UInt8.toNat_ofNat', Nat.mod_eq_of_lt (by omega)])
      have hm : Hid (V / 128 < V) := hide (by omega)
      obtain ⟨X, hX⟩ : ∃ X, V % 128 + 128 = X := ⟨_, rfl⟩
      rw [hX] at hor hbv he
      clear hlt hX
      go_wp2_with (at_builtin; refine wpList_append_one wr rfl (.tmp 9) (.tmp 13) rfl delem_byte rfl ho.out (.int .u8 (X : Int)) 5 _ rfl rfl (by simp only [maxLen]; omega) (by omega) hb.out.size ?_; intro A3 c3 w3 ho3 hg3 hn3; have hb3 := hide (hb.out.trans (hg3.to_below (B := w.heap.size) hb.out.size (fun i hi => (ho.out.blk_lt i hi).1))); have ho3 := hide ho3; clear hg3 hn3)
      go_roundw
      case rel => exact ⟨k + 1, V / 128, pre ++ [UInt8.ofNat X], A3, c3, by omega, int_eq (by omega), by rw [List.length_append]; rfl, hV2, he, hide (by rw [List.length_append, hpl.out]; rfl), hide (by rw [List.map_append, List.map_singleton, hbv.out, List.length_append]; exact ho3.out), hb3⟩
      case measure => simp [intOf] <;> (have := hm.out; omega)
theorem step_append_rd' {P : Program} (w : World) {ops : Array Oper} {o : Oper} {a : Act} {K : Act → World → Prop} {Q : Exit → Act → World → Prop} {E0 : Prop} (hgd : o.guard = none) (s x : Operand) {t e : TypeId}
    (ho : o.op = .call { callee := .builtin .append, args := #[s, x], argTypes := #[t, t] }) {z : Value} {bytes : Nat} (E : Elem1 P t e z bytes)
    {base n c : Nat} {A : Option Addr} {xs : List Value} (hs : a.eval s = .slice A n c) (h : Ow w base e A n c xs)
    {B m c2 : Nat} {A2 : Option Addr} {news : List Value} (hx : a.eval x = .slice A2 m c2) (hr : Rd w B A2 m news) (h1 : ∀ u ∈ news, u.oneCell' = true)
    (h63 : n + m ≤ maxLen) (hbytes : (n + m) * bytes ≤ 140737488355328) (hbase : base ≤ w.heap.size)
    (hk : ∀ A' c' w', Ow w' base e A' (n + m) c' (xs ++ news) → Chg (fun k => blk A = some k) w w' → (blk A' = blk A ∨ blk A' = some w.heap.size) → K (a.put o.dst (.slice A' (n + m) c')) w') :
    if Region.wanted o (yielded ops a.tmps) = true then Oper.wp P o a w K Q else E0 := by
  have hw : Region.wanted o (yielded ops a.tmps) = true := by simp [Region.wanted, hgd]
  rw [if_pos hw]
  obtain ⟨A', c', w', hrun, h2, h3, h4⟩ := run_append_rd (P := P) w E o.type (c2 := c2) h hr h1 h63 hbytes hbase
  unfold Oper.wp execOp
  simp only [ho, resolve, invoke, builtin, Sem.run_bind, Sem.run_pure, Result.andThen_ok, List.map_toArray, List.map_cons, List.map_nil, hs, hx, hrun]
  exact hk A' c' w' h2 h3 h4
def BoxB (B : Nat) (w : World) (g : Nat) (bs : List UInt8) : Prop := ∃ A c, Blk w g 22 #[.slice A bs.length c] ∧ Ow w B 5 A bs.length c (bs.map bv) ∧ B ≤ g ∧ B ≤ w.heap.size
theorem BoxB.below {B g : Nat} {w w' : World} {bs : List UInt8} (h : BoxB B w g bs) (hb : Below w.heap.size w w') : BoxB B w' g bs := by
  obtain ⟨A, c, hk, ho, h1, h2⟩ := h
  exact ⟨A, c, hk.below hb hk.lt, ho.below hb, h1, Nat.le_trans h2 hb.size⟩
set_option maxRecDepth 100000 in
set_option maxHeartbeats 1000000 in
theorem put_any (B g v : Nat) (bs : List UInt8) (w : World) (h : BoxB B w g bs) (hv : Sm v 0) (hn : bs.length ≤ 1048576) :
    Calls Tryz.prog 101 #[.int .u64 (v : Int), .pointer (some ⟨g, 0, none⟩)] w fun e w' => e = .returned (.tuple #[]) ∧ BoxB B w' g (bs ++ vb v) ∧ Below B w w' ∧ ∀ k cs, Blk w k 36 cs → Blk w' k 36 cs := by
  obtain ⟨A, c, hk, ho, hBg, hBw⟩ := h
  have hE : Hid (∀ k cs, Blk w k 36 cs → Blk w.drew k 36 cs) := hide (fun _ _ h => h)
  have hpv := hide (fun W => putvarint_any v W hv)
  have hvl := vb_len v
  have c0 : w.cell? ⟨g, 0, none⟩ = some (.slice A bs.length c) := hk.cell 0
  have hq1 := hide (show bs.length + (vb v).length ≤ maxLen by simp only [maxLen]; omega)
  have hq2 := hide (show (bs.length + (vb v).length) * 1 ≤ 140737488355328 by omega)
  have hk' := hide (show Blk w.drew g 22 #[.slice A bs.length c] from hk)
  have ho' := hide (show Ow w.drew B 5 A bs.length c (bs.map bv) from ho)
  have hbd := hide (show Below B w w.drew from below_drewN (Below.refl B w) 1)
  have hBd : Hid (B ≤ w.drew.heap.size) := hide (by have := hbd.out.size; omega)
  have hone := hide (dbv_one (vb v))
  have hlen : Hid ((bs ++ vb v).length = bs.length + (vb v).length) := hide (by simp)
  have hmap : Hid ((bs ++ vb v).map bv = bs.map bv ++ (vb v).map bv) := hide (by simp)
  generalize bs ++ vb v = bs2 at *
  generalize vb v = vs at *
  clear hn hvl ho
  go_enter Tryz.func101, Tryz.ntmps101
  go_upto_region 0 with fail
  go_region_law (first
    | (refine step_append_rd' _ (by rfl) (.tmp 3) (.tmp 5) (by rfl) delem_byte (by rfl) ho1.out (by rfl) hv1.out.rd hone.out hq1.out hq2.out hs1.out ?_; intro A3 c3 w3 ho3 hc3 hn3; have hk3 := hk1.out.chg hc3 (by intro hx; exact ho1.out.ne hk1.out (by decide) hx); have f3 := hk3.free 0; have d3 := hk3.cell 0; have hb3 := hide (hb1.out.trans (hc3.to_below (B := B) hs1.out (fun i hi => (ho1.out.blk_lt i hi).1))); have hE3 := hide (fun k cs (h : Blk w k 36 cs) => (hE1.out k cs h).chg hc3 (fun hx => ho1.out.ne (hE1.out k cs h) (by decide) hx)); have ho3 := hide ho3; have hk3 := hide hk3; clear hc3 hn3)
    | (go_simp; go_at_call 100; (with_reducible refine (hpv.out _).mono ?_); rintro e w1 ⟨A1, c1, rfl, hv1, hb1⟩; have hk1 := hide (hk'.out.below hb1 hk'.out.lt); have hE1 := hide (fun k cs (h : Blk w k 36 cs) => (hE.out k cs h).below hb1 (hE.out k cs h).lt); have ho1 := hide (ho'.out.below hb1); have d1 := hk1.out.cell 0; have hb1 := hide (hbd.out.trans (hb1.mono hBd.out)); have hs1 := hide (show B ≤ w1.heap.size by have := hb1.out.size; omega); have hv1 := hide hv1))
  all_goals
    go_end0
    have hset : Chg (fun k => k = g) w3 (w3.setCell ⟨g, 0, none⟩ (.slice A3 (bs.length + vs.length) c3)) := (Chg.refl (fun k => k = g) w3).setCell (p := ⟨g, 0, none⟩) (.inr rfl) _
    have hw3 : B ≤ w3.heap.size := by have := hb3.out.size; omega
    refine ⟨rfl, ⟨A3, c3, ?_, ?_, hBg, ?_⟩, ?_, ?_⟩
    · rw [hlen.out]
      exact hk3.out.set 0 _
    · rw [hlen.out, hmap.out]
      exact ho3.out.chg hset (by rintro k hkk rfl; exact ho3.out.ne hk3.out (by decide) hkk)
    · exact Nat.le_trans hw3 hset.size
    · exact hb3.out.trans (hset.to_below hw3 (by rintro k rfl; exact hBg))
    · intro k cs h
      have h3 := hE3.out k cs h
      exact h3.chg hset (by rintro rfl; exact h3.same hk3.out (by decide) rfl)
def partB (f : Nat → Nat) (k : Nat) : List UInt8 := (List.range k).flatMap fun j => vb (f j)
theorem partB_succ (f : Nat → Nat) (k : Nat) : partB f (k + 1) = partB f k ++ vb (f k) := by simp [partB, List.range_succ]
theorem partB_len (f : Nat → Nat) (k : Nat) : (partB f k).length ≤ 10 * k := by
  induction k with
  | zero => simp [partB]
  | succ k ih => rw [partB_succ, List.length_append]; have := vb_len (f k); omega
def ent (es : List Ent) (j : Nat) : Ent := es.getD j ⟨0, 0, 0, 0⟩
def prevId (es : List Ent) (k : Nat) : Nat := if k = 0 then 0 else (ent es (k - 1)).id
def fId (es : List Ent) (j : Nat) : Nat := (ent es j).id - prevId es j
def fRun (es : List Ent) (j : Nat) : Nat := (ent es j).run
def fLen (es : List Ent) (j : Nat) : Nat := (ent es j).len
def fOff (es : List Ent) (j : Nat) : Nat := if 0 < j ∧ (ent es j).off = (ent es (j - 1)).off + (ent es (j - 1)).len then 0 else (ent es j).off + 1
def putB (es : List Ent) : List UInt8 := vb es.length ++ partB (fId es) es.length ++ partB (fRun es) es.length ++ partB (fLen es) es.length ++ partB (fOff es) es.length
theorem ent_at (es : List Ent) (j : Nat) (h : j < es.length) : ent es j = es[j] := by rw [ent, List.getD_eq_getElem?_getD, List.getElem?_eq_getElem h]; rfl
theorem Sm.of {v : Nat} (h : v ≤ 4611686018427387904) : Sm v 0 := ⟨by simp; omega⟩
set_option maxRecDepth 100000 in
set_option maxHeartbeats 4000000 in
theorem put_ok (A : Option Addr) (c : Nat) (es : List Ent) (w : World) (B : Nat) (hr : RdE w B A es) (hB : B ≤ w.heap.size) (hbg : ∀ x ∈ es, x.big) (hn : es.length ≤ 200) (hR : RightE es) :
    Calls Tryz.prog 78 #[.slice A es.length c] w fun e w' => ∃ A' c', e = .returned (.tuple #[.slice A' (putB es).length c', .int .i64 0]) ∧ Ow w' w.heap.size 5 A' (putB es).length c' ((putB es).map bv) ∧ Below w.heap.size w w' := by
  have hrt := hide (dright_any A c es w B hr hB hbg (by simp only [maxLen]; omega) true ⟨fun _ => rfl, fun _ => hR⟩)
  have hpv := hide (fun W => putvarint_any es.length W (Sm.of (by omega)))
  have hvl0 := hide (vb_len es.length)
  have hpl := hide (fun f => partB_len f es.length)
  obtain ⟨G, hG⟩ : ∃ G, w.heap.size = G := ⟨_, rfl⟩
  rw [hG] at hrt hB ⊢
  have hput := hide (fun (W : World) (g v : Nat) (bs : List UInt8) (h : BoxB G W g bs) (hv : Sm v 0) (hn : bs.length ≤ 1048576) => put_any G g v bs W h hv hn)
  have hrW := hide (fun W (h : Below G w W) => (hr.below (h.mono hB)))
  obtain ⟨n, hl⟩ : ∃ n, es.length = n := ⟨_, rfl⟩
  rw [hl] at hrt hpv hvl0 hpl ⊢
  have hnI : (n : Int) ≤ 200 := by omega
  have hn200 := hide (show n ≤ 200 by omega)
  replace hR := hide hR
  clear hr hbg hn
  go_enter Tryz.func78, Tryz.ntmps78
  go_upto_region 6 with (first
    | (go_at_call 60; (with_reducible refine hrt.out.mono ?_); rintro e w1 ⟨rfl, hb1⟩; have hb1 := hide hb1)
    | (go_at_call 100; (with_reducible refine (hpv.out _).mono ?_); rintro e w2 ⟨A2, c2, rfl, hv2, hb2⟩; have hz1 := hide hb1.out.size; have hv2 := hide (hv2.base_le (base' := G) (fun g hg => by have := (hv2.blk_lt g hg).1; have := hz1.out; omega)); have hb2 := hide (hb1.out.trans (hb2.mono (by have := hz1.out; omega)))))
  have hbx : Hid (BoxB G (w2.alloc (.cells #[Value.slice A2 (vb n).length c2] 22)) w2.heap.size (vb n)) := hide ⟨A2, c2, Blk.new w2 _ _, hv2.out.alloc _, by have := hb2.out.size; have := hz1.out; omega, by have := hb2.out.size; simp; omega⟩
  have hb3 := hide (hb2.out.trans ((Below.refl G w2).alloc (by have := hb2.out.size; omega) (.cells #[Value.slice A2 (vb n).length c2] 22)))
  generalize w2.alloc (.cells #[Value.slice A2 (vb n).length c2] 22) = W0 at *
  generalize w2.heap.size = gb at *
  clear hv2 hb2 hz1 hrt hpv hb1
  have hstep : Hid (∀ (wr : World) (f : Nat → Nat) (bs : List UInt8) (k : Nat), BoxB G wr gb (bs ++ partB f k) → ∀ (o : Obj), BoxB G (wr.alloc o) gb (bs ++ partB f k)) := hide (fun wr f bs k h o => h.below ((Below.refl _ wr).alloc (Nat.le_refl _) o))
  go_wp2
  go_loopw [6, 25] (fun x i wr => ∃ k : Nat, k ≤ n ∧ i = .int .i64 k ∧ x = .int .u64 (prevId es k : Int) ∧ Hid (BoxB G wr gb (vb n ++ partB (fId es) k)) ∧ Hid (Below G w wr)) (fun _ i _ => n - (intOf i).toNat)
  case atStart => exact ⟨0, by omega, rfl, rfl, by rw [show partB (fId es) 0 = [] from rfl, List.append_nil]; exact hbx, hb3⟩
  case round =>
    obtain ⟨k, hk, rfl, rfl, hbx, hb⟩ := hrel
    by_cases hlt : k < n
    · have hkl : k < es.length := by omega
      have hkI : (k : Int) < n := by omega
      obtain ⟨b, o, rfl, hbB, e0, e1, e2, e3⟩ := (hrW.out wr hb.out) k hkl
      have hok := hR.out.2.2.1 k hkl
      have hprev : prevId es k ≤ es[k].id := by
        unfold prevId
        split
        · exact Nat.zero_le _
        · have h8 := hR.out.2.2.2 (k - 1) (by omega)
          have h9 : es[k - 1 + 1] = es[k] := by congr 1; omega
          rw [h9] at h8
          rw [ent_at es (k - 1) (by omega)]
          unfold Ent.next at h8
          omega
      have hf : fId es k = es[k].id - prevId es k := by rw [fId, ent_at es k hkl]
      have hnx : Hid (prevId es (k + 1) = es[k].id) := hide (by rw [prevId, if_neg (by omega), Nat.add_sub_cancel, ent_at es k hkl])
      have hps := hide (partB_succ (fId es) k)
      have hln := hide (show (vb n ++ partB (fId es) k).length ≤ 1048576 by rw [List.length_append]; have := partB_len (fId es) k; have := hvl0.out; have := hn200.out; omega)
      generalize es[k] = xe at *
      obtain ⟨xi, xo, xl, xr⟩ := xe
      simp only [Ent.ok] at e0 e1 e2 e3 hok hprev hf hnx
      generalize prevId es k = P at *
      obtain ⟨v, hv⟩ : ∃ v, fId es k = v := ⟨_, rfl⟩
      rw [hv] at hf hps
      have hvI : ((xi : Int) - (P : Int)) % 18446744073709551616 = (v : Int) := by omega
      have hvW : IntKind.u64.wrap ((xi : Int) - (P : Int)) = (v : Int) := by rw [IntKind.wrap_u64]; omega
      have hsm : Sm v 0 := Sm.of (by omega)
      have hbx2 := hide (hstep.out wr _ _ _ hbx.out (Obj.cells #[Value.int .u64 (xi : Int), .int .u64 (xo : Int), .int .u64 (xl : Int), .int .u64 (xr : Int)] 36))
      have hba := hide (hb.out.trans ((Below.refl G wr).alloc (by have := hb.out.size; omega) (Obj.cells #[Value.int .u64 (xi : Int), .int .u64 (xo : Int), .int .u64 (xl : Int), .int .u64 (xr : Int)] 36)))
      have hcall := hide (hput.out _ _ v _ hbx2.out hsm hln.out)
      have hkb := hide (Blk.new wr 36 #[Value.int .u64 (xi : Int), .int .u64 (xo : Int), .int .u64 (xl : Int), .int .u64 (xr : Int)])
      clear hok hprev hf hv
      go_wp2_with (go_at_call 101; (with_reducible refine hcall.out.mono ?_); rintro e w3 ⟨rfl, hbx3, hbb3, hkk3⟩; have hbx3 := hide hbx3; have hbb3 := hide (hba.out.trans hbb3); have f0 := (hkk3 _ _ hkb.out).cell 0; simp only [List.getElem?_toArray, List.getElem?_cons_zero] at f0; clear hkk3)
      go_roundw
      case rel => exact ⟨k + 1, by omega, by go_num, by rw [hnx.out], by rw [hps.out, ← List.append_assoc]; exact hbx3, hbb3⟩
      case measure => simp [intOf] <;> omega
    · obtain rfl : k = n := by omega
      obtain ⟨S1, hS1e⟩ : ∃ S, vb k ++ partB (fId es) k = S := ⟨_, rfl⟩
      have hS1 : Hid (S1.length ≤ 10 + 2000 * 1) := hide (by rw [← hS1e, List.length_append]; have := partB_len (fId es) k; have := hn200.out; have := hvl0.out; omega)
      rw [hS1e] at hbx
      replace hS1e := hide hS1e
      go_wp2
      go_loopw [40] (fun i wr => ∃ j : Nat, j ≤ k ∧ i = .int .i64 j ∧ Hid (BoxB G wr gb (S1 ++ partB (fRun es) j)) ∧ Hid (Below G w wr)) (fun i _ => k - (intOf i).toNat)
      case atStart => exact ⟨0, by omega, rfl, by rw [show partB (fRun es) 0 = [] from rfl, List.append_nil]; exact hbx, hb⟩
      case round =>
        obtain ⟨j, hj, rfl, hbx, hb⟩ := hrel
        by_cases hlt : j < k
        · have hkl : j < es.length := by omega
          have hkI : (j : Int) < k := by omega
          obtain ⟨b, o, rfl, hbB, e0, e1, e2, e3⟩ := (hrW.out _ hb.out) j hkl
          have hok := hR.out.2.2.1 j hkl
          have hf : fRun es j = es[j].run := by rw [fRun, ent_at es j hkl]
          have hps := hide (partB_succ (fRun es) j)
          have hln := hide (show (S1 ++ partB (fRun es) j).length ≤ 1048576 by rw [List.length_append]; have := partB_len (fRun es) j; have := hS1.out; have := hn200.out; omega)
          generalize es[j] = xe at *
          obtain ⟨xi, xo, xl, xr⟩ := xe
          simp only [Ent.ok] at e0 e1 e2 e3 hok hf
          rw [hf] at hps
          have hsm : Sm xr 0 := Sm.of (by omega)
          have hbx2 := hide (hbx.out.below ((Below.refl _ _).alloc (Nat.le_refl _) (Obj.cells #[Value.int .u64 (xi : Int), .int .u64 (xo : Int), .int .u64 (xl : Int), .int .u64 (xr : Int)] 36)))
          have hba := hide (hb.out.trans ((Below.refl G _).alloc (by have := hb.out.size; omega) (Obj.cells #[Value.int .u64 (xi : Int), .int .u64 (xo : Int), .int .u64 (xl : Int), .int .u64 (xr : Int)] 36)))
          have hcall := hide (hput.out _ _ xr _ hbx2.out hsm hln.out)
          clear hok hf
          go_wp2_with (go_at_call 101; (with_reducible refine hcall.out.mono ?_); rintro e w3 ⟨rfl, hbx3, hbb3, _⟩; have hbx3 := hide hbx3; have hbb3 := hide (hba.out.trans hbb3))
          go_roundw
          case rel => exact ⟨j + 1, by omega, by go_num, by rw [hps.out, ← List.append_assoc]; exact hbx3, hbb3⟩
          case measure => simp [intOf] <;> omega
        · have hjk : Hid (j = k) := hide (by omega)
          rw [hjk.out] at hbx
          obtain ⟨S2, hS2e⟩ : ∃ S, S1 ++ partB (fRun es) k = S := ⟨_, rfl⟩
          have hS2 : Hid (S2.length ≤ 10 + 2000 * 2) := hide (by rw [← hS2e, List.length_append]; have := partB_len (fRun es) k; have := hn200.out; have := hS1.out; omega)
          rw [hS2e] at hbx
          replace hS2e := hide hS2e
          go_wp2
          go_loopw [51] (fun i wr => ∃ j : Nat, j ≤ k ∧ i = .int .i64 j ∧ Hid (BoxB G wr gb (S2 ++ partB (fLen es) j)) ∧ Hid (Below G w wr)) (fun i _ => k - (intOf i).toNat)
          case atStart => exact ⟨0, by omega, rfl, by rw [show partB (fLen es) 0 = [] from rfl, List.append_nil]; exact hbx, hb⟩
          case round =>
            obtain ⟨j, hj, rfl, hbx, hb⟩ := hrel
            by_cases hlt : j < k
            · have hkl : j < es.length := by omega
              have hkI : (j : Int) < k := by omega
              obtain ⟨b, o, rfl, hbB, e0, e1, e2, e3⟩ := (hrW.out _ hb.out) j hkl
              have hok := hR.out.2.2.1 j hkl
              have hf : fLen es j = es[j].len := by rw [fLen, ent_at es j hkl]
              have hps := hide (partB_succ (fLen es) j)
              have hln := hide (show (S2 ++ partB (fLen es) j).length ≤ 1048576 by rw [List.length_append]; have := partB_len (fLen es) j; have := hS2.out; have := hn200.out; omega)
              generalize es[j] = xe at *
              obtain ⟨xi, xo, xl, xr⟩ := xe
              simp only [Ent.ok] at e0 e1 e2 e3 hok hf
              rw [hf] at hps
              have hsm : Sm xl 0 := Sm.of (by omega)
              have hbx2 := hide (hbx.out.below ((Below.refl _ _).alloc (Nat.le_refl _) (Obj.cells #[Value.int .u64 (xi : Int), .int .u64 (xo : Int), .int .u64 (xl : Int), .int .u64 (xr : Int)] 36)))
              have hba := hide (hb.out.trans ((Below.refl G _).alloc (by have := hb.out.size; omega) (Obj.cells #[Value.int .u64 (xi : Int), .int .u64 (xo : Int), .int .u64 (xl : Int), .int .u64 (xr : Int)] 36)))
              have hcall := hide (hput.out _ _ xl _ hbx2.out hsm hln.out)
              clear hok hf
              go_wp2_with (go_at_call 101; (with_reducible refine hcall.out.mono ?_); rintro e w3 ⟨rfl, hbx3, hbb3, _⟩; have hbx3 := hide hbx3; have hbb3 := hide (hba.out.trans hbb3))
              go_roundw
              case rel => exact ⟨j + 1, by omega, by go_num, by rw [hps.out, ← List.append_assoc]; exact hbx3, hbb3⟩
              case measure => simp [intOf] <;> omega
            · have hjk : Hid (j = k) := hide (by omega)
              rw [hjk.out] at hbx
              obtain ⟨S3, hS3e⟩ : ∃ S, S2 ++ partB (fLen es) k = S := ⟨_, rfl⟩
              have hS3 : Hid (S3.length ≤ 10 + 2000 * 3) := hide (by rw [← hS3e, List.length_append]; have := partB_len (fLen es) k; have := hn200.out; have := hS2.out; omega)
              rw [hS3e] at hbx
              replace hS3e := hide hS3e
              go_wp2
              go_loopw [62] (fun i wr => ∃ j : Nat, j ≤ k ∧ i = .int .i64 j ∧ Hid (BoxB G wr gb (S3 ++ partB (fOff es) j)) ∧ Hid (Below G w wr)) (fun i _ => k - (intOf i).toNat)
              case atStart => exact ⟨0, by omega, rfl, by rw [show partB (fOff es) 0 = [] from rfl, List.append_nil]; exact hbx, hb⟩
              case round =>
                obtain ⟨j, hj, rfl, hbx, hb⟩ := hrel
                by_cases hlt : j < k
                · have hkl : j < es.length := by omega
                  have hkI : (j : Int) < k := by omega
                  obtain ⟨b, o, rfl, hbB, e0, e1, e2, e3⟩ := (hrW.out _ hb.out) j hkl
                  have hok := hR.out.2.2.1 j hkl
                  have hpr : Hid (∀ q (hq : j = q + 1), (es[q]'(by omega)).ok) := hide (fun q hq => hR.out.2.2.1 q (by omega))
                  have hf : fOff es j = if 0 < j ∧ es[j].off = (ent es (j - 1)).off + (ent es (j - 1)).len then 0 else es[j].off + 1 := by rw [fOff, ent_at es j hkl]
                  have hps := hide (partB_succ (fOff es) j)
                  have hln := hide (show (S3 ++ partB (fOff es) j).length ≤ 1048576 by rw [List.length_append]; have := partB_len (fOff es) j; have := hS3.out; have := hn200.out; omega)
                  obtain ⟨xe, hxe⟩ : ∃ xe, es[j] = xe := ⟨_, rfl⟩
                  rw [hxe] at e0 e1 e2 e3 hok hf
                  clear hxe
                  obtain ⟨xi, xo, xl, xr⟩ := xe
                  simp only [Ent.ok] at e0 e1 e2 e3 hok hf
                  have hbx2 := hide (hbx.out.below ((Below.refl _ wr).alloc (Nat.le_refl _) (Obj.cells #[Value.int .u64 (xi : Int), .int .u64 (xo : Int), .int .u64 (xl : Int), .int .u64 (xr : Int)] 36)))
                  have hba := hide (hb.out.trans ((Below.refl G wr).alloc (by have := hb.out.size; omega) (Obj.cells #[Value.int .u64 (xi : Int), .int .u64 (xo : Int), .int .u64 (xl : Int), .int .u64 (xr : Int)] 36)))
                  have hkb := Blk.new wr 36 #[Value.int .u64 (xi : Int), .int .u64 (xo : Int), .int .u64 (xl : Int), .int .u64 (xr : Int)]
                  have f1 := hkb.cell 1
                  simp only [List.getElem?_toArray, List.getElem?_cons_zero, List.getElem?_cons_succ] at f1
                  have hcall := hide (fun (v m : Nat) (hsm : Sm v 0) => hput.out ((wr.alloc (Obj.cells #[Value.int .u64 (xi : Int), .int .u64 (xo : Int), .int .u64 (xl : Int), .int .u64 (xr : Int)] 36)).drewN m) _ v _ (hbx2.out.below (below_drewN (Below.refl _ _) m)) hsm hln.out)
                  have hbd := hide (fun m => below_drewN hba.out m)
                  have hbw := hide hb.out.size
                  rcases Nat.eq_zero_or_pos j with hj0 | hjp
                  · subst hj0
                    rw [if_neg (by omega)] at hf
                    rw [hf] at hps
                    simp only [Nat.zero_mul, Nat.add_zero] at e0 e1 e2 e3
                    obtain ⟨v, hv⟩ : ∃ v, xo + 1 = v := ⟨_, rfl⟩
                    rw [hv] at hps
                    have hvI : ((xo : Int) + 1) % 18446744073709551616 = (v : Int) := by omega
                    have hvW : IntKind.u64.wrap ((xo : Int) + 1) = (v : Int) := by rw [IntKind.wrap_u64]; omega
                    have hsm : Sm v 0 := Sm.of (by omega)
                    have hcl := hide (fun m => hcall.out v m hsm)
                    clear hok hf hv hkb hpr hcall
                    go_upto_region 25 with fail
                    clear e0 e1 e2 e3
                    generalize wr.alloc (Obj.cells #[Value.int .u64 (xi : Int), .int .u64 (xo : Int), .int .u64 (xl : Int), .int .u64 (xr : Int)] 36) = W at *
                    generalize wr.heap.size = Gx at *
                    go_quiet (fail)
                    go_wp2_with (go_at_call 101; (with_reducible refine (hcl.out _).mono ?_); rintro e w3 ⟨rfl, hbx3, hbb3, _⟩; have hbx3 := hide hbx3; have hbb3 := hide ((hbd.out _).trans hbb3))
                    go_roundw
                    case rel => exact ⟨1, by omega, by go_num, by rw [hps.out, ← List.append_assoc]; exact hbx3, hbb3⟩
                    case measure => simp [intOf] <;> omega
                  · obtain ⟨q, rfl⟩ : ∃ q, j = q + 1 := ⟨j - 1, by omega⟩
                    have hql : q < es.length := by omega
                    have hqI : (q : Int) < (k : Int) := by omega
                    have hqI0 : (0 : Int) ≤ (q : Int) := by omega
                    have hk2 : (k : Int) ≤ 200 := by have := hn200.out; omega
                    have hwq : IntKind.i64.wrap (q : Int) = (q : Int) := by rw [IntKind.wrap_i64]; omega
                    obtain ⟨b2, o2, hA2, _, _, p1, p2, _⟩ := (hrW.out _ hb.out) q hql
                    injection hA2 with hA2
                    injection hA2 with ee1 ee2
                    subst ee1 ee2
                    have hpo := hpr.out q rfl
                    rw [Nat.add_sub_cancel, ent_at es q hql] at hf
                    generalize es[q] = pe at *
                    obtain ⟨pi, po, pl, prn⟩ := pe
                    simp only [Ent.ok] at hpo hf p1 p2
                    have hbr : b < wr.heap.size := by have := hbw.out; omega
                    have g1 := ((Below.refl wr.heap.size wr).alloc (Nat.le_refl _) (Obj.cells #[Value.int .u64 (xi : Int), .int .u64 (xo : Int), .int .u64 (xl : Int), .int .u64 (xr : Int)] 36)).cell (p := ⟨b, o + q * 4 + 1, none⟩) hbr
                    have g2 := ((Below.refl wr.heap.size wr).alloc (Nat.le_refl _) (Obj.cells #[Value.int .u64 (xi : Int), .int .u64 (xo : Int), .int .u64 (xl : Int), .int .u64 (xr : Int)] 36)).cell (p := ⟨b, o + q * 4 + 2, none⟩) hbr
                    rw [p1] at g1
                    rw [p2] at g2
                    obtain ⟨S, hS⟩ : ∃ S, po + pl = S := ⟨_, rfl⟩
                    have hSI : ((po : Int) + (pl : Int)) % 18446744073709551616 = (S : Int) := by omega
                    have hSW : IntKind.u64.wrap ((po : Int) + (pl : Int)) = (S : Int) := by rw [IntKind.wrap_u64]; omega
                    rw [hS] at hf
                    by_cases heq : xo = S
                    · rw [if_pos ⟨by omega, heq⟩] at hf
                      rw [hf] at hps
                      have he1 : ((xo : Int) == (S : Int)) = true := by simp; omega
                      have he2 : (xo == S) = true := by simp; omega
                      have hcl := hide (fun m => hcall.out 0 m (Sm.of (by omega)))
                      rw [show ((0 : Nat) : Int) = 0 from rfl] at hcl
                      clear hok hf hpo hS heq hkb hpr hcall hbr p1 p2
                      go_upto_region 25 with fail
                      clear e0 e1 e2 e3
                      generalize wr.alloc (Obj.cells #[Value.int .u64 (xi : Int), .int .u64 (xo : Int), .int .u64 (xl : Int), .int .u64 (xr : Int)] 36) = W at *
                      generalize wr.heap.size = Gx at *
                      go_quiet (fail)
                      go_wp2_with (go_at_call 101; (with_reducible refine (hcl.out _).mono ?_); rintro e w3 ⟨rfl, hbx3, hbb3, _⟩; have hbx3 := hide hbx3; have hbb3 := hide ((hbd.out _).trans hbb3))
                      go_roundw
                      case rel => exact ⟨q + 1 + 1, by omega, by go_num, by rw [hps.out, ← List.append_assoc]; exact hbx3, hbb3⟩
                      case measure => simp [intOf] <;> omega
                    · rw [if_neg (fun h => heq h.2)] at hf
                      rw [hf] at hps
                      have he1 : ((xo : Int) == (S : Int)) = false := by simp; omega
                      have he2 : (xo == S) = false := by simp; omega
                      obtain ⟨v, hv⟩ : ∃ v, xo + 1 = v := ⟨_, rfl⟩
                      rw [hv] at hps
                      have hvI : ((xo : Int) + 1) % 18446744073709551616 = (v : Int) := by omega
                      have hvW : IntKind.u64.wrap ((xo : Int) + 1) = (v : Int) := by rw [IntKind.wrap_u64]; omega
                      have hsm : Sm v 0 := Sm.of (by omega)
                      have hcl := hide (fun m => hcall.out v m hsm)
                      clear hok hf hpo hS heq hkb hpr hcall hbr p1 p2 hv
                      go_upto_region 25 with fail
                      clear e0 e1 e2 e3
                      generalize wr.alloc (Obj.cells #[Value.int .u64 (xi : Int), .int .u64 (xo : Int), .int .u64 (xl : Int), .int .u64 (xr : Int)] 36) = W at *
                      generalize wr.heap.size = Gx at *
                      go_quiet (fail)
                      go_wp2_with (go_at_call 101; (with_reducible refine (hcl.out _).mono ?_); rintro e w3 ⟨rfl, hbx3, hbb3, _⟩; have hbx3 := hide hbx3; have hbb3 := hide ((hbd.out _).trans hbb3))
                      go_roundw
                      case rel => exact ⟨q + 1 + 1, by omega, by go_num, by rw [hps.out, ← List.append_assoc]; exact hbx3, hbb3⟩
                      case measure => simp [intOf] <;> omega
                · have hjk : Hid (j = k) := hide (by omega)
                  rw [hjk.out] at hbx
                  obtain ⟨A9, c9, hk9, ho9, _, _⟩ := hbx.out
                  have d9 := hk9.cell 0
                  simp only [List.getElem?_toArray, List.getElem?_cons_zero] at d9
                  have hpB : Hid (putB es = S3 ++ partB (fOff es) k) := hide (by rw [putB, hl, hS1e.out, hS2e.out, hS3e.out])
                  replace ho9 := hide ho9
                  go_wp2
                  go_ret2
                  exact ⟨A9, c9, by rw [hpB.out, List.length_append]; rfl, by rw [hpB.out]; exact ho9.out, hb.out⟩
end Go.Proofs.YtaapjampmnanmaaGreat
namespace Go.Proofs.YtaapjampmnanmaaGreat
open Go.RowKit
def vrS : List UInt8 → Nat → Nat → Nat × Nat × Nat
  | [], i, _ => if 10 ≤ i then (0, 0, 3) else (0, 0, 2)
  | c :: t, i, a => if 10 ≤ i ∨ (i = 9 ∧ 1 < c.toNat) then (0, 0, 3) else if c.toNat < 128 then (a + c.toNat % 128 * 2 ^ (7 * i), i + 1, 0) else vrS t (i + 1) (a + c.toNat % 128 * 2 ^ (7 * i))
def vr (bs : List UInt8) (p : Nat) : Nat × Nat × Nat :=
  ((vrS (bs.drop p) 0 0).1, if (vrS (bs.drop p) 0 0).2.2 = 0 then p + (vrS (bs.drop p) 0 0).2.1 else 0, (vrS (bs.drop p) 0 0).2.2)
theorem vr_eq {bs : List UInt8} {p v n e : Nat} (h : vrS (bs.drop p) 0 0 = (v, n, e)) : vr bs p = (v, if e = 0 then p + n else 0, e) := by simp [vr, h]
theorem vrS_ten (l : List UInt8) (i a : Nat) (h : 10 ≤ i) : vrS l i a = (0, 0, 3) := by
  cases l with
  | nil => rw [vrS, if_pos h]
  | cons c t => rw [vrS, if_pos (.inl h)]
theorem drop_at (bs : List UInt8) (i : Nat) (h : i < bs.length) : bs.drop i = bs[i] :: bs.drop (i + 1) := List.drop_eq_getElem_cons h
theorem or_add (a x m : Nat) (h : a < 2 ^ m) : a ||| (x * 2 ^ m) = a + x * 2 ^ m := by
  rw [Nat.mul_comm x, Nat.or_comm, ← Nat.two_pow_add_eq_or_of_lt h, Nat.add_comm]
theorem grow (k a y : Nat) (hk : k ≤ 9) (hy : y ≤ 127) (h9 : k = 9 → y ≤ 1) (ha : a < 2 ^ (7 * k)) : y * 2 ^ (7 * k) < 18446744073709551616 ∧ a + y * 2 ^ (7 * k) < 18446744073709551616 ∧ a + y * 2 ^ (7 * k) < 2 ^ (7 * (k + 1)) := by
  have hcases : k = 0 ∨ k = 1 ∨ k = 2 ∨ k = 3 ∨ k = 4 ∨ k = 5 ∨ k = 6 ∨ k = 7 ∨ k = 8 ∨ k = 9 := by omega
  rcases hcases with rfl | rfl | rfl | rfl | rfl | rfl | rfl | rfl | rfl | rfl <;> simp at ha h9 ⊢ <;> omega
theorem round_sum (k a z : Nat) (hk : k ≤ 9) (hz : z ≤ 255) (h9 : k = 9 → z ≤ 1) (ha : a < 2 ^ (7 * k)) :
    ∃ y Y T : Nat, z % 128 = y ∧ y * 2 ^ (7 * k) = Y ∧ a + Y = T ∧ bits .and .u8 (z : Int) 127 = (y : Int) ∧ IntKind.u64.wrap (y : Int) = (y : Int) ∧ IntKind.u64.wrap ((y : Int) * 2 ^ (7 * k)) = (Y : Int) ∧ bits .or .u64 (a : Int) (Y : Int) = (T : Int) ∧ T < 2 ^ (7 * (k + 1)) ∧ T ≤ 18446744073709551615 := by
  obtain ⟨h1, h2, h3⟩ := grow k a (z % 128) hk (by omega) (fun h => by have := h9 h; omega) ha
  refine ⟨z % 128, _, _, rfl, rfl, rfl, ?_, ?_, ?_, ?_, h3, by omega⟩
  · rw [show (127 : Int) = ((127 : Nat) : Int) from rfl, u8_and_nat _ _ (by omega) (by omega), show (127 : Nat) = 2 ^ 7 - 1 from rfl, Nat.and_two_pow_sub_one_eq_mod]
  · rw [IntKind.wrap_u64]; omega
  · rw [IntKind.wrap_u64, show ((z % 128 : Nat) : Int) * 2 ^ (7 * k) = ((z % 128 * 2 ^ (7 * k) : Nat) : Int) from by push_cast; rfl]
    omega
  · rw [bits_or_u64_nat _ _ (by omega) h1, or_add _ _ _ ha]
set_option maxRecDepth 100000 in
set_option maxHeartbeats 1000000 in
theorem varint_any (A : Option Addr) (c : Nat) (bs : List UInt8) (p : Nat) (w : World) (B : Nat) (hr : Rd w B A bs.length (bs.map bv)) (hp : p ≤ bs.length) (hn : bs.length ≤ 1048576) (v nx er : Nat) (hv : vr bs p = (v, nx, er)) :
    Calls Tryz.prog 73 #[.slice A bs.length c, .int .i64 (p : Int)] w fun e w' => e = .returned (.tuple #[.int .u64 (v : Int), .int .i64 (nx : Int), .int .i64 (er : Int)]) ∧ w = w' := by
  obtain ⟨⟨rv, rn, re⟩, hR⟩ : ∃ R, vrS (bs.drop p) 0 0 = R := ⟨_, rfl⟩
  have hv2 := hide ((vr_eq hR).symm.trans hv)
  replace hR := hide hR
  clear hv
  obtain ⟨n, hl⟩ : ∃ n, bs.length = n := ⟨_, rfl⟩
  rw [hl] at hr ⊢
  replace hr := hide hr
  have hnI : (n : Int) ≤ 1048576 := by omega
  have hpI : (p : Int) ≤ n := by omega
  go_enter Tryz.func73, Tryz.ntmps73
  go_wp2
  go_loopw [4, 17] (fun x i wr => ∃ k a : Nat, k ≤ 10 ∧ p + k ≤ n ∧ i = .int .i64 k ∧ x = .int .u64 (a : Int) ∧ Hid (a < 2 ^ (7 * k)) ∧ Hid (vrS (bs.drop (p + k)) k a = (rv, rn, re)) ∧ w = wr) (fun _ i _ => 10 - (intOf i).toNat)
  case atStart => exact ⟨0, 0, by omega, by omega, rfl, rfl, hide (by decide), hR, rfl⟩
  case round =>
    obtain ⟨k, a, hk, hpk, rfl, rfl, ha, hS, rfl⟩ := hrel
    by_cases h10 : k = 10
    · have h := hS.out
      rw [vrS_ten _ _ _ (by omega)] at h
      injection h with h1 h
      injection h with h2 h3
      subst h1 h2 h3 h10
      have h := hv2.out
      simp only [Nat.succ_ne_zero, if_false] at h
      injection h with h1 h
      injection h with h2 h3
      subst h1 h2 h3
      go_wp2
      go_ret3
      exact ⟨rfl, rfl⟩
    · have hkI : (k : Int) ≤ 9 := by omega
      by_cases hend : p + k = n
      · have h := hS.out
        rw [List.drop_eq_nil_of_le (by omega), vrS, if_neg (by omega)] at h
        injection h with h1 h
        injection h with h2 h3
        subst h1 h2 h3
        have h := hv2.out
        simp only [Nat.succ_ne_zero, if_false] at h
        injection h with h1 h
        injection h with h2 h3
        subst h1 h2 h3
        have hge : (n : Int) ≤ (p : Int) + (k : Int) := by omega
        go_wp2
        go_ret3
        exact ⟨rfl, rfl⟩
      · have hpl : p + k < bs.length := by omega
        have hge : (p : Int) + (k : Int) < (n : Int) := by omega
        have hS2 := hS.out
        rw [drop_at bs (p + k) hpl, vrS] at hS2
        obtain ⟨b, o, rfl, _, f0⟩ := hr.out.byte (j := p + k) (by omega)
        obtain ⟨z, hz⟩ : ∃ z, bs[p + k].toNat = z := ⟨_, rfl⟩
        have hz255 : z ≤ 255 := by rw [← hz]; exact toNat_le _
        rw [hz] at hS2 f0
        clear hz
        obtain ⟨s, hs⟩ : ∃ s, p + k = s := ⟨_, rfl⟩
        have hsI : (p : Int) + (k : Int) = (s : Int) := by omega
        have hsn : (s : Int) < (n : Int) := by omega
        have hs1 : p + (k + 1) = s + 1 := by omega
        rw [hs] at hS2 f0
        clear hge
        have hcs : (k = 9 ∧ 1 < z) ∨ (k = 9 ∧ z ≤ 1) ∨ (k ≠ 9 ∧ z < 128) ∨ (k ≠ 9 ∧ 128 ≤ z) := by omega
        rcases hcs with h9 | ⟨h9, hz⟩ | ⟨h9, hz⟩ | ⟨h9, hz⟩
        · have hS2 := hS2
          rw [if_pos (.inr h9)] at hS2
          injection hS2 with h1 h
          injection h with h2 h3
          subst h1 h2 h3
          have h := hv2.out
          simp only [Nat.succ_ne_zero, if_false] at h
          injection h with h1 h
          injection h with h2 h3
          subst h1 h2 h3
          obtain ⟨rfl, hz1⟩ := h9
          have hz1I : (2 : Int) ≤ z := by omega
          clear hz1 hS hz255
          go_wp2
          go_ret3
          exact ⟨rfl, rfl⟩
        · rw [if_neg (by omega), if_pos (by omega)] at hS2
          obtain ⟨y, Y, T, hy, hY, hT, b1, b2, b3, b4, hTb, hT64⟩ := round_sum k a z (by omega) hz255 (by omega) ha.out
          rw [hy, hY, hT] at hS2
          clear hy hY hT hTb hT64
          injection hS2 with h1 h
          injection h with h2 h3
          subst h1 h2 h3
          have h := hv2.out
          simp only [if_true] at h
          injection h with h1 h
          injection h with h2 h3
          subst h1 h2 h3
          have hzI : (z : Int) ≤ 1 := by omega
          have hse : p + (k + 1) = s + 1 := by omega
          have hk9 : ((k : Int) == 9) = true := by simp; omega
          clear hS hz255 h9 hz
          go_wp2
          go_ret3
          exact ⟨by first | rfl | (rw [hse]; rfl), rfl⟩
        · rw [if_neg (by omega), if_pos (by omega)] at hS2
          obtain ⟨y, Y, T, hy, hY, hT, b1, b2, b3, b4, hTb, hT64⟩ := round_sum k a z (by omega) hz255 (by omega) ha.out
          rw [hy, hY, hT] at hS2
          clear hy hY hT hTb hT64
          injection hS2 with h1 h
          injection h with h2 h3
          subst h1 h2 h3
          have h := hv2.out
          simp only [if_true] at h
          injection h with h1 h
          injection h with h2 h3
          subst h1 h2 h3
          have hzI : (z : Int) ≤ 127 := by omega
          have hse : p + (k + 1) = s + 1 := by omega
          have hk9 : ((k : Int) == 9) = false := by simp; omega
          clear hS hz255 h9 hz
          go_wp2
          go_ret3
          exact ⟨by first | rfl | (rw [hse]; rfl), rfl⟩
        · rw [if_neg (by omega), if_neg (by omega)] at hS2
          obtain ⟨y, Y, T, hy, hY, hT, b1, b2, b3, b4, hTb, hT64⟩ := round_sum k a z (by omega) hz255 (by omega) ha.out
          rw [hy, hY, hT, ← hs1] at hS2
          clear hy hY hT
          have hzI : (128 : Int) ≤ z := by omega
          have hk9 : ((k : Int) == 9) = false := by simp; omega
          have hS2 := hide hS2
          have hTb := hide hTb
          clear hS hz255 h9 hz hT64
          go_wp2
          go_roundw
          case rel => exact ⟨k + 1, T, by omega, by omega, by go_num, rfl, hTb, hS2, trivial⟩
          case measure => simp [intOf] <;> omega
end Go.Proofs.YtaapjampmnanmaaGreat
namespace Go.Proofs.YtaapjampmnanmaaGreat
open Go.RowKit
def OwE (w : World) (base : Nat) (A : Option Addr) (c : Nat) (es : List Ent) : Prop :=
  ∃ xs, w.ownsRow base 36 4 (.slice A es.length c) es.length xs ∧ ∀ j (h : j < es.length), xs[j * 4]? = some (qv es[j].id) ∧ xs[j * 4 + 1]? = some (qv es[j].off) ∧ xs[j * 4 + 2]? = some (qv es[j].len) ∧ xs[j * 4 + 3]? = some (qv es[j].run)
section
variable {w w' : World} {base c : Nat} {A : Option Addr} {es : List Ent}
theorem OwE.nil (w : World) (base : Nat) : OwE w base none 0 [] := ⟨[], World.ownsRow_nil w base _ 4, fun _ h => absurd h (Nat.not_lt_zero _)⟩
theorem OwE.form (h : OwE w base A c es) : (A = none ∧ es = [] ∧ c = 0) ∨ ∃ g, A = some ⟨g, 0, none⟩ ∧ base ≤ g ∧ g < w.heap.size := by
  obtain ⟨xs, h, _⟩ := h
  rcases h.2 with ⟨hv, h0⟩ | ⟨g, cap, cur, hv, hg, hh, _⟩
  · injection hv with h1 h2 h3
    exact .inl ⟨h1, List.eq_nil_of_length_eq_zero h0, h3⟩
  · injection hv with h1 h2 h3
    exact .inr ⟨g, h1, hg, lt_of_block hh⟩
theorem OwE.pos (h : OwE w base A c es) (hn : 0 < es.length) : ∃ g, A = some ⟨g, 0, none⟩ ∧ base ≤ g ∧ g < w.heap.size := by
  rcases h.form with ⟨_, h0, _⟩ | h
  · simp [h0] at hn
  · exact h
theorem OwE.blk_lt (h : OwE w base A c es) : ∀ g, blk A = some g → base ≤ g ∧ g < w.heap.size := by
  intro g hg
  rcases h.form with ⟨rfl, _⟩ | ⟨g', rfl, h1, h2⟩
  · simp [blk] at hg
  · simp [blk] at hg
    subst hg
    exact ⟨h1, h2⟩
theorem OwE.chg {R : Nat → Prop} (h : OwE w base A c es) (hk : Chg R w w') (hn : ∀ g, blk A = some g → ¬ R g) : OwE w' base A c es := by
  obtain ⟨xs, h, hx⟩ := h
  refine ⟨xs, ⟨h.1, ?_⟩, hx⟩
  rcases h.2 with h2 | ⟨g, cap, cur, hv, hb, hh, r⟩
  · exact .inl h2
  · refine .inr ⟨g, cap, cur, hv, hb, ?_, r⟩
    injection hv with h1
    rw [hk.block g (lt_of_block hh) (hn g (by rw [h1]; rfl))]
    exact hh
theorem OwE.below (h : OwE w base A c es) (hk : Below w.heap.size w w') : OwE w' base A c es :=
  h.chg (R := fun _ => False) ⟨hk.os, hk.tape, hk.output, hk.size, fun k hl _ => hk.block k hl⟩ (fun _ _ h => h)
theorem OwE.ne (h : OwE w base A c es) {g : Nat} {t : TypeId} {cs : Array Value} (hk : Blk w g t cs) (hne : 36 ≠ t) : blk A ≠ some g := by
  obtain ⟨xs, h, _⟩ := h
  intro hg
  rcases h.2 with ⟨hv, _⟩ | ⟨g', cap, cur, hv, _, hh, _⟩
  · injection hv with h1
    rw [h1] at hg
    simp [blk] at hg
  · injection hv with h1
    rw [h1] at hg
    have : g' = g := by simpa [blk] using hg
    subst this
    exact Blk.same (w := w) hh hk hne rfl
theorem OwE.ne_ow (h : OwE w base A c es) {base' n' c' : Nat} {e' : TypeId} {A' : Option Addr} {xs' : List Value} (h' : Ow w base' e' A' n' c' xs') (hne : 36 ≠ e') : ∀ g, blk A = some g → blk A' ≠ some g := by
  obtain ⟨xs, h, _⟩ := h
  intro g hg
  rcases h.2 with ⟨hv, _⟩ | ⟨g', cap, cur, hv, _, hh, _⟩
  · injection hv with h1
    rw [h1] at hg
    simp [blk] at hg
  · injection hv with h1
    rw [h1] at hg
    have : g' = g := by simpa [blk] using hg
    subst this
    exact h'.ne (t := 36) (cs := cur) hh (Ne.symm hne)
theorem OwE.rd (h : OwE w base A c es) : RdE w w.heap.size A es := by
  intro j hj
  obtain ⟨g, rfl, h1, h2⟩ := h.pos (by omega)
  obtain ⟨xs, h, hx⟩ := h
  obtain ⟨x0, x1, x2, x3⟩ := hx j hj
  refine ⟨g, 0, rfl, h2, ?_, ?_, ?_, ?_⟩
  · have := h.cells (g := g) rfl _ _ x0
    rwa [Addr.add_mid] at this
  · have := h.cells (g := g) rfl _ _ x1
    rwa [Addr.add_mid] at this
  · have := h.cells (g := g) rfl _ _ x2
    rwa [Addr.add_mid] at this
  · have := h.cells (g := g) rfl _ _ x3
    rwa [Addr.add_mid] at this
theorem OwE.free {g : Nat} (h : OwE w base (some ⟨g, 0, none⟩) c es) (i : Nat) : w.frozen? ⟨g, i, none⟩ = false := by
  obtain ⟨xs, h, _⟩ := h
  exact h.frozenAt i
theorem OwE.put {g : Nat} (h : OwE w base (some ⟨g, 0, none⟩) c es) (j : Nat) (hj : j < es.length) (f : Nat) (hf : f < 4) (x : Nat) (y : Ent)
    (hy : (f = 0 ∧ y = { es[j] with id := x }) ∨ (f = 1 ∧ y = { es[j] with off := x }) ∨ (f = 2 ∧ y = { es[j] with len := x }) ∨ (f = 3 ∧ y = { es[j] with run := x })) :
    OwE (w.setCell ⟨g, j * 4 + f, none⟩ (qv x)) base (some ⟨g, 0, none⟩) c (es.set j y) := by
  obtain ⟨xs, h, hx⟩ := h
  have hlen : xs.length = es.length * 4 := h.1
  refine ⟨xs.set (j * 4 + f) (qv x), by rw [List.length_set]; exact (h.stored _ _).1, ?_⟩
  intro i hi
  rw [List.length_set] at hi
  obtain ⟨x0, x1, x2, x3⟩ := hx i hi
  by_cases e : j = i
  · subst e
    rw [List.getElem_set_self]
    rcases hy with ⟨rfl, rfl⟩ | ⟨rfl, rfl⟩ | ⟨rfl, rfl⟩ | ⟨rfl, rfl⟩
    · exact ⟨by rw [Nat.add_zero, List.getElem?_set_self (by omega)], by rw [List.getElem?_set_ne (by omega), x1], by rw [List.getElem?_set_ne (by omega), x2], by rw [List.getElem?_set_ne (by omega), x3]⟩
    · exact ⟨by rw [List.getElem?_set_ne (by omega), x0], by rw [List.getElem?_set_self (by omega)], by rw [List.getElem?_set_ne (by omega), x2], by rw [List.getElem?_set_ne (by omega), x3]⟩
    · exact ⟨by rw [List.getElem?_set_ne (by omega), x0], by rw [List.getElem?_set_ne (by omega), x1], by rw [List.getElem?_set_self (by omega)], by rw [List.getElem?_set_ne (by omega), x3]⟩
    · exact ⟨by rw [List.getElem?_set_ne (by omega), x0], by rw [List.getElem?_set_ne (by omega), x1], by rw [List.getElem?_set_ne (by omega), x2], by rw [List.getElem?_set_self (by omega)]⟩
  · rw [List.getElem_set_ne e]
    exact ⟨by rw [List.getElem?_set_ne (by omega), x0], by rw [List.getElem?_set_ne (by omega), x1], by rw [List.getElem?_set_ne (by omega), x2], by rw [List.getElem?_set_ne (by omega), x3]⟩
end
theorem info_entry : (Tryz.prog.info? 36).map (fun i => (i.zero, i.size, i.bytes)) = some (some (.agg #[.int .u64 0, .int .u64 0, .int .u64 0, .int .u64 0]), 4, 32) := by kernel_rfl
theorem run_append_ent (w : World) (ty : TypeId) {base c : Nat} {A : Option Addr} {es : List Ent} (h : OwE w base A c es) (x : Ent) (fr : Nat × Nat) (h63 : es.length ≤ 1048576) (hbase : base ≤ w.heap.size) :
    ∃ A' c' w', (Builtin.append_ #[48, 48] ty #[.slice A es.length c, .slice (some ⟨w.heap.size, 0, none⟩) 1 1]).run Tryz.prog (w.alloc (.cells x.cells 36 fr)) = .ok (.slice A' (es ++ [x]).length c') w' ∧ OwE w' base A' c' (es ++ [x]) ∧ Chg (fun k => blk A = some k) w w' ∧
      (blk A' = blk A ∨ ∃ k, w.heap.size ≤ k ∧ blk A' = some k) := by
  obtain ⟨i, hi, hz, hs, hb⟩ := info_parts info_entry
  obtain ⟨xs, h, hx⟩ := h
  have hlen : xs.length = es.length * 4 := h.1
  obtain ⟨v', w', hrun, h2, h3, _, h5⟩ := run_append_own_at (P := Tryz.prog) (w.alloc (.cells x.cells 36 fr)) base 48 ty 36 i _ 4 32 Tryz.underlying48 hi hz hs hb rfl (by omega) (.slice A es.length c) es.length xs (h.alloc _) ⟨w.heap.size, 0, none⟩ 1 1 x.cells.toList rfl
    (by
      intro j u hu
      rw [Addr.add_mid, cell_of_row _ _ _ x.cells 36 fr (heap_alloc_new w _)]
      simpa using hu)
    (by
      intro u hu
      simp [Ent.cells] at hu
      rcases hu with rfl | rfl | rfl | rfl <;> rfl) (by simp only [maxLen]; omega) (by omega) (by simp; omega)
  rw [ownBlock_slice] at h3 h5
  have hent : ∀ j (hj : j < (es ++ [x]).length), (xs ++ x.cells.toList)[j * 4]? = some (qv (es ++ [x])[j].id) ∧ (xs ++ x.cells.toList)[j * 4 + 1]? = some (qv (es ++ [x])[j].off) ∧ (xs ++ x.cells.toList)[j * 4 + 2]? = some (qv (es ++ [x])[j].len) ∧ (xs ++ x.cells.toList)[j * 4 + 3]? = some (qv (es ++ [x])[j].run) := by
    intro j hj
    rw [List.length_append, List.length_singleton] at hj
    by_cases e : j < es.length
    · obtain ⟨x0, x1, x2, x3⟩ := hx j e
      rw [List.getElem_append_left e]
      exact ⟨by rw [List.getElem?_append_left (by omega), x0], by rw [List.getElem?_append_left (by omega), x1], by rw [List.getElem?_append_left (by omega), x2], by rw [List.getElem?_append_left (by omega), x3]⟩
    · obtain rfl : j = es.length := by omega
      rw [List.getElem_concat_length rfl]
      exact ⟨by rw [List.getElem?_append_right (by omega), show es.length * 4 - xs.length = 0 from by omega]; rfl, by rw [List.getElem?_append_right (by omega), show es.length * 4 + 1 - xs.length = 1 from by omega]; rfl, by rw [List.getElem?_append_right (by omega), show es.length * 4 + 2 - xs.length = 2 from by omega]; rfl, by rw [List.getElem?_append_right (by omega), show es.length * 4 + 3 - xs.length = 3 from by omega]; rfl⟩
  have hnl : (es ++ [x]).length = es.length + 1 := by simp
  have hc : Chg (fun k => blk A = some k) w w' := ((Chg.refl _ w).alloc _).trans (chg_of_grown h3) (fun _ _ h => h)
  rcases h2.2 with ⟨hv, h0⟩ | ⟨g, cap, cur, hv, r⟩
  · omega
  · rw [hv] at hrun h2 h5
    refine ⟨_, cap, w', by rw [hnl]; exact hrun, ⟨_, by rw [hnl]; exact h2, hent⟩, hc, ?_⟩
    rw [ownBlock_slice] at h5
    rcases h5 with h5 | h5
    · exact .inl h5
    · exact .inr ⟨_, by simp, h5⟩
theorem wpList_append_ent {ops : Array Oper} {rest : List Oper} {o : Oper} {a : Act} {Q : Exit → Act → World → Prop} (w : World) (hgd : o.guard = none) (s y : Operand)
    (ho : o.op = .call { callee := .builtin .append, args := #[s, y], argTypes := #[48, 48] })
    {base c : Nat} {A : Option Addr} {es : List Ent} (hs : a.eval s = .slice A es.length c) (h : OwE w base A c es) (x : Ent) (fr : Nat × Nat) (hx : a.eval y = .slice (some ⟨w.heap.size, 0, none⟩) 1 1)
    (h63 : es.length ≤ 1048576) (hbase : base ≤ w.heap.size)
    (hk : ∀ A' c' w', OwE w' base A' c' (es ++ [x]) → Chg (fun k => blk A = some k) w w' → (blk A' = blk A ∨ ∃ k, w.heap.size ≤ k ∧ blk A' = some k) → wpList Tryz.prog ops Q rest (a.put o.dst (.slice A' (es ++ [x]).length c')) w') :
    wpList Tryz.prog ops Q (o :: rest) a (w.alloc (.cells #[.int .u64 (x.id : Int), .int .u64 (x.off : Int), .int .u64 (x.len : Int), .int .u64 (x.run : Int)] 36 fr)) :=
  wpList_plain hgd fun _ hK => by
    obtain ⟨A', c', w', hrun, h2, h3, h4⟩ := run_append_ent w o.type h x fr h63 hbase
    unfold Ent.cells at hrun
    unfold Oper.wp execOp
    simp only [ho, resolve, invoke, builtin, Sem.run_bind, Sem.run_pure, Result.andThen_ok, List.map_toArray, List.map_cons, List.map_nil, hs, hx, hrun]
    exact hK _ _ (hk A' c' w' h2 h3 h4)
end Go.Proofs.YtaapjampmnanmaaGreat
namespace Go.Proofs.YtaapjampmnanmaaGreat
open Go.RowKit
theorem vrS_use (l : List UInt8) (i a v c : Nat) (h : vrS l i a = (v, c, 0)) : i < c ∧ c ≤ i + l.length := by
  induction l generalizing i a with
  | nil => rw [vrS] at h; split at h <;> simp at h
  | cons x t ih =>
    rw [vrS] at h
    split at h
    · simp at h
    · split at h
      · injection h with _ h
        injection h with h _
        subst h
        simp
      · have := ih _ _ h
        simp
        omega
theorem vrS_big (l : List UInt8) (i a v c e : Nat) (ha : a < 2 ^ (7 * i)) (h : vrS l i a = (v, c, e)) : v ≤ 18446744073709551615 := by
  induction l generalizing i a with
  | nil => rw [vrS] at h; split at h <;> (injection h with h _; omega)
  | cons x t ih =>
    rw [vrS] at h
    split at h
    · injection h with h _; omega
    · rename_i hn
      have hx := toNat_le x
      have hg := grow i a (x.toNat % 128) (by omega) (by omega) (fun h9 => by
        have : x.toNat ≤ 1 := by omega
        omega) ha
      split at h
      · injection h with h _
        omega
      · exact ih _ _ hg.2.2 h
theorem vr_use {bs : List UInt8} {p v nx : Nat} (hp : p ≤ bs.length) (h : vr bs p = (v, nx, 0)) : p < nx ∧ nx ≤ bs.length := by
  obtain ⟨⟨rv, rn, re⟩, hR⟩ : ∃ R, vrS (bs.drop p) 0 0 = R := ⟨_, rfl⟩
  rw [vr_eq hR] at h
  injection h with h1 h
  injection h with h2 h3
  subst h3
  rw [if_pos rfl] at h2
  have := vrS_use _ _ _ _ _ hR
  rw [List.length_drop] at this
  omega
theorem vr_big {bs : List UInt8} {p v nx e : Nat} (h : vr bs p = (v, nx, e)) : v ≤ 18446744073709551615 := by
  obtain ⟨⟨rv, rn, re⟩, hR⟩ : ∃ R, vrS (bs.drop p) 0 0 = R := ⟨_, rfl⟩
  rw [vr_eq hR] at h
  injection h with h1 h
  subst h1
  exact vrS_big _ _ _ _ _ _ (by simp) hR
theorem vr_err {bs : List UInt8} {p v nx e : Nat} (h : vr bs p = (v, nx, e)) : e ≤ 3 ∧ (e ≠ 0 → v = 0 ∧ nx = 0) := by
  have key : ∀ (l : List UInt8) (i a v c e : Nat), vrS l i a = (v, c, e) → e ≤ 3 ∧ (e ≠ 0 → v = 0) := by
    intro l
    induction l with
    | nil => intro i a v c e h; rw [vrS] at h; split at h <;> (injection h with h1 h; injection h with h2 h3; omega)
    | cons x t ih =>
      intro i a v c e h
      rw [vrS] at h
      split at h
      · injection h with h1 h; injection h with h2 h3; omega
      · split at h
        · injection h with h1 h; injection h with h2 h3; omega
        · exact ih _ _ _ _ _ h
  obtain ⟨⟨rv, rn, re⟩, hR⟩ : ∃ R, vrS (bs.drop p) 0 0 = R := ⟨_, rfl⟩
  rw [vr_eq hR] at h
  injection h with h1 h
  injection h with h2 h3
  subst h1 h2 h3
  have := key _ _ _ _ _ _ hR
  exact ⟨this.1, fun h => ⟨this.2 h, if_neg h⟩⟩
def rdStep (bs : List UInt8) (n : Nat) (s : List Nat × Nat × Nat) : List Nat × Nat × Nat :=
  if s.2.2 ≠ 0 then s else
  if (vr bs s.2.1).2.2 ≠ 0 then (s.1, 0, (vr bs s.2.1).2.2) else
  if s.1.length = 3 * n ∧ (vr bs s.2.1).1 = 0 then (s.1, 0, 3) else (s.1 ++ [(vr bs s.2.1).1], (vr bs s.2.1).2.1, 0)
def rdTo (bs : List UInt8) (n p0 : Nat) : Nat → List Nat × Nat × Nat
  | 0 => ([], p0, 0)
  | k + 1 => rdStep bs n (rdTo bs n p0 k)
theorem rdStep_pre (bs : List UInt8) (n : Nat) (s : List Nat × Nat × Nat) : s.1 <+: (rdStep bs n s).1 := by
  unfold rdStep
  split
  · exact List.prefix_refl _
  · split
    · exact List.prefix_refl _
    · split
      · exact List.prefix_refl _
      · exact List.prefix_append _ _
theorem rd_pre (bs : List UInt8) (n p0 k j : Nat) (h : k ≤ j) : (rdTo bs n p0 k).1 <+: (rdTo bs n p0 j).1 := by
  obtain ⟨d, rfl⟩ : ∃ d, j = k + d := ⟨j - k, by omega⟩
  clear h
  induction d with
  | zero => exact List.prefix_refl _
  | succ d ih => exact ih.trans (rdStep_pre bs n _)
theorem rd_stay (bs : List UInt8) (n p0 k j : Nat) (h : k ≤ j) (he : (rdTo bs n p0 k).2.2 ≠ 0) : rdTo bs n p0 j = rdTo bs n p0 k := by
  obtain ⟨d, rfl⟩ : ∃ d, j = k + d := ⟨j - k, by omega⟩
  clear h
  induction d with
  | zero => rfl
  | succ d ih =>
    rw [show k + (d + 1) = (k + d) + 1 from rfl, rdTo, ih, rdStep, if_pos he]
def Ok (bs : List UInt8) (n p0 k p : Nat) : Prop := (rdTo bs n p0 k).2 = (p, 0)
def Ef (bs : List UInt8) (n p0 : Nat) : Nat := (rdTo bs n p0 (4 * n)).2.2
def pf (bs : List UInt8) (n p0 : Nat) : Nat := (rdTo bs n p0 (4 * n)).2.1
def val (bs : List UInt8) (n p0 j : Nat) : Nat := (rdTo bs n p0 (4 * n)).1.getD j 0
theorem Ok.zero (bs : List UInt8) (n p0 : Nat) : Ok bs n p0 0 p0 := rfl
theorem rd_len (bs : List UInt8) (n p0 k : Nat) (h : (rdTo bs n p0 k).2.2 = 0) : (rdTo bs n p0 k).1.length = k := by
  induction k with
  | zero => rfl
  | succ k ih =>
    have h0 : (rdTo bs n p0 k).2.2 = 0 := by
      by_cases h0 : (rdTo bs n p0 k).2.2 = 0
      · exact h0
      · rw [rd_stay bs n p0 k (k + 1) (by omega) h0] at h
        exact absurd h h0
    have hl := ih h0
    rw [rdTo, rdStep, if_neg (by omega)] at h ⊢
    split at h
    · exact absurd h (by assumption)
    · rename_i h1
      rw [if_neg h1] 
      split at h
      · simp at h
      · rename_i h2
        rw [if_neg h2, List.length_append, hl]
        rfl
theorem Ok.len {bs : List UInt8} {n p0 k p : Nat} (h : Ok bs n p0 k p) : (rdTo bs n p0 k).1.length = k := rd_len _ _ _ _ (by rw [h])
theorem getD_pre {a b : List Nat} (h : a <+: b) (j : Nat) (hj : j < a.length) : b.getD j 0 = a.getD j 0 := by
  obtain ⟨t, rfl⟩ := h
  rw [List.getD_eq_getElem?_getD, List.getD_eq_getElem?_getD, List.getElem?_append_left hj]
theorem Ok.next {bs : List UInt8} {n p0 k p v nx er : Nat} (h : Ok bs n p0 k p) (hk : k < 4 * n) (hv : vr bs p = (v, nx, er)) :
    (er ≠ 0 → Ef bs n p0 = er) ∧ (er = 0 → k = 3 * n ∧ v = 0 → Ef bs n p0 = 3) ∧ (er = 0 → ¬ (k = 3 * n ∧ v = 0) → Ok bs n p0 (k + 1) nx ∧ val bs n p0 k = v) := by
  have hl := h.len
  have hs : rdTo bs n p0 (k + 1) = rdStep bs n (rdTo bs n p0 k) := rfl
  obtain ⟨⟨V, p', e'⟩, hV⟩ : ∃ s, rdTo bs n p0 k = s := ⟨_, rfl⟩
  unfold Ok at h
  rw [hV] at h hs hl
  injection h with h1 h2
  simp only at h1 h2 hl
  subst h1 h2
  rw [rdStep] at hs
  simp only [ne_eq, not_true, if_false, hv] at hs
  refine ⟨fun he => ?_, fun he hz => ?_, fun he hz => ?_⟩
  · rw [if_pos he] at hs
    rw [Ef, rd_stay bs n p0 (k + 1) (4 * n) (by omega) (by rw [hs]; exact he), hs]
  · rw [if_neg (by omega), if_pos (by omega)] at hs
    rw [Ef, rd_stay bs n p0 (k + 1) (4 * n) (by omega) (by rw [hs]; exact (by decide : (3 : Nat) ≠ 0)), hs]
  · rw [if_neg (by omega), if_neg (by omega)] at hs
    refine ⟨by rw [Ok, hs], ?_⟩
    have hp := rd_pre bs n p0 (k + 1) (4 * n) (by omega)
    rw [val, getD_pre hp k (by rw [hs]; simp; omega), hs]
    simp [List.getD_eq_getElem?_getD, ← hl]
theorem Ok.bound {bs : List UInt8} {n p0 k p : Nat} (h0 : p0 ≤ bs.length) (h : Ok bs n p0 k p) : p0 + k ≤ p ∧ p ≤ bs.length := by
  induction k generalizing p with
  | zero => injection h with h _; omega
  | succ k ih =>
    obtain ⟨⟨V, p', e'⟩, hV⟩ : ∃ s, rdTo bs n p0 k = s := ⟨_, rfl⟩
    by_cases h0' : e' = 0
    · subst h0'
      have hok : Ok bs n p0 k p' := by rw [Ok, hV]
      have hb := ih hok
      unfold Ok at h
      rw [rdTo, hV, rdStep, if_neg (by simp)] at h
      simp only at h
      obtain ⟨⟨v, nx, er⟩, hv⟩ : ∃ s, vr bs p' = s := ⟨_, rfl⟩
      rw [hv] at h
      simp only at h
      split at h
      · injection h with _ h
        omega
      · rename_i h1
        have h1 : er = 0 := by simpa using h1
        subst h1
        have := vr_use hb.2 hv
        split at h
        · injection h with _ h
          omega
        · injection h with h _
          omega
    · unfold Ok at h
      rw [rd_stay bs n p0 k (k + 1) (by omega) (by rw [hV]; exact h0'), hV] at h
      injection h with _ h
      omega
theorem Ok.done {bs : List UInt8} {n p0 p : Nat} (h : Ok bs n p0 (4 * n) p) : Ef bs n p0 = 0 ∧ pf bs n p0 = p := by
  unfold Ok at h
  rw [Ef, pf, h]
  exact ⟨rfl, rfl⟩
theorem val_big (bs : List UInt8) (n p0 j : Nat) : val bs n p0 j ≤ 18446744073709551615 := by
  have key : ∀ k, ∀ x ∈ (rdTo bs n p0 k).1, x ≤ 18446744073709551615 := by
    intro k
    induction k with
    | zero => intro x hx; simp [rdTo] at hx
    | succ k ih =>
      intro x hx
      rw [rdTo, rdStep] at hx
      split at hx
      · exact ih x hx
      · split at hx
        · exact ih x hx
        · split at hx
          · exact ih x hx
          · rcases List.mem_append.1 hx with hx | hx
            · exact ih x hx
            · simp at hx
              subst hx
              exact vr_big (rfl : vr bs _ = (_, _, _))
  unfold val
  rw [List.getD_eq_getElem?_getD]
  by_cases h : j < (rdTo bs n p0 (4 * n)).1.length
  · rw [List.getElem?_eq_getElem h]
    exact key _ _ (List.getElem_mem h)
  · rw [List.getElem?_eq_none (by omega)]
    simp
/-! ### The entries that numbers are -/
def gid (f : Nat → Nat) : Nat → Nat
  | 0 => f 0
  | j + 1 => (gid f j + f (j + 1)) % 18446744073709551616
def gof (f : Nat → Nat) (n : Nat) : Nat → Nat
  | 0 => f (3 * n) - 1
  | j + 1 => if f (3 * n + (j + 1)) = 0 then (gof f n j + f (2 * n + j)) % 18446744073709551616 else f (3 * n + (j + 1)) - 1
def gent (f : Nat → Nat) (n j : Nat) : Ent := ⟨gid f j, gof f n j, f (2 * n + j), f (n + j)⟩
def gents (f : Nat → Nat) (n : Nat) : List Ent := (List.range n).map (gent f n)
def lastId (f : Nat → Nat) : Nat → Nat
  | 0 => 0
  | k + 1 => gid f k
theorem gid_big (f : Nat → Nat) (hf : ∀ j, f j ≤ 18446744073709551615) (j : Nat) : gid f j ≤ 18446744073709551615 := by
  cases j with
  | zero => exact hf 0
  | succ j => unfold gid; omega
theorem gof_big (f : Nat → Nat) (n : Nat) (hf : ∀ j, f j ≤ 18446744073709551615) (j : Nat) : gof f n j ≤ 18446744073709551615 := by
  cases j with
  | zero => unfold gof; have := hf (3 * n); omega
  | succ j => unfold gof; have := hf (3 * n + (j + 1)); split <;> omega
theorem lastId_next (f : Nat → Nat) (hf : ∀ j, f j ≤ 18446744073709551615) (k : Nat) : (lastId f k + f k) % 18446744073709551616 = gid f k ∧ lastId f k ≤ 18446744073709551615 := by
  cases k with
  | zero =>
    have := hf 0
    show (0 + f 0) % 18446744073709551616 = f 0 ∧ 0 ≤ 18446744073709551615
    omega
  | succ k => have := gid_big f hf k; unfold lastId; rw [gid]; exact ⟨rfl, this⟩
def F1 (f : Nat → Nat) (k : Nat) : List Ent := (List.range k).map fun j => ⟨gid f j, 0, 0, 0⟩
def F2 (f : Nat → Nat) (n i : Nat) : List Ent := (List.range n).map fun j => ⟨gid f j, 0, 0, if j < i then f (n + j) else 0⟩
def F3 (f : Nat → Nat) (n i : Nat) : List Ent := (List.range n).map fun j => ⟨gid f j, 0, if j < i then f (2 * n + j) else 0, f (n + j)⟩
def F4 (f : Nat → Nat) (n i : Nat) : List Ent := (List.range n).map fun j => ⟨gid f j, if j < i then gof f n j else 0, f (2 * n + j), f (n + j)⟩
theorem gents_len (f : Nat → Nat) (n : Nat) : (gents f n).length = n := by simp [gents]
theorem F1_succ (f : Nat → Nat) (k : Nat) : F1 f (k + 1) = F1 f k ++ [⟨gid f k, 0, 0, 0⟩] := by simp [F1, List.range_succ]
theorem F2_zero (f : Nat → Nat) (n : Nat) : F2 f n 0 = F1 f n := by simp [F2, F1]
theorem F3_zero (f : Nat → Nat) (n : Nat) : F3 f n 0 = F2 f n n := by
  apply List.ext_getElem (by simp [F3, F2])
  intro i h1 h2
  simp [F3] at h1
  simp [F3, F2, h1]
theorem F4_zero (f : Nat → Nat) (n : Nat) : F4 f n 0 = F3 f n n := by
  apply List.ext_getElem (by simp [F4, F3])
  intro i h1 h2
  simp [F4] at h1
  simp [F4, F3, h1]
theorem F4_full (f : Nat → Nat) (n : Nat) : F4 f n n = gents f n := by
  apply List.ext_getElem (by simp [F4, gents])
  intro i h1 h2
  simp [F4] at h1
  simp [F4, gents, gent, h1]
theorem F2_set (f : Nat → Nat) (n i : Nat) (h : i < (F2 f n i).length) : (F2 f n i).set i { (F2 f n i)[i] with run := f (n + i) } = F2 f n (i + 1) := by
  apply List.ext_getElem (by simp [F2])
  intro j h1 h2
  by_cases e : i = j
  · subst e
    rw [List.getElem_set_self]
    simp [F2]
  · rw [List.getElem_set_ne e]
    have : (j < i) = (j < i + 1) := propext ⟨fun h => by omega, fun h => by omega⟩
    simp [F2, this]
theorem F3_set (f : Nat → Nat) (n i : Nat) (h : i < (F3 f n i).length) : (F3 f n i).set i { (F3 f n i)[i] with len := f (2 * n + i) } = F3 f n (i + 1) := by
  apply List.ext_getElem (by simp [F3])
  intro j h1 h2
  by_cases e : i = j
  · subst e
    rw [List.getElem_set_self]
    simp [F3]
  · rw [List.getElem_set_ne e]
    have : (j < i) = (j < i + 1) := propext ⟨fun h => by omega, fun h => by omega⟩
    simp [F3, this]
theorem F4_set (f : Nat → Nat) (n i : Nat) (h : i < (F4 f n i).length) : (F4 f n i).set i { (F4 f n i)[i] with off := gof f n i } = F4 f n (i + 1) := by
  apply List.ext_getElem (by simp [F4])
  intro j h1 h2
  by_cases e : i = j
  · subst e
    rw [List.getElem_set_self]
    simp [F4]
  · rw [List.getElem_set_ne e]
    have : (j < i) = (j < i + 1) := propext ⟨fun h => by omega, fun h => by omega⟩
    simp [F4, this]
theorem F4_prev (f : Nat → Nat) (n i q : Nat) (hq : i = q + 1) (h : q < (F4 f n i).length) : (F4 f n i)[q].off = gof f n q ∧ (F4 f n i)[q].len = f (2 * n + q) := by
  subst hq
  simp [F4]
theorem gents_at (f : Nat → Nat) (n i : Nat) (h : i < (gents f n).length) : (gents f n)[i] = gent f n i := by simp [gents]
theorem gents_big (f : Nat → Nat) (n : Nat) (hf : ∀ j, f j ≤ 18446744073709551615) : ∀ x ∈ gents f n, x.big := by
  intro x hx
  obtain ⟨j, _, rfl⟩ := List.mem_map.1 hx
  exact ⟨gid_big f hf j, gof_big f n hf j, hf _, hf _⟩
def GetR (bs : List UInt8) (r : List Ent × Nat) : Prop :=
  ∃ n p e, vr bs 0 = (n, p, e) ∧ (e ≠ 0 → r = ([], e)) ∧ (e = 0 → 65536 < n → r = ([], 9)) ∧ (e = 0 → n ≤ 65536 → Ef bs n p ≠ 0 → r = ([], Ef bs n p)) ∧
    (e = 0 → n ≤ 65536 → Ef bs n p = 0 → (pf bs n p < bs.length ∨ ¬ RightE (gents (val bs n p) n)) → r = ([], 3)) ∧
    (e = 0 → n ≤ 65536 → Ef bs n p = 0 → pf bs n p = bs.length → RightE (gents (val bs n p) n) → r = (gents (val bs n p) n, 0))
theorem rd_pf (bs : List UInt8) (n p0 : Nat) (h0 : p0 ≤ bs.length) (he : Ef bs n p0 = 0) : Ok bs n p0 (4 * n) (pf bs n p0) ∧ pf bs n p0 ≤ bs.length := by
  have hok : Ok bs n p0 (4 * n) (pf bs n p0) := by
    unfold Ok pf
    unfold Ef at he
    rw [← he]
  exact ⟨hok, (hok.bound h0).2⟩
end Go.Proofs.YtaapjampmnanmaaGreat
namespace Go.Proofs.YtaapjampmnanmaaGreat
open Go.RowKit
def Ent.zero : Ent := ⟨0, 0, 0, 0⟩
def Asc (es : List Ent) : Prop := ∀ a b (ha : a < es.length) (hb : b < es.length), a ≤ b → es[a].id ≤ es[b].id
theorem RightE.asc {es : List Ent} (h : RightE es) : Asc es := by
  intro a b ha hb hab
  obtain ⟨d, rfl⟩ : ∃ d, b = a + d := ⟨b - a, by omega⟩
  induction d with
  | zero => exact Nat.le_refl _
  | succ d ih =>
    have h1 := ih (by omega) (by omega)
    have h2 := h.2.2.2 (a + d) hb
    unfold Ent.next at h2
    have : es[a + d + 1] = es[a + (d + 1)] := rfl
    rw [this] at h2
    omega
def CutAt (es : List Ent) (id i : Nat) : Prop := i ≤ es.length ∧ (∀ j (h : j < es.length), j < i → es[j].id ≤ id) ∧ ∀ j (h : j < es.length), i ≤ j → id < es[j].id
theorem cmp_any (x : Ent) (id : Nat) (w : World) : Calls Tryz.prog 62 #[.agg x.cells, .int .u64 (id : Int)] w fun e w' => e = .returned (.int .i64 (if x.id ≤ id then -1 else 1)) ∧ Below w.heap.size w w' := by
  obtain ⟨a, b, c, d⟩ := x
  have hb := hide ((Below.refl w.heap.size w).alloc (Nat.le_refl _) (.cells #[Value.int .u64 (a : Int), .int .u64 (b : Int), .int .u64 (c : Int), .int .u64 (d : Int)] 36))
  unfold Ent.cells
  simp only
  by_cases h : a ≤ id
  · have hI : (a : Int) ≤ id := by omega
    rw [if_pos h]
    clear h
    go_enter Tryz.func62, Tryz.ntmps62
    go_wp2
    go_ret
    exact ⟨rfl, hb.out⟩
  · have hI : (id : Int) < a := by omega
    rw [if_neg h]
    clear h
    go_enter Tryz.func62, Tryz.ntmps62
    go_wp2
    go_ret
    exact ⟨rfl, hb.out⟩
theorem results_row_tmp {P : Program} {fn : Func} {p u : Tmp} {ty : TypeId} (h : fn.results = #[.cell p ty, .tmp u]) (tmps : Array Value) (w : World) (g : Nat) (t : TypeId) (cs : Array Value) (fr : Nat × Nat) (d : TypeDesc)
    (hp : tmps.getD p undef = .pointer (some ⟨g, 0, none⟩)) (hg : w.heap[g]? = some (.cells cs t fr))
    (hu : P.underlying ty = some d) (hd : (match d with | .struct _ | .array _ _ => true | _ => false) = true) (hi : (P.info? ty).map (·.size) = some cs.size) :
    (results fn tmps).run P w = .ok (.tuple #[.agg cs, tmps.getD u undef]) w := by
  rw [results_cell_tmp h]
  have hp' : tmps[p]?.getD undef = .pointer (some ⟨g, 0, none⟩) := by simpa using hp
  simp [asAddr, hp', run_loadVar_row w g t ty cs fr d hg hu hd hi]
theorem info_ent (a b c d : Value) : (Tryz.prog.info? 36).map (·.size) = some (#[a, b, c, d] : Array Value).size := by kernel_rfl
theorem ent_one (a b c d : Int) : (#[Value.int .u64 a, .int .u64 b, .int .u64 c, .int .u64 d] : Array Value).all (·.oneCell') = true := by simp [Value.oneCell']
def Fd (es : List Ent) (id i : Nat) : Ent × Bool :=
  if i = 0 then (Ent.zero, false) else if 0 < (es.getD (i - 1) Ent.zero).run ∧ (es.getD (i - 1) Ent.zero).run ≤ id - (es.getD (i - 1) Ent.zero).id then (Ent.zero, false) else (es.getD (i - 1) Ent.zero, true)
set_option maxRecDepth 100000 in
set_option maxHeartbeats 1000000 in
theorem search_any (A : Option Addr) (c : Nat) (es : List Ent) (id : Nat) (w : World) (B : Nat) (hr : RdE w B A es) (hB : B ≤ w.heap.size) (hn : es.length ≤ 65536) (i0 : Nat) (hcut : CutAt es id i0) :
    Calls Tryz.prog 61 #[.slice A es.length c, .int .u64 (id : Int), .func (.func 62) #[] #[]] w fun e w' => e = .returned (.tuple #[.int .i64 (i0 : Int), .bool false]) ∧ Below w.heap.size w w' := by
  obtain ⟨n, hl⟩ : ∃ n, es.length = n := ⟨_, rfl⟩
  rw [hl]
  replace hr := hide hr
  replace hB := hide hB
  replace hcut := hide hcut
  have hnI : (n : Int) ≤ 65536 := by omega
  have hi0n : i0 ≤ n := by have := hcut.out.1; omega
  clear hn
  go_enter Tryz.func61, Tryz.ntmps61
  go_wp2
  go_loopw [9, 10] (fun x y wr => ∃ a b : Nat, x = .int .i64 (a : Int) ∧ y = .int .i64 (b : Int) ∧ a ≤ i0 ∧ i0 ≤ b ∧ b ≤ n ∧ Hid (Below w.heap.size w wr)) (fun x y _ => ((intOf y) - (intOf x)).toNat)
  case atStart => exact ⟨0, n, rfl, rfl, by omega, hi0n, by omega, hide (Below.refl _ _)⟩
  case round =>
    obtain ⟨a, b, rfl, rfl, ha, hbi, hbn, hb⟩ := hrel
    by_cases hlt : a < b
    · obtain ⟨h, hh⟩ : ∃ h, (a + b) / 2 = h := ⟨_, rfl⟩
      have hhn : h < n := by omega
      have hhl : h < es.length := by omega
      have hhI : ((a : Int) + b) / 2 = h := by omega
      have hhI2 : (h : Int) < n := by omega
      have haI : (a : Int) ≤ 65536 := by omega
      have hbI : (b : Int) ≤ 65536 := by omega
      have hlI : (a : Int) < b := by omega
      obtain ⟨bb, o, rfl, hbB, e0, e1, e2, e3⟩ := (hr.out.below (hb.out.mono hB.out)) h hhl
      have hcm := hide (fun W => cmp_any es[h] id W)
      have hup := hcut.out.2.1 h hhl
      have hdn := hcut.out.2.2 h hhl
      generalize es[h] = xe at *
      obtain ⟨xi, xo, xl, xr⟩ := xe
      unfold Ent.cells at hcm
      simp only at e0 e1 e2 e3 hcm hup hdn
      by_cases hle : xi ≤ id
      · simp only [if_pos hle] at hcm
        have h1 : h < i0 := by rcases Nat.lt_or_ge h i0 with h1 | h1; exact h1; have := hdn h1; omega
        go_wp2_with (go_at_call 62; (with_reducible refine (hcm.out _).mono ?_); rintro e w1 ⟨rfl, hb1⟩; have hb1 := hide (hb.out.trans (hb1.mono hb.out.size)))
        go_roundw
        case rel => exact ⟨h + 1, b, by go_num, rfl, by omega, by omega, by omega, hb1⟩
        case measure => simp [intOf] <;> omega
      · simp only [if_neg hle] at hcm
        have h1 : i0 ≤ h := by rcases Nat.lt_or_ge h i0 with h1 | h1; exact absurd (hup h1) hle; exact h1
        go_wp2_with (go_at_call 62; (with_reducible refine (hcm.out _).mono ?_); rintro e w1 ⟨rfl, hb1⟩; have hb1 := hide (hb.out.trans (hb1.mono hb.out.size)))
        go_roundw
        case rel => exact ⟨a, h, rfl, rfl, by omega, by omega, by omega, hb1⟩
        case measure => simp [intOf] <;> omega
    · obtain rfl : a = i0 := by omega
      obtain rfl : b = a := by omega
      by_cases hbn2 : b < n
      · have hbl : b < es.length := by omega
        have hbI : (b : Int) < n := by omega
        obtain ⟨bb, o, rfl, hbB, e0, e1, e2, e3⟩ := (hr.out.below (hb.out.mono hB.out)) b hbl
        have hcm := hide (fun W => cmp_any es[b] id W)
        have hdn := hcut.out.2.2 b hbl (Nat.le_refl _)
        generalize es[b] = xe at *
        obtain ⟨xi, xo, xl, xr⟩ := xe
        unfold Ent.cells at hcm
        simp only at e0 e1 e2 e3 hcm hdn
        rw [if_neg (by omega)] at hcm
        go_wp2_with (go_at_call 62; (with_reducible refine (hcm.out _).mono ?_); rintro e w1 ⟨rfl, hb1⟩; have hb1 := hide (hb.out.trans (hb1.mono hb.out.size)))
        go_ret2
        exact ⟨rfl, hb1.out⟩
      · have hbI : (n : Int) ≤ b := by omega
        go_wp2
        go_ret2
        exact ⟨rfl, hb.out⟩
set_option maxRecDepth 100000 in
set_option maxHeartbeats 1000000 in
theorem dfind_any (A : Option Addr) (c : Nat) (es : List Ent) (id : Nat) (w : World) (B : Nat) (hr : RdE w B A es) (hB : B ≤ w.heap.size) (hbg : ∀ x ∈ es, x.big) (hn : es.length ≤ maxLen) (hid : id ≤ 18446744073709551615) (r : Ent × Bool) (h1 : ¬ RightE es → r = (Ent.zero, false)) (h2 : RightE es → ∃ i, CutAt es id i ∧ r = Fd es id i) :
    Calls Tryz.prog 29 #[.slice A es.length c, .int .u64 (id : Int)] w fun e w' => e = .returned (.tuple #[.agg r.1.cells, .bool r.2]) ∧ Below w.heap.size w w' := by
  have hz : Ent.zero.cells = #[Value.int .u64 0, .int .u64 0, .int .u64 0, .int .u64 0] := rfl
  have hrW := hide (fun W (h : Below B w W) v hv => dright_any A c es W B (hr.below h) (by have := h.size; omega) hbg hn v hv)
  obtain ⟨G, hG⟩ : ∃ G, w.heap.size = G := ⟨_, rfl⟩
  have hb0 := hide ((Below.refl w.heap.size w).alloc (Nat.le_refl _) (.cells #[Value.int .u64 0, .int .u64 0, .int .u64 0, .int .u64 0] 36))
  have hk0 := hide (Blk.new w 36 #[Value.int .u64 0, .int .u64 0, .int .u64 0, .int .u64 0])
  rw [hG] at hb0 hk0 hB ⊢
  have hs0 := hide (show G + 1 ≤ (w.alloc (.cells #[Value.int .u64 0, .int .u64 0, .int .u64 0, .int .u64 0] 36)).heap.size by simp; omega)
  generalize hW0 : w.alloc (.cells #[Value.int .u64 0, .int .u64 0, .int .u64 0, .int .u64 0] 36) = W0 at *
  by_cases hR : RightE es
  · obtain ⟨i, hci, rfl⟩ := h2 hR
    have hrt := hide (hrW.out W0 (hb0.out.mono hB) true ⟨fun _ => rfl, fun _ => hR⟩)
    have hsr := hide (fun W (h : Below G w W) => search_any A c es id W B (hr.below (h.mono hB)) (by have := h.size; omega) hR.2.1 i hci)
    have hrL := hide (fun W (h : Below G w W) => hr.below (h.mono hB))
    by_cases hi0 : i = 0
    · subst hi0
      have hfd : Fd es id 0 = (Ent.zero, false) := rfl
      rw [hfd]
      generalize es.length = n at *
      clear h1 h2 hrW hbg hR hci hr
      go_enter Tryz.func29, Tryz.ntmps29
      go_wp2_with (first
        | (go_at_call 60; (with_reducible refine hrt.out.mono ?_); rintro e w1 ⟨rfl, hb1⟩; have hk1 := hide (hk0.out.below hb1 hk0.out.lt); have hb1 := hide (hb0.out.trans (hb1.mono (by have := hs0.out; omega))))
        | (go_at_call 61; (with_reducible refine (hsr.out _ hb1.out).mono ?_); rintro e w2 ⟨rfl, hb2⟩; have hkL := hide (hk1.out.below hb2 hk1.out.lt); have hbL := hide (hb1.out.trans (hb2.mono (by have := hb1.out.size; omega))))
        | (with_reducible refine wpList_store_row (o := ⟨none, .store 36 (.tmp 4) (.tmp 21), _, _, _, _⟩) rfl 36 (.tmp 4) (.tmp 21) rfl G #[Value.int .u64 0, .int .u64 0, .int .u64 0, .int .u64 0] rfl rfl 36 _ hkL.out.eq (info_ent _ _ _ _) rfl (ent_one 0 0 0 0) ?_))
      refine bodyPost_ret_by (results_row_tmp rfl _ _ G 36 #[Value.int .u64 0, .int .u64 0, .int .u64 0, .int .u64 0] (0, 0) _ rfl (hkL.out.row _) Tryz.underlying36 rfl (info_ent _ _ _ _)) rfl ⟨rfl, below_row hbL.out (Nat.le_refl _) _⟩
    · obtain ⟨q, rfl⟩ : ∃ q, i = q + 1 := ⟨i - 1, by omega⟩
      have hql : q < es.length := by have := hci.1; omega
      have hxq : es.getD q Ent.zero = es[q] := by rw [List.getD_eq_getElem?_getD, List.getElem?_eq_getElem hql]; rfl
      have hfd : Fd es id (q + 1) = if 0 < es[q].run ∧ es[q].run ≤ id - es[q].id then (Ent.zero, false) else (es[q], true) := by
        unfold Fd
        rw [if_neg (by omega), Nat.add_sub_cancel, hxq]
      have hle := hci.2.1 q hql (by omega)
      have hxb := hbg es[q] (List.getElem_mem hql)
      have hcells := hide (fun W (h : Below G w W) => (hrL.out W h) q hql)
      rw [hfd]
      have hnI : (q : Int) < es.length := by omega
      have hn6 : (es.length : Int) ≤ 65536 := by have := hR.2.1; omega
      have hwq : IntKind.i64.wrap (q : Int) = (q : Int) := by rw [IntKind.wrap_i64]; omega
      generalize es[q] = xe at *
      obtain ⟨xi, xo, xl, xr⟩ := xe
      simp only at hle hcells hxb ⊢
      simp only [Ent.big] at hxb
      obtain ⟨D, hD⟩ : ∃ D, id - xi = D := ⟨_, rfl⟩
      have hDI : ((id : Int) - (xi : Int)) % 18446744073709551616 = (D : Int) := by omega
      have hDW : IntKind.u64.wrap ((id : Int) - (xi : Int)) = (D : Int) := by rw [IntKind.wrap_u64]; omega
      rw [hD]
      generalize es.length = n at *
      clear h1 h2 hrW hbg hR hci hr hfd hxq hql hle hxb hD hrL hn hid
      by_cases hc : 0 < xr ∧ xr ≤ D
      · rw [if_pos hc]
        have hc1 : (0 : Int) < xr := by omega
        have hc2 : (xr : Int) ≤ D := by omega
        clear hc
        go_enter Tryz.func29, Tryz.ntmps29
        go_wp2_with (first
          | (go_at_call 60; (with_reducible refine hrt.out.mono ?_); rintro e w1 ⟨rfl, hb1⟩; have hk1 := hide (hk0.out.below hb1 hk0.out.lt); have hb1 := hide (hb0.out.trans (hb1.mono (by have := hs0.out; omega))))
          | (go_at_call 61; (with_reducible refine (hsr.out _ hb1.out).mono ?_); rintro e w2 ⟨rfl, hb2⟩; have hkL := hide (hk1.out.below hb2 hk1.out.lt); have hbL := hide (hb1.out.trans (hb2.mono (by have := hb1.out.size; omega))); obtain ⟨bb, o, rfl, hbB, e0, e1, e2, e3⟩ := hcells.out _ hbL.out; have hkM := hide (hkL.out.alloc (Obj.cells #[Value.int .u64 (xi : Int), .int .u64 (xo : Int), .int .u64 (xl : Int), .int .u64 (xr : Int)] 36)); have hbM := hide (hbL.out.trans ((Below.refl G w2).alloc (by have := hbL.out.size; omega) (Obj.cells #[Value.int .u64 (xi : Int), .int .u64 (xo : Int), .int .u64 (xl : Int), .int .u64 (xr : Int)] 36))))
          | (with_reducible refine wpList_store_row (o := ⟨none, .store 36 (.tmp 4) (.tmp 39), _, _, _, _⟩) rfl 36 (.tmp 4) (.tmp 39) rfl G #[Value.int .u64 0, .int .u64 0, .int .u64 0, .int .u64 0] rfl rfl 36 _ hkM.out.eq (info_ent _ _ _ _) rfl (ent_one 0 0 0 0) ?_))
        refine bodyPost_ret_by (results_row_tmp rfl _ _ G 36 #[Value.int .u64 0, .int .u64 0, .int .u64 0, .int .u64 0] (0, 0) _ rfl (hkM.out.row _) Tryz.underlying36 rfl (info_ent _ _ _ _)) rfl ⟨rfl, below_row hbM.out (Nat.le_refl _) _⟩
      · rw [if_neg hc]
        have hc' : xr = 0 ∨ (0 < xr ∧ D < xr) := by omega
        clear hc
        rcases hc' with hc1 | ⟨hc1, hc2⟩
        · have hc1I : (xr : Int) ≤ 0 := by omega
          clear hc1
          go_enter Tryz.func29, Tryz.ntmps29
          go_wp2_with (first
            | (go_at_call 60; (with_reducible refine hrt.out.mono ?_); rintro e w1 ⟨rfl, hb1⟩; have hk1 := hide (hk0.out.below hb1 hk0.out.lt); have hb1 := hide (hb0.out.trans (hb1.mono (by have := hs0.out; omega))))
            | (go_at_call 61; (with_reducible refine (hsr.out _ hb1.out).mono ?_); rintro e w2 ⟨rfl, hb2⟩; have hkL := hide (hk1.out.below hb2 hk1.out.lt); have hbL := hide (hb1.out.trans (hb2.mono (by have := hb1.out.size; omega))); obtain ⟨bb, o, rfl, hbB, e0, e1, e2, e3⟩ := hcells.out _ hbL.out; have hkM := hide (hkL.out.alloc (Obj.cells #[Value.int .u64 (xi : Int), .int .u64 (xo : Int), .int .u64 (xl : Int), .int .u64 (xr : Int)] 36)); have hbM := hide (hbL.out.trans ((Below.refl G w2).alloc (by have := hbL.out.size; omega) (Obj.cells #[Value.int .u64 (xi : Int), .int .u64 (xo : Int), .int .u64 (xl : Int), .int .u64 (xr : Int)] 36))))
            | (with_reducible refine wpList_store_row (o := ⟨none, .store 36 (.tmp 4) (.tmp 40), _, _, _, _⟩) rfl 36 (.tmp 4) (.tmp 40) rfl G #[Value.int .u64 (xi : Int), .int .u64 (xo : Int), .int .u64 (xl : Int), .int .u64 (xr : Int)] rfl rfl 36 _ hkM.out.eq (info_ent _ _ _ _) rfl (ent_one _ _ _ _) ?_))
          refine bodyPost_ret_by (results_row_tmp rfl _ _ G 36 #[Value.int .u64 (xi : Int), .int .u64 (xo : Int), .int .u64 (xl : Int), .int .u64 (xr : Int)] (0, 0) _ rfl (hkM.out.row _) Tryz.underlying36 rfl (info_ent _ _ _ _)) rfl ⟨rfl, below_row hbM.out (Nat.le_refl _) _⟩
        · have hc1I : (0 : Int) < xr := by omega
          have hc2I : (D : Int) < xr := by omega
          clear hc1 hc2
          go_enter Tryz.func29, Tryz.ntmps29
          go_wp2_with (first
            | (go_at_call 60; (with_reducible refine hrt.out.mono ?_); rintro e w1 ⟨rfl, hb1⟩; have hk1 := hide (hk0.out.below hb1 hk0.out.lt); have hb1 := hide (hb0.out.trans (hb1.mono (by have := hs0.out; omega))))
            | (go_at_call 61; (with_reducible refine (hsr.out _ hb1.out).mono ?_); rintro e w2 ⟨rfl, hb2⟩; have hkL := hide (hk1.out.below hb2 hk1.out.lt); have hbL := hide (hb1.out.trans (hb2.mono (by have := hb1.out.size; omega))); obtain ⟨bb, o, rfl, hbB, e0, e1, e2, e3⟩ := hcells.out _ hbL.out; have hkM := hide (hkL.out.alloc (Obj.cells #[Value.int .u64 (xi : Int), .int .u64 (xo : Int), .int .u64 (xl : Int), .int .u64 (xr : Int)] 36)); have hbM := hide (hbL.out.trans ((Below.refl G w2).alloc (by have := hbL.out.size; omega) (Obj.cells #[Value.int .u64 (xi : Int), .int .u64 (xo : Int), .int .u64 (xl : Int), .int .u64 (xr : Int)] 36))))
            | (with_reducible refine wpList_store_row (o := ⟨none, .store 36 (.tmp 4) (.tmp 40), _, _, _, _⟩) rfl 36 (.tmp 4) (.tmp 40) rfl G #[Value.int .u64 (xi : Int), .int .u64 (xo : Int), .int .u64 (xl : Int), .int .u64 (xr : Int)] rfl rfl 36 _ hkM.out.eq (info_ent _ _ _ _) rfl (ent_one _ _ _ _) ?_))
          refine bodyPost_ret_by (results_row_tmp rfl _ _ G 36 #[Value.int .u64 (xi : Int), .int .u64 (xo : Int), .int .u64 (xl : Int), .int .u64 (xr : Int)] (0, 0) _ rfl (hkM.out.row _) Tryz.underlying36 rfl (info_ent _ _ _ _)) rfl ⟨rfl, below_row hbM.out (Nat.le_refl _) _⟩
  · obtain rfl := h1 hR
    have hrt := hide (hrW.out W0 (hb0.out.mono hB) false ⟨fun h => absurd h hR, fun h => by cases h⟩)
    generalize es.length = n at *
    clear h1 h2 hrW hbg
    go_enter Tryz.func29, Tryz.ntmps29
    go_wp2_with (first
      | (go_at_call 60; (with_reducible refine hrt.out.mono ?_); rintro e w1 ⟨rfl, hb1⟩; have hk1 := hide (hk0.out.below hb1 hk0.out.lt); have hb1 := hide (hb0.out.trans (hb1.mono (by have := hs0.out; omega))))
      | (with_reducible refine wpList_store_row (o := ⟨none, .store 36 (.tmp 4) (.tmp 12), _, _, _, _⟩) rfl 36 (.tmp 4) (.tmp 12) rfl G #[Value.int .u64 0, .int .u64 0, .int .u64 0, .int .u64 0] rfl rfl 36 _ hk1.out.eq (info_ent _ _ _ _) rfl (ent_one 0 0 0 0) ?_))
    refine bodyPost_ret_by (results_row_tmp rfl _ _ G 36 #[Value.int .u64 0, .int .u64 0, .int .u64 0, .int .u64 0] (0, 0) _ rfl (hk1.out.row _) Tryz.underlying36 rfl (info_ent _ _ _ _)) rfl ⟨rfl, below_row hb1.out (Nat.le_refl _) _⟩
end Go.Proofs.YtaapjampmnanmaaGreat
namespace Go.Proofs.YtaapjampmnanmaaGreat
open Go.RowKit
structure Gs (w : World) (G : Nat) (ge gb ga : Nat) (A : Option Addr) (c : Nat) (bs : List UInt8) (E P : Nat) : Prop where
  ke : Blk w ge 31 #[.int .i64 (E : Int)]
  kb : Blk w gb 22 #[.slice A bs.length c]
  ka : Blk w ga 3 #[.int .i64 (P : Int)]
  he : G ≤ ge
  hb : G ≤ gb
  ha : G ≤ ga
  rd : Rd w G A bs.length (bs.map bv)
section
variable {w w' : World} {G ge gb ga : Nat} {A : Option Addr} {c : Nat} {bs : List UInt8} {E P : Nat}
theorem Gs.hG (h : Gs w G ge gb ga A c bs E P) : G ≤ w.heap.size := Nat.le_of_lt (Nat.lt_of_le_of_lt h.he h.ke.lt)
theorem Gs.chg {R : Nat → Prop} (h : Gs w G ge gb ga A c bs E P) (hc : Chg R w w') (h1 : ¬ R ge) (h2 : ¬ R gb) (h3 : ¬ R ga) (h4 : ∀ g, g < G → ¬ R g) : Gs w' G ge gb ga A c bs E P :=
  ⟨h.ke.chg hc h1, h.kb.chg hc h2, h.ka.chg hc h3, h.he, h.hb, h.ha, h.rd.chg hc h.hG (fun g hg _ => h4 g hg)⟩
theorem Gs.below (h : Gs w G ge gb ga A c bs E P) (hb : Below w.heap.size w w') : Gs w' G ge gb ga A c bs E P :=
  h.chg (R := fun _ => False) ⟨hb.os, hb.tape, hb.output, hb.size, fun k hl _ => hb.block k hl⟩ (fun h => h) (fun h => h) (fun h => h) (fun _ _ h => h)
theorem Gs.setE (h : Gs w G ge gb ga A c bs E P) (E' : Nat) : Gs (w.setCell ⟨ge, 0, none⟩ (.int .i64 (E' : Int))) G ge gb ga A c bs E' P ∧ Chg (fun k => k = ge) w (w.setCell ⟨ge, 0, none⟩ (.int .i64 (E' : Int))) := by
  have hc : Chg (fun k => k = ge) w (w.setCell ⟨ge, 0, none⟩ (.int .i64 (E' : Int))) := (Chg.refl (fun k => k = ge) w).setCell (p := ⟨ge, 0, none⟩) (.inr rfl) _
  exact ⟨⟨h.ke.set 0 _, h.kb.chg hc (h.kb.same h.ke (by decide)), h.ka.chg hc (h.ka.same h.ke (by decide)), h.he, h.hb, h.ha, h.rd.chg hc h.hG (fun g hg _ e => by have := h.he; omega)⟩, hc⟩
theorem Gs.setP (h : Gs w G ge gb ga A c bs E P) (P' : Nat) : Gs (w.setCell ⟨ga, 0, none⟩ (.int .i64 (P' : Int))) G ge gb ga A c bs E P' ∧ Chg (fun k => k = ga) w (w.setCell ⟨ga, 0, none⟩ (.int .i64 (P' : Int))) := by
  have hc : Chg (fun k => k = ga) w (w.setCell ⟨ga, 0, none⟩ (.int .i64 (P' : Int))) := (Chg.refl (fun k => k = ga) w).setCell (p := ⟨ga, 0, none⟩) (.inr rfl) _
  exact ⟨⟨h.ke.chg hc (h.ke.same h.ka (by decide)), h.kb.chg hc (h.kb.same h.ka (by decide)), h.ka.set 0 _, h.he, h.hb, h.ha, h.rd.chg hc h.hG (fun g hg _ e => by have := h.ha; omega)⟩, hc⟩
end
def NextR (bs : List UInt8) (E P v E' P' : Nat) : Prop := (E ≠ 0 → v = 0 ∧ E' = E ∧ P' = P) ∧ (E = 0 → vr bs P = (v, P', E'))
theorem NextR.ex (bs : List UInt8) (E P : Nat) : ∃ v E' P', NextR bs E P v E' P' := by
  by_cases h : E = 0
  · exact ⟨(vr bs P).1, (vr bs P).2.2, (vr bs P).2.1, fun h' => absurd h h', fun _ => rfl⟩
  · exact ⟨0, E, P, fun _ => ⟨rfl, rfl, rfl⟩, fun h' => absurd h' h⟩
set_option maxRecDepth 100000 in
set_option maxHeartbeats 1000000 in
theorem dnext_any (G ge gb ga : Nat) (A : Option Addr) (c : Nat) (bs : List UInt8) (E P v E' P' : Nat) (w : World) (h : Gs w G ge gb ga A c bs E P) (hP : E = 0 → P ≤ bs.length) (hn : bs.length ≤ 1048576) (hE : E ≤ 9) (hN : NextR bs E P v E' P') :
    Calls Tryz.prog 74 #[.pointer (some ⟨ge, 0, none⟩), .pointer (some ⟨gb, 0, none⟩), .pointer (some ⟨ga, 0, none⟩)] w fun e w' => e = .returned (.int .u64 (v : Int)) ∧ Gs w' G ge gb ga A c bs E' P' ∧ Chg (fun k => k = ge ∨ k = ga) w w' := by
  have c0 : w.cell? ⟨ge, 0, none⟩ = some (.int .i64 (E : Int)) := h.ke.cell 0
  have c1 : w.cell? ⟨gb, 0, none⟩ = some (.slice A bs.length c) := h.kb.cell 0
  have c2 : w.cell? ⟨ga, 0, none⟩ = some (.int .i64 (P : Int)) := h.ka.cell 0
  by_cases hE0 : E = 0
  · have hv := hide (varint_any A c bs P w G h.rd (hP hE0) hn v P' E' (hN.2 hE0))
    subst hE0
    have f0 := h.ke.free 0
    have f2 := h.ka.free 0
    have hs1 := h.setP P'
    have hs2 := hs1.1.setE E'
    have f3 := hs1.1.ke.free 0
    have hne : ge ≠ ga := h.ke.same h.ka (by decide)
    have hfin := hide (show Gs _ G ge gb ga A c bs E' P' ∧ Chg (fun k => k = ge ∨ k = ga) w _ from ⟨hs2.1, (hs1.2.mono (fun _ _ h => Or.inr h)).trans hs2.2 (fun _ _ h => Or.inl h)⟩)
    generalize bs.length = n at *
    clear h hP hn hE hN hs1 hs2
    go_enter Tryz.func74, Tryz.ntmps74
    go_wp2_with (go_at_call 73; (with_reducible refine hv.out.mono ?_); rintro e w' ⟨rfl, rfl⟩)
    go_ret
    exact ⟨rfl, hfin.out⟩
  · obtain ⟨rfl, rfl, rfl⟩ := hN.1 hE0
    have hEb : ((E' : Int) == 0) = false := by simp; omega
    have hEb2 : (E' == 0) = false := by simp; omega
    have hfin := hide h
    generalize bs.length = n at *
    clear h hP hn hN hE hE0
    go_enter Tryz.func74, Tryz.ntmps74
    go_wp2
    go_ret
    exact ⟨rfl, hfin.out, Chg.refl _ _⟩
end Go.Proofs.YtaapjampmnanmaaGreat
