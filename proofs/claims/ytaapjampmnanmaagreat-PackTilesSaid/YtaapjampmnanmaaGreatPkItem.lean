/- Layer 14 (pack): items in memory, and the first walk over them that numbers them. The conditions: where the slice lies. -/
import Derived.Test.YtaapjampmnanmaaGreatPkStab
import Derived.Test.YtaapjampmnanmaaGreatPkRow
import Derived.Test.YtaapjampmnanmaaGreatHilbX
namespace Go.Proofs.YtaapjampmnanmaaGreat
open Go.RowKit
set_option linter.unusedVariables false
set_option linter.unusedSimpArgs false
structure Im where
  z : Int
  x : Int
  y : Int
  A : Option Addr
  n : Nat
  c : Nat
  bs : List UInt8
def RdIm (w : World) (B : Nat) (A : Option Addr) (l : List Im) : Prop :=
  ∀ j (hj : j < l.length), ∃ b o, A = some ⟨b, o, none⟩ ∧ b < B ∧ w.cell? ⟨b, o + j * 4, none⟩ = some (.int .i64 l[j].z) ∧ w.cell? ⟨b, o + j * 4 + 1, none⟩ = some (.int .i64 l[j].x) ∧
    w.cell? ⟨b, o + j * 4 + 2, none⟩ = some (.int .i64 l[j].y) ∧ w.cell? ⟨b, o + j * 4 + 3, none⟩ = some (.slice l[j].A l[j].n l[j].c)
theorem RdIm.below {w w' : World} {B : Nat} {A : Option Addr} {l : List Im} (h : RdIm w B A l) (hb : Below B w w') : RdIm w' B A l := by
  intro j hj
  obtain ⟨b, o, h1, h2, h3, h4, h5, h6⟩ := h j hj
  exact ⟨b, o, h1, h2, by rw [hb.cell (p := ⟨_, _, none⟩) h2]; exact h3, by rw [hb.cell (p := ⟨_, _, none⟩) h2]; exact h4, by rw [hb.cell (p := ⟨_, _, none⟩) h2]; exact h5, by rw [hb.cell (p := ⟨_, _, none⟩) h2]; exact h6⟩
def Im.ok (m : Im) : Prop := IsPl m.z m.x m.y
def Im.num (m : Im) : Nat := Hilb.F m.z.toNat + Hilb.hil m.z.toNat m.x.toNat m.y.toNat
theorem num_le (m : Im) (h : m.ok) : m.num ≤ 1537228672809129301 := by
  obtain ⟨a, b, c, h1, h2, h3, h4, h5, h6⟩ := isPl_nat h
  unfold Im.num
  rw [h1, h2, h3]
  exact hil_bound a b c h4 h5 h6
theorem imid_any (m : Im) (w : World) : Calls Tryz.prog 32 #[.agg #[.int .i64 m.z, .int .i64 m.x, .int .i64 m.y]] w fun e w' =>
    ((m.ok ∧ e = .returned (.tuple #[.int .u64 (m.num : Int), .int .i64 0])) ∨ (¬ m.ok ∧ e = .returned (.tuple #[.int .u64 0, .int .i64 8]))) ∧ Below w.heap.size w w' := by
  by_cases h : m.ok
  · obtain ⟨a, b, c, h1, h2, h3, h4, h5, h6⟩ := isPl_nat h
    have hn : m.num = Hilb.F a + Hilb.hil a b c := by unfold Im.num; rw [h1, h2, h3]; rfl
    rw [h1, h2, h3]
    refine (id_yes a b c w h4 h5 h6).mono fun e w' ⟨he, hb⟩ => ⟨.inl ⟨h, by rw [he, hn]⟩, hb⟩
  · exact (id_no m.z m.x m.y w h).mono fun e w' ⟨he, hb⟩ => ⟨.inr ⟨h, he⟩, hb⟩
def Im.it (m : Im) : It := ⟨m.num, m.A, m.n, m.c, m.bs⟩
def Im.row (m : Im) : List Value := [.int .u64 (m.num : Int), .slice m.A m.n m.c]
theorem elem_num : ElemR Tryz.prog 124 129 (.agg #[.int .u64 0, .slice none 0 0]) 2 32 := ⟨Tryz.underlying124, by kernel_rfl, rfl, by omega, by omega⟩
def itf (l : List Im) (d : Im) : Nat → It := fun i => (l.getD i d).it
theorem itf_at (l : List Im) (d : Im) {i : Nat} (hi : i < l.length) : itf l d i = l[i].it := by
  unfold itf
  rw [List.getD_eq_getElem?_getD, List.getElem?_eq_getElem hi]
  rfl
theorem OwR.arr {w : World} {base g c : Nat} {l : List Im} (h : OwR w base 129 2 (some ⟨g, 0, none⟩) l.length c (l.map Im.row)) (d : Im) : Arr w g l.length (itf l d) := by
  intro i hi
  obtain ⟨g1, v1, e1, h1, c1, f1⟩ := h.cells i hi 0 (by omega)
  obtain ⟨g2, v2, e2, h2, c2, f2⟩ := h.cells i hi 1 (by omega)
  cases e1
  cases e2
  rw [List.getElem_map] at h1 h2
  cases h1
  cases h2
  rw [Nat.add_zero] at c1 f1
  exact ⟨by rw [itf_at l d hi]; exact c1, by rw [itf_at l d hi]; exact c2, f1, f2⟩
theorem itbig_any (m : Im) (w : World) (v : Bool) (hv : decide ((1048576 : Int) < (m.n : Int)) = v) : Calls Tryz.prog 99 #[.agg #[.int .i64 m.z, .int .i64 m.x, .int .i64 m.y, .slice m.A m.n m.c]] w fun e w' => e = .returned (.bool v) ∧ Below w.heap.size w w' := by
  obtain ⟨mz, mx, my, mA, mn, mc, mb⟩ := m
  simp only at hv
  have hb := hide ((Below.refl w.heap.size w).alloc (Nat.le_refl _) (.cells #[.int .i64 mz, .int .i64 mx, .int .i64 my, .slice mA mn mc] 67))
  cases v with
  | false =>
    go_enter Tryz.func99, Tryz.ntmps99
    go_wp2
    go_ret
    exact ⟨by first | (simp; done) | (simp; omega), hb.out⟩
  | true =>
    go_enter Tryz.func99, Tryz.ntmps99
    go_wp2
    go_ret
    exact ⟨by first | (simp; done) | (simp; omega), hb.out⟩
set_option maxRecDepth 100000 in
set_option maxHeartbeats 2000000 in
theorem itindex_any (A : Option Addr) (c B : Nat) (l : List Im) (w : World) (hr : RdIm w B A l) (hB : B ≤ w.heap.size) (hn : l.length ≤ 65536) :
    Calls Tryz.prog 128 #[.slice A l.length c, .func (.func 99) #[] #[]] w fun e w' => (∃ (t : Int) (v : Bool), e = .returned (.int .i64 t) ∧ decide (0 ≤ t) = v ∧ (v = true ↔ ∃ m ∈ l, 1048576 < m.n)) ∧ Below w.heap.size w w' := by
  obtain ⟨n, hl⟩ : ∃ n, l.length = n := ⟨_, rfl⟩
  have hnI : (n : Int) ≤ 65536 := by omega
  replace hr := hide hr
  rw [hl]
  clear hn
  replace hl := hide hl
  go_enter Tryz.func128, Tryz.ntmps128
  go_wp2
  go_loopw [8] (fun x wr => ∃ k : Nat, k ≤ n ∧ x = .int .i64 k ∧ Hid (∀ j (hj : j < l.length), j < k → l[j].n ≤ 1048576) ∧ Hid (Below w.heap.size w wr)) (fun x _ => n - (intOf x).toNat)
  case atStart => exact ⟨0, Nat.zero_le _, rfl, hide (fun _ _ h => absurd h (Nat.not_lt_zero _)), hide (Below.refl _ _)⟩
  case round =>
    obtain ⟨k, hk, rfl, hsm, hb⟩ := hrel
    by_cases hlt : k < n
    · have hkl : k < l.length := by have := hl.out; omega
      have hkI : (k : Int) < n := by omega
      obtain ⟨b, o, rfl, _, e0, e1, e2, e3⟩ := (hr.out.below (hb.out.mono hB)) k hkl
      have hmem := hide (List.getElem_mem hkl)
      obtain ⟨m, hm⟩ : ∃ m, l[k] = m := ⟨_, rfl⟩
      rw [hm] at e0 e1 e2 e3 hmem
      replace hm := hide hm
      obtain ⟨v, hv⟩ : ∃ v, decide ((1048576 : Int) < (m.n : Int)) = v := ⟨_, rfl⟩
      have hcm := hide (fun W => itbig_any m W v hv)
      replace hv := hide hv
      cases v with
      | false =>
        have hns := hide (show m.n ≤ 1048576 from by have := hv.out; rw [decide_eq_false_iff_not] at this; omega)
        obtain ⟨mz, mx, my, mA, mn, mc, mb⟩ := m
        simp only at e0 e1 e2 e3 hcm
        clear hv
        go_wp2_with (go_at_call 99; (with_reducible refine (hcm.out _).mono ?_); rintro e w1 ⟨rfl, hb1⟩; have hb1 := hide (hb.out.trans (hb1.mono hb.out.size)))
        go_roundw
        case rel => exact ⟨k + 1, by omega, by go_num, hide (fun j hj hjk => by
          rcases (show j < k ∨ j = k by omega) with h | rfl
          · exact hsm.out j hj h
          · rw [hm.out]; exact hns.out), hb1⟩
        case measure => simp [intOf] <;> omega
      | true =>
        have hns := hide (show 1048576 < m.n from by have := hv.out; rw [decide_eq_true_eq] at this; omega)
        have hex := hide (show ∃ m ∈ l, 1048576 < m.n from ⟨m, hmem.out, hns.out⟩)
        obtain ⟨mz, mx, my, mA, mn, mc, mb⟩ := m
        simp only at e0 e1 e2 e3 hcm
        clear hv hns
        go_wp2_with (go_at_call 99; (with_reducible refine (hcm.out _).mono ?_); rintro e w1 ⟨rfl, hb1⟩; have hb1 := hide (hb.out.trans (hb1.mono hb.out.size)))
        go_ret
        exact ⟨⟨(k : Int), true, rfl, by simp, fun _ => hex.out, fun _ => rfl⟩, hb1.out⟩
    · obtain rfl : k = n := by omega
      have hno := hide (show ¬ ∃ m ∈ l, 1048576 < m.n from by
        rintro ⟨m, hm, h⟩
        obtain ⟨j, hj, rfl⟩ := List.getElem_of_mem hm
        have := hsm.out j hj (by have := hl.out; omega)
        omega)
      go_wp2
      go_ret
      exact ⟨⟨-1, false, rfl, by decide, ⟨fun h => Bool.noConfusion h, fun h => absurd h hno.out⟩⟩, hb.out⟩
theorem itcontains_any (A : Option Addr) (c B : Nat) (l : List Im) (w : World) (hr : RdIm w B A l) (hB : B ≤ w.heap.size) (hn : l.length ≤ 65536) :
    Calls Tryz.prog 98 #[.slice A l.length c, .func (.func 99) #[] #[]] w fun e w' => (∃ v : Bool, e = .returned (.bool v) ∧ (v = true ↔ ∃ m ∈ l, 1048576 < m.n)) ∧ Below w.heap.size w w' := by
  have hi := hide (itindex_any A c B l w hr hB hn)
  obtain ⟨n, hl⟩ : ∃ n, l.length = n := ⟨_, rfl⟩
  rw [hl] at hi ⊢
  clear hr hB hn hl
  go_enter Tryz.func98, Tryz.ntmps98
  go_wp2_with (go_at_call 128; (with_reducible refine hi.out.mono ?_); rintro e w1 ⟨⟨t, v, rfl, htv, hv⟩, hb1⟩; replace hb1 := hide hb1; replace hv := hide hv)
  go_ret
  exact ⟨⟨v, by first | rfl | simp [htv], hv.out⟩, hb1.out⟩
end Go.Proofs.YtaapjampmnanmaaGreat
