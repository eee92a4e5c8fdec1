/- Layer 12 (dir): whether two lists of entries are the same, as the program and the document tell it. There is no condition but where the slices lie. -/
import Derived.Test.YtaapjampmnanmaaDirX
namespace Go.Proofs.Ytaapjampmnanmaa
open Go.RowKit

theorem same_upto {a b : List Ent} {k : Nat} (h : ∀ j (h1 : j < a.length) (h2 : j < b.length), j < k → a[j] = b[j]) (hk : k < a.length) (hk2 : k < b.length) (he : a[k] = b[k]) : ∀ j (h1 : j < a.length) (h2 : j < b.length), j < k + 1 → a[j] = b[j] := by
  intro j h1 h2 hj
  by_cases e : j = k
  · subst e; exact he
  · exact h j h1 h2 (by omega)

theorem neq_ent (W : World) {xi xo xl xr yi yo yl yr : Nat} (hee : ¬ (xi = yi ∧ xo = yo ∧ xl = yl ∧ xr = yr)) :
    (binOp .neq 57 (.agg #[Value.int .u64 (xi : Int), Value.int .u64 (xo : Int), Value.int .u64 (xl : Int), Value.int .u64 (xr : Int)]) (.agg #[Value.int .u64 (yi : Int), Value.int .u64 (yo : Int), Value.int .u64 (yl : Int), Value.int .u64 (yr : Int)])).run Try.prog W = .ok (.bool true) W := by
  obtain ⟨v0, h0⟩ : ∃ v, ((xi : Int) == (yi : Int)) = v := ⟨_, rfl⟩
  obtain ⟨v1, h1⟩ : ∃ v, ((xo : Int) == (yo : Int)) = v := ⟨_, rfl⟩
  obtain ⟨v2, h2⟩ : ∃ v, ((xl : Int) == (yl : Int)) = v := ⟨_, rfl⟩
  obtain ⟨v3, h3⟩ : ∃ v, ((xr : Int) == (yr : Int)) = v := ⟨_, rfl⟩
  have hand : (v0 && (v1 && (v2 && v3))) = false := by
    rw [← h0, ← h1, ← h2, ← h3]
    simp only [Bool.and_eq_false_iff, beq_eq_false_iff_ne, ne_eq]
    omega
  clear hee
  cases v0 <;> cases v1 <;> cases v2 <;> cases v3 <;> first | (simp at hand; done) | (clear hand; go_simp)

set_option maxRecDepth 100000 in
set_option maxHeartbeats 1000000 in
theorem refsame_any (A A2 : Option Addr) (c c2 : Nat) (es fs : List Ent) (w : World) (B : Nat) (hr : RdE w B A es) (hr2 : RdE w B A2 fs) (hn : es.length ≤ 65536) (hn2 : fs.length ≤ 65536) (v : Bool) (hv : es = fs ↔ v = true) :
    Calls Try.prog 11 #[.slice A es.length c, .slice A2 fs.length c2] w fun e w' => e = .returned (.bool v) ∧ Below w.heap.size w w' := by
  have hvf : Hid (es ≠ fs → v = false) := hide (fun h => by
    cases v
    · rfl
    · exact absurd (hv.2 rfl) h)
  replace hv := hide hv
  obtain ⟨n, hl⟩ : ∃ n, es.length = n := ⟨_, rfl⟩
  obtain ⟨m, hm⟩ : ∃ m, fs.length = m := ⟨_, rfl⟩
  rw [hl, hm]
  have hnI : (n : Int) ≤ 65536 := by omega
  have hmI : (m : Int) ≤ 65536 := by omega
  by_cases hne : n = m
  · obtain rfl := hne
    have hr := hide hr
    have hr2 := hide hr2
    go_enter Try.func11, Try.ntmps11
    go_wp2
    go_loopw [5] (fun i wr => ∃ k : Nat, k ≤ n ∧ i = .int .i64 k ∧ Hid (∀ j (h1 : j < es.length) (h2 : j < fs.length), j < k → es[j] = fs[j]) ∧ Hid (∃ m, wr = w.drewN m)) (fun i _ => n - (intOf i).toNat)
    case atStart => exact ⟨0, by omega, rfl, hide (fun j _ _ h => absurd h (Nat.not_lt_zero _)), hide ⟨0, rfl⟩⟩
    case round =>
      obtain ⟨k, hk, rfl, hT, hd⟩ := hrel
      obtain ⟨md, rfl⟩ := hd.out
      by_cases hlt : k < n
      · have hkl : k < es.length := by omega
        have hkl2 : k < fs.length := by omega
        have hkI : (k : Int) < n := by omega
        obtain ⟨b, o, rfl, _, e0, e1, e2, e3⟩ := hr.out k hkl
        obtain ⟨b2, o2, rfl, _, f0, f1, f2, f3⟩ := hr2.out k hkl2
        by_cases hee : es[k] = fs[k]
        · have hT2 := hide (same_upto hT.out hkl hkl2 hee)
          rw [← hee] at f0 f1 f2 f3
          generalize es[k] = xe at *
          obtain ⟨xi, xo, xl, xr⟩ := xe
          simp only at e0 e1 e2 e3 f0 f1 f2 f3
          clear hee
          go_upto_region 6 with fail
          go_quiet (fail)
          go_wp2
          go_roundw
          case rel => exact ⟨k + 1, by omega, by go_num, hT2, hide ⟨_, rfl⟩⟩
          case measure => simp [intOf] <;> omega
        · have hvf2 := hide (hvf.out (by
            intro h
            apply hee
            simp only [h]))
          generalize es[k] = xe at *
          generalize fs[k] = ye at *
          obtain ⟨xi, xo, xl, xr⟩ := xe
          obtain ⟨yi, yo, yl, yr⟩ := ye
          simp only [Ent.mk.injEq] at e0 e1 e2 e3 f0 f1 f2 f3 hee
          have hg := fun W : World => neq_ent W hee
          clear hee
          go_upto_region 6 with fail
          go_quiet (fail)
          go_wp2
          go_ret
          exact ⟨by rw [hvf2.out]; rfl, by first | exact below_drewN (below_drewN (Below.refl _ _) _) _ | exact below_drewN (Below.refl _ _) _⟩
      · obtain rfl : k = n := by omega
        have hvt := hide (hv.out.1 (List.ext_getElem (by omega) (fun j h1 h2 => hT.out j h1 h2 (by omega))))
        go_wp2
        go_ret
        exact ⟨by rw [hvt.out]; rfl, below_drewN (Below.refl _ _) _⟩
  · have hvf2 := hide (hvf.out (by intro h; apply hne; rw [← hl, ← hm, h]))
    clear hl hm hv hvf
    go_enter Try.func11, Try.ntmps11
    go_wp2
    go_ret
    exact ⟨by rw [hvf2.out]; rfl, Below.refl _ _⟩

end Go.Proofs.Ytaapjampmnanmaa
