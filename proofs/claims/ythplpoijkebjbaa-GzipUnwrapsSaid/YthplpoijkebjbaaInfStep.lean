/- Layer 4 (inflate): the unpacker's small steps: bits, symbol, put. The conditions: where things lie. -/
import Derived.Test.YthplpoijkebjbaaInfMem
import Derived.Deep.QuietTactic
import Derived.BigQuiet
namespace Go.Proofs.Ythplpoijkebjbaa
open Go.RowKit
set_option linter.unusedVariables false

theorem must_ok (w : World) : Calls Try.prog 108 #[.int .i64 0] w fun e w' => e = .returned (.tuple #[]) ∧ w = w' := by
  go_enter Try.func108, Try.ntmps108
  go_wp2
  go_end0
  exact ⟨rfl, rfl⟩
theorem must_err (n : Nat) (hn : n ≠ 0) (w : World) : Calls Try.prog 108 #[.int .i64 (n : Int)] w fun e w' => e = .panicked (stopE n) ∧ w = w' := by
  have hz : ((n : Int) == 0) = false := by simp; omega
  have hz2 : ((n : Int) != 0) = true := by simp; omega
  go_enter Try.func108, Try.ntmps108
  go_wp2
  exact ⟨rfl, rfl, rfl⟩
theorem must_errI (n : Nat) (ni : Int) (hn : n ≠ 0) (he : (n : Int) = ni) (w : World) : Calls Try.prog 108 #[.int .i64 ni] w fun e w' => e = .panicked (stopE n) ∧ w = w' := by
  subst he
  exact must_err n hn w

section
variable {B gu gr most a : Nat} {bs o : List UInt8} {w : World}
theorem ubits (h : UAt B gu gr most bs w a o) (n : Nat) (hn : n ≤ 32) :
    Calls Try.prog 78 #[.pointer (some ⟨gu, 0, none⟩), .int .i64 (n : Int)] w (UP B gu gr most bs w (fun v : Nat => .int .i64 (v : Int)) (Inf.bits (Bit.bitsOf bs) n a o)) := by
  obtain ⟨ha, hl, _⟩ := h.bounds
  have hbl := Bit.bitsOf_length bs
  have h' := h
  obtain ⟨A, c, Ab, h1, h2, h3, h4, h5, h6⟩ := h'
  have c0 : w.cell? ⟨gu, 0, none⟩ = some (.pointer (some ⟨gr, 0, none⟩)) := h1.cell 0
  by_cases hle : a + n ≤ 8 * bs.length
  · have hr : Inf.bits (Bit.bitsOf bs) n a o = .inr (Bit.num (((Bit.bitsOf bs).drop a).take n), a + n, o) := if_pos (by omega)
    rw [hr]
    have hb := hide (rbits_ok gr Ab bs a n w B h2 (by omega) hn hle)
    have hv : Bit.num (((Bit.bitsOf bs).drop a).take n) < 4294967296 := by
      have h1 := Bit.num_lt (((Bit.bitsOf bs).drop a).take n)
      have h2 : (((Bit.bitsOf bs).drop a).take n).length ≤ 32 := by rw [List.length_take]; omega
      have h3 : 2 ^ (((Bit.bitsOf bs).drop a).take n).length ≤ 2 ^ 32 := Nat.pow_le_pow_right (by decide) h2
      exact Nat.lt_of_lt_of_le h1 h3
    generalize Bit.num (((Bit.bitsOf bs).drop a).take n) = v at *
    have hw : IntKind.i64.wrap (v : Int) = (v : Int) := by rw [IntKind.wrap_i64]; omega
    have hmv := hide (fun w' (hs : RdIs w' B gr Ab bs (a + n)) (hc : Chg (fun k => k = gr) w w') => UAt.moved h1 h2 h3 h4 h5 h6 hle hs hc)
    clear hbl hr h1 h2 h3 h4 h5 h6 hle hv ha hl h
    go_enter Try.func78, Try.ntmps78
    go_wp2_with (first
      | (go_at_call 107; (with_reducible refine hb.out.mono ?_); rintro e w1 ⟨rfl, h1, hc1⟩; have h1 := hide h1; have hc1 := hide hc1)
      | (go_at_call 108; (with_reducible refine (must_ok _).mono ?_); rintro e w2 ⟨rfl, rfl⟩))
    go_ret
    exact .inr ⟨v, a + n, o, rfl, rfl, hmv.out _ h1.out hc1.out⟩
  · have hr : Inf.bits (Bit.bitsOf bs) n a o = .inl 2 := if_neg (by omega)
    rw [hr]
    have hb := hide (rbits_short gr Ab bs a n w B h2 (by omega) ha hn (by omega))
    have hB := h.size
    clear hbl hr h1 h2 h3 h4 h5 h6 hle ha hl h
    go_enter Try.func78, Try.ntmps78
    go_wp2_with (first
      | (go_at_call 107; (with_reducible refine hb.out.mono ?_); rintro e w1 ⟨rfl, k1, rfl⟩)
      | (go_at_call 108; (with_reducible refine (must_errI 2 2 (by decide) rfl _).mono ?_); rintro e w2 ⟨rfl, rfl⟩))
    exact ⟨rfl, .inl ⟨2, rfl, rfl, below_drewN (Below.refl _ w) k1, KeepU.below (below_drewN (Below.refl _ w) k1)⟩⟩

theorem usym (h : UAt B gu gr most bs w a o) (gc B0 : Nat) (ls : List Nat) (hc : CodeAt B0 w gc ls) (hn : ls.length ≤ 288) (hs : Huf.sum ls ≤ 32768) :
    Calls Try.prog 110 #[.pointer (some ⟨gu, 0, none⟩), .pointer (some ⟨gc, 0, none⟩)] w (UP B gu gr most bs w (fun v : Nat => .int .i64 (v : Int)) (Inf.sym (Bit.bitsOf bs) ls a o)) := by
  obtain ⟨ha, hl, _⟩ := h.bounds
  have h' := h
  obtain ⟨A, c, Ab, h1, h2, h3, h4, h5, h6⟩ := h'
  have c0 : w.cell? ⟨gu, 0, none⟩ = some (.pointer (some ⟨gr, 0, none⟩)) := h1.cell 0
  obtain ⟨m, x, er, hd⟩ : ∃ m x er, Huf.dec ls ((Bit.bitsOf bs).drop a) 15 0 0 = (m, x, er) := ⟨_, _, _, rfl⟩
  have hb := hide (iread_any gc gr B0 B a Ab ls bs w hc h2 hl ha hn hs m x er hd)
  have hx : a + x ≤ 8 * bs.length := by
    have := (Huf.dec_le ls ((Bit.bitsOf bs).drop a) 15 0 0).2.2 (Nat.zero_le _)
    rw [hd, List.length_drop, Bit.bitsOf_length] at this
    simp only at this
    omega
  have hmv := hide (fun w' (hs : RdIs w' B gr Ab bs (a + x)) (hc : Chg (fun k => k = gr) w w') => UAt.moved h1 h2 h3 h4 h5 h6 hx hs hc)
  by_cases he : er = 0
  · subst he
    have hr : Inf.sym (Bit.bitsOf bs) ls a o = .inr (m, a + x, o) := Inf.sym_ok hd
    rw [hr]
    replace hd := hide hd
    clear h1 h2 h3 h4 h5 h6 hx hr ha hl h hc hn hs
    rw [show (((0 : Nat) : Nat) : Int) = 0 from rfl] at hb
    go_enter Try.func110, Try.ntmps110
    go_wp2_with (first
      | (go_at_call 124; (with_reducible refine hb.out.mono ?_); rintro e w1 ⟨rfl, h1, hc1⟩; have h1 := hide h1; have hc1 := hide hc1)
      | (go_at_call 108; (with_reducible refine (must_ok _).mono ?_); rintro e w2 ⟨rfl, rfl⟩))
    go_ret
    exact .inr ⟨m, a + x, o, rfl, rfl, hmv.out _ h1.out hc1.out⟩
  · have hr : Inf.sym (Bit.bitsOf bs) ls a o = .inl er := Inf.sym_err hd he
    rw [hr]
    replace hd := hide hd
    clear h1 h2 h3 h4 h5 h6 hx hr ha hl h hc hn hs
    go_enter Try.func110, Try.ntmps110
    go_wp2_with (first
      | (go_at_call 124; (with_reducible refine hb.out.mono ?_); rintro e w1 ⟨rfl, h1, hc1⟩; have h1 := hide h1; have hc1 := hide hc1)
      | (go_at_call 108; (with_reducible refine (must_err er he _).mono ?_); rintro e w2 ⟨rfl, rfl⟩))
    exact ⟨rfl, .inl ⟨er, rfl, rfl, (hmv.out _ h1.out hc1.out).2⟩⟩

theorem uput (h : UAt B gu gr most bs w a o) (x : UInt8) :
    Calls Try.prog 109 #[.pointer (some ⟨gu, 0, none⟩), .int .u8 (x.toNat : Int)] w (UP B gu gr most bs w (fun _ : Unit => .tuple #[]) (Inf.put most x a o)) := by
  obtain ⟨ha, hl, hom, hm⟩ := h.bounds
  have hB := h.size
  have h' := h
  obtain ⟨A, c, Ab, h1, h2, h3, h4, h5, h6⟩ := h'
  have c1 : w.cell? ⟨gu, 1, none⟩ = some (.slice A o.length c) := h1.cell 1
  have c2 : w.cell? ⟨gu, 2, none⟩ = some (.int .i64 (most : Int)) := h1.cell 2
  by_cases hf : most ≤ o.length
  · have hr : Inf.put most x a o = .inl 5 := if_pos hf
    rw [hr]
    obtain ⟨N, hN⟩ : ∃ N, o.length = N := ⟨_, rfl⟩
    rw [hN] at c1 hf
    have hI : (most : Int) ≤ (N : Int) := by omega
    clear hN h1 h2 h3 h4 h5 h6 hr ha hl h hom hm hf
    go_enter Try.func109, Try.ntmps109
    go_wp2
    go_quiet (fail)
    go_wp2
    exact ⟨rfl, .inl ⟨5, rfl, rfl, by first | exact below_drewN (Below.refl _ w) _ | exact Below.refl _ w, KeepU.below (by first | exact below_drewN (Below.refl _ w) _ | exact Below.refl _ w)⟩⟩
  · have hr : Inf.put most x a o = .inr ((), a, o ++ [x]) := if_neg hf
    rw [hr]
    have hwl := hide (fun (n : Nat) => @UAt.put B gu gr most a bs o (w.drewN n) x A c Ab h1 h2 h3 h4 h5 h6 hf)
    have hne : ¬ blk A = some gu := h3.ne h1 (by decide)
    have hmx : Hid (o.length + 1 ≤ 1048576) := hide (by omega)
    have h3 := hide h3
    have h1 := hide h1
    clear h2 h4 h5 h6 ha hl h hr hom hm
    obtain ⟨N, hN⟩ : ∃ N, o.length = N := ⟨_, rfl⟩
    rw [hN] at c1 hwl h3 h1 hmx hf
    have hI : (N : Int) < (most : Int) := by omega
    clear hf
    replace hN := hide hN
    replace hB := hide hB
    replace hne := hide hne
    go_enter Try.func109, Try.ntmps109
    go_wp2
    go_quiet (fail)
    go_wp2_with (at_builtin; refine wpList_append_one _ rfl (.tmp 20) (.tmp 22) rfl elem_byte rfl (show Ow (w.drewN _) B 5 A N c (o.map bv) from h3.out) (bv x) 5 _ rfl rfl (by have := hmx.out; simp only [maxLen]; omega) (by have := hmx.out; omega) hB.out ?_; intro A3 c3 w3 ho3 hg3 hn3; have hfin := hide (hwl.out _ ho3 hg3 hn3); have k3 := (show Blk (w.drewN _) gu _ _ from h1.out).chg hg3 hne.out; have d1 : w3.cell? ⟨gu, 1, none⟩ = some (.slice A N c) := k3.cell 1; have f1 := k3.free 1; clear ho3 hg3 hn3 k3)
    go_end0
    exact .inr ⟨(), a, o ++ [x], rfl, rfl, hfin.out.1, (below_drewN (Below.refl B w) _).trans hfin.out.2.1, (KeepU.below (below_drewN (Below.refl _ w) _)).trans hfin.out.2.2⟩
end

/-- A call on an unpacker within a walk. -/
theorem UP.go {B gu gr most : Nat} {bs : List UInt8} {w : World} {α : Type} {val : α → Value} {r : Inf.R α} {f : FuncId} {args : Array Value} {R : Ending → World → Prop}
    (h : Calls Try.prog f args w (UP B gu gr most bs w val r))
    (hp : ∀ er w', r = .inl er → Below B w w' → KeepU w w' → R (.panicked (stopE er)) w')
    (hk : ∀ x a o w', r = .inr (x, a, o) → UAt B gu gr most bs w' a o → Below B w w' → KeepU w w' → R (.returned (val x)) w') : Calls Try.prog f args w R := by
  refine h.mono ?_
  rintro e w' (⟨er, h1, rfl, h2, h3⟩ | ⟨x, a, o, h1, rfl, h2, h3, h4⟩)
  · exact hp er w' h1 h2 h3
  · exact hk x a o w' h1 h2 h3 h4
/-- The end of a call on an unpacker that makes memory of its own. -/
def UQ (B gu gr most : Nat) (bs : List UInt8) (w : World) {α : Type} (P : α → Value → World → Prop) (r : Inf.R α) (e : Ending) (w' : World) : Prop :=
  (∃ er, r = .inl er ∧ e = .panicked (stopE er) ∧ Below B w w' ∧ KeepU w w') ∨
  (∃ x a o v, r = .inr (x, a, o) ∧ e = .returned v ∧ P x v w' ∧ UAt B gu gr most bs w' a o ∧ Below B w w' ∧ KeepU w w')
theorem UQ.go {B gu gr most : Nat} {bs : List UInt8} {w : World} {α : Type} {P : α → Value → World → Prop} {r : Inf.R α} {f : FuncId} {args : Array Value} {R : Ending → World → Prop}
    (h : Calls Try.prog f args w (UQ B gu gr most bs w P r))
    (hp : ∀ er w', r = .inl er → Below B w w' → KeepU w w' → R (.panicked (stopE er)) w')
    (hk : ∀ x a o v w', r = .inr (x, a, o) → P x v w' → UAt B gu gr most bs w' a o → Below B w w' → KeepU w w' → R (.returned v) w') : Calls Try.prog f args w R := by
  refine h.mono ?_
  rintro e w' (⟨er, h1, rfl, h2, h3⟩ | ⟨x, a, o, v, h1, rfl, h0, h2, h3, h4⟩)
  · exact hp er w' h1 h2 h3
  · exact hk x a o v w' h1 h0 h2 h3 h4
theorem Inf.bits_is {l : List Bool} {n a v a' : Nat} {o o' : List UInt8} (h : Inf.bits l n a o = .inr (v, a', o')) : v < 2 ^ n ∧ a' = a + n ∧ o' = o ∧ a + n ≤ l.length := by
  unfold Inf.bits at h
  split at h
  · cases h
    refine ⟨?_, rfl, rfl, by assumption⟩
    have h1 := Bit.num_lt ((l.drop a).take n)
    have h2 : ((l.drop a).take n).length ≤ n := by rw [List.length_take]; omega
    exact Nat.lt_of_lt_of_le h1 (Nat.pow_le_pow_right (by decide) h2)
  · cases h

theorem Huf.sym_lt (ls : List Nat) (s v : Nat) (h : Huf.hits ls s v = true) : Huf.sym ls s v < ls.length := by
  unfold Huf.hits at h
  simp only [Bool.and_eq_true, decide_eq_true_eq] at h
  have hl : v - Huf.first ls s < (Huf.idx ls ls.length s).length := by
    rw [show (Huf.idx ls ls.length s).length = Huf.cnt ls s from rfl]
    omega
  unfold Huf.sym
  rw [List.getD_eq_getElem?_getD, List.getElem?_eq_getElem hl, Option.getD_some]
  exact (Huf.idx_at ls s ls.length _ hl).2.2
theorem Huf.dec_is (ls : List Nat) (l : List Bool) : ∀ r s v m x, Huf.dec ls l r s v = (m, x, 0) → m < ls.length ∧ s < x := by
  intro r
  induction r with
  | zero => intro s v m x h; cases h
  | succ r ih =>
    intro s v m x h
    rw [Huf.dec] at h
    split at h
    · cases h
    · split at h
      · rename_i hh
        cases h
        exact ⟨Huf.sym_lt ls _ _ hh, by omega⟩
      · have := ih _ _ _ _ h
        omega
theorem Inf.sym_is {l : List Bool} {ls : List Nat} {a m a' : Nat} {o o' : List UInt8} (h : Inf.sym l ls a o = .inr (m, a', o')) : m < ls.length ∧ a < a' ∧ o' = o := by
  unfold Inf.sym at h
  split at h
  · rename_i m' x' hd
    cases h
    obtain ⟨h1, h2⟩ := Huf.dec_is ls _ _ _ _ _ _ hd
    exact ⟨h1, by omega, rfl⟩
  · cases h

end Go.Proofs.Ythplpoijkebjbaa
