/- Layer 4 (inflate): the codes that a block tells. The conditions: where things lie. -/
import Derived.Test.YthplpoijkebjbaaInfDyn
import Derived.Test.YthplpoijkebjbaaDefSto
import Derived.Deep.RegionHeld3
namespace Go.Proofs.Ythplpoijkebjbaa
open Go.RowKit
set_option linter.unusedVariables false

theorem Inf.bind_assoc {α β γ : Type} (p : Inf.M α) (f : α → Inf.M β) (g : β → Inf.M γ) (a : Nat) (o : List UInt8) : Inf.bind (Inf.bind p f) g a o = Inf.bind p (fun x => Inf.bind (f x) g) a o := by
  unfold Inf.bind
  cases p a o <;> rfl
theorem Inf.bind_is {α β : Type} {p : Inf.M α} {f : α → Inf.M β} {a a' : Nat} {o o' : List UInt8} {y : β} (h : Inf.bind p f a o = .inr (y, a', o')) : ∃ x a1 o1, p a o = .inr (x, a1, o1) ∧ f x a1 o1 = .inr (y, a', o') := by
  cases hp : p a o with
  | inl e => rw [Inf.bind_err hp] at h; cases h
  | inr r =>
    obtain ⟨x, a1, o1⟩ := r
    exact ⟨x, a1, o1, rfl, by rwa [Inf.bind_ok hp] at h⟩
theorem Inf.often_is {l : List Bool} {acc : List Nat} {s n v a a' : Nat} {o o' : List UInt8} (h : Inf.often l acc s a o = .inr ((n, v), a', o')) (hs : s ≤ 18) (h15 : ∀ x ∈ acc, x ≤ 15) : v ≤ 15 := by
  unfold Inf.often at h
  split at h
  · split at h
    · cases h
    · rename_i h16 hne
      obtain ⟨k, a1, o1, _, h2⟩ := Inf.bind_is h
      cases h2
      have hl : 0 < acc.length := List.length_pos_iff.2 hne
      rw [List.getD_eq_getElem?_getD, List.getElem?_eq_getElem (by omega), Option.getD_some]
      exact h15 _ (List.getElem_mem _)
  · split at h
    · obtain ⟨k, a1, o1, _, h2⟩ := Inf.bind_is h
      cases h2
      exact Nat.zero_le _
    · split at h
      · obtain ⟨k, a1, o1, _, h2⟩ := Inf.bind_is h
        cases h2
        exact Nat.zero_le _
      · cases h
        omega
theorem Inf.lens_is {l : List Bool} {ls : List Nat} {many : Nat} (hl : ls.length ≤ 19) : ∀ (f : Nat) (acc : List Nat) (a a' : Nat) (o o' : List UInt8) (x : List Nat), Inf.lens l ls many f acc a o = .inr (x, a', o') → acc.length ≤ many → (∀ y ∈ acc, y ≤ 15) → x.length = many ∧ ∀ y ∈ x, y ≤ 15 := by
  intro f
  induction f with
  | zero => intro acc a a' o o' x h; cases h
  | succ f ih =>
    intro acc a a' o o' x h hacc h15
    rw [Inf.lens] at h
    split at h
    · cases h
      exact ⟨by omega, h15⟩
    · obtain ⟨s, a1, o1, hs, h⟩ := Inf.bind_is h
      obtain ⟨⟨n, v⟩, a2, o2, hv, h⟩ := Inf.bind_is h
      have hs18 : s ≤ 18 := by have := (Inf.sym_is hs).1; omega
      have hv15 := Inf.often_is hv hs18 h15
      simp only at h
      split at h
      · cases h
      · refine ih _ _ _ _ _ _ h (by rw [List.length_append, List.length_replicate]; omega) ?_
        intro y hy
        rcases List.mem_append.1 hy with hy | hy
        · exact h15 y hy
        · rw [(List.mem_replicate.1 hy).2]
          exact hv15
theorem Inf.order_le : ∀ i < 19, Inf.order.getD i 0 ≤ 18 := by decide
theorem nz_jv (ls : List Nat) : (nz ls).map iv = ls.map jv := by simp [nz, iv, jv, Function.comp_def]
theorem made_ints (n : Nat) : madeCells #[.int .i64 0] n = ((List.replicate n 0).map jv).toArray := by
  apply Array.toList_inj.1
  apply List.ext_getElem
  · simp [size_madeCells]
  · intro i h1 h2
    simp [madeCells, Nat.mod_one, jv]
def orderA : Array Value := (Inf.order.map jv).toArray
theorem order_any (w : World) : Calls Try.prog 34 #[] w fun e w' => e = .returned (.slice (some ⟨w.heap.size, 0, none⟩) 19 19) ∧ Blk w' w.heap.size 3 orderA ∧ Below w.heap.size w w' := by
  go_enter Try.func34, Try.ntmps34
  go_wp2
  go_ret
  exact ⟨rfl, Blk.new w 3 orderA, (Below.refl _ w).alloc (Nat.le_refl _) _⟩
theorem order_at (i : Nat) (h : i < 19) : orderA[i]? = some (.int .i64 ((Inf.order.getD i 0 : Nat) : Int)) := by
  unfold orderA
  rw [List.getElem?_toArray, List.getElem?_map, List.getD_eq_getElem?_getD, List.getElem?_eq_getElem (show i < Inf.order.length from h)]
  rfl
theorem Rd.blk {w : World} {g : Nat} {t : TypeId} {xs : List Value} (h : Blk w g t xs.toArray) : Rd w w.heap.size (some ⟨g, 0, none⟩) xs.length xs :=
  ⟨rfl, fun j _ => ⟨g, 0, rfl, h.lt, by rw [h.cell, Nat.zero_add, List.getElem?_toArray]⟩⟩
/-- A part of a slice of integers. -/
theorem Rd.part {w : World} {B n : Nat} {A : Option Addr} {xs : List Nat} (h : Rd w B A n (xs.map jv)) (k : Nat) (hk : k ≤ n) : Rd w B A k ((xs.take k).map jv) := by
  have := h.sub 0 k (by omega)
  rw [List.drop_zero, ← List.map_take] at this
  cases A with
  | none => exact this
  | some a => exact this
theorem Rd.past {w : World} {B n : Nat} {A : Option Addr} {xs : List Nat} (h : Rd w B A n (xs.map jv)) (k : Nat) (hk : k ≤ n) : Rd w B (A.map fun x => x.add k) (n - k) ((xs.drop k).map jv) := by
  have := h.sub k (n - k) (by omega)
  rw [← List.map_drop, List.take_of_length_le (by rw [List.length_map, List.length_drop]; have := h.1; rw [List.length_map] at this; omega)] at this
  exact this

theorem itake {P : Program} {ops : Array Oper} {md : Region.Mode} {Q : Exit → Act → World → Prop} {S : World → Prop} {i d : Nat} {oi : Oper} {v : Value} {fuel : Nat} {listed : Array Bool} {a : Act} {w : World} (hi : ops[i]? = some oi) (hd : oi.dst = some d)
    (hs : Region.noSelect ops = true) (hf : Region.free md ops listed i = true) (hr : (Region.ready md ops listed).contains i = true)
    (hQ : ∀ c a w, Q (.panic c) (a.put (some d) v) w → Q (.panic c) a w) (hy : YieldsIf P ops S oi v a) (hS : S w)
    (h : wpAnyH P md ops Q S fuel (listed.setIfInBounds i true) (a.put (some d) v) w) : wpAnyH P md ops Q S (fuel + 1) listed a w :=
  wpAnyH_take hi hs hf hr (by rw [hd]; exact hQ) hy hS (by rw [hd]; exact h)

section
variable {B gu gr most a : Nat} {bs o : List UInt8} {w : World}
/-- The codes that a block has told. -/
def Told (x : List Nat × List Nat) (v : Value) (w' : World) : Prop :=
  ∃ g1 g2 B1 B2, v = .tuple #[.pointer (some ⟨g1, 0, none⟩), .pointer (some ⟨g2, 0, none⟩)] ∧ CodeAt B1 w' g1 x.1 ∧ CodeAt B2 w' g2 x.2 ∧ x.1.length ≤ 288 ∧ x.2.length ≤ 288 ∧ Huf.sum x.1 ≤ 32768 ∧ Huf.sum x.2 ≤ 32768

set_option maxRecDepth 100000 in
set_option maxHeartbeats 8000000 in
theorem udynamic (h : UAt B gu gr most bs w a o) (R : Inf.R (List Nat × List Nat)) (hR : Inf.dynamic (Bit.bitsOf bs) a o = R) :
    Calls Try.prog 82 #[.pointer (some ⟨gu, 0, none⟩)] w (UQ B gu gr most bs w Told R) := by
  have hBs := hide h.size
  have hu1 := hide (ubits h 5 (by decide))
  have hR1 := hide (show Inf.bind (Inf.bits (Bit.bitsOf bs) 5) _ a o = R from hR)
  clear h hR
  go_enter Try.func82, Try.ntmps82
  go_wp2_with fail
  refine UP.go hu1.out (fun er w2 e2 b2 k2 => ⟨rfl, .inl ⟨er, hR1.out.symm.trans (Inf.bind_err e2), rfl, b2, k2⟩⟩) ?_
  intro va a2 o2 w2 e2 u2 b2 k2
  have hR2 := hide ((Inf.bind_ok e2).symm.trans hR1.out)
  have hva := (Inf.bits_is e2).1
  have hu2 := hide (ubits u2 5 (by decide))
  have b2 := hide b2
  have k2 := hide k2
  obtain ⟨K, hK⟩ : ∃ K : Nat, va + 257 = K := ⟨_, rfl⟩
  have hwa : IntKind.i64.wrap (257 + (va : Int)) = (K : Int) := by rw [IntKind.wrap_i64]; omega
  clear e2 hR1 hu1 u2
  go_wp2_with fail
  refine UP.go hu2.out (fun er w3 e3 b3 k3 => ⟨rfl, .inl ⟨er, hR2.out.symm.trans (Inf.bind_err e3), rfl, b2.out.trans b3, k2.out.trans k3⟩⟩) ?_
  intro vb a3 o3 w3 e3 u3 b3 k3
  have hR3 := hide ((Inf.bind_ok e3).symm.trans hR2.out)
  have hvb := (Inf.bits_is e3).1
  have b3 := hide (b2.out.trans b3)
  have k3 := hide (k2.out.trans k3)
  obtain ⟨J, hJ⟩ : ∃ J : Nat, vb + 1 = J := ⟨_, rfl⟩
  have hwb : IntKind.i64.wrap (1 + (vb : Int)) = (J : Int) := by rw [IntKind.wrap_i64]; omega
  clear e3 hR2 hu2 b2 k2
  by_cases hab : 29 < va ∨ 29 < vb
  · have hR4 := hide (show Sum.inl 3 = R from by have := hR3.out; rwa [if_pos hab] at this)
    clear hR3 u3
    rcases hab with hab | hab
    · have t1 : (287 : Int) ≤ (K : Int) := by omega
      clear hab hK hJ
      go_wp2
      exact ⟨rfl, .inl ⟨3, hR4.out.symm, rfl, b3.out, k3.out⟩⟩
    · by_cases hab2 : 29 < va
      · have t1 : (287 : Int) ≤ (K : Int) := by omega
        clear hab hab2 hK hJ
        go_wp2
        exact ⟨rfl, .inl ⟨3, hR4.out.symm, rfl, b3.out, k3.out⟩⟩
      · have t1 : (K : Int) ≤ 286 := by omega
        have t2 : (31 : Int) ≤ (J : Int) := by omega
        clear hab hab2 hK hJ
        go_wp2
        exact ⟨rfl, .inl ⟨3, hR4.out.symm, rfl, b3.out, k3.out⟩⟩
  · have t1 : (K : Int) ≤ 286 := by omega
    have t2 : (J : Int) ≤ 30 := by omega
    have t1n : K ≤ 286 := by omega
    have t2n : J ≤ 30 := by omega
    have t5 : (257 : Int) ≤ (K : Int) := by omega
    have t6 : (1 : Int) ≤ (J : Int) := by omega
    have t7 : 257 ≤ K := by omega
    have t8 : 1 ≤ J := by omega
    rw [hK] at hR3
    have hKJ : va + vb + 258 = K + J := by omega
    have hKJ2 : va + vb + 259 = K + J + 1 := by omega
    have hKJ := hide hKJ
    have hKJ2 := hide hKJ2
    clear hK hJ
    have hR4 := hide (show Inf.bind (Inf.bits (Bit.bitsOf bs) 4) _ a3 o3 = R from by have := hR3.out; rw [if_neg hab] at this; exact this)
    have t3 : decide ((286 : Int) < (K : Int)) = false := by simp; omega
    have t4 : decide ((30 : Int) < (J : Int)) = false := by simp; omega
    have hu4 := hide (ubits u3 4 (by decide))
    clear hR3 u3 hab
    go_wp2_with fail
    refine UP.go hu4.out (fun er w4 e4 b4 k4 => ⟨rfl, .inl ⟨er, hR4.out.symm.trans (Inf.bind_err e4), rfl, b3.out.trans b4, k3.out.trans k4⟩⟩) ?_
    intro vm a4 o4 w4 e4 u4 b4 k4
    have hR5 := hide ((Inf.bind_ok e4).symm.trans hR4.out)
    have hvm := (Inf.bits_is e4).1
    have b4 := hide (b3.out.trans b4)
    have k4 := hide (k3.out.trans k4)
    obtain ⟨m, hm⟩ : ∃ m : Nat, vm + 4 = m := ⟨_, rfl⟩
    have hwm : IntKind.i64.wrap (4 + (vm : Int)) = (m : Int) := by rw [IntKind.wrap_i64]; omega
    have hm19 : m ≤ 19 := by omega
    have hmI : (m : Int) ≤ 19 := by omega
    rw [hm] at hR5
    clear hm hvm
    have u4 := hide u4
    have hmk : ∀ W : World, (Instr.makeSlice 53 (.int .i64 19) (.int .i64 19)).run Try.prog W = .ok (.slice (some ⟨W.heap.size, 0, none⟩) 19 19) (W.alloc (.cells (madeCells #[.int .i64 0] 19) 3)) := fun W => run_make_row' 53 3 (.int .i64 0) 8 Try.underlying53 (by kernel_rfl) rfl .i64 .i64 19 (by omega) (by omega) W
    clear e4 hR4 hu4 b3 k3
    obtain ⟨w5, hw5⟩ : ∃ W, w4.alloc (.cells (madeCells #[.int .i64 0] 19) 3) = W := ⟨_, rfl⟩
    obtain ⟨gl, hgl⟩ : ∃ G, w4.heap.size = G := ⟨_, rfl⟩
    have be45 := hide (show Below w4.heap.size w4 w5 from by rw [← hw5]; exact (Below.refl _ w4).alloc (Nat.le_refl _) _)
    have kl5 := hide (show Blk w5 gl 3 ((List.replicate 19 0).map jv).toArray from by rw [← hw5, ← hgl, ← made_ints]; exact Blk.new w4 _ _)
    have hgw := hide (show w.heap.size ≤ gl from by rw [← hgl]; exact k4.out.1)
    have ho5 := hide (order_any w5)
    go_wp2_with fail
    clear hmk
    refine ho5.out.mono ?_
    rintro e w6 ⟨rfl, kO6, b56⟩
    obtain ⟨gO, hgO⟩ : ∃ G, w5.heap.size = G := ⟨_, rfl⟩
    rw [hgO] at kO6
    rw [hgO]
    have hgO2 := hide (show w.heap.size ≤ gO from by rw [← hgO]; exact Nat.le_trans k4.out.1 be45.out.size)
    have hne := hide (show gl ≠ gO from by rw [← hgl, ← hgO, ← hw5]; simp)
    have kl6 := hide (kl5.out.below b56 kl5.out.lt)
    have u6 := hide ((u4.out.below be45.out).below b56)
    have b6 := hide (b4.out.trans ((be45.out.trans (b56.mono be45.out.size)).mono (Nat.le_trans hBs.out k4.out.1)))
    have k6 := hide ((k4.out.trans (KeepU.below be45.out)).trans (KeepU.below b56))
    have kO6 := hide kO6
    clear b56 hgO hw5 hgl kl5 ho5 u4 b4 k4 be45
    have hlenO : orderA.size = 19 := rfl
    clear hlenO
    obtain ⟨RS, hRS⟩ : ∃ RS : List Nat → Inf.M (List Nat × List Nat), (fun c => Inf.bind (Inf.need c false) fun _ => Inf.bind (Inf.lens (Bit.bitsOf bs) c (K + J) (K + J + 1) []) fun ls =>
        if ls.getD 256 0 = 0 then Inf.err 3
        else Inf.bind (Inf.need (ls.take K) false) fun _ => Inf.bind (Inf.need (ls.drop K) true) fun _ =>
          Inf.ret (ls.take K, ls.drop K)) = RS := ⟨_, rfl⟩
    have hR6 := hide (show Inf.bind (Inf.three (Bit.bitsOf bs) (m - 0) 0 (List.replicate 19 0)) RS a4 o4 = R from by
      rw [← hRS, Nat.sub_zero]
      have := hR5.out
      rw [hKJ.out, hKJ2.out] at this
      exact this)
    have hRS := hide hRS
    clear hR5
    go_wp2
    go_loopw [9, 33] (fun _ s33 wr => ∃ (i a' : Nat) (o' : List UInt8) (acc : List Nat), i ≤ m ∧ s33 = .int .i64 (i : Int) ∧ Hid (acc.length = 19) ∧ Hid (∀ y ∈ acc, y ≤ 15) ∧ Hid (Inf.bind (Inf.three (Bit.bitsOf bs) (m - i) i acc) RS a' o' = R) ∧ Hid (Blk wr gl 3 (acc.map jv).toArray) ∧ Hid (Blk wr gO 3 orderA) ∧ Hid (UAt B gu gr most bs wr a' o') ∧ Hid (Below B w wr) ∧ Hid (KeepU w wr)) (fun _ s33 _ => m - (intOf s33).toNat)
    case atStart => exact ⟨0, a4, o4, List.replicate 19 0, Nat.zero_le _, rfl, hide (by simp), hide (by intro y hy; rw [(List.mem_replicate.1 hy).2]; exact Nat.zero_le _), hR6, hide kl6, kO6, u6, b6, k6⟩
    case round =>
      clear hR6 kl6 kO6 u6 b6 k6
      obtain ⟨i, a', o', acc, hi, rfl, hal, h15, hR, kl, kO, u, b, k⟩ := hrel
      by_cases hlt : i < m
      · have hltI : (i : Int) < (m : Int) := by omega
        have hiI : (i : Int) ≤ 18 := by omega
        have hi0 : (0 : Int) ≤ (i : Int) := by omega
        have hq := Inf.order_le i (by omega)
        have cO : wr.cell? ⟨gO, i, none⟩ = some (.int .i64 ((Inf.order.getD i 0 : Nat) : Int)) := by rw [kO.out.cell, order_at i (by omega)]
        have hR7 := hide (show Inf.bind (Inf.bits (Bit.bitsOf bs) 3) (fun v => Inf.bind (Inf.three (Bit.bitsOf bs) (m - (i + 1)) (i + 1) (acc.set (Inf.order.getD i 0) v)) RS) a' o' = R from by
          have := hR.out
          rw [show m - i = m - (i + 1) + 1 from by omega, Inf.three, Inf.bind_assoc] at this
          exact this)
        generalize Inf.order.getD i 0 = q at *
        have hqI : (q : Int) ≤ 18 := by omega
        have hq0 : (0 : Int) ≤ (q : Int) := by omega
        have hu7 := hide (ubits u.out 3 (by decide))
        clear hR u
        go_wp2_with fail
        refine UP.go hu7.out (fun er w7 e7 b7 k7 => ⟨rfl, .inl ⟨er, hR7.out.symm.trans (Inf.bind_err e7), rfl, b.out.trans b7, k.out.trans k7⟩⟩) ?_
        intro v a7 o7 w7 e7 u7 b7 k7
        have hR8 := hide ((Inf.bind_ok e7).symm.trans hR7.out)
        have hv := (Inf.bits_is e7).1
        have kl7 := k7.row kl.out (by decide) (by decide) (by decide)
        have kO7 := hide (k7.row kO.out (by decide) (by decide) (by decide))
        have b7 := hide (b.out.trans b7)
        have k7 := hide (k.out.trans k7)
        have f7 := kl7.free q
        have c7 : ∃ z, w7.cell? ⟨gl, q, none⟩ = some z := by
          rw [kl7.cell, List.getElem?_toArray, List.getElem?_map, List.getElem?_eq_getElem (by rw [hal.out]; omega)]
          exact ⟨_, rfl⟩
        obtain ⟨z, c7⟩ := c7
        have kl7 := hide kl7
        have u7 := hide u7
        clear hR7 hu7 e7 b k kl kO cO
        go_wp2
        obtain ⟨w8, hw8⟩ : ∃ W, w7.setCell ⟨gl, q, none⟩ (.int .i64 (v : Int)) = W := ⟨_, rfl⟩
        rw [hw8]
        have hch := hide (show Chg (fun k => k = gl) w7 w8 from by rw [← hw8]; exact (Chg.refl (fun k => k = gl) w7).setCell (p := ⟨gl, q, none⟩) (.inr rfl) _)
        have kl8 := hide (show Blk w8 gl 3 ((acc.set q v).map jv).toArray from by
          have := kl7.out.set q (.int .i64 (v : Int))
          rw [hw8] at this
          rw [List.map_set, ← List.setIfInBounds_toArray]
          exact this)
        have kO8 := hide (kO7.out.chg hch.out (fun e => hne.out e.symm))
        have u8 := hide (u7.out.calm hch.out (fun k cs t fz hk hx => (by subst hk; have h1 := kl7.out; unfold Blk at h1; rw [h1] at hx; injection hx with hx; injection hx with _ ht; subst ht; exact ⟨by decide, by decide, by decide⟩)))
        have b8 := hide (b7.out.trans (hch.out.to_below (Nat.le_trans hBs.out k7.out.1) (fun k hk => by subst hk; exact Nat.le_trans hBs.out hgw.out)))
        have k8 := hide (k7.out.past hch.out (fun k hk => by subst hk; exact hgw.out))
        have hal8 := hide (show (acc.set q v).length = 19 from by rw [List.length_set]; exact hal.out)
        have h158 := hide (show ∀ y ∈ acc.set q v, y ≤ 15 from fun y hy => by
          rcases List.mem_or_eq_of_mem_set hy with h | h
          · exact h15.out y h
          · omega)
        clear hw8 hch kl7 kO7 u7 b7 k7 f7 c7
        go_roundw
        case rel => exact ⟨i + 1, a7, o7, acc.set q v, by omega, by go_num, hal8, h158, hR8, kl8, kO8, u8, b8, k8⟩
        case measure => simp [intOf] <;> omega
      · obtain rfl : i = m := by omega
        have hR7 := hide (show RS acc a' o' = R from by have := hR.out; rwa [Nat.sub_self] at this)
        rw [← hRS.out] at hR7
        have hR7' := hR7.out
        dsimp only at hR7'
        have hrd := Rd.blk kl.out
        rw [List.length_map, hal.out, ← nz_jv] at hrd
        by_cases hf : Huf.fits acc false
        · have hR8 := hide ((Inf.bind_ok (show Inf.need acc false a' o' = .inr ((), a', o') from if_pos hf)).symm.trans hR7')
          have hco := hide (ucode_ok (some ⟨gl, 0, none⟩) 19 19 acc false wr wr.heap.size hrd (Nat.le_refl _) (by decide) h15.out hf)
          have hsum := hide (show Huf.sum acc ≤ 32768 from by rcases hf with h | ⟨h, _⟩ <;> omega)
          obtain ⟨M, hM⟩ : ∃ M, K + J = M := ⟨_, rfl⟩
          have hMI : (K : Int) + (J : Int) = (M : Int) := by omega
          have hMw : IntKind.i64.wrap (M : Int) = (M : Int) := by rw [IntKind.wrap_i64]; omega
          have hM4 : M ≤ 400 := by omega
          have hM0 : K < M := by omega
          have hMJ : M - K = J := by omega
          rw [hM] at hR8
          clear hR hRS hR7 hR7' hrd hf hM hne hgO2 hKJ hKJ2 kl kO
          go_wp2_with fail
          refine hco.out.mono ?_
          rintro e w9 ⟨g9, rfl, hc9, hb9⟩
          have k9 := hide (k.out.trans (KeepU.below hb9))
          have b9 := hide (b.out.trans (hb9.mono (Nat.le_trans hBs.out k.out.1)))
          have hl9 := hide (ulengths (u.out.below hb9) g9 wr.heap.size M acc hc9 (by rw [hal.out]; exact Nat.le_refl _) hsum.out (by omega) _ rfl)
          clear hco hb9 hc9 k b u hsum
          go_wp2_with fail
          refine UQ.go hl9.out (fun er w10 e10 b10 k10 => ⟨rfl, .inl ⟨er, hR8.out.symm.trans (Inf.bind_err e10), rfl, b9.out.trans b10, k9.out.trans k10⟩⟩) ?_
          rintro ls a10 o10 v10 w10 e10 ⟨A, c, rfl, ho10⟩ u10 b10 k10
          have hR9 := (Inf.bind_ok e10).symm.trans hR8.out
          obtain ⟨hlsl, hls15⟩ := Inf.lens_is (by rw [hal.out]; exact Nat.le_refl _) _ _ _ _ _ _ _ e10 (Nat.zero_le _) (fun y hy => by cases hy)
          rw [hlsl] at ho10
          have b10 := hide (b9.out.trans b10)
          have k10 := hide (k9.out.trans k10)
          have u10 := hide u10
          have hsz := hide ho10.rd
          obtain ⟨ga, rfl, _, _⟩ := ho10.pos (by omega)
          have hMc : M ≤ c := by
            rcases ho10.form with ⟨h, _⟩ | ⟨_, _, _, _, h, _⟩
            · cases h
            · exact h
          have hcm : c ≤ 9223372036854775807 := by
            rcases ho10.form with ⟨h, _⟩ | ⟨_, _, _, _, _, h⟩
            · cases h
            · exact h
          obtain ⟨x256, hx⟩ : ∃ x, ls.getD 256 0 = x := ⟨_, rfl⟩
          have c256 : w10.cell? ⟨ga, 256, none⟩ = some (.int .i64 (x256 : Int)) := by
            have h := ho10.cells (g := ga) rfl 256 (jv x256) (by rw [List.getElem?_map, ← hx, List.getD_eq_getElem?_getD, List.getElem?_eq_getElem (by omega)]; rfl)
            rwa [Addr.add_mid] at h
          rw [hx] at hR9
          clear e10 hR8 hl9 b9 k9 hx ho10 hMI hMw
          by_cases hx0 : x256 = 0
          · subst hx0
            have hR10 := hide (show Sum.inl 3 = R from by rw [if_pos rfl] at hR9; exact hR9)
            clear hR9 hsz
            go_wp2
            exact ⟨rfl, .inl ⟨3, hR10.out.symm, rfl, b10.out, k10.out⟩⟩
          · have hxb : ((x256 : Int) == 0) = false := by simp; omega
            rw [if_neg hx0] at hR9
            have hR9 := hide hR9
            have hKc : K < c := by omega
            have hKcI : (K : Int) < (c : Int) := by omega
            have hKMI : (K : Int) < (M : Int) := by omega
            have hrd := hsz.out
            have hA := (hrd.part K (by omega))
            have hB := (hrd.past K (by omega))
            rw [← nz_jv] at hA hB
            rw [hMJ] at hB
            have hl1 : (ls.take K).length = K := by rw [List.length_take]; omega
            have hl2 : (ls.drop K).length = J := by rw [List.length_drop]; omega
            have h151 : ∀ y ∈ ls.take K, y ≤ 15 := fun y hy => hls15 y (List.mem_of_mem_take hy)
            have h152 : ∀ y ∈ ls.drop K, y ≤ 15 := fun y hy => hls15 y (List.mem_of_mem_drop hy)
            have hB1 : ∀ W, Below w10.heap.size w10 W → Rd W w10.heap.size (some ⟨ga, K, none⟩) J ((nz (ls.drop K)).map iv) := fun W hb => by
              have h := hB.below hb
              rw [Option.map_some, Addr.add_mid, Nat.zero_add] at h
              exact h
            have bw : Below w10.heap.size w10 w10.drew := below_drewN (Below.refl _ w10) 1
            clear hls15 hsz hrd hB
            by_cases f1 : Huf.fits (ls.take K) false
            · have hR10 := hide ((Inf.bind_ok (show Inf.need (ls.take K) false a10 o10 = .inr ((), a10, o10) from if_pos f1)).symm.trans hR9.out)
              have hs1 := hide (show Huf.sum (ls.take K) ≤ 32768 from by rcases f1 with h | ⟨h, _⟩ <;> omega)
              have hc1 := hide (ucode_ok (some ⟨ga, 0, none⟩) K c (ls.take K) false w10.drew w10.heap.size (hA.below bw) (Nat.le_refl _) (by omega) h151 f1)
              by_cases f2 : Huf.fits (ls.drop K) true
              · have hR11 := hide ((Inf.bind_ok (show Inf.need (ls.drop K) true a10 o10 = .inr ((), a10, o10) from if_pos f2)).symm.trans hR10.out)
                have hs2 := hide (show Huf.sum (ls.drop K) ≤ 32768 from by rcases f2 with h | ⟨h, _⟩ <;> omega)
                have hc2 := hide (fun W (hb : Below w10.heap.size w10 W) => ucode_ok (some ⟨ga, K, none⟩) J (c - K) (ls.drop K) true W w10.heap.size (hB1 W hb) hb.size (by omega) h152 f2)
                have bw := hide bw
                have hl1 := hide hl1
                have hl2 := hide hl2
                clear hR9 hR10 hA hB1 h151 h152 f1 f2
                go_wp2
                go_region_with (first
                  | (go_at_call 112; (with_reducible refine (hc1.out).mono ?_); rintro e w11 ⟨g11, rfl, hc11, hb11⟩; have hc22 := hide (hc2.out w11 (bw.out.trans (hb11.mono bw.out.size))); have hc11 := hide hc11; have hb11 := hide hb11)
                  | (go_at_call 112; (with_reducible refine (hc22.out).mono ?_); rintro e w12 ⟨g12, rfl, hc12, hb12⟩; have hc12 := hide hc12; have hb12 := hide hb12))
                all_goals (
                  go_wp2
                  go_ret2
                  have hb := (bw.out.trans (hb11.out.mono bw.out.size)).trans (hb12.out.mono (Nat.le_trans bw.out.size hb11.out.size))
                  refine .inr ⟨_, a10, o10, _, hR11.out.symm, rfl, ⟨g11, g12, _, _, rfl, hc11.out.below hb12.out, hc12.out, by rw [hl1.out]; omega, by rw [hl2.out]; omega, hs1.out, hs2.out⟩, u10.out.below hb, b10.out.trans (hb.mono (Nat.le_trans hBs.out k10.out.1)), k10.out.trans (KeepU.below hb)⟩)
              · have hR11 := hide ((Inf.bind_err (show Inf.need (ls.drop K) true a10 o10 = .inl 3 from if_neg f2)).symm.trans hR10.out)
                have hc2 := hide (fun W (hb : Below w10.heap.size w10 W) => ucode_err (some ⟨ga, K, none⟩) J (c - K) (ls.drop K) true W w10.heap.size (hB1 W hb) (by omega) h152 f2)
                have bw := hide bw
                clear hR9 hR10 hA hB1 h151 h152 f1 f2 hl1 hl2
                go_wp2
                refine wp_region_held_drew (S := fun _ => True) (by kernel_rfl) trivial ?_
                intro hS0
                refine itake (i := 0) (d := 56) (v := .slice (some ⟨ga, 0, none⟩) M c) rfl rfl (by kernel_rfl) (by kernel_rfl) (by kernel_rfl) (fun _ _ _ h => h) (Or.inl ⟨by rfl, by (intro W _; go_simp)⟩) trivial ?_
                simp only [Act.put, List.setIfInBounds_toArray, List.set_cons_zero, List.set_cons_succ]
                refine itake (i := 1) (d := 57) (v := .int .i64 (K : Int)) rfl rfl (by kernel_rfl) (by kernel_rfl) (by kernel_rfl) (fun _ _ _ h => h) (Or.inl ⟨by rfl, by (intro W _; go_simp)⟩) trivial ?_
                simp only [Act.put, List.setIfInBounds_toArray, List.set_cons_zero, List.set_cons_succ]
                refine itake (i := 2) (d := 58) (v := .slice (some ⟨ga, 0, none⟩) K c) rfl rfl (by kernel_rfl) (by kernel_rfl) (by kernel_rfl) (fun _ _ _ h => h) (Or.inl ⟨by rfl, by (intro W _; go_simp; exact fun h => absurd h (by omega))⟩) trivial ?_
                simp only [Act.put, List.setIfInBounds_toArray, List.set_cons_zero, List.set_cons_succ]
                refine itake (i := 4) (d := 60) (v := .slice (some ⟨ga, 0, none⟩) M c) rfl rfl (by kernel_rfl) (by kernel_rfl) (by kernel_rfl) (fun _ _ _ h => h) (Or.inl ⟨by rfl, by (intro W _; go_simp)⟩) trivial ?_
                simp only [Act.put, List.setIfInBounds_toArray, List.set_cons_zero, List.set_cons_succ]
                refine itake (i := 5) (d := 61) (v := .int .i64 (K : Int)) rfl rfl (by kernel_rfl) (by kernel_rfl) (by kernel_rfl) (fun _ _ _ h => h) (Or.inl ⟨by rfl, by (intro W _; go_simp)⟩) trivial ?_
                simp only [Act.put, List.setIfInBounds_toArray, List.set_cons_zero, List.set_cons_succ]
                refine itake (i := 6) (d := 62) (v := .slice (some ⟨ga, K, none⟩) J (c - K)) rfl rfl (by kernel_rfl) (by kernel_rfl) (by kernel_rfl) (fun _ _ _ h => h) (Or.inl ⟨by rfl, by (intro W _; go_simp; rw [if_pos (by omega), if_neg (by omega)])⟩) trivial ?_
                simp only [Act.put, List.setIfInBounds_toArray, List.set_cons_zero, List.set_cons_succ]
                refine wpAnyH_ready (rs := [3]) (by kernel_rfl) (by simp) ?_
                refine AllReadyH.cons rfl (fun K_ hK_ => ?_) AllReadyH.nil
                rw [if_pos (by rfl)]
                have hK_ := hide hK_
                go_simp
                (with_reducible refine (hc1.out).mono ?_)
                rintro e w11 ⟨g11, rfl, hc11, hb11⟩
                have hc22 := hide (hc2.out w11 (bw.out.trans (hb11.mono bw.out.size)))
                have hb := bw.out.trans (hb11.mono bw.out.size)
                clear hc11 hb11
                refine hK_.out _ _ trivial (fun _ => ?_)
                clear hK_
                refine wpAnyH_ready (rs := [7]) (by kernel_rfl) (by simp) ?_
                refine AllReadyH.cons rfl (fun K_ hK_ => ?_) AllReadyH.nil
                rw [if_pos (by rfl)]
                have hK_ := hide hK_
                have hb := hide hb
                go_simp
                (with_reducible refine (hc22.out).mono ?_)
                rintro e w12 ⟨rfl, rfl⟩
                exact ⟨rfl, .inl ⟨3, hR11.out.symm, rfl, b10.out.trans (hb.out.mono (Nat.le_trans hBs.out k10.out.1)), k10.out.trans (KeepU.below hb.out)⟩⟩
            · have hR10 := hide ((Inf.bind_err (show Inf.need (ls.take K) false a10 o10 = .inl 3 from if_neg f1)).symm.trans hR9.out)
              have hc1 := hide (ucode_err (some ⟨ga, 0, none⟩) K c (ls.take K) false w10.drew w10.heap.size (hA.below bw) (by omega) h151 f1)
              have bw := hide bw
              clear hR9 hA hB1 h151 h152 f1 hl1 hl2
              go_wp2
              refine wp_region_held_drew (S := fun _ => True) (by kernel_rfl) trivial ?_
              intro hS0
              refine itake (i := 0) (d := 56) (v := .slice (some ⟨ga, 0, none⟩) M c) rfl rfl (by kernel_rfl) (by kernel_rfl) (by kernel_rfl) (fun _ _ _ h => h) (Or.inl ⟨by rfl, by (intro W _; go_simp)⟩) trivial ?_
              simp only [Act.put, List.setIfInBounds_toArray, List.set_cons_zero, List.set_cons_succ]
              refine itake (i := 1) (d := 57) (v := .int .i64 (K : Int)) rfl rfl (by kernel_rfl) (by kernel_rfl) (by kernel_rfl) (fun _ _ _ h => h) (Or.inl ⟨by rfl, by (intro W _; go_simp)⟩) trivial ?_
              simp only [Act.put, List.setIfInBounds_toArray, List.set_cons_zero, List.set_cons_succ]
              refine itake (i := 2) (d := 58) (v := .slice (some ⟨ga, 0, none⟩) K c) rfl rfl (by kernel_rfl) (by kernel_rfl) (by kernel_rfl) (fun _ _ _ h => h) (Or.inl ⟨by rfl, by (intro W _; go_simp; exact fun h => absurd h (by omega))⟩) trivial ?_
              simp only [Act.put, List.setIfInBounds_toArray, List.set_cons_zero, List.set_cons_succ]
              refine itake (i := 4) (d := 60) (v := .slice (some ⟨ga, 0, none⟩) M c) rfl rfl (by kernel_rfl) (by kernel_rfl) (by kernel_rfl) (fun _ _ _ h => h) (Or.inl ⟨by rfl, by (intro W _; go_simp)⟩) trivial ?_
              simp only [Act.put, List.setIfInBounds_toArray, List.set_cons_zero, List.set_cons_succ]
              refine itake (i := 5) (d := 61) (v := .int .i64 (K : Int)) rfl rfl (by kernel_rfl) (by kernel_rfl) (by kernel_rfl) (fun _ _ _ h => h) (Or.inl ⟨by rfl, by (intro W _; go_simp)⟩) trivial ?_
              simp only [Act.put, List.setIfInBounds_toArray, List.set_cons_zero, List.set_cons_succ]
              refine itake (i := 6) (d := 62) (v := .slice (some ⟨ga, K, none⟩) J (c - K)) rfl rfl (by kernel_rfl) (by kernel_rfl) (by kernel_rfl) (fun _ _ _ h => h) (Or.inl ⟨by rfl, by (intro W _; go_simp; rw [if_pos (by omega), if_neg (by omega)])⟩) trivial ?_
              simp only [Act.put, List.setIfInBounds_toArray, List.set_cons_zero, List.set_cons_succ]
              refine wpAnyH_ready (rs := [3]) (by kernel_rfl) (by simp) ?_
              refine AllReadyH.cons rfl (fun K_ hK_ => ?_) AllReadyH.nil
              rw [if_pos (by rfl)]
              have hK_ := hide hK_
              go_simp
              (with_reducible refine (hc1.out).mono ?_)
              rintro e w11 ⟨rfl, rfl⟩
              exact ⟨rfl, .inl ⟨3, hR10.out.symm, rfl, b10.out.trans (bw.out.mono (Nat.le_trans hBs.out k10.out.1)), k10.out.trans (KeepU.below bw.out)⟩⟩
        · have hR8 := hide ((Inf.bind_err (show Inf.need acc false a' o' = .inl 3 from if_neg hf)).symm.trans hR7')
          have hco := hide (ucode_err (some ⟨gl, 0, none⟩) 19 19 acc false wr wr.heap.size hrd (by decide) h15.out hf)
          clear hR hRS hR7 hR7' hrd hf
          go_wp2_with fail
          refine hco.out.mono ?_
          rintro e w9 ⟨rfl, rfl⟩
          exact ⟨rfl, .inl ⟨3, hR8.out.symm, rfl, b.out, k.out⟩⟩
end

end Go.Proofs.Ythplpoijkebjbaa
