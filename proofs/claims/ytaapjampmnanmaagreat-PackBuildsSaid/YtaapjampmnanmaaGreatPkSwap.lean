/- Layer 14 (pack): items with their numbers in memory, and what the exchanges of the sort leave. The conditions: where the slice lies. -/
import Derived.Test.YtaapjampmnanmaaGreatMem
import Derived.Test.YtaapjampmnanmaaGreatSortLaw
import Derived.BigQuiet
import Derived.BigRegion
import Derived.Deep.LoopGhost
import Derived.Deep.DeepCutAuto
namespace Go.Proofs.YtaapjampmnanmaaGreat
open Go.RowKit
set_option linter.unusedVariables false
set_option linter.unusedSimpArgs false

/-- An item with its number: the number, the slice of its bytes, and the bytes. -/
structure It where
  id : Nat
  A : Option Addr
  n : Nat
  c : Nat
  bs : List UInt8
/-- The block g holds the items f 0 .. f (n - 1), and may be written. -/
def Arr (w : World) (g n : Nat) (f : Nat → It) : Prop := ∀ i, i < n → w.cell? ⟨g, i * 2, none⟩ = some (.int .u64 ((f i).id : Int)) ∧ w.cell? ⟨g, i * 2 + 1, none⟩ = some (.slice (f i).A (f i).n (f i).c) ∧
  w.frozen? ⟨g, i * 2, none⟩ = false ∧ w.frozen? ⟨g, i * 2 + 1, none⟩ = false
theorem Arr.below {w w' : World} {g n B : Nat} {f : Nat → It} (h : Arr w g n f) (hb : Below B w w') (hg : g < B) : Arr w' g n f := by
  intro i hi
  obtain ⟨h1, h2, h3, h4⟩ := h i hi
  have hbl := hb.block g hg
  refine ⟨(hb.cell (p := ⟨g, i * 2, none⟩) hg).trans h1, (hb.cell (p := ⟨g, i * 2 + 1, none⟩) hg).trans h2, ?_, ?_⟩
  · unfold World.frozen? at h3 ⊢; rw [hbl]; exact h3
  · unfold World.frozen? at h4 ⊢; rw [hbl]; exact h4
theorem Arr.drew {w : World} {g n : Nat} {f : Nat → It} (h : Arr w g n f) : Arr w.drew g n f := h
theorem Arr.drewN {w : World} {g n : Nat} {f : Nat → It} (h : Arr w g n f) (k : Nat) : Arr (w.drewN k) g n f := h
/-- One item put in place of what was there. -/
def oneIt (f : Nat → It) (j : Nat) (x : It) : Nat → It := fun k => if k = j then x else f k
theorem oneIt_same (f : Nat → It) (j : Nat) (x : It) : oneIt f j x j = x := if_pos rfl
theorem oneIt_ne (f : Nat → It) {i j : Nat} (x : It) (h : ¬ i = j) : oneIt f j x i = f i := if_neg h
/-- One item written. -/
theorem Arr.put {w : World} {g n : Nat} {f : Nat → It} (h : Arr w g n f) {j : Nat} (hj : j < n) (x : It) :
    Arr ((w.setCell ⟨g, j * 2, none⟩ (.int .u64 (x.id : Int))).setCell ⟨g, j * 2 + 1, none⟩ (.slice x.A x.n x.c)) g n (oneIt f j x) := by
  intro i hi
  obtain ⟨h1, h2, h3, h4⟩ := h i hi
  obtain ⟨e1, e2, _, _⟩ := h j hj
  have ne1 : (⟨g, j * 2, none⟩ : Addr) ≠ ⟨g, j * 2 + 1, none⟩ := by intro h; injection h with _ h _; omega
  have hf : ∀ (W : World) (p q : Addr) (u : Value), (W.setCell p u).frozen? q = W.frozen? q := fun W p q u => by simp
  by_cases hij : i = j
  · subst hij
    have e3 : (w.setCell ⟨g, i * 2, none⟩ (.int .u64 (x.id : Int))).cell? ⟨g, i * 2 + 1, none⟩ = some (.slice (f i).A (f i).n (f i).c) := by
      rw [World.cell?_setCell_other _ _ _ _ ne1]; exact e2
    refine ⟨?_, ?_, by rw [hf, hf]; exact h3, by rw [hf, hf]; exact h4⟩
    · rw [World.cell?_setCell_other _ _ _ _ (Ne.symm ne1), World.cell?_setCell_same _ _ _ e1, oneIt_same]
    · rw [World.cell?_setCell_same _ _ _ e3, oneIt_same]
  · have n1 : (⟨g, j * 2, none⟩ : Addr) ≠ ⟨g, i * 2, none⟩ := by intro h; injection h with _ h _; omega
    have n2 : (⟨g, j * 2 + 1, none⟩ : Addr) ≠ ⟨g, i * 2, none⟩ := by intro h; injection h with _ h _; omega
    have n3 : (⟨g, j * 2, none⟩ : Addr) ≠ ⟨g, i * 2 + 1, none⟩ := by intro h; injection h with _ h _; omega
    have n4 : (⟨g, j * 2 + 1, none⟩ : Addr) ≠ ⟨g, i * 2 + 1, none⟩ := by intro h; injection h with _ h _; omega
    refine ⟨?_, ?_, by rw [hf, hf]; exact h3, by rw [hf, hf]; exact h4⟩
    · rw [World.cell?_setCell_other _ _ _ _ n2, World.cell?_setCell_other _ _ _ _ n1, oneIt_ne f x hij]; exact h1
    · rw [World.cell?_setCell_other _ _ _ _ n4, World.cell?_setCell_other _ _ _ _ n3, oneIt_ne f x hij]; exact h2
theorem Arr.swap {w : World} {g n : Nat} {f : Nat → It} (h : Arr w g n f) {i j : Nat} (hi : i < n) (hj : j < n) :
    Arr ((((w.setCell ⟨g, i * 2, none⟩ (.int .u64 ((f j).id : Int))).setCell ⟨g, i * 2 + 1, none⟩ (.slice (f j).A (f j).n (f j).c)).setCell ⟨g, j * 2, none⟩ (.int .u64 ((f i).id : Int))).setCell ⟨g, j * 2 + 1, none⟩ (.slice (f i).A (f i).n (f i).c)) g n (St.swp f i j) := by
  have h2 := (h.put hi (f j)).put hj (f i)
  have e : oneIt (oneIt f i (f j)) j (f i) = St.swp f i j := by
    funext k
    unfold St.swp oneIt
    by_cases h1 : k = i
    · subst h1
      by_cases h2 : k = j
      · subst h2; simp
      · simp [h2]
    · simp [h1]
  rw [e] at h2
  exact h2
theorem chg_swap {w W : World} {g i j : Nat} {a b c d : Value} (h : Chg (fun q => q = g) w W) :
    Chg (fun q => q = g) w ((((W.setCell ⟨g, i * 2, none⟩ a).setCell ⟨g, i * 2 + 1, none⟩ b).setCell ⟨g, j * 2, none⟩ c).setCell ⟨g, j * 2 + 1, none⟩ d) :=
  (((h.setCell (.inr rfl) _).setCell (.inr rfl) _).setCell (.inr rfl) _).setCell (.inr rfl) _

/-- The value of the order of items. -/
abbrev cmpF : Value := .func (.func 96) #[] #[]

set_option maxRecDepth 100000 in
set_option maxHeartbeats 4000000 in
theorem swaprange_any (g n c a b m : Nat) (f : Nat → It) (w : World) (h : Arr w g n f) (hn : n ≤ 1048576) (hab : a + m ≤ b) (hbn : b + m ≤ n) :
    Calls Tryz.prog 203 #[.slice (some ⟨g, 0, none⟩) n c, .int .i64 (a : Int), .int .i64 (b : Int), .int .i64 (m : Int), cmpF] w fun e w' => e = .returned (.tuple #[]) ∧ Arr w' g n (St.swr f a b m) ∧ Chg (fun q => q = g) w w' := by
  have hnI : (n : Int) ≤ 1048576 := by omega
  have hmI : (m : Int) ≤ 1048576 := by omega
  go_enter Tryz.func203, Tryz.ntmps203
  go_wp2
  go_loopw [10] (fun i wr => ∃ k : Nat, k ≤ m ∧ i = .int .i64 k ∧ Hid (Arr wr g n (St.swr f a b k)) ∧ Hid (Chg (fun q => q = g) w wr)) (fun i _ => m - (intOf i).toNat)
  case atStart => exact ⟨0, by omega, rfl, hide (by rw [St.swr_zero]; exact h), hide (Chg.refl _ w)⟩
  case round =>
    obtain ⟨k, hk, rfl, hA, hC⟩ := hrel
    by_cases hlt : k < m
    · have hkI : (k : Int) < m := by omega
      obtain ⟨p, hp⟩ : ∃ p, a + k = p := ⟨_, rfl⟩
      obtain ⟨q, hq⟩ : ∃ q, b + k = q := ⟨_, rfl⟩
      have hpI : (a : Int) + (k : Int) = (p : Int) := by omega
      have hqI : (b : Int) + (k : Int) = (q : Int) := by omega
      have hpw : IntKind.i64.wrap (p : Int) = (p : Int) := by rw [IntKind.wrap_i64]; omega
      have hqw : IntKind.i64.wrap (q : Int) = (q : Int) := by rw [IntKind.wrap_i64]; omega
      have hpn : (p : Int) < (n : Int) := by omega
      have hqn : (q : Int) < (n : Int) := by omega
      obtain ⟨x0, x1, x2, x3⟩ := hA.out p (by omega)
      obtain ⟨y0, y1, y2, y3⟩ := hA.out q (by omega)
      have hS := hide (hA.out.swap (i := p) (j := q) (by omega) (by omega))
      have hC2 := hide (chg_swap (i := p) (j := q) (a := .int .u64 ((St.swr f a b k q).id : Int)) (b := .slice (St.swr f a b k q).A (St.swr f a b k q).n (St.swr f a b k q).c) (c := .int .u64 ((St.swr f a b k p).id : Int)) (d := .slice (St.swr f a b k p).A (St.swr f a b k p).n (St.swr f a b k p).c) hC.out)
      have hnext : St.swp (St.swr f a b k) p q = St.swr f a b (k + 1) := by rw [← hp, ← hq]; exact St.swr_succ f (by omega)
      rw [hnext] at hS
      replace hnext := hide hnext
      generalize St.swr f a b k p = X at *
      generalize St.swr f a b k q = Y at *
      replace hp := hide hp
      replace hq := hide hq
      go_upto_region 3 with fail
      go_region
      go_wp2
      go_roundw
      case rel => exact ⟨k + 1, by omega, by go_num, hide hS.out.drew, hide hC2.out.drew⟩
      case measure => simp [intOf] <;> omega
    · obtain rfl : k = m := by omega
      go_wp2
      go_end0
      exact ⟨rfl, hA.out, hC.out⟩

set_option maxRecDepth 100000 in
set_option maxHeartbeats 4000000 in
theorem rotate_any (g n c a m b : Nat) (f : Nat → It) (w : World) (h : Arr w g n f) (hn : n ≤ 1048576) (ham : a < m) (hmb : m < b) (hbn : b ≤ n) :
    Calls Tryz.prog 182 #[.slice (some ⟨g, 0, none⟩) n c, .int .i64 (a : Int), .int .i64 (m : Int), .int .i64 (b : Int), cmpF] w fun e w' => e = .returned (.tuple #[]) ∧ Arr w' g n (St.rot a m b f) ∧ Chg (fun q => q = g) w w' := by
  have hmI : (m : Int) ≤ 1048576 := by omega
  have haI : (a : Int) < (m : Int) := by omega
  have hbI : (m : Int) < (b : Int) := by omega
  have hbM : (b : Int) ≤ 1048576 := by omega
  obtain ⟨i0, hi0⟩ : ∃ i, m - a = i := ⟨_, rfl⟩
  obtain ⟨j0, hj0⟩ : ∃ j, b - m = j := ⟨_, rfl⟩
  have h1 : (m : Int) - (a : Int) = (i0 : Int) := by omega
  have h2 : (b : Int) - (m : Int) = (j0 : Int) := by omega
  have h1w : IntKind.i64.wrap (i0 : Int) = (i0 : Int) := by rw [IntKind.wrap_i64]; omega
  have h2w : IntKind.i64.wrap (j0 : Int) = (j0 : Int) := by rw [IntKind.wrap_i64]; omega
  obtain ⟨R, hR⟩ : ∃ R, St.rot a m b f = R := ⟨_, rfl⟩
  have hR0 := hide (show St.rot (m - i0) m (m + j0) f = R from by rw [← hR]; congr 1 <;> omega)
  rw [hR]
  replace h := hide h
  replace hR := hide hR
  go_enter Tryz.func182, Tryz.ntmps182
  go_wp2
  go_loopw [10, 11] (fun x y wr => ∃ i j : Nat, x = .int .i64 i ∧ y = .int .i64 j ∧ 0 < i ∧ 0 < j ∧ i ≤ m ∧ m + j ≤ n ∧ Hid (∃ X, Arr wr g n X ∧ St.rot (m - i) m (m + j) X = R) ∧ Hid (Chg (fun q => q = g) w wr)) (fun x y _ => (intOf x).toNat + (intOf y).toNat)
  case atStart => exact ⟨i0, j0, rfl, rfl, by omega, by omega, by omega, by omega, hide ⟨f, h.out, hR0.out⟩, hide (Chg.refl _ w)⟩
  case round =>
    clear h hR hR0 h1 h2 h1w h2w
    obtain ⟨i, j, rfl, rfl, hi, hj, him, hjn, hX, hC⟩ := hrel
    obtain ⟨X, hA, hRX⟩ := hX.out
    replace hA := hide hA
    replace hRX := hide hRX
    clear hX
    obtain ⟨p, hp⟩ : ∃ p, m - i = p := ⟨_, rfl⟩
    have hpI : (m : Int) - (i : Int) = (p : Int) := by omega
    have hpw : IntKind.i64.wrap (p : Int) = (p : Int) := by rw [IntKind.wrap_i64]; omega
    rcases Nat.lt_trichotomy i j with hlt | heq | hgt
    · have hltI : (i : Int) < (j : Int) := by omega
      have hneI : ((i : Int) != (j : Int)) = true := by simp; omega
      obtain ⟨d, hd⟩ : ∃ d, j - i = d := ⟨_, rfl⟩
      have hdI : (j : Int) - (i : Int) = (d : Int) := by omega
      have hdw : IntKind.i64.wrap (d : Int) = (d : Int) := by rw [IntKind.wrap_i64]; omega
      obtain ⟨t, ht⟩ : ∃ t, m + j = t := ⟨_, rfl⟩
      have htI : (m : Int) + (j : Int) = (t : Int) := by omega
      have htw : IntKind.i64.wrap (t : Int) = (t : Int) := by rw [IntKind.wrap_i64]; omega
      obtain ⟨q, hq⟩ : ∃ q, m + j - i = q := ⟨_, rfl⟩
      have hqI : (t : Int) - (i : Int) = (q : Int) := by omega
      have hqw : IntKind.i64.wrap (q : Int) = (q : Int) := by rw [IntKind.wrap_i64]; omega
      have hs := hide (swaprange_any g n c p q i X wr hA.out hn (by omega) (by omega))
      have hRn := hide (show St.rot (m - i) m (m + d) (St.swr X p q i) = R from by rw [← hRX.out, St.rot_lt X him hlt, hp, hq, hd])
      go_wp2_with (go_at_call 203; (with_reducible refine hs.out.mono ?_); rintro e w2 ⟨rfl, hA2, hC2⟩; have hC2 := hide (hC.out.trans hC2 (fun _ _ h => h)); replace hA2 := hide hA2)
      go_roundw
      case rel => exact ⟨i, d, rfl, rfl, hi, by omega, him, by omega, hide ⟨_, hA2.out, hRn.out⟩, hC2⟩
      case measure => simp [intOf] <;> omega
    · subst heq
      have hs := hide (swaprange_any g n c p m i X wr hA.out hn (by omega) (by omega))
      have hRn := hide (show St.swr X p m i = R from by rw [← hRX.out, St.rot_eq X him, hp])
      rw [hRn.out] at hs
      go_wp2_with (go_at_call 203; (with_reducible refine hs.out.mono ?_); rintro e w2 ⟨rfl, hA2, hC2⟩; have hC2 := hide (hC.out.trans hC2 (fun _ _ h => h)); replace hA2 := hide hA2)
      go_end0
      exact ⟨rfl, hA2.out, hC2.out⟩
    · have hltI : (j : Int) < (i : Int) := by omega
      have hneI : ((i : Int) != (j : Int)) = true := by simp; omega
      obtain ⟨d, hd⟩ : ∃ d, i - j = d := ⟨_, rfl⟩
      have hdI : (i : Int) - (j : Int) = (d : Int) := by omega
      have hdw : IntKind.i64.wrap (d : Int) = (d : Int) := by rw [IntKind.wrap_i64]; omega
      have hs := hide (swaprange_any g n c p m j X wr hA.out hn (by omega) (by omega))
      have hRn := hide (show St.rot (m - d) m (m + j) (St.swr X p m j) = R from by rw [← hRX.out, St.rot_gt X him hgt, hp, hd])
      go_wp2_with (go_at_call 203; (with_reducible refine hs.out.mono ?_); rintro e w2 ⟨rfl, hA2, hC2⟩; have hC2 := hide (hC.out.trans hC2 (fun _ _ h => h)); replace hA2 := hide hA2)
      go_roundw
      case rel => exact ⟨d, j, rfl, rfl, by omega, hj, by omega, hjn, hide ⟨_, hA2.out, hRn.out⟩, hC2⟩
      case measure => simp [intOf] <;> omega

end Go.Proofs.YtaapjampmnanmaaGreat
