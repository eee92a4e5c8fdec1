/- Layer 14 (pack): entries in parts (Leaves of the reference). The conditions: where the entries lie; at most 65536 of them. -/
import Derived.Test.YtaapjampmnanmaaGreatPkRow
import Derived.Test.YtaapjampmnanmaaGreatDirX
import Derived.Deep.LoopGhost
namespace Go.Proofs.YtaapjampmnanmaaGreat
open Go.RowKit
set_option linter.unusedVariables false
set_option linter.unusedSimpArgs false

/-- Parts of n entries each, the last one maybe less. -/
def chk (n : Nat) : Nat → List Ent → List (List Ent)
  | 0, _ => []
  | f + 1, l => if l = [] then [] else l.take n :: chk n f (l.drop n)
theorem chk_nil (n f : Nat) : chk n f [] = [] := by cases f <;> rfl
theorem chk_fuel (n : Nat) (hn : 1 ≤ n) : ∀ (f f' : Nat) (l : List Ent), l.length ≤ f → l.length ≤ f' → chk n f l = chk n f' l := by
  intro f
  induction f with
  | zero =>
    intro f' l h _
    obtain rfl : l = [] := List.eq_nil_of_length_eq_zero (by omega)
    rw [chk_nil, chk_nil]
  | succ f ih =>
    intro f' l h h'
    by_cases hl : l = []
    · subst hl; rw [chk_nil, chk_nil]
    · have hp : 0 < l.length := List.length_pos_iff.2 hl
      obtain ⟨g, rfl⟩ : ∃ g, f' = g + 1 := ⟨f' - 1, by omega⟩
      rw [chk, chk, if_neg hl, if_neg hl, ih g (l.drop n) (by rw [List.length_drop]; omega) (by rw [List.length_drop]; omega)]
theorem chk_round {M k t : Nat} {rest : List Ent} (hk : 0 < k) (hl : rest.length = k) (hM : 1 ≤ M) (h : rest.take M = rest.take t ∧ rest.drop M = rest.drop t) (ht : 1 ≤ t) : chk M k rest = rest.take t :: chk M (k - t) (rest.drop t) := by
  obtain ⟨j, rfl⟩ : ∃ j, k = j + 1 := ⟨k - 1, by omega⟩
  rw [chk, if_neg (by intro h0; subst h0; exact absurd hl (by simp)), h.1, h.2, chk_fuel M hM j (j + 1 - t) (rest.drop t) (by rw [List.length_drop]; omega) (by rw [List.length_drop]; omega)]
/-- The entries in parts, as Leaves makes them. -/
def chks (n : Int) (l : List Ent) : List (List Ent) := chk (if n < 1 then l.length else n.toNat) l.length l
/-- A slice's address, length and capacity. -/
structure Sl where
  A : Option Addr
  n : Nat
  c : Nat
def Sl.val (s : Sl) : Value := .slice s.A s.n s.c
/-- Slices that read as parts. -/
def RdC (w : World) (B : Nat) (vs : List Sl) (cs : List (List Ent)) : Prop := vs.length = cs.length ∧ ∀ (j : Nat) (h1 : j < vs.length) (h2 : j < cs.length), vs[j].n = cs[j].length ∧ RdE w B vs[j].A cs[j]
theorem RdC.snoc {w : World} {B : Nat} {vs : List Sl} {cs : List (List Ent)} (h : RdC w B vs cs) (s : Sl) (p : List Ent) (hn : s.n = p.length) (hr : RdE w B s.A p) : RdC w B (vs ++ [s]) (cs ++ [p]) := by
  refine ⟨by rw [List.length_append, List.length_append, h.1]; rfl, fun j h1 h2 => ?_⟩
  by_cases hj : j < vs.length
  · have := h.2 j hj (by rw [← h.1]; exact hj)
    rw [List.getElem_append_left hj, List.getElem_append_left (by rw [← h.1]; exact hj)]
    exact this
  · have hje : j = vs.length := by simp at h1; omega
    subst hje
    have e1 : (vs ++ [s])[vs.length]'h1 = s := by simp
    have e2 : (cs ++ [p])[vs.length]'h2 = p := by
      rw [List.getElem_append_right (by rw [h.1]; exact Nat.le_refl _)]
      simp [h.1]
    rw [e1, e2]
    exact ⟨hn, hr⟩
theorem RdC.below {w w' : World} {B : Nat} {vs : List Sl} {cs : List (List Ent)} (h : RdC w B vs cs) (hb : Below B w w') : RdC w' B vs cs := ⟨h.1, fun j h1 h2 => ⟨(h.2 j h1 h2).1, (h.2 j h1 h2).2.below hb⟩⟩
theorem RdE.take {w : World} {B : Nat} {A : Option Addr} {es : List Ent} (h : RdE w B A es) (n : Nat) : RdE w B A (es.take n) := by
  intro j hj
  have hj' : j < es.length := by rw [List.length_take] at hj; omega
  obtain ⟨b, o, h1, h2, h3, h4, h5, h6⟩ := h j hj'
  rw [List.getElem_take]
  exact ⟨b, o, h1, h2, h3, h4, h5, h6⟩
theorem RdE.drop {w : World} {B : Nat} {A : Option Addr} {es : List Ent} (h : RdE w B A es) (n : Nat) : RdE w B (A.map fun x => x.add (n * 4)) (es.drop n) := by
  intro j hj
  have hj' : n + j < es.length := by rw [List.length_drop] at hj; omega
  obtain ⟨b, o, h1, h2, h3, h4, h5, h6⟩ := h (n + j) hj'
  rw [List.getElem_drop]
  refine ⟨b, o + n * 4, by rw [h1]; simp [Addr.add], h2, ?_, ?_, ?_, ?_⟩
  · rw [show o + n * 4 + j * 4 = o + (n + j) * 4 by omega]; exact h3
  · rw [show o + n * 4 + j * 4 + 1 = o + (n + j) * 4 + 1 by omega]; exact h4
  · rw [show o + n * 4 + j * 4 + 2 = o + (n + j) * 4 + 2 by omega]; exact h5
  · rw [show o + n * 4 + j * 4 + 3 = o + (n + j) * 4 + 3 by omega]; exact h6
theorem elem_part : ElemR Tryz.prog 94 48 (.slice none 0 0) 1 24 := ⟨Tryz.underlying94, by kernel_rfl, rfl, by omega, by omega⟩

set_option maxRecDepth 100000 in
set_option maxHeartbeats 4000000 in
theorem rleaves_any (A : Option Addr) (c : Nat) (es : List Ent) (nn : Int) (w : World) (hr : RdE w w.heap.size A es) (hc : es.length ≤ c) (hn : es.length ≤ 65536) (hI : nn ≤ 9223372036854775807) :
    Calls Tryz.prog 45 #[.slice A es.length c, .int .i64 nn] w fun e w' => ∃ A' c' vs, e = .returned (.slice A' vs.length c') ∧ OwR w' w.heap.size 48 1 A' vs.length c' (vs.map fun s => [Sl.val s]) ∧ RdC w' w.heap.size vs (chks nn es) ∧ Below w.heap.size w w' := by
  obtain ⟨n0, hl⟩ : ∃ n, es.length = n := ⟨_, rfl⟩
  rw [hl] at hc hn ⊢
  obtain ⟨R, hR⟩ : ∃ R, chks nn es = R := ⟨_, rfl⟩
  rw [hR]
  have hnI : (n0 : Int) ≤ 65536 := by omega
  have hst := hide (show (if nn < 1 then n0 else nn.toNat) = (if nn < 1 then n0 else nn.toNat) from rfl)
  obtain ⟨M, hM⟩ : ∃ M, (if nn < 1 then es.length else nn.toNat) = M := ⟨_, rfl⟩
  have hR0 := hide (show chk M n0 es = R from by rw [← hR, ← hM]; unfold chks; rw [hl])
  have hMp := hide (show 0 < n0 → 1 ≤ M from fun h => by rw [← hM]; split <;> omega)
  have hM1 := hide (show nn < 1 → M = n0 from fun h => by rw [← hM, if_pos h, hl])
  have hM2 := hide (show 1 ≤ nn → (M : Int) = nn from fun h => by rw [← hM, if_neg (by omega)]; omega)
  replace hr := hide hr
  replace hl := hide hl
  replace hR := hide hR
  replace hM := hide hM
  clear hst
  go_enter Tryz.func45, Tryz.ntmps45
  go_wp2
  go_loopg [0, 1, 5] n0 (fun gk s0 s1 s5 wr => ∃ (A0 : Option Addr) (k c0 : Nat) (rest : List Ent) (cs : List (List Ent)) (vs : List Sl) (A5 : Option Addr) (c5 : Nat) (m : Int), s0 = .slice A0 k c0 ∧ s1 = .int .i64 m ∧ s5 = .slice A5 vs.length c5 ∧ k ≤ gk ∧ k ≤ c0 ∧ k ≤ n0 ∧ vs.length + k ≤ n0 ∧ Hid (rest.length = k) ∧ Hid (RdE wr w.heap.size A0 rest) ∧
    Hid (OwR wr w.heap.size 48 1 A5 vs.length c5 (vs.map fun s => [Sl.val s])) ∧ Hid (RdC wr w.heap.size vs cs) ∧ Hid (cs ++ chk M k rest = R) ∧ ((m = nn ∧ (k = n0 ∨ 1 ≤ nn)) ∨ k = 0) ∧ Hid (Below w.heap.size w wr))
  case atStart => exact ⟨A, n0, c, es, [], [], none, 0, nn, rfl, rfl, rfl, Nat.le_refl _, hc, Nat.le_refl _, by simp, hl, hr, hide (OwR.nil _ _ _ _), hide ⟨rfl, fun j h1 _ => absurd h1 (Nat.not_lt_zero _)⟩, hide hR0.out, .inl ⟨rfl, .inl rfl⟩, hide (Below.refl _ _)⟩
  case round =>
    clear hr hR0
    obtain ⟨A0, k, c0, rest, cs, vs, A5, c5, m, rfl, rfl, rfl, hkg, hkc, hkn, hvk, hrl, hre, ho, hrc, hR1, hm, hb⟩ := hrel
    rcases Nat.eq_zero_or_pos k with rfl | hkp
    · go_wp2
      go_ret
      obtain rfl : rest = [] := List.eq_nil_of_length_eq_zero hrl.out
      have hcs := hR1.out
      rw [chk_nil, List.append_nil] at hcs
      subst hcs
      exact ⟨A5, c5, vs, rfl, ho.out, hrc.out, hb.out⟩
    · obtain ⟨g, rfl⟩ : ∃ x, gk = x + 1 := ⟨gk - 1, by omega⟩
      obtain ⟨rfl, hm2⟩ : m = nn ∧ (k = n0 ∨ 1 ≤ nn) := by rcases hm with h | h; exact h; omega
      have hkI : (0 : Int) < (k : Int) := by omega
      -- the part's length
      obtain ⟨t, ht⟩ : ∃ t, (if m < 1 ∨ (k : Int) < m then k else m.toNat) = t := ⟨_, rfl⟩
      have htk : 1 ≤ t ∧ t ≤ k := by rw [← ht]; split <;> omega
      have htake := hide (show rest.take M = rest.take t ∧ rest.drop M = rest.drop t from by
        have h0 := hrl.out
        by_cases h1 : m < 1 ∨ (k : Int) < m
        · rw [if_pos h1] at ht
          have hMk : rest.length ≤ M := by
            rcases h1 with h1 | h1
            · have := hM1.out h1; omega
            · have := hM2.out (by omega); omega
          rw [← ht, List.take_of_length_le hMk, List.take_of_length_le (by omega), List.drop_eq_nil_of_le hMk, List.drop_eq_nil_of_le (by omega)]
          exact ⟨rfl, rfl⟩
        · rw [if_neg h1] at ht
          have : M = t := by have := hM2.out (by omega); omega
          rw [this]
          exact ⟨rfl, rfl⟩)
      have htI : (1 : Int) ≤ (t : Int) ∧ (t : Int) ≤ (k : Int) := by omega
      have hg1 : decide ((0 : Int) < (k : Int)) = true := decide_eq_true hkI
      have hch := hide (chk_round hkp hrl.out (hMp.out (by omega)) htake.out htk.1)
      by_cases h1 : m < 1 ∨ (k : Int) < m
      · obtain rfl : k = t := by rw [← ht, if_pos h1]
        clear ht
        by_cases h2 : m < 1
        · have hd : decide (m < 1) = true := by simp [h2]
          replace h1 := hide h1; replace h2 := hide h2
          go_wp2_with (at_builtin; refine wpList_append_row wr rfl (.tmp 19) (.tmp 23) rfl elem_part rfl ho.out [Sl.val ⟨A0, k, c0⟩] rfl (by intro u hu; simp at hu; subst hu; rfl) 48 _ rfl (by omega) (by omega) hb.out.size ?_; intro A3 c3 w3 o3 hc3 hn3; replace o3 := hide o3; replace hc3 := hide hc3)
          · have b3 := hide (hc3.out.to_below (B := w.heap.size) hb.out.size (fun k hk => (ho.out.blk_lt k hk).1))
            go_roundg g
            case measure => omega
            case rel => exact ⟨A0, k - k, c0 - k, rest.drop k, cs ++ [rest.take k], vs ++ [⟨A0, k, c0⟩], A3, c3, (k : Int), by first | (go_num; done) | simp, rfl, by rw [List.length_append]; rfl, by omega, by omega, by omega, by rw [List.length_append]; simp; omega, hide (by rw [List.length_drop, hrl.out]), hide (by rw [List.drop_eq_nil_of_le (by rw [hrl.out]; omega)]; exact fun j hj => absurd hj (Nat.not_lt_zero _)), hide (by rw [List.length_append, List.map_append]; exact o3.out), hide ((hrc.out.below b3.out).snoc _ _ (by rw [List.length_take, hrl.out]; show k = _; omega) ((hre.out.take k).below b3.out)), hide (by rw [List.append_assoc, List.singleton_append, ← hch.out]; exact hR1.out), .inr (by omega), hide (hb.out.trans b3.out)⟩
          · have b3 := hide (hc3.out.to_below (B := w.heap.size) hb.out.size (fun k hk => (ho.out.blk_lt k hk).1))
            go_roundg g
            case measure => omega
            case rel => exact ⟨A0.map fun x => x.add (k * 4), k - k, c0 - k, rest.drop k, cs ++ [rest.take k], vs ++ [⟨A0, k, c0⟩], A3, c3, (k : Int), by first | (go_num; done) | simp, rfl, by rw [List.length_append]; rfl, by omega, by omega, by omega, by rw [List.length_append]; simp; omega, hide (by rw [List.length_drop, hrl.out]), hide ((hre.out.drop k).below b3.out), hide (by rw [List.length_append, List.map_append]; exact o3.out), hide ((hrc.out.below b3.out).snoc _ _ (by rw [List.length_take, hrl.out]; show k = _; omega) ((hre.out.take k).below b3.out)), hide (by rw [List.append_assoc, List.singleton_append, ← hch.out]; exact hR1.out), .inr (by omega), hide (hb.out.trans b3.out)⟩
        · have hd : decide (m < 1) = false := by simp; omega
          have hd2 : decide ((k : Int) < m) = true := by simp; omega
          replace h1 := hide h1; replace h2 := hide h2
          go_wp2_with (at_builtin; refine wpList_append_row wr rfl (.tmp 19) (.tmp 23) rfl elem_part rfl ho.out [Sl.val ⟨A0, k, c0⟩] rfl (by intro u hu; simp at hu; subst hu; rfl) 48 _ rfl (by omega) (by omega) hb.out.size ?_; intro A3 c3 w3 o3 hc3 hn3; replace o3 := hide o3; replace hc3 := hide hc3)
          · have b3 := hide (hc3.out.to_below (B := w.heap.size) hb.out.size (fun k hk => (ho.out.blk_lt k hk).1))
            go_roundg g
            case measure => omega
            case rel => exact ⟨A0, k - k, c0 - k, rest.drop k, cs ++ [rest.take k], vs ++ [⟨A0, k, c0⟩], A3, c3, (k : Int), by first | (go_num; done) | simp, rfl, by rw [List.length_append]; rfl, by omega, by omega, by omega, by rw [List.length_append]; simp; omega, hide (by rw [List.length_drop, hrl.out]), hide (by rw [List.drop_eq_nil_of_le (by rw [hrl.out]; omega)]; exact fun j hj => absurd hj (Nat.not_lt_zero _)), hide (by rw [List.length_append, List.map_append]; exact o3.out), hide ((hrc.out.below b3.out).snoc _ _ (by rw [List.length_take, hrl.out]; show k = _; omega) ((hre.out.take k).below b3.out)), hide (by rw [List.append_assoc, List.singleton_append, ← hch.out]; exact hR1.out), .inr (by omega), hide (hb.out.trans b3.out)⟩
          · have b3 := hide (hc3.out.to_below (B := w.heap.size) hb.out.size (fun k hk => (ho.out.blk_lt k hk).1))
            go_roundg g
            case measure => omega
            case rel => exact ⟨A0.map fun x => x.add (k * 4), k - k, c0 - k, rest.drop k, cs ++ [rest.take k], vs ++ [⟨A0, k, c0⟩], A3, c3, (k : Int), by first | (go_num; done) | simp, rfl, by rw [List.length_append]; rfl, by omega, by omega, by omega, by rw [List.length_append]; simp; omega, hide (by rw [List.length_drop, hrl.out]), hide ((hre.out.drop k).below b3.out), hide (by rw [List.length_append, List.map_append]; exact o3.out), hide ((hrc.out.below b3.out).snoc _ _ (by rw [List.length_take, hrl.out]; show k = _; omega) ((hre.out.take k).below b3.out)), hide (by rw [List.append_assoc, List.singleton_append, ← hch.out]; exact hR1.out), .inr (by omega), hide (hb.out.trans b3.out)⟩
      · obtain rfl : m = (t : Int) := by rw [← ht, if_neg h1]; omega
        clear ht
        have hd : decide ((t : Int) < 1) = false := by simp; omega
        have hd2 : decide ((k : Int) < (t : Int)) = false := by simp; omega
        replace h1 := hide h1
        go_wp2_with (at_builtin; refine wpList_append_row wr rfl (.tmp 19) (.tmp 23) rfl elem_part rfl ho.out [Sl.val ⟨A0, t, c0⟩] rfl (by intro u hu; simp at hu; subst hu; rfl) 48 _ rfl (by omega) (by omega) hb.out.size ?_; intro A3 c3 w3 o3 hc3 hn3; replace o3 := hide o3; replace hc3 := hide hc3)
        · have b3 := hide (hc3.out.to_below (B := w.heap.size) hb.out.size (fun k hk => (ho.out.blk_lt k hk).1))
          go_roundg g
          case measure => omega
          case rel => exact ⟨A0, k - t, c0 - t, rest.drop t, cs ++ [rest.take t], vs ++ [⟨A0, t, c0⟩], A3, c3, (t : Int), by first | (go_num; done) | simp, rfl, by rw [List.length_append]; rfl, by omega, by omega, by omega, by rw [List.length_append]; simp; omega, hide (by rw [List.length_drop, hrl.out]), hide (by rw [List.drop_eq_nil_of_le (by rw [hrl.out]; omega)]; exact fun j hj => absurd hj (Nat.not_lt_zero _)), hide (by rw [List.length_append, List.map_append]; exact o3.out), hide ((hrc.out.below b3.out).snoc _ _ (by rw [List.length_take, hrl.out]; show t = _; omega) ((hre.out.take t).below b3.out)), hide (by rw [List.append_assoc, List.singleton_append, ← hch.out]; exact hR1.out), .inl ⟨rfl, .inr (by omega)⟩, hide (hb.out.trans b3.out)⟩
        · have b3 := hide (hc3.out.to_below (B := w.heap.size) hb.out.size (fun k hk => (ho.out.blk_lt k hk).1))
          go_roundg g
          case measure => omega
          case rel => exact ⟨A0.map fun x => x.add (t * 4), k - t, c0 - t, rest.drop t, cs ++ [rest.take t], vs ++ [⟨A0, t, c0⟩], A3, c3, (t : Int), by first | (go_num; done) | simp, rfl, by rw [List.length_append]; rfl, by omega, by omega, by omega, by rw [List.length_append]; simp; omega, hide (by rw [List.length_drop, hrl.out]), hide ((hre.out.drop t).below b3.out), hide (by rw [List.length_append, List.map_append]; exact o3.out), hide ((hrc.out.below b3.out).snoc _ _ (by rw [List.length_take, hrl.out]; show t = _; omega) ((hre.out.take t).below b3.out)), hide (by rw [List.append_assoc, List.singleton_append, ← hch.out]; exact hR1.out), .inl ⟨rfl, .inr (by omega)⟩, hide (hb.out.trans b3.out)⟩

end Go.Proofs.YtaapjampmnanmaaGreat
