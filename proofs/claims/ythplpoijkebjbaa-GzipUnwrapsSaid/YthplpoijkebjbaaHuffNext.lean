/- The walks of the reference's Next and Read: a symbol is read, by the book, by the texts. There is no condition but where the slices lie. -/
import Derived.Test.YthplpoijkebjbaaHuffBook
import Derived.Test.YthplpoijkebjbaaHuffDec
import Derived.Test.YthplpoijkebjbaaHuffRef
import Derived.Test.YthplpoijkebjbaaBitRef
namespace Go.Proofs.Ythplpoijkebjbaa
open Go.RowKit

set_option maxRecDepth 100000 in
set_option maxHeartbeats 2000000 in
theorem rhnext_any (cs : Array Value) (A : Option Addr) (n c a : Nat) (ls : List Nat) (l : List Bool) (w : World) (B0 B1 : Nat) (hv : BookV B0 w ls cs) (hr : Rd w B1 A n (l.map Value.bool)) (hB1 : B1 ≤ w.heap.size) (hn : n ≤ 1048576) (ha : a ≤ n) (hsl : Huf.sum ls ≤ 32768)
    (m x er : Nat) (hd : Huf.dec ls (l.drop a) 15 0 0 = (m, x, er)) :
    Calls Try.prog 126 #[.agg cs, .slice A n c, .int .i64 (a : Int)] w fun e w' => e = .returned (.tuple #[.int .i64 (m : Int), .int .i64 ((a + x : Nat) : Int), .int .i64 (er : Int)]) ∧ Below w.heap.size w w' := by
  have hl : l.length = n := by have := hr.len; exact this
  have hVs := hide (Huf.V_small ls hsl)
  obtain ⟨Ao, co, hcs, hoo⟩ := hv
  have hk := Blk.new w 132 cs
  have hb0 := hide ((Below.refl w.heap.size w).alloc (Nat.le_refl _) (.cells cs 132))
  have hcf : Hid (∀ s, s < 16 → (w.alloc (.cells cs 132)).cell? ⟨w.heap.size, s, none⟩ = some (.int .i64 (Huf.first ls s : Int))) := hide (fun s hs => by rw [hk.cell, hcs.first s hs])
  have hco : Hid (∀ s, s < 16 → (w.alloc (.cells cs 132)).cell? ⟨w.heap.size, 16 + s, none⟩ = some (.slice (Ao s) (Huf.lists ls ls.length s).length (co s))) := hide (fun s hs => by rw [hk.cell, hcs.of s hs])
  have hO : Hid (∀ s, s < 16 → Ow (w.alloc (.cells cs 132)) B0 3 (Ao s) (Huf.lists ls ls.length s).length (co s) ((Huf.lists ls ls.length s).map jv)) := hide (fun s hs => (hoo s hs).alloc _)
  have hrd : Hid (Rd (w.alloc (.cells cs 132)) B1 A n (l.map Value.bool)) := hide (hr.alloc hB1 _)
  clear hk hoo hr
  go_enter Try.func126, Try.ntmps126
  go_upto_region 1 with fail
  have hsz := hide (show w.heap.size ≤ (w.alloc (.cells cs 132)).heap.size from hb0.out.size)
  obtain ⟨G, hG⟩ : ∃ G, w.heap.size = G := ⟨_, rfl⟩
  rw [hG] at hcf hco hb0 hsz ⊢
  generalize w.alloc (.cells cs 132) = W0 at *
  obtain ⟨l2, hl2⟩ : ∃ l2, l.drop a = l2 := ⟨_, rfl⟩
  rw [hl2] at hd
  have hll : Hid (l2.length = n - a) := hide (by rw [← hl2, List.length_drop, hl])
  have hget : Hid (∀ s (h : s < l2.length), l[a + s]? = some l2[s]) := hide (fun s h => by
    have h2 : l2[s]? = l[a + s]? := by rw [← hl2, List.getElem?_drop]
    rw [← h2, List.getElem?_eq_getElem h])
  replace hd := hide hd
  replace ha := hide ha
  clear hl2 hsl hcs hB1
  go_wp2
  go_loop [2, 9, 10] (fun p v i => ∃ s V : Nat, s ≤ 15 ∧ i = .int .i64 ((s : Int) + 1) ∧ v = .int .i64 (V : Int) ∧ p = .int .i64 ((a + s : Nat) : Int) ∧ Hid (V < 2 ^ s) ∧ Hid (Huf.dec ls l2 (15 - s) s V = (m, x, er)) ∧ Hid (s ≤ l2.length)) (fun _ _ i => 17 - (intOf i).toNat)
  case atStart => exact ⟨0, 0, by omega, rfl, rfl, rfl, hide (by decide), hd, hide (Nat.zero_le _)⟩
  case round =>
    obtain ⟨s, V, hs15, rfl, rfl, rfl, hV, hd, hsl⟩ := hrel
    by_cases hs : s < 15
    · have hsI : (s : Int) ≤ 14 := by omega
      have hpI : ((a + s : Nat) : Int) = (a : Int) + s := by push_cast; rfl
      have haI : (a : Int) ≤ n := by have := ha.out; omega
      by_cases hsl2 : s < l2.length
      · have hpn : (a : Int) + s < n := by have := hll.out; have := ha.out; omega
        obtain ⟨b, o, rfl, hbB, e0⟩ := hrd.out.bool (j := a + s) (by have := hll.out; have := ha.out; omega)
        have hgs : l[a + s]'(by have := hll.out; have := ha.out; omega) = l2[s] := Option.some.inj ((List.getElem?_eq_getElem _).symm.trans (hget.out s hsl2))
        rw [hgs] at e0
        have hVle : V ≤ 32767 := by
          have : 2 ^ s ≤ 2 ^ 14 := Nat.pow_le_pow_right (by omega) (by omega)
          have := hV.out
          omega
        have hVI : (V : Int) ≤ 32767 := by omega
        have hmiss := hide (Huf.dec_miss ls l2 (14 - s) s V l2[s] (List.getElem?_eq_getElem hsl2))
        have hhit := hide (Huf.dec_hit ls l2 (14 - s) s V l2[s] (List.getElem?_eq_getElem hsl2))
        have hV2 : Hid (2 * V + l2[s].toNat < 2 ^ (s + 1)) := hide (by rw [Nat.pow_succ]; have := hV.out; have : l2[s].toNat ≤ 1 := by { cases l2[s] <;> decide }; omega)
        have h14 : 15 - s = 14 - s + 1 := by omega
        have h14b : 14 - s = 15 - (s + 1) := by omega
        rw [h14] at hd
        have hfc := Huf.first_cnt ls (s + 1) (by omega)
        have hvs := hVs.out (s + 1) (by omega)
        have hll2 : (Huf.lists ls ls.length (s + 1)).length = Huf.cnt ls (s + 1) := by rw [Huf.lists_pos ls ls.length (s + 1) (by omega)]; rfl
        have hhd := hide (fun Y => (show Huf.hits ls (s + 1) Y = (decide (Huf.first ls (s + 1) ≤ Y) && decide (Y < Huf.first ls (s + 1) + Huf.cnt ls (s + 1))) from rfl))
        have d2 := hcf.out (s + 1) (by omega)
        have d18 := hco.out (s + 1) (by omega)
        rw [hll2] at d18
        have hoo : Hid (Ow W0 B0 3 (Ao (s + 1)) (Huf.cnt ls (s + 1)) (co (s + 1)) ((Huf.idx ls ls.length (s + 1)).map jv)) := hide (by
          have := hO.out (s + 1) (by omega)
          rw [hll2, Huf.lists_pos ls ls.length (s + 1) (by omega)] at this
          exact this)
        have hsymv : Hid (∀ Y, Huf.sym ls (s + 1) Y = (Huf.idx ls ls.length (s + 1)).getD (Y - Huf.first ls (s + 1)) 0) := hide (fun _ => rfl)
        have hidl : Hid ((Huf.idx ls ls.length (s + 1)).length = Huf.cnt ls (s + 1)) := hide rfl
        generalize Huf.first ls (s + 1) = F at *
        generalize Huf.cnt ls (s + 1) = N at *
        generalize Huf.V ls (s + 1) = VV at *
        have hFI : (F : Int) + N ≤ 32768 := by omega
        clear hll2 hgs hfc hvs hVle
        cases hbit : l2[s]
        all_goals
          simp only [hbit, Bool.toNat_false, Bool.toNat_true, Nat.add_zero] at hmiss hhit hV2 e0
          clear hbit
        · obtain ⟨Y, hY⟩ : ∃ Y, 2 * V = Y := ⟨_, rfl⟩
          rw [hY] at hmiss hhit hV2
          have hYI : 2 * (V : Int) = Y := by omega
          have hYI2 : (Y : Int) ≤ 65535 := by omega
          clear hY
          by_cases hit : Huf.hits ls (s + 1) Y = true
          · have hc := hit
            rw [hhd.out, Bool.and_eq_true, decide_eq_true_eq, decide_eq_true_eq] at hc
            obtain ⟨q, hq⟩ : ∃ q, Y - F = q := ⟨_, rfl⟩
            have hqI : (Y : Int) - F = q := by omega
            have hqN : (q : Int) < N := by omega
            have hd2 := hhit.out hit
            rw [hd.out] at hd2
            injection hd2 with e1 e2
            injection e2 with e2 e3
            subst e2 e3
            rw [hsymv.out, hq] at e1
            have hql : q < (Huf.idx ls ls.length (s + 1)).length := by rw [hidl.out]; omega
            rw [List.getD_eq_getElem?_getD, List.getElem?_eq_getElem hql] at e1
            obtain ⟨ga, hAo, _, _⟩ := hoo.out.pos (by omega)
            rw [hAo] at hoo d18
            have e9 := hoo.out.cells (g := ga) rfl q (jv (Huf.idx ls ls.length (s + 1))[q]) (by rw [List.getElem?_map, List.getElem?_eq_getElem hql]; rfl)
            rw [Addr.add_mid, Nat.zero_add] at e9
            simp only [Option.getD_some] at e1
            unfold jv at e9
            rw [← e1] at e9
            clear hit hc hq hql hoo e1 h14 h14b
            go_wp2
            go_ret3
            exact ⟨by simp [Int.add_assoc], hb0.out⟩
          · have hitf : Huf.hits ls (s + 1) Y = false := by simpa using hit
            have hc := hitf
            rw [hhd.out, Bool.and_eq_false_iff, decide_eq_false_iff_not, decide_eq_false_iff_not] at hc
            have hd2 := hide (hmiss.out hitf)
            rw [hd.out, h14b] at hd2
            have hc2 : (Y : Int) - F < 0 ∨ (0 ≤ (Y : Int) - F ∧ (N : Int) ≤ (Y : Int) - F) := by omega
            obtain ⟨q, hqI⟩ : ∃ q : Int, (Y : Int) - F = q := ⟨_, rfl⟩
            rw [hqI] at hc2
            clear hit hitf hc h14 h14b
            rcases hc2 with hc2 | ⟨hc2, hc3⟩
            all_goals
              go_wp2
              go_round
              case rel => exact ⟨s + 1, Y, by omega, by go_num, rfl, int_eq (by omega), hV2, hide hd2.out.symm, hide hsl2⟩
              case measure => simp [intOf] <;> omega
        · obtain ⟨Y, hY⟩ : ∃ Y, 2 * V + 1 = Y := ⟨_, rfl⟩
          rw [hY] at hmiss hhit hV2
          have hYI : 2 * (V : Int) + 1 = Y := by omega
          have hYI2 : (Y : Int) ≤ 65535 := by omega
          clear hY
          by_cases hit : Huf.hits ls (s + 1) Y = true
          · have hc := hit
            rw [hhd.out, Bool.and_eq_true, decide_eq_true_eq, decide_eq_true_eq] at hc
            obtain ⟨q, hq⟩ : ∃ q, Y - F = q := ⟨_, rfl⟩
            have hqI : (Y : Int) - F = q := by omega
            have hqN : (q : Int) < N := by omega
            have hd2 := hhit.out hit
            rw [hd.out] at hd2
            injection hd2 with e1 e2
            injection e2 with e2 e3
            subst e2 e3
            rw [hsymv.out, hq] at e1
            have hql : q < (Huf.idx ls ls.length (s + 1)).length := by rw [hidl.out]; omega
            rw [List.getD_eq_getElem?_getD, List.getElem?_eq_getElem hql] at e1
            obtain ⟨ga, hAo, _, _⟩ := hoo.out.pos (by omega)
            rw [hAo] at hoo d18
            have e9 := hoo.out.cells (g := ga) rfl q (jv (Huf.idx ls ls.length (s + 1))[q]) (by rw [List.getElem?_map, List.getElem?_eq_getElem hql]; rfl)
            rw [Addr.add_mid, Nat.zero_add] at e9
            simp only [Option.getD_some] at e1
            unfold jv at e9
            rw [← e1] at e9
            clear hit hc hq hql hoo e1 h14 h14b
            go_wp2
            go_ret3
            exact ⟨by simp [Int.add_assoc], hb0.out⟩
          · have hitf : Huf.hits ls (s + 1) Y = false := by simpa using hit
            have hc := hitf
            rw [hhd.out, Bool.and_eq_false_iff, decide_eq_false_iff_not, decide_eq_false_iff_not] at hc
            have hd2 := hide (hmiss.out hitf)
            rw [hd.out, h14b] at hd2
            have hc2 : (Y : Int) - F < 0 ∨ (0 ≤ (Y : Int) - F ∧ (N : Int) ≤ (Y : Int) - F) := by omega
            obtain ⟨q, hqI⟩ : ∃ q : Int, (Y : Int) - F = q := ⟨_, rfl⟩
            rw [hqI] at hc2
            clear hit hitf hc h14 h14b
            rcases hc2 with hc2 | ⟨hc2, hc3⟩
            all_goals
              go_wp2
              go_round
              case rel => exact ⟨s + 1, Y, by omega, by go_num, rfl, int_eq (by omega), hV2, hide hd2.out.symm, hide hsl2⟩
              case measure => simp [intOf] <;> omega
      · have h14 : 15 - s = 14 - s + 1 := by omega
        have hd2 := Huf.dec_short ls l2 (14 - s) s V (by omega)
        rw [← h14, hd.out] at hd2
        injection hd2 with e1 e2
        injection e2 with e2 e3
        subst e1 e2 e3
        have hpn : (n : Int) ≤ (a : Int) + x := by have := hll.out; have := ha.out; have := hsl.out; omega
        clear h14 hsl2
        go_wp2
        go_ret3
        exact ⟨rfl, hb0.out⟩
    · obtain rfl : s = 15 := by omega
      have hd2 := hd.out
      rw [Nat.sub_self, Huf.dec] at hd2
      injection hd2 with e1 e2
      injection e2 with e2 e3
      subst e1 e2 e3
      go_wp2
      go_ret3
      exact ⟨rfl, hb0.out⟩

theorem Huf.found (ls : List Nat) (k t Y : Nat) (h1 : ls[k]? = some (t + 1)) (h2 : Huf.code ls k (t + 1) = Y) : Huf.hits ls (t + 1) Y = true ∧ Huf.sym ls (t + 1) Y = k := by
  have hr := Huf.rank_lt ls k (t + 1) h1
  unfold Huf.code at h2
  constructor
  · unfold Huf.hits
    simp
    omega
  · unfold Huf.sym
    rw [← h2, Nat.add_sub_cancel_left, List.getD_eq_getElem?_getD, Huf.idx_rank ls k (t + 1) h1 ls.length (List.getElem?_eq_some_iff.1 h1).1]
    rfl
end Go.Proofs.Ythplpoijkebjbaa
