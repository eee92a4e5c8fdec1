/- The walks of the reference's Next and Read: a symbol is read, by the book, by the texts. There is no condition but where the slices lie. -/
import Derived.Test.YtceafmiieaeodaaHuffBook
import Derived.Test.YtceafmiieaeodaaHuffDec
import Derived.Test.YtceafmiieaeodaaHuffRef
import Derived.Test.YtceafmiieaeodaaBitRef
namespace Go.Proofs.Ytceafmiieaeodaa
open Go.RowKit

set_option maxRecDepth 100000 in
set_option maxHeartbeats 2000000 in
theorem next_any (cs : Array Value) (A : Option Addr) (n c a : Nat) (ls : List Nat) (l : List Bool) (w : World) (B0 B1 : Nat) (hv : BookV B0 w ls cs) (hr : Rd w B1 A n (l.map Value.bool)) (hB1 : B1 ≤ w.heap.size) (hn : n ≤ 1048576) (ha : a ≤ n) (hsl : Huf.sum ls ≤ 32768)
    (m x er : Nat) (hd : Huf.dec ls (l.drop a) 15 0 0 = (m, x, er)) :
    Calls Try.prog 40 #[.agg cs, .slice A n c, .int .i64 (a : Int)] w fun e w' => e = .returned (.tuple #[.int .i64 (m : Int), .int .i64 ((a + x : Nat) : Int), .int .i64 (er : Int)]) ∧ Below w.heap.size w w' := by
  have hl : l.length = n := by have := hr.len; exact this
  have hVs := hide (Huf.V_small ls hsl)
  obtain ⟨Ao, co, hcs, hoo⟩ := hv
  have hk := Blk.new w 63 cs
  have hb0 := hide ((Below.refl w.heap.size w).alloc (Nat.le_refl _) (.cells cs 63))
  have hcf : Hid (∀ s, s < 16 → (w.alloc (.cells cs 63)).cell? ⟨w.heap.size, s, none⟩ = some (.int .i64 (Huf.first ls s : Int))) := hide (fun s hs => by rw [hk.cell, hcs.first s hs])
  have hco : Hid (∀ s, s < 16 → (w.alloc (.cells cs 63)).cell? ⟨w.heap.size, 16 + s, none⟩ = some (.slice (Ao s) (Huf.lists ls ls.length s).length (co s))) := hide (fun s hs => by rw [hk.cell, hcs.of s hs])
  have hO : Hid (∀ s, s < 16 → Ow (w.alloc (.cells cs 63)) B0 3 (Ao s) (Huf.lists ls ls.length s).length (co s) ((Huf.lists ls ls.length s).map jv)) := hide (fun s hs => (hoo s hs).alloc _)
  have hrd : Hid (Rd (w.alloc (.cells cs 63)) B1 A n (l.map Value.bool)) := hide (hr.alloc hB1 _)
  clear hk hoo hr
  go_enter Try.func40, Try.ntmps40
  go_upto_region 1 with fail
  have hsz := hide (show w.heap.size ≤ (w.alloc (.cells cs 63)).heap.size from hb0.out.size)
  obtain ⟨G, hG⟩ : ∃ G, w.heap.size = G := ⟨_, rfl⟩
  rw [hG] at hcf hco hb0 hsz ⊢
  generalize w.alloc (.cells cs 63) = W0 at *
  obtain ⟨l2, hl2⟩ : ∃ l2, l.drop a = l2 := ⟨_, rfl⟩
  rw [hl2] at hd
  have hll : Hid (l2.length = n - a) := hide (by rw [← hl2, List.length_drop, hl])
  have hget : Hid (∀ s (h : s < l2.length), l[a + s]? = some l2[s]) := hide (fun s h => by
    have h2 : l2[s]? = l[a + s]? := by rw [← hl2, List.getElem?_drop]
    rw [← h2, List.getElem?_eq_getElem h])
  replace hd := hide hd
  replace ha := hide ha
  clear hl2 hsl hcs hB1
  go_wp2
  go_loop [2, 9, 10] (fun p v i => ∃ s V : Nat, s ≤ 15 ∧ i = .int .i64 ((s : Int) + 1) ∧ v = .int .i64 (V : Int) ∧ p = .int .i64 ((a + s : Nat) : Int) ∧ Hid (V < 2 ^ s) ∧ Hid (Huf.dec ls l2 (15 - s) s V = (m, x, er)) ∧ Hid (s ≤ l2.length)) (fun _ _ i => 17 - (intOf i).toNat)
  case atStart => exact ⟨0, 0, by omega, rfl, rfl, rfl, hide (by decide), hd, hide (Nat.zero_le _)⟩
  case round =>
    obtain ⟨s, V, hs15, rfl, rfl, rfl, hV, hd, hsl⟩ := hrel
    by_cases hs : s < 15
    · have hsI : (s : Int) ≤ 14 := by omega
      have hpI : ((a + s : Nat) : Int) = (a : Int) + s := by push_cast; rfl
      have haI : (a : Int) ≤ n := by have := ha.out; omega
      by_cases hsl2 : s < l2.length
      · have hpn : (a : Int) + s < n := by have := hll.out; have := ha.out; omega
        obtain ⟨b, o, rfl, hbB, e0⟩ := hrd.out.bool (j := a + s) (by have := hll.out; have := ha.out; omega)
        have hgs : l[a + s]'(by have := hll.out; have := ha.out; omega) = l2[s] := Option.some.inj ((List.getElem?_eq_getElem _).symm.trans (hget.out s hsl2))
        rw [hgs] at e0
        have hVle : V ≤ 32767 := by
          have : 2 ^ s ≤ 2 ^ 14 := Nat.pow_le_pow_right (by omega) (by omega)
          have := hV.out
          omega
        have hVI : (V : Int) ≤ 32767 := by omega
        have hmiss := hide (Huf.dec_miss ls l2 (14 - s) s V l2[s] (List.getElem?_eq_getElem hsl2))
        have hhit := hide (Huf.dec_hit ls l2 (14 - s) s V l2[s] (List.getElem?_eq_getElem hsl2))
        have hV2 : Hid (2 * V + l2[s].toNat < 2 ^ (s + 1)) := hide (by rw [Nat.pow_succ]; have := hV.out; have : l2[s].toNat ≤ 1 := by { cases l2[s] <;> decide }; omega)
        have h14 : 15 - s = 14 - s + 1 := by omega
        have h14b : 14 - s = 15 - (s + 1) := by omega
        rw [h14] at hd
        have hfc := Huf.first_cnt ls (s + 1) (by omega)
        have hvs := hVs.out (s + 1) (by omega)
        have hll2 : (Huf.lists ls ls.length (s + 1)).length = Huf.cnt ls (s + 1) := by rw [Huf.lists_pos ls ls.length (s + 1) (by omega)]; rfl
        have hhd := hide (fun Y => (show Huf.hits ls (s + 1) Y = (decide (Huf.first ls (s + 1) ≤ Y) && decide (Y < Huf.first ls (s + 1) + Huf.cnt ls (s + 1))) from rfl))
        have d2 := hcf.out (s + 1) (by omega)
        have d18 := hco.out (s + 1) (by omega)
        rw [hll2] at d18
        have hoo : Hid (Ow W0 B0 3 (Ao (s + 1)) (Huf.cnt ls (s + 1)) (co (s + 1)) ((Huf.idx ls ls.length (s + 1)).map jv)) := hide (by
          have := hO.out (s + 1) (by omega)
          rw [hll2, Huf.lists_pos ls ls.length (s + 1) (by omega)] at this
          exact this)
        have hsymv : Hid (∀ Y, Huf.sym ls (s + 1) Y = (Huf.idx ls ls.length (s + 1)).getD (Y - Huf.first ls (s + 1)) 0) := hide (fun _ => rfl)
        have hidl : Hid ((Huf.idx ls ls.length (s + 1)).length = Huf.cnt ls (s + 1)) := hide rfl
        generalize Huf.first ls (s + 1) = F at *
        generalize Huf.cnt ls (s + 1) = N at *
        generalize Huf.V ls (s + 1) = VV at *
        have hFI : (F : Int) + N ≤ 32768 := by omega
        clear hll2 hgs hfc hvs hVle
        cases hbit : l2[s]
        all_goals
          simp only [hbit, Bool.toNat_false, Bool.toNat_true, Nat.add_zero] at hmiss hhit hV2 e0
          clear hbit
        · obtain ⟨Y, hY⟩ : ∃ Y, 2 * V = Y := ⟨_, rfl⟩
          rw [hY] at hmiss hhit hV2
          have hYI : 2 * (V : Int) = Y := by omega
          have hYI2 : (Y : Int) ≤ 65535 := by omega
          clear hY
          by_cases hit : Huf.hits ls (s + 1) Y = true
          · have hc := hit
            rw [hhd.out, Bool.and_eq_true, decide_eq_true_eq, decide_eq_true_eq] at hc
            obtain ⟨q, hq⟩ : ∃ q, Y - F = q := ⟨_, rfl⟩
            have hqI : (Y : Int) - F = q := by omega
            have hqN : (q : Int) < N := by omega
            have hd2 := hhit.out hit
            rw [hd.out] at hd2
            injection hd2 with e1 e2
            injection e2 with e2 e3
            subst e2 e3
            rw [hsymv.out, hq] at e1
            have hql : q < (Huf.idx ls ls.length (s + 1)).length := by rw [hidl.out]; omega
            rw [List.getD_eq_getElem?_getD, List.getElem?_eq_getElem hql] at e1
            obtain ⟨ga, hAo, _, _⟩ := hoo.out.pos (by omega)
            rw [hAo] at hoo d18
            have e9 := hoo.out.cells (g := ga) rfl q (jv (Huf.idx ls ls.length (s + 1))[q]) (by rw [List.getElem?_map, List.getElem?_eq_getElem hql]; rfl)
            rw [Addr.add_mid, Nat.zero_add] at e9
            simp only [Option.getD_some] at e1
            unfold jv at e9
            rw [← e1] at e9
            clear hit hc hq hql hoo e1 h14 h14b
            go_wp2
            go_ret3
            exact ⟨by simp [Int.add_assoc], hb0.out⟩
          · have hitf : Huf.hits ls (s + 1) Y = false := by simpa using hit
            have hc := hitf
            rw [hhd.out, Bool.and_eq_false_iff, decide_eq_false_iff_not, decide_eq_false_iff_not] at hc
            have hd2 := hide (hmiss.out hitf)
            rw [hd.out, h14b] at hd2
            have hc2 : (Y : Int) - F < 0 ∨ (0 ≤ (Y : Int) - F ∧ (N : Int) ≤ (Y : Int) - F) := by omega
            obtain ⟨q, hqI⟩ : ∃ q : Int, (Y : Int) - F = q := ⟨_, rfl⟩
            rw [hqI] at hc2
            clear hit hitf hc h14 h14b
            rcases hc2 with hc2 | ⟨hc2, hc3⟩
            all_goals
              go_wp2
              go_round
              case rel => exact ⟨s + 1, Y, by omega, by go_num, rfl, int_eq (by omega), hV2, hide hd2.out.symm, hide hsl2⟩
              case measure => simp [intOf] <;> omega
        · obtain ⟨Y, hY⟩ : ∃ Y, 2 * V + 1 = Y := ⟨_, rfl⟩
          rw [hY] at hmiss hhit hV2
          have hYI : 2 * (V : Int) + 1 = Y := by omega
          have hYI2 : (Y : Int) ≤ 65535 := by omega
          clear hY
          by_cases hit : Huf.hits ls (s + 1) Y = true
          · have hc := hit
            rw [hhd.out, Bool.and_eq_true, decide_eq_true_eq, decide_eq_true_eq] at hc
            obtain ⟨q, hq⟩ : ∃ q, Y - F = q := ⟨_, rfl⟩
            have hqI : (Y : Int) - F = q := by omega
            have hqN : (q : Int) < N := by omega
            have hd2 := hhit.out hit
            rw [hd.out] at hd2
            injection hd2 with e1 e2
            injection e2 with e2 e3
            subst e2 e3
            rw [hsymv.out, hq] at e1
            have hql : q < (Huf.idx ls ls.length (s + 1)).length := by rw [hidl.out]; omega
            rw [List.getD_eq_getElem?_getD, List.getElem?_eq_getElem hql] at e1
            obtain ⟨ga, hAo, _, _⟩ := hoo.out.pos (by omega)
            rw [hAo] at hoo d18
            have e9 := hoo.out.cells (g := ga) rfl q (jv (Huf.idx ls ls.length (s + 1))[q]) (by rw [List.getElem?_map, List.getElem?_eq_getElem hql]; rfl)
            rw [Addr.add_mid, Nat.zero_add] at e9
            simp only [Option.getD_some] at e1
            unfold jv at e9
            rw [← e1] at e9
            clear hit hc hq hql hoo e1 h14 h14b
            go_wp2
            go_ret3
            exact ⟨by simp [Int.add_assoc], hb0.out⟩
          · have hitf : Huf.hits ls (s + 1) Y = false := by simpa using hit
            have hc := hitf
            rw [hhd.out, Bool.and_eq_false_iff, decide_eq_false_iff_not, decide_eq_false_iff_not] at hc
            have hd2 := hide (hmiss.out hitf)
            rw [hd.out, h14b] at hd2
            have hc2 : (Y : Int) - F < 0 ∨ (0 ≤ (Y : Int) - F ∧ (N : Int) ≤ (Y : Int) - F) := by omega
            obtain ⟨q, hqI⟩ : ∃ q : Int, (Y : Int) - F = q := ⟨_, rfl⟩
            rw [hqI] at hc2
            clear hit hitf hc h14 h14b
            rcases hc2 with hc2 | ⟨hc2, hc3⟩
            all_goals
              go_wp2
              go_round
              case rel => exact ⟨s + 1, Y, by omega, by go_num, rfl, int_eq (by omega), hV2, hide hd2.out.symm, hide hsl2⟩
              case measure => simp [intOf] <;> omega
      · have h14 : 15 - s = 14 - s + 1 := by omega
        have hd2 := Huf.dec_short ls l2 (14 - s) s V (by omega)
        rw [← h14, hd.out] at hd2
        injection hd2 with e1 e2
        injection e2 with e2 e3
        subst e1 e2 e3
        have hpn : (n : Int) ≤ (a : Int) + x := by have := hll.out; have := ha.out; have := hsl.out; omega
        clear h14 hsl2
        go_wp2
        go_ret3
        exact ⟨rfl, hb0.out⟩
    · obtain rfl : s = 15 := by omega
      have hd2 := hd.out
      rw [Nat.sub_self, Huf.dec] at hd2
      injection hd2 with e1 e2
      injection e2 with e2 e3
      subst e1 e2 e3
      go_wp2
      go_ret3
      exact ⟨rfl, hb0.out⟩

theorem Huf.dig_snoc (V t : Nat) (b : Bool) : Huf.dig (2 * V + b.toNat) (t + 1) = Huf.dig V t ++ [if b then 49 else 48] := by
  apply List.ext_getElem
  · simp [Huf.dig_length]
  · intro j h1 h2
    rw [Huf.dig_length] at h1
    rw [Huf.dig_get _ _ _ h1]
    by_cases hj : j < t
    · rw [List.getElem_append_left (by rw [Huf.dig_length]; exact hj), Huf.dig_get _ _ _ hj, show t + 1 - 1 - j = t - 1 - j + 1 from by omega, Nat.testBit_succ]
      have : (2 * V + b.toNat) / 2 = V := by cases b <;> simp <;> omega
      rw [this]
    · obtain rfl : j = t := by omega
      rw [List.getElem_append_right (by rw [Huf.dig_length]; exact Nat.le_refl _)]
      simp only [Huf.dig_length, Nat.sub_self, List.getElem_cons_zero, show j + 1 - 1 - j = 0 from by omega, Nat.testBit_zero]
      cases b <;> simp <;> omega
theorem Huf.dig_inj (t : Nat) : ∀ a b, a < 2 ^ t → b < 2 ^ t → Huf.dig a t = Huf.dig b t → a = b := by
  intro a b ha hb h
  apply Nat.eq_of_testBit_eq
  intro i
  by_cases hi : i < t
  · have e : (Huf.dig a t)[t - 1 - i]'(by rw [Huf.dig_length]; omega) = (Huf.dig b t)[t - 1 - i]'(by rw [Huf.dig_length]; omega) := by simp only [h]
    rw [Huf.dig_get _ _ _ (by omega), Huf.dig_get _ _ _ (by omega), show t - 1 - (t - 1 - i) = i from by omega] at e
    cases h1 : a.testBit i <;> cases h2 : b.testBit i <;> simp_all
  · rw [Nat.testBit_lt_two_pow (Nat.lt_of_lt_of_le ha (Nat.pow_le_pow_right (by omega) (by omega))), Nat.testBit_lt_two_pow (Nat.lt_of_lt_of_le hb (Nat.pow_le_pow_right (by omega) (by omega)))]
theorem Huf.txt_is (ls : List Nat) (h15 : ∀ x ∈ ls, x ≤ 15) (hs : Huf.sum ls ≤ 32768) (j t Y : Nat) (hY : Y < 2 ^ (t + 1)) : Huf.txt ls 16 0 j = Huf.dig Y (t + 1) ↔ (ls[j]? = some (t + 1) ∧ Huf.code ls j (t + 1) = Y) := by
  constructor
  · intro h
    unfold Huf.txt at h
    split at h
    · rename_i hc
      have hlen := congrArg List.length h
      rw [Huf.dig_length, Huf.dig_length] at hlen
      rw [hlen] at h
      have hi := Huf.getD_some ls j (t + 1) (by omega) hlen
      exact ⟨hi, Huf.dig_inj _ _ _ (Huf.code_lt ls hs j (t + 1) hi (by omega) (h15 _ (List.mem_of_getElem? hi))) hY h⟩
    · have hlen := congrArg List.length h
      rw [Huf.dig_length] at hlen
      simp at hlen
  · rintro ⟨h1, h2⟩
    have hg : ls.getD j 0 = t + 1 := by rw [List.getD_eq_getElem?_getD, h1]; rfl
    have := h15 _ (List.mem_of_getElem? h1)
    unfold Huf.txt
    rw [hg, if_pos ⟨by omega, .inl (by omega)⟩, h2]
theorem Huf.found (ls : List Nat) (k t Y : Nat) (h1 : ls[k]? = some (t + 1)) (h2 : Huf.code ls k (t + 1) = Y) : Huf.hits ls (t + 1) Y = true ∧ Huf.sym ls (t + 1) Y = k := by
  have hr := Huf.rank_lt ls k (t + 1) h1
  unfold Huf.code at h2
  constructor
  · unfold Huf.hits
    simp
    omega
  · unfold Huf.sym
    rw [← h2, Nat.add_sub_cancel_left, List.getD_eq_getElem?_getD, Huf.idx_rank ls k (t + 1) h1 ls.length (List.getElem?_eq_some_iff.1 h1).1]
    rfl
theorem Huf.not_found (ls : List Nat) (t Y : Nat) (h : ∀ j, j < ls.length → ¬ (ls[j]? = some (t + 1) ∧ Huf.code ls j (t + 1) = Y)) : Huf.hits ls (t + 1) Y = false := by
  cases hh : Huf.hits ls (t + 1) Y with
  | false => rfl
  | true =>
    exfalso
    simp only [Huf.hits, Bool.and_eq_true, decide_eq_true_eq] at hh
    have hq : Y - Huf.first ls (t + 1) < (Huf.idx ls ls.length (t + 1)).length := by
      have := hh.2
      unfold Huf.cnt at this
      omega
    obtain ⟨h1, h2, h3⟩ := Huf.idx_at ls (t + 1) ls.length _ hq
    exact h _ h3 ⟨h1, by unfold Huf.code; rw [h2]; omega⟩

theorem str_snoc (l : List UInt8) (b : UInt8) : (⟨l.toArray⟩ : ByteArray) ++ ⟨#[b]⟩ = ⟨(l ++ [b]).toArray⟩ := by
  apply ByteArray.ext
  simp [ByteArray.data_append]

set_option maxRecDepth 100000 in
set_option maxHeartbeats 2000000 in
theorem refread_any (Ac : Option Addr) (cc : Nat) (A : Option Addr) (n c a : Nat) (ls : List Nat) (l : List Bool) (w : World) (B0 B1 : Nat) (hc : Rd w B0 Ac ls.length ((List.range ls.length).map fun i => sv (Huf.txt ls 16 0 i))) (hr : Rd w B1 A n (l.map Value.bool)) (hn : n ≤ 1048576) (ha : a ≤ n) (hls : ls.length ≤ 288) (h15 : ∀ x ∈ ls, x ≤ 15) (hsl : Huf.sum ls ≤ 32768)
    (m x er : Nat) (hd : Huf.dec ls (l.drop a) 15 0 0 = (m, x, er)) :
    Calls Try.prog 39 #[.slice Ac ls.length cc, .slice A n c, .int .i64 (a : Int)] w fun e w' => e = .returned (.tuple #[.int .i64 (m : Int), .int .i64 ((a + x : Nat) : Int), .int .i64 (er : Int)]) ∧ w = w' := by
  have hl : l.length = n := by have := hr.len; exact this
  obtain ⟨l2, hl2⟩ : ∃ l2, l.drop a = l2 := ⟨_, rfl⟩
  rw [hl2] at hd
  have hll : Hid (l2.length = n - a) := hide (by rw [← hl2, List.length_drop, hl])
  have hget : Hid (∀ s (h : s < l2.length), l[a + s]? = some l2[s]) := hide (fun s h => by
    have h2 : l2[s]? = l[a + s]? := by rw [← hl2, List.getElem?_drop]
    rw [← h2, List.getElem?_eq_getElem h])
  replace hd := hide hd
  replace ha := hide ha
  replace hc := hide hc
  replace hr := hide hr
  have htx := hide (fun j t Y (hY : Y < 2 ^ (t + 1)) => Huf.txt_is ls h15 hsl j t Y hY)
  obtain ⟨N, hN⟩ : ∃ N, ls.length = N := ⟨_, rfl⟩
  rw [hN] at hc hls ⊢
  clear hl2 hsl h15
  go_enter Try.func39, Try.ntmps39
  go_wp2
  go_loop [2, 9] (fun p v => ∃ s V : Nat, s ≤ 15 ∧ v = sv (Huf.dig V s) ∧ p = .int .i64 ((a + s : Nat) : Int) ∧ Hid (V < 2 ^ s) ∧ Hid (Huf.dec ls l2 (15 - s) s V = (m, x, er)) ∧ Hid (s ≤ l2.length)) (fun p _ => 17 + a - (intOf p).toNat)
  case atStart => exact ⟨0, 0, by omega, rfl, rfl, hide (by decide), hd, hide (Nat.zero_le _)⟩
  case round =>
    obtain ⟨s, V, hs15, rfl, rfl, hV, hd, hsl⟩ := hrel
    have hdl := Huf.dig_length V s
    have hpI : ((a + s : Nat) : Int) = (a : Int) + s := by push_cast; rfl
    have haI : (a : Int) ≤ n := by have := ha.out; omega
    unfold sv
    by_cases hs : s < 15
    · have hsI : (s : Int) ≤ 14 := by omega
      by_cases hsl2 : s < l2.length
      · have hpn : (a : Int) + s < n := by have := hll.out; have := ha.out; omega
        obtain ⟨b, o, rfl, hbB, e0⟩ := hr.out.bool (j := a + s) (by have := hll.out; have := ha.out; omega)
        have hgs : l[a + s]'(by have := hll.out; have := ha.out; omega) = l2[s] := Option.some.inj ((List.getElem?_eq_getElem _).symm.trans (hget.out s hsl2))
        rw [hgs] at e0
        have hmiss := hide (Huf.dec_miss ls l2 (14 - s) s V l2[s] (List.getElem?_eq_getElem hsl2))
        have hhit := hide (Huf.dec_hit ls l2 (14 - s) s V l2[s] (List.getElem?_eq_getElem hsl2))
        have hV2 : Hid (2 * V + l2[s].toNat < 2 ^ (s + 1)) := hide (by rw [Nat.pow_succ]; have := hV.out; have : l2[s].toNat ≤ 1 := by { cases l2[s] <;> decide }; omega)
        have hsn := hide (Huf.dig_snoc V s l2[s])
        have h14 : 15 - s = 14 - s + 1 := by omega
        have h14b : 14 - s = 15 - (s + 1) := by omega
        rw [h14] at hd
        clear hgs h14
        generalize hbit : l2[s] = tb at *
        clear hbit
        cases tb
        · have hD : Huf.dig V s ++ [48] = Huf.dig (2 * V + false.toNat) (s + 1) := hsn.out.symm
          obtain ⟨Y, hY⟩ : ∃ Y, 2 * V + false.toNat = Y := ⟨_, rfl⟩
          rw [hY] at hmiss hhit hV2 hD
          replace hD := hide hD
          clear hsn hY
          go_wp2
          rw [str_snoc, hD.out]
          go_loop [10] (fun i => ∃ k : Nat, k ≤ N ∧ i = .int .i64 k ∧ Hid (∀ j, j < k → Huf.txt ls 16 0 j ≠ Huf.dig Y (s + 1))) (fun i => N - (intOf i).toNat)
          case atStart => exact ⟨0, by omega, rfl, hide (fun j h => absurd h (Nat.not_lt_zero _))⟩
          case round =>
            obtain ⟨k, hk, rfl, hall⟩ := hrel
            by_cases hlt : k < N
            · have hkI : (k : Int) < N := by omega
              obtain ⟨bc, oc, rfl, hbC, e1⟩ := hc.out.at hlt
              simp only [List.getElem_map, List.getElem_range] at e1
              unfold sv at e1
              by_cases heq : Huf.txt ls 16 0 k = Huf.dig Y (s + 1)
              · have hi := (htx.out k s Y hV2.out).1 heq
                have hfo := Huf.found ls k s Y hi.1 hi.2
                have hd2 := hhit.out hfo.1
                rw [hd.out, hfo.2] at hd2
                injection hd2 with e2 e3
                injection e3 with e3 e4
                subst e2 e3 e4
                have heb : (Huf.txt ls 16 0 m == Huf.dig Y (s + 1)) = true := by rw [heq]; simp
                clear heq hi hfo
                go_wp2
                go_ret3
                exact ⟨by simp [Int.add_assoc], rfl⟩
              · have heb : (Huf.txt ls 16 0 k == Huf.dig Y (s + 1)) = false := by simpa using heq
                have hall2 : Hid (∀ j, j < k + 1 → Huf.txt ls 16 0 j ≠ Huf.dig Y (s + 1)) := hide (fun j hj => by
                  by_cases e : j = k
                  · rw [e]; exact heq
                  · exact hall.out j (by omega))
                clear heq
                go_wp2
                go_round
                case rel => exact ⟨k + 1, by omega, by go_num, hall2⟩
                case measure => simp [intOf] <;> omega
            · obtain rfl : k = N := by omega
              have hnf := Huf.not_found ls s Y (fun j hj hh => hall.out j (by omega) ((htx.out j s Y hV2.out).2 hh))
              have hd2 := hide (hmiss.out hnf)
              rw [hd.out, h14b] at hd2
              clear hnf h14b
              go_wp2
              go_round
              case rel => exact ⟨s + 1, Y, by omega, rfl, int_eq (by push_cast; omega), hV2, hide hd2.out.symm, hide hsl2⟩
              case measure => simp [intOf] <;> omega
        · have hD : Huf.dig V s ++ [49] = Huf.dig (2 * V + true.toNat) (s + 1) := hsn.out.symm
          obtain ⟨Y, hY⟩ : ∃ Y, 2 * V + true.toNat = Y := ⟨_, rfl⟩
          rw [hY] at hmiss hhit hV2 hD
          replace hD := hide hD
          clear hsn hY
          go_wp2
          rw [str_snoc, hD.out]
          go_loop [10] (fun i => ∃ k : Nat, k ≤ N ∧ i = .int .i64 k ∧ Hid (∀ j, j < k → Huf.txt ls 16 0 j ≠ Huf.dig Y (s + 1))) (fun i => N - (intOf i).toNat)
          case atStart => exact ⟨0, by omega, rfl, hide (fun j h => absurd h (Nat.not_lt_zero _))⟩
          case round =>
            obtain ⟨k, hk, rfl, hall⟩ := hrel
            by_cases hlt : k < N
            · have hkI : (k : Int) < N := by omega
              obtain ⟨bc, oc, rfl, hbC, e1⟩ := hc.out.at hlt
              simp only [List.getElem_map, List.getElem_range] at e1
              unfold sv at e1
              by_cases heq : Huf.txt ls 16 0 k = Huf.dig Y (s + 1)
              · have hi := (htx.out k s Y hV2.out).1 heq
                have hfo := Huf.found ls k s Y hi.1 hi.2
                have hd2 := hhit.out hfo.1
                rw [hd.out, hfo.2] at hd2
                injection hd2 with e2 e3
                injection e3 with e3 e4
                subst e2 e3 e4
                have heb : (Huf.txt ls 16 0 m == Huf.dig Y (s + 1)) = true := by rw [heq]; simp
                clear heq hi hfo
                go_wp2
                go_ret3
                exact ⟨by simp [Int.add_assoc], rfl⟩
              · have heb : (Huf.txt ls 16 0 k == Huf.dig Y (s + 1)) = false := by simpa using heq
                have hall2 : Hid (∀ j, j < k + 1 → Huf.txt ls 16 0 j ≠ Huf.dig Y (s + 1)) := hide (fun j hj => by
                  by_cases e : j = k
                  · rw [e]; exact heq
                  · exact hall.out j (by omega))
                clear heq
                go_wp2
                go_round
                case rel => exact ⟨k + 1, by omega, by go_num, hall2⟩
                case measure => simp [intOf] <;> omega
            · obtain rfl : k = N := by omega
              have hnf := Huf.not_found ls s Y (fun j hj hh => hall.out j (by omega) ((htx.out j s Y hV2.out).2 hh))
              have hd2 := hide (hmiss.out hnf)
              rw [hd.out, h14b] at hd2
              clear hnf h14b
              go_wp2
              go_round
              case rel => exact ⟨s + 1, Y, by omega, rfl, int_eq (by push_cast; omega), hV2, hide hd2.out.symm, hide hsl2⟩
              case measure => simp [intOf] <;> omega
      · have h14 : 15 - s = 14 - s + 1 := by omega
        have hd2 := Huf.dec_short ls l2 (14 - s) s V (by omega)
        rw [← h14, hd.out] at hd2
        injection hd2 with e1 e2
        injection e2 with e2 e3
        subst e1 e2 e3
        have hpn : (n : Int) ≤ (a : Int) + x := by have := hll.out; have := ha.out; have := hsl.out; omega
        clear h14 hsl2
        go_wp2
        go_ret3
        exact ⟨rfl, rfl⟩
    · obtain rfl : s = 15 := by omega
      have hd2 := hd.out
      rw [Nat.sub_self, Huf.dec] at hd2
      injection hd2 with e1 e2
      injection e2 with e2 e3
      subst e1 e2 e3
      go_wp2
      go_ret3
      exact ⟨rfl, rfl⟩

end Go.Proofs.Ytceafmiieaeodaa
