/- The plain law of layer 3 (huff): lengths, the sum of Kraft, the numbers of the codes, and their digits. There is no condition. The walks of layer 3 (huff) that read lengths: Kraft's sum, a lone code, and the reference's answers. There is no condition but where the slice lies. A code of layer 3 in memory: a block of 34 cells, its slices, and what a store into each of them leaves. There is no condition. The walk of huff.New: a code is made of lengths. There is no condition but where the slice lies. The plain law of reading a symbol: of a stream of truths, by a code's lengths; and that what a code writes is read back. There is no condition. The example of layer 3's laws (live), and the errors' numbers. There is no condition. The law HuffFixed: a walk. There is no condition. The walks of (*huff.Code).Read and Write: a symbol is read by a code, and written. There is no condition. -/
import Derived.Test.YtaapjampmnanmaaGreatMem
import Derived.Deep.AppendLies
import Derived.Deep.RegionLaw
import Derived.Deep.OwnRows
import Derived.Deep.DeepCutAuto
import Derived.Deep.CutBlock
import Derived.BigQuiet
import Derived.Test.YtaapjampmnanmaaGreatBitX
import Derived.Laws.Rows
import Derived.Laws.Tables
namespace Go.Proofs.YtaapjampmnanmaaGreat.Huf
def good (z : Int) : Bool := decide (0 ≤ z) && decide (z ≤ 15)
def ok (zs : List Int) : Bool := decide (zs.length ≤ 288) && zs.all good
def wt (x : Nat) : Nat := if x = 0 then 0 else 2 ^ (15 - x)
def sum (ls : List Nat) : Nat := (ls.map wt).sum
def idx (ls : List Nat) (k s : Nat) : List Nat := (List.range k).filter fun i => ls[i]? == some s
def cnt (ls : List Nat) (s : Nat) : Nat := (idx ls ls.length s).length
def V (ls : List Nat) : Nat → Nat
  | 0 => 0
  | s + 1 => 2 * V ls s + cnt ls (s + 1)
def first (ls : List Nat) : Nat → Nat
  | 0 => 0
  | s + 1 => 2 * V ls s
def code (ls : List Nat) (i s : Nat) : Nat := first ls s + (idx ls i s).length
def ones (zs : List Int) : Nat := (zs.filter (· == 1)).length
theorem ok_map (ls : List Nat) (h1 : ls.length ≤ 288) (h2 : ∀ x ∈ ls, x ≤ 15) : ok (ls.map (fun x : Nat => (x : Int))) = true := by
  simp only [ok, Bool.and_eq_true, decide_eq_true_eq, List.all_eq_true, good, List.length_map]
  refine ⟨h1, ?_⟩
  intro z hz
  obtain ⟨x, hx, rfl⟩ := List.mem_map.1 hz
  have := h2 x hx
  omega
theorem idx_succ (ls : List Nat) (k s : Nat) : idx ls (k + 1) s = idx ls k s ++ (if ls[k]? = some s then [k] else []) := by
  unfold idx
  rw [List.range_succ, List.filter_append]
  congr 1
  by_cases h : ls[k]? = some s <;> simp [h]
theorem idx_yes (ls : List Nat) (k s : Nat) (h : ls[k]? = some s) : idx ls (k + 1) s = idx ls k s ++ [k] := by rw [idx_succ, if_pos h]
theorem idx_no (ls : List Nat) (k s : Nat) (h : ls[k]? ≠ some s) : idx ls (k + 1) s = idx ls k s := by rw [idx_succ, if_neg h, List.append_nil]
theorem idx_len (ls : List Nat) (s : Nat) : ∀ k, (idx ls k s).length = (ls.take k).count s := by
  intro k
  induction k with
  | zero => simp [idx]
  | succ k ih =>
    rw [idx_succ, List.length_append, ih]
    by_cases hk : k < ls.length
    · rw [List.take_succ_eq_append_getElem hk, List.count_append, List.getElem?_eq_getElem hk]
      by_cases h : ls[k] = s <;> simp [h]
    · rw [List.getElem?_eq_none (by omega), List.take_of_length_le (by omega), List.take_of_length_le (by omega)]
      simp
theorem cnt_count (ls : List Nat) (s : Nat) : cnt ls s = ls.count s := by rw [cnt, idx_len, List.take_length]
theorem idx_le (ls : List Nat) (k s : Nat) : (idx ls k s).length ≤ k := by
  rw [idx_len]
  exact Nat.le_trans List.count_le_length (by rw [List.length_take]; omega)
theorem idx_mono (ls : List Nat) (k n s : Nat) (h : k ≤ n) : (idx ls k s).length ≤ (idx ls n s).length := by
  induction n with
  | zero => obtain rfl : k = 0 := by omega
            exact Nat.le_refl _
  | succ n ih =>
    rcases Nat.lt_or_ge n k with h1 | h1
    · obtain rfl : k = n + 1 := by omega
      exact Nat.le_refl _
    · rw [idx_succ, List.length_append]
      have := ih h1
      omega
theorem idx_at (ls : List Nat) (s : Nat) : ∀ n j (h : j < (idx ls n s).length), ls[(idx ls n s)[j]]? = some s ∧ (idx ls (idx ls n s)[j] s).length = j ∧ (idx ls n s)[j] < n := by
  intro n
  induction n with
  | zero => intro j h; simp [idx] at h
  | succ n ih =>
    intro j h
    by_cases hn : ls[n]? = some s
    · have e := idx_yes ls n s hn
      have h' := h
      rw [e, List.length_append, List.length_singleton] at h'
      have hj : j < (idx ls n s).length ∨ j = (idx ls n s).length := by omega
      rcases hj with hj | hj
      · have e2 : (idx ls (n + 1) s)[j] = (idx ls n s)[j] := by
          simp only [e]
          exact List.getElem_append_left hj
        rw [e2]
        have := ih j hj
        exact ⟨this.1, this.2.1, by omega⟩
      · have e2 : (idx ls (n + 1) s)[j] = n := by
          simp only [e, hj]
          rw [List.getElem_append_right (Nat.le_refl _)]
          simp
        rw [e2]
        exact ⟨hn, hj.symm, by omega⟩
    · have e := idx_no ls n s hn
      have h' := h
      rw [e] at h'
      have e2 : (idx ls (n + 1) s)[j] = (idx ls n s)[j] := by simp only [e]
      rw [e2]
      have := ih j h'
      exact ⟨this.1, this.2.1, by omega⟩
theorem rank_lt (ls : List Nat) (i s : Nat) (h : ls[i]? = some s) : (idx ls i s).length < cnt ls s := by
  have hi : i < ls.length := (List.getElem?_eq_some_iff.1 h).1
  have h1 := idx_mono ls (i + 1) ls.length s hi
  rw [idx_yes ls i s h, List.length_append, List.length_singleton] at h1
  exact h1
theorem idx_rank (ls : List Nat) (i s : Nat) (h : ls[i]? = some s) : ∀ n, i < n → (idx ls n s)[(idx ls i s).length]? = some i := by
  intro n
  induction n with
  | zero => intro hi; omega
  | succ n ih =>
    intro hi
    rcases Nat.lt_or_ge i n with h1 | h1
    · rw [idx_succ, List.getElem?_append_left]
      · exact ih h1
      · have := (List.getElem?_eq_some_iff.1 (ih h1)).1
        exact this
    · obtain rfl : i = n := by omega
      rw [idx_yes ls i s h, List.getElem?_append_right (Nat.le_refl _)]
      simp
/-! ### Kraft's sum and the numbers -/
def W (ls : List Nat) (s : Nat) : Nat := (ls.map fun x => if 1 ≤ x ∧ x ≤ s then 2 ^ (15 - x) else 0).sum
theorem W_succ (ls : List Nat) (s : Nat) : W ls (s + 1) = W ls s + ls.count (s + 1) * 2 ^ (15 - (s + 1)) := by
  unfold W
  induction ls with
  | nil => simp
  | cons x r ih =>
    simp only [List.map_cons, List.sum_cons, List.count_cons, ih]
    by_cases hx : x = s + 1
    · subst hx
      rw [if_pos ⟨by omega, by omega⟩, if_neg (by omega), if_pos (by simp), Nat.add_mul]
      generalize 2 ^ (15 - (s + 1)) = p
      generalize List.count (s + 1) r * p = q
      omega
    · have e : (1 ≤ x ∧ x ≤ s + 1) ↔ (1 ≤ x ∧ x ≤ s) := by omega
      simp only [e]
      have : (x == s + 1) = false := by simpa using hx
      simp [this]
      omega
theorem W_le (ls : List Nat) (s : Nat) : W ls s ≤ sum ls := by
  unfold W sum
  induction ls with
  | nil => simp
  | cons x r ih =>
    simp only [List.map_cons, List.sum_cons]
    have : (if 1 ≤ x ∧ x ≤ s then 2 ^ (15 - x) else 0) ≤ wt x := by
      unfold wt
      by_cases hx : x = 0
      · subst hx; simp
      · rw [if_neg hx]
        generalize 2 ^ (15 - x) = p
        split <;> omega
    omega
theorem W_V (ls : List Nat) : ∀ s, s ≤ 15 → V ls s * 2 ^ (15 - s) = W ls s := by
  intro s
  induction s with
  | zero =>
    intro _
    have : W ls 0 = 0 := by
      unfold W
      induction ls with
      | nil => rfl
      | cons x r ih =>
        simp only [List.map_cons, List.sum_cons, ih]
        split <;> omega
    rw [this]; simp [V]
  | succ s ih =>
    intro hs
    rw [W_succ, ← ih (by omega), V, cnt_count, Nat.add_mul]
    congr 1
    rw [show 15 - s = 15 - (s + 1) + 1 from by omega, Nat.pow_succ, Nat.mul_comm 2 (V ls s), Nat.mul_assoc, Nat.mul_comm 2]
theorem V_le (ls : List Nat) (h : sum ls ≤ 32768) (s : Nat) (hs : s ≤ 15) : V ls s ≤ 2 ^ s := by
  have h1 := W_V ls s hs
  have h2 := W_le ls s
  have h3 : 2 ^ s * 2 ^ (15 - s) = 32768 := by rw [← Nat.pow_add, show s + (15 - s) = 15 from by omega]
  have hp : 0 < 2 ^ (15 - s) := Nat.two_pow_pos _
  refine Nat.le_of_mul_le_mul_right (c := 2 ^ (15 - s)) ?_ hp
  omega
theorem V_small (ls : List Nat) (h : sum ls ≤ 32768) (s : Nat) (hs : s ≤ 15) : V ls s ≤ 32768 := by
  have h1 := V_le ls h s hs
  have h2 : 2 ^ s ≤ 2 ^ 15 := Nat.pow_le_pow_right (by omega) hs
  omega
theorem first_cnt (ls : List Nat) (s : Nat) (hs : 1 ≤ s) : first ls s + cnt ls s = V ls s := by
  obtain ⟨t, rfl⟩ : ∃ t, s = t + 1 := ⟨s - 1, by omega⟩
  simp only [first, V]
theorem code_lt (ls : List Nat) (h : sum ls ≤ 32768) (i s : Nat) (hi : ls[i]? = some s) (h1 : 1 ≤ s) (h2 : s ≤ 15) : code ls i s < 2 ^ s := by
  have h3 := rank_lt ls i s hi
  have h4 := first_cnt ls s h1
  have h5 := V_le ls h s h2
  unfold code
  omega
/-! ### Digits -/
def dig (v n : Nat) : List UInt8 := (List.range n).map fun i => if v.testBit (n - 1 - i) then 49 else 48
theorem div_step (v n j : Nat) (h : j < n) : v / 2 ^ (n - (j + 1)) = 2 * (v / 2 ^ (n - j)) + (if v.testBit (n - 1 - j) then 1 else 0) := by
  rw [show n - (j + 1) = n - 1 - j from by omega, show n - j = n - 1 - j + 1 from by omega, Nat.pow_succ, ← Nat.div_div_eq_div_mul, Nat.testBit_eq_decide_div_mod_eq]
  generalize v / 2 ^ (n - 1 - j) = q
  rcases Nat.mod_two_eq_zero_or_one q with hq | hq <;> simp [hq] <;> omega
end Go.Proofs.YtaapjampmnanmaaGreat.Huf
namespace Go.Proofs.YtaapjampmnanmaaGreat
open Go.RowKit
def iv (z : Int) : Value := .int .i64 z
theorem Rd.int {w : World} {B n : Nat} {A : Option Addr} {l : List Int} (h : Rd w B A n (l.map iv)) {j : Nat} (hj : j < n) :
    ∃ b o, A = some ⟨b, o, none⟩ ∧ b < B ∧ w.cell? ⟨b, o + j, none⟩ = some (.int .i64 (l[j]'(by have := h.1; rw [List.length_map] at this; omega))) := by
  obtain ⟨b, o, h1, h2, h3⟩ := h.at hj
  exact ⟨b, o, h1, h2, by rw [h3, List.getElem_map]; rfl⟩
def Huf.part (zs : List Int) (k : Nat) : Nat := Huf.sum ((zs.take k).map Int.toNat)
def Huf.K (zs : List Int) : Int := if Huf.ok zs then (Huf.part zs zs.length : Int) else 0
theorem Huf.part_succ (zs : List Int) (k : Nat) (h : k < zs.length) : Huf.part zs (k + 1) = Huf.part zs k + Huf.wt zs[k].toNat := by
  unfold Huf.part Huf.sum
  rw [take_snoc zs k h, List.map_append, List.map_append, List.sum_append]
  simp
theorem Huf.wt_le (x : Nat) : Huf.wt x ≤ 16384 := by
  unfold Huf.wt
  split
  · omega
  · have : 2 ^ (15 - x) ≤ 2 ^ 14 := Nat.pow_le_pow_right (by omega) (by omega)
    omega
theorem Huf.part_le (zs : List Int) : ∀ k, Huf.part zs k ≤ 16384 * k := by
  intro k
  induction k with
  | zero => simp [Huf.part, Huf.sum]
  | succ k ih =>
    by_cases h : k < zs.length
    · rw [Huf.part_succ zs k h]
      have := Huf.wt_le zs[k].toNat
      omega
    · have e : zs.take (k + 1) = zs.take k := by rw [List.take_of_length_le (by omega), List.take_of_length_le (by omega)]
      unfold Huf.part at *
      rw [e]
      omega
theorem Huf.ok_all (zs : List Int) (h : zs.length ≤ 288) (ha : ∀ j (hj : j < zs.length), 0 ≤ zs[j] ∧ zs[j] ≤ 15) : Huf.ok zs = true := by
  simp only [Huf.ok, Bool.and_eq_true, decide_eq_true_eq, List.all_eq_true, Huf.good]
  refine ⟨h, ?_⟩
  intro z hz
  obtain ⟨j, hj, rfl⟩ := List.mem_iff_getElem.1 hz
  exact ha j hj
theorem Huf.ok_bad (zs : List Int) (j : Nat) (hj : j < zs.length) (h : zs[j] < 0 ∨ 15 < zs[j]) : Huf.ok zs = false := by
  cases hk : Huf.ok zs with
  | false => rfl
  | true =>
    exfalso
    simp only [Huf.ok, Bool.and_eq_true, decide_eq_true_eq, List.all_eq_true, Huf.good] at hk
    have := hk.2 zs[j] (List.getElem_mem hj)
    omega
theorem Huf.ok_long (zs : List Int) (h : 288 < zs.length) : Huf.ok zs = false := by
  cases hk : Huf.ok zs with
  | false => rfl
  | true =>
    exfalso
    simp only [Huf.ok, Bool.and_eq_true, decide_eq_true_eq] at hk
    omega
theorem Huf.K_bad {zs : List Int} (h : Huf.ok zs = false) : Huf.K zs = 0 := by unfold Huf.K; rw [h]; rfl
theorem Huf.K_ok {zs : List Int} (h : Huf.ok zs = true) : Huf.K zs = (Huf.part zs zs.length : Int) := by unfold Huf.K; rw [h]; rfl
set_option maxHeartbeats 1000000 in
theorem kraft_any (A : Option Addr) (n c : Nat) (zs : List Int) (w : World) (B : Nat) (hr : Rd w B A n (zs.map iv)) :
    Calls Tryz.prog 185 #[.slice A n c] w fun e w' => e = .returned (.tuple #[.int .i64 (Huf.K zs), .bool (Huf.ok zs)]) ∧ w = w' := by
  have hl : zs.length = n := hr.len
  have hr := hide hr
  by_cases hbig : 288 < n
  · have hb := Huf.ok_long zs (by omega)
    have hK := Huf.K_bad hb
    have hnI : (288 : Int) < n := by omega
    rw [hb, hK]
    go_enter Tryz.func185, Tryz.ntmps185
    go_wp2
    go_ret2
    exact ⟨rfl, rfl⟩
  · have hnI : (n : Int) ≤ 288 := by omega
    go_enter Tryz.func185, Tryz.ntmps185
    go_wp2
    go_loop [4, 12] (fun s i => ∃ k : Nat, k ≤ n ∧ i = .int .i64 k ∧ s = .int .i64 (Huf.part zs k : Int) ∧ Hid (∀ j (hj : j < zs.length), j < k → 0 ≤ zs[j] ∧ zs[j] ≤ 15)) (fun _ i => n - (intOf i).toNat)
    case atStart => exact ⟨0, by omega, rfl, by simp [Huf.part, Huf.sum], fun j _ h => absurd h (Nat.not_lt_zero _)⟩
    case round =>
      obtain ⟨k, hk, rfl, rfl, hall⟩ := hrel
      by_cases hlt : k < n
      · have hkl : k < zs.length := by omega
        obtain ⟨b, o, rfl, hbB, e0⟩ := hr.out.int (j := k) hlt
        have hkI : (k : Int) < n := by omega
        have hs := Huf.part_succ zs k hkl
        have hle := Huf.part_le zs k
        have hbad := hide (Huf.ok_bad zs k hkl)
        have hall2 : Hid (0 ≤ zs[k] ∧ zs[k] ≤ 15 → ∀ j (hj : j < zs.length), j < k + 1 → 0 ≤ zs[j] ∧ zs[j] ≤ 15) := by
          intro hz j hj hjk
          by_cases e : j = k
          · subst e; exact hz
          · exact hall.out j hj (by omega)
        generalize zs[k] = z at *
        by_cases hz0 : z < 0
        · have hb := hbad.out (.inl hz0)
          have hK := hide (Huf.K_bad hb)
          have hb := hide hb
          go_wp2
          go_ret2
          exact ⟨by first | (rw [hK.out, hb.out]; done) | (rw [hK.out, hb.out]; rfl) | (rw [hK.out]; done) | (rw [hK.out]; rfl) | rfl, rfl⟩
        · by_cases hz15 : 15 < z
          · have hb := hbad.out (.inr hz15)
            have hK := hide (Huf.K_bad hb)
            have hb := hide hb
            go_wp2
            go_ret2
            exact ⟨by first | (rw [hK.out, hb.out]; done) | (rw [hK.out, hb.out]; rfl) | (rw [hK.out]; done) | (rw [hK.out]; rfl) | rfl, rfl⟩
          · obtain ⟨m, rfl⟩ := Int.eq_ofNat_of_zero_le (by omega : 0 ≤ z)
            rw [Int.toNat_natCast] at hs
            have hm : m ≤ 15 := by omega
            by_cases hm0 : m = 0
            · subst hm0
              rw [show Huf.wt 0 = 0 from rfl, Nat.add_zero] at hs
              have hs := hide hs
              generalize Huf.part zs k = S at *
              go_wp2
              go_round
              case rel => exact ⟨k + 1, by omega, by go_num, by rw [hs.out]; rfl, hide (hall2.out (by omega))⟩
              case measure => simp [intOf] <;> omega
            · have hw : Huf.wt m = 2 ^ (15 - m) := by unfold Huf.wt; rw [if_neg hm0]
              have hp : 2 ^ (15 - m) ≤ 2 ^ 14 := Nat.pow_le_pow_right (by omega) (by omega)
              have hpI : (2 : Int) ^ (15 - m) = ((2 ^ (15 - m) : Nat) : Int) := by push_cast; rfl
              rw [hw] at hs
              have hs := hide hs
              generalize (2 ^ (15 - m) : Nat) = P at *
              have hmI : (0 : Int) < m := by omega
              have hmI2 : (15 : Int) - m = ((15 - m : Nat) : Int) := by omega
              generalize Huf.part zs k = S at *
              go_wp2
              go_round
              case rel => exact ⟨k + 1, by omega, by go_num, by rw [hs.out]; go_num, hide (hall2.out (by omega))⟩
              case measure => simp [intOf] <;> omega
      · obtain rfl : k = n := by omega
        have hok := hide (Huf.ok_all zs (by omega) (fun j hj => hall.out j hj (by omega)))
        have hK := hide (Huf.K_ok hok.out)
        rw [hl] at hK
        go_wp2
        go_ret2
        exact ⟨by first | (rw [hK.out, hok.out]; done) | (rw [hK.out, hok.out]; rfl) | (rw [hK.out]; done) | (rw [hK.out]; rfl) | rfl, rfl⟩
theorem Huf.part_nat (ls : List Nat) : Huf.part (ls.map (fun x : Nat => (x : Int))) ls.length = Huf.sum ls := by
  unfold Huf.part
  rw [List.take_of_length_le (by simp), List.map_map]
  congr 1
  calc ls.map (Int.toNat ∘ fun x : Nat => (x : Int)) = ls.map id := List.map_congr_left fun x _ => by simp
    _ = ls := List.map_id ls
theorem lone_any (A : Option Addr) (n c : Nat) (ls : List Nat) (w : World) (B : Nat) (hr : Rd w B A n ((ls.map (fun x : Nat => (x : Int))).map iv)) (hn : n ≤ 288) (h15 : ∀ x ∈ ls, x ≤ 15) (v : Bool) (hv : ((∀ x ∈ ls, x ≤ 1) ∧ ls.sum ≤ 1) ↔ v = true) :
    Calls Tryz.prog 186 #[.slice A n c] w fun e w' => e = .returned (.bool v) ∧ w = w' := by
  have hv := hide hv
  have hl : ls.length = n := by have := hr.len; rwa [List.length_map] at this
  have hr := hide hr
  have h15 := hide h15
  go_enter Tryz.func186, Tryz.ntmps186
  go_wp2
  go_loop [3, 8] (fun s i => ∃ k : Nat, k ≤ n ∧ i = .int .i64 k ∧ s = .int .i64 ((ls.take k).sum : Int) ∧ (ls.take k).sum ≤ k ∧ Hid (∀ x ∈ ls.take k, x ≤ 1)) (fun _ i => n - (intOf i).toNat)
  case atStart => exact ⟨0, by omega, rfl, by simp, by simp, hide (by simp)⟩
  case round =>
    obtain ⟨k, hk, rfl, rfl, hS, hall⟩ := hrel
    by_cases hlt : k < n
    · have hkl : k < ls.length := by omega
      obtain ⟨b, o, rfl, hbB, e0⟩ := hr.out.int (j := k) hlt
      rw [List.getElem_map] at e0
      have hs := take_snoc ls k hkl
      have hsum : (ls.take (k + 1)).sum = (ls.take k).sum + ls[k] := by rw [hs, List.sum_append]; simp
      have hkI : (k : Int) < n := by omega
      have hx15 := h15.out ls[k] (List.getElem_mem hkl)
      have hmem := List.getElem_mem hkl
      generalize ls[k] = x at *
      by_cases hx : 1 < x
      · have hxI : (1 : Int) < x := by omega
        have hd : Hid (v = false) := hide (by
          cases v
          · rfl
          · have := (hv.out.2 rfl).1 x hmem
            omega)
        clear hs hsum
        go_wp2
        go_ret
        exact ⟨by rw [hd.out]; rfl, rfl⟩
      · have hxI : (x : Int) ≤ 1 := by omega
        have hall2 : Hid (∀ y ∈ ls.take (k + 1), y ≤ 1) := hide (by
          rw [hs]
          intro y hy
          rcases List.mem_append.1 hy with hy | hy
          · exact hall.out y hy
          · rw [List.mem_singleton.1 hy]; omega)
        have hsum := hide hsum
        clear hs
        generalize (ls.take k).sum = S at *
        go_wp2
        go_round
        case rel => exact ⟨k + 1, by omega, by go_num, by rw [hsum.out]; go_num, by rw [hsum.out]; omega, hall2⟩
        case measure => simp [intOf] <;> omega
    · obtain rfl : k = n := by omega
      have e : ls.take k = ls := List.take_of_length_le (by omega)
      rw [e] at hall hS ⊢
      have hd : Hid (v = decide ((ls.sum : Int) ≤ 1)) := hide (by
        apply Bool.eq_iff_iff.2
        rw [decide_eq_true_eq, ← hv.out]
        constructor
        · rintro ⟨_, h⟩; omega
        · intro h; exact ⟨hall.out, by omega⟩)
      go_wp2
      go_ret
      exact ⟨by rw [hd.out]; rfl, rfl⟩
def nz (ls : List Nat) : List Int := ls.map fun x : Nat => (x : Int)
theorem Huf.K_nat (ls : List Nat) (h1 : ls.length ≤ 288) (h2 : ∀ x ∈ ls, x ≤ 15) : Huf.K (nz ls) = (Huf.sum ls : Int) := by
  unfold nz
  rw [Huf.K_ok (Huf.ok_map ls h1 h2), List.length_map, Huf.part_nat]
def Huf.fits (ls : List Nat) (short : Bool) : Prop := Huf.sum ls = 32768 ∨ (Huf.sum ls < 32768 ∧ short = true ∧ ((∀ x ∈ ls, x ≤ 1) ∧ ls.sum ≤ 1))
theorem Huf.sum_le (ls : List Nat) : Huf.sum ls ≤ 16384 * ls.length := by
  have h := Huf.part_le (nz ls) ls.length
  unfold nz at h
  rwa [Huf.part_nat] at h
end Go.Proofs.YtaapjampmnanmaaGreat
namespace Go.Proofs.YtaapjampmnanmaaGreat
open Go.RowKit
def uv (x : Nat) : Value := .int .u32 (x : Int)
def jv (x : Nat) : Value := .int .i64 (x : Int)
def upd {α : Type} (f : Nat → α) (s : Nat) (v : α) : Nat → α := fun t => if t = s then v else f t
theorem upd_same {α : Type} (f : Nat → α) (s : Nat) (v : α) : upd f s v s = v := if_pos rfl
theorem upd_ne {α : Type} (f : Nat → α) {s t : Nat} (v : α) (h : t ≠ s) : upd f s v t = f t := if_neg h
structure Cd (w : World) (B g n : Nat) (Ab : Option Addr) (cb : Nat) (Al : Option Addr) (cl : Nat) (ls : List Nat) (fs : Nat → Nat) (Ao : Nat → Option Addr) (co : Nat → Nat) (os : Nat → List Nat) (bits : Nat → Nat) : Prop where
  cells : ∃ cs, Blk w g 261 cs ∧ cs.size = 34 ∧ cs[0]? = some (.slice Ab n cb) ∧ cs[1]? = some (.slice Al n cl) ∧ (∀ s, s < 16 → cs[2 + s]? = some (.int .u32 (fs s : Int))) ∧ (∀ s, s < 16 → cs[18 + s]? = some (.slice (Ao s) (os s).length (co s)))
  hg : B ≤ g
  ob : Ow w B 149 Ab n cb ((List.range n).map fun i => uv (bits i))
  ol : Ow w B 3 Al n cl ((nz ls).map iv)
  oo : ∀ s, s < 16 → Ow w B 3 (Ao s) (os s).length (co s) ((os s).map jv)
  apart : ∀ s t k, s < 16 → t < 16 → blk (Ao s) = some k → blk (Ao t) = some k → s = t
  apartL : ∀ s k, s < 16 → blk (Ao s) = some k → blk Al ≠ some k
section
variable {w w' : World} {B g n : Nat} {Ab : Option Addr} {cb : Nat} {Al : Option Addr} {cl : Nat} {ls : List Nat} {fs : Nat → Nat} {Ao : Nat → Option Addr} {co : Nat → Nat} {os : Nat → List Nat} {bits : Nat → Nat}
theorem Cd.lt (h : Cd w B g n Ab cb Al cl ls fs Ao co os bits) : g < w.heap.size := by
  obtain ⟨cs, hk, _⟩ := h.cells
  exact hk.lt
theorem Cd.hB (h : Cd w B g n Ab cb Al cl ls fs Ao co os bits) : B ≤ w.heap.size := Nat.le_of_lt (Nat.lt_of_le_of_lt h.hg h.lt)
theorem Cd.below (h : Cd w B g n Ab cb Al cl ls fs Ao co os bits) (hb : Below w.heap.size w w') : Cd w' B g n Ab cb Al cl ls fs Ao co os bits := by
  obtain ⟨cs, hk, hr⟩ := h.cells
  exact ⟨⟨cs, hk.below hb hk.lt, hr⟩, h.hg, h.ob.below hb, h.ol.below hb, fun s hs => (h.oo s hs).below hb, h.apart, h.apartL⟩
theorem Cd.cellb (h : Cd w B g n Ab cb Al cl ls fs Ao co os bits) : w.cell? ⟨g, 0, none⟩ = some (.slice Ab n cb) := by
  obtain ⟨cs, hk, _, h0, _⟩ := h.cells
  rw [hk.cell, h0]
theorem Cd.celll (h : Cd w B g n Ab cb Al cl ls fs Ao co os bits) : w.cell? ⟨g, 1, none⟩ = some (.slice Al n cl) := by
  obtain ⟨cs, hk, _, _, h0, _⟩ := h.cells
  rw [hk.cell, h0]
theorem Cd.cellf (h : Cd w B g n Ab cb Al cl ls fs Ao co os bits) (s : Nat) (hs : s < 16) : w.cell? ⟨g, 2 + s, none⟩ = some (.int .u32 (fs s : Int)) := by
  obtain ⟨cs, hk, _, _, _, h0, _⟩ := h.cells
  rw [hk.cell, h0 s hs]
theorem Cd.cello (h : Cd w B g n Ab cb Al cl ls fs Ao co os bits) (s : Nat) (hs : s < 16) : w.cell? ⟨g, 18 + s, none⟩ = some (.slice (Ao s) (os s).length (co s)) := by
  obtain ⟨cs, hk, _, _, _, _, h0⟩ := h.cells
  rw [hk.cell, h0 s hs]
theorem Cd.free (h : Cd w B g n Ab cb Al cl ls fs Ao co os bits) (i : Nat) : w.frozen? ⟨g, i, none⟩ = false := by
  obtain ⟨cs, hk, _⟩ := h.cells
  exact hk.free i
theorem Cd.push (h : Cd w B g n Ab cb Al cl ls fs Ao co os bits) (s : Nat) (hs : s < 16) (i : Nat) {A' : Option Addr} {c' m : Nat} (hm : m = (os s).length + 1) (ho : Ow w' B 3 A' m c' ((os s).map jv ++ [jv i])) (hc : Chg (fun k => blk (Ao s) = some k) w w')
    (hn : blk A' = blk (Ao s) ∨ ∃ k, w.heap.size ≤ k ∧ blk A' = some k) :
    Cd (w'.setCell ⟨g, 18 + s, none⟩ (.slice A' m c')) B g n Ab cb Al cl ls fs (upd Ao s A') (upd co s c') (upd os s (os s ++ [i])) bits ∧ Below B w (w'.setCell ⟨g, 18 + s, none⟩ (.slice A' m c')) := by
  subst hm
  obtain ⟨cs, hk, hsz, h0, h1, h2, h3⟩ := h.cells
  have hkg : ∀ k, blk (Ao s) = some k → k ≠ g := by
    rintro k hk' rfl
    exact (h.oo s hs).ne hk (by decide) hk'
  have hk' := hk.chg hc (fun hx => hkg g hx rfl)
  have hset : Chg (fun k => k = g) w' (w'.setCell ⟨g, 18 + s, none⟩ (.slice A' ((os s).length + 1) c')) := (Chg.refl (fun k => k = g) w').setCell (p := ⟨g, 18 + s, none⟩) (.inr rfl) _
  have hA'g : ∀ k, blk A' = some k → k ≠ g := by
    rintro k hk2 rfl
    exact ho.ne hk' (by decide) hk2
  have hnew : ∀ k, blk A' = some k → blk (Ao s) = some k ∨ w.heap.size ≤ k := by
    intro k hk2
    rcases hn with hn | ⟨k', h1, h2⟩
    · exact .inl (by rw [← hn]; exact hk2)
    · rw [h2] at hk2
      injection hk2 with hk2
      exact .inr (by omega)
  refine ⟨⟨⟨_, hk'.set (18 + s) _, by rw [Array.size_setIfInBounds, hsz], ?_, ?_, ?_, ?_⟩, h.hg, ?_, ?_, ?_, ?_, ?_⟩, (hc.to_below h.hB (fun k hk2 => ((h.oo s hs).blk_lt k hk2).1)).trans (hset.to_below (Nat.le_trans h.hB hc.size) (by rintro k rfl; exact h.hg))⟩
  · rw [Array.getElem?_setIfInBounds_ne (by omega), h0]
  · rw [Array.getElem?_setIfInBounds_ne (by omega), h1]
  · intro t ht
    rw [Array.getElem?_setIfInBounds_ne (by omega), h2 t ht]
  · intro t ht
    by_cases e : t = s
    · subst e
      rw [Array.getElem?_setIfInBounds_self_of_lt (by omega), upd_same, upd_same, upd_same, List.length_append]
      rfl
    · rw [Array.getElem?_setIfInBounds_ne (by omega), h3 t ht, upd_ne _ _ e, upd_ne _ _ e, upd_ne _ _ e]
  · refine (h.ob.chg hc ?_).chg hset ?_
    · intro k hk2 hk3
      exact h.ob.ne_ow (h.oo s hs) (by decide) k hk2 hk3
    · rintro k hk2 rfl
      exact h.ob.ne hk (by decide) hk2
  · refine (h.ol.chg hc ?_).chg hset ?_
    · intro k hk2 hk3
      exact h.apartL s k hs hk3 hk2
    · rintro k hk2 rfl
      exact h.ol.ne hk (by decide) hk2
  · intro t ht
    by_cases e : t = s
    · subst e
      simp only [upd_same, List.length_append, List.length_singleton, List.map_append]
      refine ho.chg hset ?_
      intro k hk2
      exact hA'g k hk2
    · simp only [upd_ne _ _ e]
      refine ((h.oo t ht).chg hc ?_).chg hset ?_
      · intro k hk2 hk3
        exact e (h.apart t s k ht hs hk2 hk3)
      · rintro k hk2 rfl
        exact (h.oo t ht).ne hk (by decide) hk2
  · intro a b k ha hb h4 h5
    by_cases ea : a = s
    · by_cases eb : b = s
      · omega
      · subst ea
        rw [upd_same] at h4
        rw [upd_ne _ _ eb] at h5
        rcases hnew k h4 with h6 | h6
        · exact h.apart _ _ k ha hb h6 h5
        · have := ((h.oo b hb).blk_lt k h5).2
          omega
    · rw [upd_ne _ _ ea] at h4
      by_cases eb : b = s
      · subst eb
        rw [upd_same] at h5
        rcases hnew k h5 with h6 | h6
        · exact h.apart _ _ k ha hb h4 h6
        · have := ((h.oo a ha).blk_lt k h4).2
          omega
      · rw [upd_ne _ _ eb] at h5
        exact h.apart _ _ k ha hb h4 h5
  · intro a k ha h4 h5
    by_cases ea : a = s
    · subst ea
      rw [upd_same] at h4
      rcases hnew k h4 with h6 | h6
      · exact h.apartL _ k ha h6 h5
      · have := (h.ol.blk_lt k h5).2
        omega
    · rw [upd_ne _ _ ea] at h4
      exact h.apartL _ k ha h4 h5
theorem Cd.first (h : Cd w B g n Ab cb Al cl ls fs Ao co os bits) (s : Nat) (hs : s < 16) (v : Nat) :
    Cd (w.setCell ⟨g, 2 + s, none⟩ (.int .u32 (v : Int))) B g n Ab cb Al cl ls (upd fs s v) Ao co os bits ∧ Below B w (w.setCell ⟨g, 2 + s, none⟩ (.int .u32 (v : Int))) := by
  obtain ⟨cs, hk, hsz, h0, h1, h2, h3⟩ := h.cells
  have hset : Chg (fun k => k = g) w (w.setCell ⟨g, 2 + s, none⟩ (.int .u32 (v : Int))) := (Chg.refl (fun k => k = g) w).setCell (p := ⟨g, 2 + s, none⟩) (.inr rfl) _
  refine ⟨⟨⟨_, hk.set (2 + s) _, by rw [Array.size_setIfInBounds, hsz], ?_, ?_, ?_, ?_⟩, h.hg, ?_, ?_, ?_, h.apart, h.apartL⟩, hset.to_below h.hB (by rintro k rfl; exact h.hg)⟩
  · rw [Array.getElem?_setIfInBounds_ne (by omega), h0]
  · rw [Array.getElem?_setIfInBounds_ne (by omega), h1]
  · intro t ht
    by_cases e : t = s
    · subst e
      rw [Array.getElem?_setIfInBounds_self_of_lt (by omega), upd_same]
    · rw [Array.getElem?_setIfInBounds_ne (by omega), h2 t ht, upd_ne _ _ e]
  · intro t ht
    rw [Array.getElem?_setIfInBounds_ne (by omega), h3 t ht]
  · refine h.ob.chg hset ?_
    rintro k hk2 rfl
    exact h.ob.ne hk (by decide) hk2
  · refine h.ol.chg hset ?_
    rintro k hk2 rfl
    exact h.ol.ne hk (by decide) hk2
  · intro t ht
    refine (h.oo t ht).chg hset ?_
    rintro k hk2 rfl
    exact (h.oo t ht).ne hk (by decide) hk2
theorem Cd.bit {gb : Nat} (h : Cd w B g n (some ⟨gb, 0, none⟩) cb Al cl ls fs Ao co os bits) (i : Nat) (v : Nat) :
    Cd (w.setCell ⟨gb, i, none⟩ (.int .u32 (v : Int))) B g n (some ⟨gb, 0, none⟩) cb Al cl ls fs Ao co os (upd bits i v) ∧ Below B w (w.setCell ⟨gb, i, none⟩ (.int .u32 (v : Int))) := by
  obtain ⟨cs, hk, hr⟩ := h.cells
  have hset : Chg (fun k => k = gb) w (w.setCell ⟨gb, i, none⟩ (.int .u32 (v : Int))) := (Chg.refl (fun k => k = gb) w).setCell (p := ⟨gb, i, none⟩) (.inr rfl) _
  have hbg : g ≠ gb := by
    rintro rfl
    exact h.ob.ne hk (by decide) rfl
  refine ⟨⟨⟨cs, hk.chg hset hbg, hr⟩, h.hg, ?_, ?_, ?_, h.apart, h.apartL⟩, hset.to_below h.hB (by rintro k rfl; exact (h.ob.blk_lt k rfl).1)⟩
  · have h1 := h.ob.set i (uv v)
    have e : ((List.range n).map fun j => uv (bits j)).set i (uv v) = (List.range n).map fun j => uv (upd bits i v j) := by
      apply List.ext_getElem
      · simp
      · intro j h2 h3
        rw [List.getElem_set]
        simp only [List.getElem_map, List.getElem_range]
        by_cases e : i = j
        · subst e; rw [if_pos rfl, upd_same]
        · rw [if_neg e, upd_ne _ _ (Ne.symm e)]
    rw [e] at h1
    exact h1
  · refine h.ol.chg hset ?_
    rintro k hk2 rfl
    exact h.ol.ne_ow h.ob (by decide) k hk2 rfl
  · intro t ht
    refine (h.oo t ht).chg hset ?_
    rintro k hk2 rfl
    exact (h.oo t ht).ne_ow h.ob (by decide) k hk2 rfl
end
theorem elem_int : Elem1 Tryz.prog 138 3 (.int .i64 0) 8 := ⟨Tryz.underlying138, by kernel_rfl, rfl⟩
end Go.Proofs.YtaapjampmnanmaaGreat
namespace Go.Proofs.YtaapjampmnanmaaGreat
open Go.RowKit
theorem step_append_rd {P : Program} (w : World) {ops : Array Oper} {o : Oper} {a : Act} {K : Act → World → Prop} {Q : Exit → Act → World → Prop} {E0 : Prop} (hgd : o.guard = none) (s x : Operand) {t e : TypeId}
    (ho : o.op = .call { callee := .builtin .append, args := #[s, x], argTypes := #[t, t] }) {z : Value} {bytes : Nat} (E : Elem1 P t e z bytes)
    {base n c : Nat} {A : Option Addr} {xs : List Value} (hs : a.eval s = .slice A n c) (h : Ow w base e A n c xs)
    {B m c2 : Nat} {A2 : Option Addr} {news : List Value} (hx : a.eval x = .slice A2 m c2) (hr : Rd w B A2 m news) (h1 : ∀ u ∈ news, u.oneCell' = true)
    (h63 : n + m ≤ maxLen) (hbytes : (n + m) * bytes ≤ 140737488355328) (hbase : base ≤ w.heap.size)
    (hk : ∀ A' c' w', Ow w' base e A' (n + m) c' (xs ++ news) → Chg (fun k => blk A = some k) w w' → (blk A' = blk A ∨ blk A' = some w.heap.size) → K (a.put o.dst (.slice A' (n + m) c')) w') :
    if Region.wanted o (yielded ops a.tmps) = true then Oper.wp P o a w K Q else E0 := by
  have hw : Region.wanted o (yielded ops a.tmps) = true := by simp [Region.wanted, hgd]
  rw [if_pos hw]
  obtain ⟨A', c', w', hrun, h2, h3, h4⟩ := run_append_rd (P := P) w E o.type (c2 := c2) h hr h1 h63 hbytes hbase
  unfold Oper.wp execOp
  simp only [ho, resolve, invoke, builtin, Sem.run_bind, Sem.run_pure, Result.andThen_ok, List.map_toArray, List.map_cons, List.map_nil, hs, hx, hrun]
  exact hk A' c' w' h2 h3 h4
theorem step_append_one {P : Program} (w : World) {ops : Array Oper} {o : Oper} {a : Act} {K : Act → World → Prop} {Q : Exit → Act → World → Prop} {E0 : Prop} (hgd : o.guard = none) (s x : Operand) {t e : TypeId}
    (ho : o.op = .call { callee := .builtin .append, args := #[s, x], argTypes := #[t, t] }) {z : Value} {bytes : Nat} (E : Elem1 P t e z bytes)
    {base n c : Nat} {A : Option Addr} {xs : List Value} (hs : a.eval s = .slice A n c) (h : Ow w base e A n c xs) (u : Value) (te : TypeId) (fr : Nat × Nat) (hx : a.eval x = .slice (some ⟨w.heap.size, 0, none⟩) 1 1) (h1 : u.oneCell' = true)
    (h63 : n + 1 ≤ maxLen) (hbytes : (n + 1) * bytes ≤ 140737488355328) (hbase : base ≤ w.heap.size)
    (hk : ∀ A' c' w', Ow w' base e A' (n + 1) c' (xs ++ [u]) → Chg (fun k => blk A = some k) w w' → (blk A' = blk A ∨ ∃ k, w.heap.size ≤ k ∧ blk A' = some k) → K (a.put o.dst (.slice A' (n + 1) c')) w') :
    if Region.wanted o (yielded ops a.tmps) = true then Oper.wp P o a (w.alloc (.cells #[u] te fr)).drew K Q else E0 := by
  refine step_append_rd (w.alloc (.cells #[u] te fr)).drew hgd s x ho E hs (h.alloc _) hx (Rd.new w #[u] te fr) (by simpa using h1) h63 hbytes (Nat.le_trans hbase (by show w.heap.size ≤ (w.alloc (.cells #[u] te fr)).heap.size; simp)) ?_
  intro A' c' w' h2 h3 h4
  refine hk A' c' w' h2 ((((Chg.refl _ w).alloc _).drew).trans h3 (fun _ _ h => h)) ?_
  rcases h4 with h4 | h4
  · exact .inl h4
  · exact .inr ⟨_, by show w.heap.size ≤ (w.alloc (.cells #[u] te fr)).heap.size; simp, h4⟩
theorem Cd.free_chg {w w' : World} {B g n : Nat} {Ab : Option Addr} {cb : Nat} {Al : Option Addr} {cl : Nat} {ls : List Nat} {fs : Nat → Nat} {Ao : Nat → Option Addr} {co : Nat → Nat} {os : Nat → List Nat} {bits : Nat → Nat}
    (h : Cd w B g n Ab cb Al cl ls fs Ao co os bits) {s : Nat} (hs : s < 16) (hc : Chg (fun k => blk (Ao s) = some k) w w') (i : Nat) : w'.frozen? ⟨g, i, none⟩ = false := by
  obtain ⟨cs, hk, _⟩ := h.cells
  exact (hk.chg hc (fun hx => (h.oo s hs).ne hk (by decide) hx)).free i
theorem Cd.cell_chg {w w' : World} {B g n : Nat} {Ab : Option Addr} {cb : Nat} {Al : Option Addr} {cl : Nat} {ls : List Nat} {fs : Nat → Nat} {Ao : Nat → Option Addr} {co : Nat → Nat} {os : Nat → List Nat} {bits : Nat → Nat}
    (h : Cd w B g n Ab cb Al cl ls fs Ao co os bits) {s : Nat} (hs : s < 16) (hc : Chg (fun k => blk (Ao s) = some k) w w') {i : Nat} {v : Value} (hv : w.cell? ⟨g, i, none⟩ = some v) : w'.cell? ⟨g, i, none⟩ = some v := by
  obtain ⟨cs, hk, _⟩ := h.cells
  exact hc.cell hv (fun hx => (h.oo s hs).ne hk (by decide) hx)
theorem Cd.congr {w : World} {B g n : Nat} {Ab : Option Addr} {cb : Nat} {Al : Option Addr} {cl : Nat} {ls : List Nat} {fs fs' : Nat → Nat} {Ao : Nat → Option Addr} {co : Nat → Nat} {os : Nat → List Nat} {bits : Nat → Nat}
    (h : Cd w B g n Ab cb Al cl ls fs Ao co os bits) (hf : ∀ s, s < 16 → fs s = fs' s) : Cd w B g n Ab cb Al cl ls fs' Ao co os bits := by
  obtain ⟨cs, hk, hsz, h0, h1, h2, h3⟩ := h.cells
  exact ⟨⟨cs, hk, hsz, h0, h1, fun s hs => by rw [h2 s hs, hf s hs], h3⟩, h.hg, h.ob, h.ol, h.oo, h.apart, h.apartL⟩
def Huf.lists (ls : List Nat) (k s : Nat) : List Nat := if s = 0 then [] else Huf.idx ls k s
def Huf.bits (ls : List Nat) (t i : Nat) : Nat := if 1 ≤ ls.getD i 0 ∧ ls.getD i 0 < t then Huf.code ls i (ls.getD i 0) else 0
def CodeAt (B : Nat) (w : World) (g : Nat) (ls : List Nat) : Prop := ∃ Ab cb Al cl Ao co, Cd w B g ls.length Ab cb Al cl ls (Huf.first ls) Ao co (Huf.lists ls ls.length) (Huf.bits ls 16)
theorem Huf.lists_zero (ls : List Nat) : Huf.lists ls 0 = fun _ => [] := by
  funext s
  unfold Huf.lists
  split
  · rfl
  · simp [Huf.idx]
theorem Huf.lists_no (ls : List Nat) (k : Nat) (h : ls[k]? = some 0) : Huf.lists ls (k + 1) = Huf.lists ls k := by
  funext s
  unfold Huf.lists
  by_cases hs : s = 0
  · rw [if_pos hs, if_pos hs]
  · rw [if_neg hs, if_neg hs, Huf.idx_no]
    rw [h]
    intro e
    injection e with e
    exact hs e.symm
theorem Huf.lists_yes (ls : List Nat) (k s : Nat) (h : ls[k]? = some s) (hs : 1 ≤ s) : upd (Huf.lists ls k) s (Huf.lists ls k s ++ [k]) = Huf.lists ls (k + 1) := by
  funext t
  by_cases e : t = s
  · subst e
    rw [upd_same]
    unfold Huf.lists
    rw [if_neg (by omega), if_neg (by omega), Huf.idx_yes ls k t h]
  · rw [upd_ne _ _ e]
    unfold Huf.lists
    by_cases ht : t = 0
    · rw [if_pos ht, if_pos ht]
    · rw [if_neg ht, if_neg ht, Huf.idx_no]
      rw [h]
      intro e2
      injection e2 with e2
      exact e e2.symm
theorem Huf.lists_len (ls : List Nat) (k s : Nat) : (Huf.lists ls k s).length ≤ k := by
  unfold Huf.lists
  split
  · simp
  · exact Huf.idx_le ls k s
theorem Huf.lists_pos (ls : List Nat) (k s : Nat) (hs : 1 ≤ s) : Huf.lists ls k s = Huf.idx ls k s := if_neg (by omega)
def Huf.fstTo (ls : List Nat) (t s : Nat) : Nat := if s < t then Huf.first ls s else 0
theorem Huf.fst_one (ls : List Nat) : Huf.fstTo ls 1 = fun _ => 0 := by
  funext s
  unfold Huf.fstTo
  split
  · obtain rfl : s = 0 := by omega
    rfl
  · rfl
theorem Huf.fst_upd (ls : List Nat) (t : Nat) : upd (Huf.fstTo ls t) t (Huf.first ls t) = Huf.fstTo ls (t + 1) := by
  funext s
  by_cases e : s = t
  · subst e
    rw [upd_same, Huf.fstTo, if_pos (by omega)]
  · rw [upd_ne _ _ e]
    unfold Huf.fstTo
    by_cases h : s < t
    · rw [if_pos h, if_pos (by omega)]
    · rw [if_neg h, if_neg (by omega)]
def Huf.bitsIn (ls : List Nat) (t j i : Nat) : Nat := if 1 ≤ ls.getD i 0 ∧ (ls.getD i 0 < t ∨ (ls.getD i 0 = t ∧ (Huf.idx ls i t).length < j)) then Huf.code ls i (ls.getD i 0) else 0
theorem Huf.bits_one (ls : List Nat) : Huf.bits ls 1 = fun _ => 0 := by
  funext i
  unfold Huf.bits
  rw [if_neg (by omega)]
theorem Huf.bitsIn_zero (ls : List Nat) (t : Nat) : Huf.bitsIn ls t 0 = Huf.bits ls t := by
  funext i
  unfold Huf.bitsIn Huf.bits
  congr 1
  apply propext
  constructor
  · rintro ⟨h1, h | ⟨_, h⟩⟩
    · exact ⟨h1, h⟩
    · omega
  · rintro ⟨h1, h⟩
    exact ⟨h1, .inl h⟩
theorem Huf.getD_some (ls : List Nat) (i t : Nat) (ht : 1 ≤ t) (h : ls.getD i 0 = t) : ls[i]? = some t := by
  rw [List.getD_eq_getElem?_getD] at h
  cases e : ls[i]? with
  | none => rw [e] at h; simp at h; omega
  | some x => rw [e] at h; simp at h; rw [h]
theorem Huf.bitsIn_all (ls : List Nat) (t : Nat) (ht : 1 ≤ t) : Huf.bitsIn ls t (Huf.cnt ls t) = Huf.bits ls (t + 1) := by
  funext i
  unfold Huf.bitsIn Huf.bits
  congr 1
  apply propext
  constructor
  · rintro ⟨h1, h | ⟨h, _⟩⟩
    · exact ⟨h1, by omega⟩
    · exact ⟨h1, by omega⟩
  · rintro ⟨h1, h⟩
    refine ⟨h1, ?_⟩
    by_cases e : ls.getD i 0 = t
    · exact .inr ⟨e, Huf.rank_lt ls i t (Huf.getD_some ls i t ht e)⟩
    · exact .inl (by omega)
theorem Huf.bitsIn_step (ls : List Nat) (t j : Nat) (ht : 1 ≤ t) (hj : j < (Huf.idx ls ls.length t).length) : upd (Huf.bitsIn ls t j) (Huf.idx ls ls.length t)[j] (Huf.first ls t + j) = Huf.bitsIn ls t (j + 1) := by
  obtain ⟨h1, h2, h3⟩ := Huf.idx_at ls t ls.length j hj
  generalize hi0 : (Huf.idx ls ls.length t)[j] = i0 at *
  have hg : ls.getD i0 0 = t := by rw [List.getD_eq_getElem?_getD, h1]; rfl
  funext i
  by_cases e : i = i0
  · subst e
    rw [upd_same]
    unfold Huf.bitsIn
    rw [hg, if_pos ⟨ht, .inr ⟨rfl, by omega⟩⟩, Huf.code, h2]
  · rw [upd_ne _ _ e]
    unfold Huf.bitsIn
    congr 1
    apply propext
    constructor
    · rintro ⟨h4, h | ⟨h, h5⟩⟩
      · exact ⟨h4, .inl h⟩
      · exact ⟨h4, .inr ⟨h, by omega⟩⟩
    · rintro ⟨h4, h | ⟨h, h5⟩⟩
      · exact ⟨h4, .inl h⟩
      · refine ⟨h4, .inr ⟨h, ?_⟩⟩
        have h6 := Huf.getD_some ls i t ht h
        have hil : i < ls.length := (List.getElem?_eq_some_iff.1 h6).1
        have h7 := Huf.idx_rank ls i t h6 ls.length hil
        by_cases e2 : (Huf.idx ls i t).length = j
        · exfalso
          rw [e2, List.getElem?_eq_getElem hj, hi0] at h7
          injection h7 with h7
          exact e h7.symm
        · omega
theorem ow_empty {W : World} {B k : Nat} {t : TypeId} (hk : B ≤ k) (h : W.heap[k]? = some (.cells #[] t (0, 0))) : Ow W B t (some ⟨k, 0, none⟩) 0 0 [] :=
  ⟨rfl, .inr ⟨k, 0, #[], rfl, hk, h, Nat.le_refl _, by simp [maxLen], rfl, rfl⟩⟩
theorem ow_made {W : World} {B k n : Nat} {t : TypeId} {z : Value} (hk : B ≤ k) (hn : n ≤ maxLen) (h : W.heap[k]? = some (.cells (madeCells #[z] n) t (0, 0))) : Ow W B t (some ⟨k, 0, none⟩) n n ((List.range n).map fun _ => z) := by
  have hs : (madeCells #[z] n).size = n := size_madeCells _ _
  refine ⟨by simp, .inr ⟨k, n, _, rfl, hk, h, Nat.le_refl _, hn, by rw [hs, Nat.mul_one], ?_⟩⟩
  apply List.ext_getElem
  · simp [hs]
  · intro i h1 h2
    simp [madeCells, Nat.mod_one]
theorem heap_two (w : World) (a b : Obj) {B : Nat} (h : w.heap.size = B) : ((w.alloc a).alloc b).drew.heap[B]? = some a ∧ ((w.alloc a).alloc b).drew.heap[B + 1]? = some b := by
  subst h
  constructor
  · show ((w.alloc a).alloc b).heap[w.heap.size]? = some a
    rw [Below.heap_alloc _ _ _ (by simp), heap_alloc_new]
  · have := heap_alloc_new (w.alloc a) b
    rw [show (w.alloc a).heap.size = w.heap.size + 1 from by simp] at this
    exact this
theorem heap_one (w : World) (a : Obj) {B : Nat} (h : w.heap.size = B) : (w.alloc a).drew.heap[B]? = some a := by
  subst h
  exact heap_alloc_new w a
def code0 (A1 : Option Addr) (n c1 : Nat) (A2 : Option Addr) (c2 : Nat) : Array Value :=
  #[.slice A1 n c1, .slice A2 n c2, .int .u32 0, .int .u32 0, .int .u32 0, .int .u32 0, .int .u32 0, .int .u32 0, .int .u32 0, .int .u32 0, .int .u32 0, .int .u32 0, .int .u32 0, .int .u32 0, .int .u32 0, .int .u32 0, .int .u32 0, .int .u32 0,
    .slice none 0 0, .slice none 0 0, .slice none 0 0, .slice none 0 0, .slice none 0 0, .slice none 0 0, .slice none 0 0, .slice none 0 0, .slice none 0 0, .slice none 0 0, .slice none 0 0, .slice none 0 0, .slice none 0 0, .slice none 0 0, .slice none 0 0, .slice none 0 0]
theorem Cd.start {w : World} {B n c1 c2 : Nat} {A1 A2 : Option Addr} {ls : List Nat} (h1 : Ow w B 149 A1 n c1 ((List.range n).map fun _ => uv 0)) (h2 : Ow w B 3 A2 n c2 ((nz ls).map iv)) (hB : B ≤ w.heap.size) :
    Cd (w.alloc (.cells (code0 A1 n c1 A2 c2) 261)) B w.heap.size n A1 c1 A2 c2 ls (fun _ => 0) (fun _ => none) (fun _ => 0) (fun _ => []) (fun _ => 0) := by
  refine ⟨⟨_, Blk.new w 261 _, rfl, rfl, rfl, ?_, ?_⟩, hB, h1.alloc _, h2.alloc _, fun s _ => Ow.nil _ _ _, ?_, ?_⟩
  · intro s hs
    match s, hs with
    | 0, _ | 1, _ | 2, _ | 3, _ | 4, _ | 5, _ | 6, _ | 7, _ | 8, _ | 9, _ | 10, _ | 11, _ | 12, _ | 13, _ | 14, _ | 15, _ => rfl
    | s + 16, hs => omega
  · intro s hs
    match s, hs with
    | 0, _ | 1, _ | 2, _ | 3, _ | 4, _ | 5, _ | 6, _ | 7, _ | 8, _ | 9, _ | 10, _ | 11, _ | 12, _ | 13, _ | 14, _ | 15, _ => rfl
    | s + 16, hs => omega
  · intro s t k _ _ h; simp [blk] at h
  · intro s k _ h; simp [blk] at h
theorem iv_one (zs : List Int) : ∀ u ∈ zs.map iv, u.oneCell' = true := by
  intro u hu
  obtain ⟨b, _, rfl⟩ := List.mem_map.1 hu
  rfl
set_option maxRecDepth 100000 in
set_option maxHeartbeats 2000000 in
theorem new_ok (A : Option Addr) (n c : Nat) (ls : List Nat) (short : Bool) (w : World) (B0 : Nat) (hr : Rd w B0 A n ((nz ls).map iv)) (hB0 : B0 ≤ w.heap.size) (hn : n ≤ 288) (h15 : ∀ x ∈ ls, x ≤ 15) (hf : Huf.fits ls short) :
    Calls Tryz.prog 164 #[.slice A n c, .bool short] w fun e w' => ∃ g, e = .returned (.tuple #[.pointer (some ⟨g, 0, none⟩), .int .i64 0]) ∧ CodeAt w.heap.size w' g ls ∧ Below w.heap.size w w' := by
  have hl : ls.length = n := by have := hr.len; rwa [nz, List.length_map] at this
  have hk := kraft_any A n c _ w B0 hr
  rw [Huf.K_nat ls (by omega) h15, show Huf.ok (nz ls) = true from Huf.ok_map ls (by omega) h15] at hk
  have hk := hide hk
  have hsl : Huf.sum ls ≤ 32768 := by rcases hf with h | ⟨h, _⟩ <;> omega
  have hlo := hide (fun (h : Huf.sum ls ≠ 32768) => lone_any A n c ls w B0 hr hn h15 true ⟨fun _ => rfl, fun _ => by rcases hf with h2 | ⟨_, _, h2⟩; exact absurd h2 h; exact h2⟩)
  have hsh : Hid (Huf.sum ls ≠ 32768 → short = true) := hide (fun h => by rcases hf with h2 | ⟨_, h2, _⟩; exact absurd h2 h; exact h2)
  have hr := hide (hr.mono hB0)
  have hw := hide (Huf.V_small ls hsl)
  have h15 := hide h15
  clear hf
  have hB : ∃ B, w.heap.size = B := ⟨_, rfl⟩
  obtain ⟨B, hB⟩ := hB
  rw [hB] at hr ⊢
  have hSI : (Huf.sum ls : Int) ≤ 32768 := by omega
  clear hsl
  obtain ⟨S, hS⟩ : ∃ S, Huf.sum ls = S := ⟨_, rfl⟩
  rw [hS] at hk hlo hsh hSI
  clear hS
  have hmk : ∀ W : World, (Instr.makeSlice 258 (.int .i64 (n : Int)) (.int .i64 (n : Int))).run Tryz.prog W = .ok (.slice (some ⟨W.heap.size, 0, none⟩) n n) (W.alloc (.cells (madeCells #[.int .u32 0] n) 149)) := fun W => run_make_row' 258 149 (.int .u32 0) 4 Tryz.underlying258 (by kernel_rfl) rfl .i64 .i64 n (by omega) (by omega) W
  go_enter Tryz.func164, Tryz.ntmps164
  go_upto_block 0 with (go_at_call 185; (with_reducible refine hk.out.mono ?_); rintro e w' ⟨rfl, rfl⟩)
  go_cut [] from 15 (fun wx => w = wx)
  case first =>
    by_cases h1 : S = 32768
    · subst h1
      go_wp2
      go_meet
      exact rfl
    · have hSI2 : (S : Int) < 32768 := by omega
      have hsh := hsh.out h1
      have hlo := hide (hlo.out h1)
      subst hsh
      have hSb : ((32768 : Int) < (S : Int)) = False := by simp; omega
      clear h1 hmk hw h15 hr hn
      go_wp2_with (go_at_call 186; (with_reducible refine hlo.out.mono ?_); rintro e w' ⟨rfl, rfl⟩)
      go_meet
      exact rfl
  case rest =>
    obtain rfl := hcut
    go_upto_region 6 with fail
    go_cut [8] from 15 (fun s8 wx => ∃ g Ab cb Al cl, s8 = .pointer (some ⟨g, 0, none⟩) ∧ Hid (Cd wx B g n Ab cb Al cl ls (fun _ => 0) (fun _ => none) (fun _ => 0) (fun _ => []) (fun _ => 0)) ∧ Hid (Below B w wx))
    case first =>
      have hz1 := heap_two w (Obj.cells (madeCells #[Value.int .u32 0] n) 149) (Obj.cells #[] 3) hB
      have hz2 := heap_two w (Obj.cells #[] 3) (Obj.cells (madeCells #[Value.int .u32 0] n) 149) hB
      have hz3 := heap_one w (Obj.cells #[] 3) hB
      have hE1 := hide (ow_empty (B := B) (Nat.le_add_right B 1) hz1.2)
      have hM1 := hide (ow_made (B := B) (Nat.le_refl _) (by simp only [maxLen]; omega) hz1.1)
      have hE2 := hide (ow_empty (B := B) (Nat.le_refl _) hz2.1)
      have hM2 := hide (ow_made (B := B) (Nat.le_add_right B 1) (by simp only [maxLen]; omega) hz2.2)
      have hE3 := hide (ow_empty (B := B) (Nat.le_refl _) hz3)
      have hr1 : Hid (Rd ((w.alloc (Obj.cells (madeCells #[Value.int .u32 0] n) 149)).alloc (Obj.cells #[] 3)).drew B A n ((nz ls).map iv)) := (hr.out.alloc (by omega) (Obj.cells (madeCells #[Value.int .u32 0] n) 149)).alloc (by simp; omega) (Obj.cells #[] 3)
      have hr2 : Hid (Rd ((w.alloc (Obj.cells #[] 3)).alloc (Obj.cells (madeCells #[Value.int .u32 0] n) 149)).drew B A n ((nz ls).map iv)) := (hr.out.alloc (by omega) (Obj.cells #[] 3)).alloc (by simp; omega) (Obj.cells (madeCells #[Value.int .u32 0] n) 149)
      have hr3 : Hid (Rd (w.alloc (Obj.cells #[] 3)).drew B A n ((nz ls).map iv)) := hr.out.alloc (by omega) (Obj.cells #[] 3)
      have hb1 : Hid (Below B w ((w.alloc (Obj.cells (madeCells #[Value.int .u32 0] n) 149)).alloc (Obj.cells #[] 3)).drew) := (((Below.refl B w).alloc (by omega) (Obj.cells (madeCells #[Value.int .u32 0] n) 149)).alloc (by simp; omega) (Obj.cells #[] 3)).trans (below_drewN (Below.refl _ _) 1)
      have hb2 : Hid (Below B w ((w.alloc (Obj.cells #[] 3)).alloc (Obj.cells (madeCells #[Value.int .u32 0] n) 149)).drew) := (((Below.refl B w).alloc (by omega) (Obj.cells #[] 3)).alloc (by simp; omega) (Obj.cells (madeCells #[Value.int .u32 0] n) 149)).trans (below_drewN (Below.refl _ _) 1)
      have hb3 : Hid (Below B w (w.alloc (Obj.cells #[] 3)).drew) := ((Below.refl B w).alloc (by omega) (Obj.cells #[] 3)).trans (below_drewN (Below.refl _ _) 1)
      clear hz1 hz2 hz3
      have hq1 := hide (show 0 + n ≤ maxLen by simp only [maxLen]; omega)
      have hq2 := hide (show (0 + n) * 8 ≤ 140737488355328 by omega)
      have hs1 := hide (show B ≤ ((w.alloc (Obj.cells (madeCells #[Value.int .u32 0] n) 149)).alloc (Obj.cells #[] 3)).drew.heap.size by have := hb1.out.size; omega)
      have hs2 := hide (show B ≤ ((w.alloc (Obj.cells #[] 3)).alloc (Obj.cells (madeCells #[Value.int .u32 0] n) 149)).drew.heap.size by have := hb2.out.size; omega)
      have hs3 := hide (show B ≤ (w.alloc (Obj.cells #[] 3)).drew.heap.size by have := hb3.out.size; omega)
      go_region_law (first
        | (refine step_append_rd ((w.alloc (Obj.cells (madeCells #[Value.int .u32 0] n) 149)).alloc (Obj.cells #[] 3)).drew (by rfl) (.tmp 41) (.tmp 42) (by rfl) elem_int (by rfl) hE1.out (by rfl) hr1.out (iv_one _) hq1.out hq2.out hs1.out ?_; intro A' c' w' ho hc hn; have hm := hide (hM1.out.chg hc (by intro k hk hk2; simp [blk] at hk hk2; omega)); have ho := hide (show Ow w' B 3 A' n c' ((nz ls).map iv) by simpa using ho); have hw' := hide (show B ≤ w'.heap.size by have := hc.size; have := hs1.out; have := hs2.out; have := hs3.out; omega); have hb := hide (hb1.out.trans (hc.to_below (B := B) hs1.out (fun k hk => (hE1.out.blk_lt k hk).1))); clear hc hn hE1 hM1 hE2 hM2 hE3 hr1 hr2 hr3 hb1 hb2 hb3)
        | (refine step_append_rd ((w.alloc (Obj.cells #[] 3)).alloc (Obj.cells (madeCells #[Value.int .u32 0] n) 149)).drew (by rfl) (.tmp 41) (.tmp 42) (by rfl) elem_int (by rfl) hE2.out (by rfl) hr2.out (iv_one _) hq1.out hq2.out hs2.out ?_; intro A' c' w' ho hc hn; have hm := hide (hM2.out.chg hc (by intro k hk hk2; simp [blk] at hk hk2; omega)); have ho := hide (show Ow w' B 3 A' n c' ((nz ls).map iv) by simpa using ho); have hw' := hide (show B ≤ w'.heap.size by have := hc.size; have := hs1.out; have := hs2.out; have := hs3.out; omega); have hb := hide (hb2.out.trans (hc.to_below (B := B) hs2.out (fun k hk => (hE2.out.blk_lt k hk).1))); clear hc hn hE1 hM1 hE2 hM2 hE3 hr1 hr2 hr3 hb1 hb2 hb3)
        | (refine step_append_rd (w.alloc (Obj.cells #[] 3)).drew (by rfl) (.tmp 41) (.tmp 42) (by rfl) elem_int (by rfl) hE3.out (by rfl) hr3.out (iv_one _) hq1.out hq2.out hs3.out ?_; intro A' c' w' ho hc hn; have ho := hide (show Ow w' B 3 A' n c' ((nz ls).map iv) by simpa using ho); have hw' := hide (show B ≤ w'.heap.size by have := hc.size; have := hs1.out; have := hs2.out; have := hs3.out; omega); have hb := hide (hb3.out.trans (hc.to_below (B := B) hs3.out (fun k hk => (hE3.out.blk_lt k hk).1))); clear hc hn hE1 hM1 hE2 hM2 hE3 hr1 hr2 hr3 hb1 hb2 hb3))
      · go_wp2_with fail
        go_meet
        exact ⟨w'.heap.size, _, n, A', c', rfl, hide (Cd.start hm.out ho.out hw'.out), hide (hb.out.trans ((Below.refl B w').alloc hw'.out _))⟩
      · go_wp2_with fail
        go_meet
        exact ⟨w'.heap.size, _, n, A', c', rfl, hide (Cd.start hm.out ho.out hw'.out), hide (hb.out.trans ((Below.refl B w').alloc hw'.out _))⟩
      · have hm := hide (ow_made (W := w'.alloc (Obj.cells (madeCells #[Value.int .u32 0] n) 149)) (B := B) (n := n) hw'.out (by simp only [maxLen]; omega) (heap_alloc_new _ _))
        have ho2 := hide (ho.out.alloc (Obj.cells (madeCells #[Value.int .u32 0] n) 149))
        go_wp2_with fail
        go_meet
        have hsz : (w'.alloc (Obj.cells (madeCells #[Value.int .u32 0] n) 149)).heap.size = w'.heap.size + 1 := by simp
        have hcd := Cd.start hm.out ho2.out (by rw [hsz]; have := hw'.out; omega)
        rw [hsz] at hcd
        exact ⟨w'.heap.size + 1, _, n, A', c', rfl, hide hcd, hide ((hb.out.trans ((Below.refl B w').alloc hw'.out _)).trans ((Below.refl B _).alloc (by rw [hsz]; have := hw'.out; omega) _))⟩
    case rest =>
      obtain ⟨g, Ab, cb, Al, cl, rfl, hcd, hb⟩ := hcut
      clear hk hlo hsh hmk
      go_wp2
      go_loopw [48] (fun i wr => ∃ k : Nat, ∃ Ao co, k ≤ n ∧ i = .int .i64 k ∧ Hid (Cd wr B g n Ab cb Al cl ls (fun _ => 0) Ao co (Huf.lists ls k) (fun _ => 0)) ∧ Hid (Below B w wr)) (fun i _ => n - (intOf i).toNat)
      case atStart => exact ⟨0, fun _ => none, fun _ => 0, by omega, rfl, by rw [Huf.lists_zero]; exact hcd, hb⟩
      case round =>
        obtain ⟨k, Ao, co, hk, rfl, hcd, hb⟩ := hrel
        by_cases hlt : k < n
        · have hkl : k < ls.length := by omega
          obtain ⟨b, o, rfl, hbB, e0⟩ := (hr.out.below hb.out).int (j := k) hlt
          simp only [nz, List.getElem_map] at e0
          have hkI : (k : Int) < n := by omega
          have hx15 := h15.out ls[k] (List.getElem_mem hkl)
          have hls : Hid (ls[k]? = some ls[k]) := List.getElem?_eq_getElem hkl
          generalize ls[k] = s at *
          by_cases hs0 : s = 0
          · subst hs0
            have hno := hide (Huf.lists_no ls k hls.out)
            go_wp2
            go_roundw
            case rel => exact ⟨k + 1, Ao, co, by omega, by go_num, by rw [hno.out]; exact hcd, hb⟩
            case measure => simp [intOf] <;> omega
          · have hs16 : s < 16 := by omega
            have hsI : (0 : Int) < s := by omega
            have hsI2 : (s : Int) < 16 := by omega
            have hyes := hide (Huf.lists_yes ls k s hls.out (by omega))
            have hlen := Huf.lists_len ls k s
            have d1 := hcd.out.cello s hs16
            have hglt := hcd.out.lt
            have hBw := hide hcd.out.hB
            have hoo := hide (hcd.out.oo s hs16)
            have hfr := hide (fun w3 (hc : Chg (fun k => blk (Ao s) = some k) wr w3) => (⟨hcd.out.free_chg hs16 hc (18 + s), hcd.out.cell_chg hs16 hc d1⟩ : _ ∧ _))
            obtain ⟨L, hL⟩ : ∃ L, (Huf.lists ls k s).length = L := ⟨_, rfl⟩
            rw [hL] at d1 hoo hlen hfr
            have hpush := hide (fun w3 A3 c3 (ho3 : Ow w3 B 3 A3 (L + 1) c3 ((Huf.lists ls k s).map jv ++ [jv k])) (hc3 : Chg (fun k => blk (Ao s) = some k) wr w3) (hn3 : blk A3 = blk (Ao s) ∨ ∃ k, wr.heap.size ≤ k ∧ blk A3 = some k) => hcd.out.push s hs16 k (by rw [hL]) ho3 hc3 hn3)
            rw [hyes.out] at hpush
            clear hL hyes
            have hq1 := hide (show L + 1 ≤ maxLen by simp only [maxLen]; omega)
            have hq2 := hide (show (L + 1) * 8 ≤ 140737488355328 by omega)
            go_upto_region 11 with fail
            go_region_law (refine step_append_one wr (by rfl) (.tmp 62) (.tmp 64) (by rfl) elem_int (by rfl) hoo.out (jv k) 3 _ (by rfl) rfl hq1.out hq2.out hBw.out ?_; intro A3 c3 w3 ho3 hc3 hn3; have f3 := (hfr.out w3 hc3).1; have d3 := (hfr.out w3 hc3).2; have hp := hide (hpush.out w3 A3 c3 ho3 hc3 hn3); clear ho3 hc3 hn3)
            all_goals
              go_wp2
              go_roundw
              case rel => exact ⟨k + 1, upd Ao s A3, upd co s c3, by omega, by go_num, hide hp.out.1, hide (hb.out.trans hp.out.2)⟩
              case measure => simp [intOf] <;> omega
        · obtain rfl : k = n := by omega
          go_wp2
          go_loopw [11, 12] (fun v i wr => ∃ t V : Nat, 1 ≤ t ∧ t ≤ 16 ∧ i = .int .i64 t ∧ v = .int .u32 (V : Int) ∧ Hid (V = Huf.V ls (t - 1)) ∧ Hid (Cd wr B g k Ab cb Al cl ls (Huf.fstTo ls t) Ao co (Huf.lists ls k) (Huf.bits ls t)) ∧ Hid (Below B w wr)) (fun _ i _ => 16 - (intOf i).toNat)
          case atStart => exact ⟨1, 0, by omega, by omega, rfl, rfl, hide rfl, by rw [Huf.fst_one, Huf.bits_one]; exact hcd, hb⟩
          case round =>
            obtain ⟨t, V, ht1, ht16, rfl, rfl, hV, hcd, hb⟩ := hrel
            by_cases htl : t < 16
            · have htI : (t : Int) ≤ 15 := by omega
              have htI0 : (0 : Int) ≤ t := by omega
              have hV0 := hw.out (t - 1) (by omega)
              have hVt := hw.out t (by omega)
              have hfc := Huf.first_cnt ls t ht1
              have hff : Huf.first ls t = V * 2 := by
                obtain ⟨t', rfl⟩ : ∃ t', t = t' + 1 := ⟨t - 1, by omega⟩
                rw [hV.out, Nat.mul_comm]; rfl
              rw [← hV.out] at hV0
              rw [hff] at hfc
              have hVI : (V : Int) ≤ 32768 := by omega
              have hVtI : (Huf.V ls t : Int) ≤ 32768 := by omega
              have hff := hide hff
              clear hV0 hVt
              have hl2 : Hid (Huf.lists ls k t = Huf.idx ls k t) := hide (Huf.lists_pos ls k t ht1)
              have hcnt : Hid ((Huf.lists ls k t).length = Huf.cnt ls t) := hide (by rw [hl2.out, Huf.cnt, hl])
              have hfst := hcd.out.first t htl (V * 2)
              rw [← hff.out, Huf.fst_upd, hff.out] at hfst
              have hfst := hide hfst
              have d2 := hcd.out.cellf t htl
              have f2 := hcd.out.free (2 + t)
              have hBw := hide hcd.out.hB
              have hgl := hcd.out.lt
              have e18 := hfst.out.1.cello t htl
              rw [hcnt.out] at e18
              have hvI : ((V * 2 : Nat) : Int) = (V : Int) * 2 := by push_cast; rfl
              rw [hvI] at e18 hfst
              generalize Huf.V ls t = Vt at *
              generalize Huf.cnt ls t = N at *
              have hbs := hide (hb.out.trans hfst.out.2)
              have hcs := hide hfst.out.1
              clear hfst
              go_wp2
              go_loopw [11, 89] (fun v i wx => ∃ j : Nat, j ≤ N ∧ i = .int .i64 j ∧ v = .int .u32 ((V * 2 + j : Nat) : Int) ∧ Hid (Cd wx B g k Ab cb Al cl ls (Huf.fstTo ls (t + 1)) Ao co (Huf.lists ls k) (Huf.bitsIn ls t j)) ∧ Hid (Below B w wx)) (fun _ i _ => N - (intOf i).toNat)
              case atStart => exact ⟨0, by omega, rfl, by rw [Nat.add_zero, hvI], by rw [Huf.bitsIn_zero]; exact hcs, hbs⟩
              case round =>
                obtain ⟨j, hj, rfl, rfl, hcx, hbx⟩ := hrel
                by_cases hjN : j < N
                · have hjI : (j : Int) < N := by omega
                  have hjl : j < (Huf.idx ls k t).length := by rw [← hl2.out, hcnt.out]; exact hjN
                  have hoo := hcx.out.oo t htl
                  rw [hl2.out] at hoo
                  have hlN : (Huf.idx ls k t).length = N := by rw [← hl2.out, hcnt.out]
                  rw [hlN] at hoo
                  obtain ⟨ga, hA, _, _⟩ := hoo.pos (by omega)
                  rw [hA] at hoo ⊢
                  have hat := Huf.idx_at ls t k j hjl
                  have hstep := Huf.bitsIn_step ls t j ht1 (by rw [hl]; exact hjl)
                  have hc0 := hoo.cells (g := ga) rfl j (jv (Huf.idx ls k t)[j]) (by rw [List.getElem?_map, List.getElem?_eq_getElem hjl]; rfl)
                  rw [Addr.add_mid, Nat.zero_add] at hc0
                  simp only [hl] at hstep
                  generalize (Huf.idx ls k t)[j] = i0 at *
                  have hi0 : i0 < k := hat.2.2
                  have hi0I : (i0 : Int) < k := by omega
                  obtain ⟨gb, rfl, _, _⟩ := hcx.out.ob.pos (by omega)
                  have d0 := hcx.out.cellb
                  have hcb := hcx.out.ob.cells (g := gb) rfl i0 (uv (Huf.bitsIn ls t j i0)) (by simp [hi0])
                  rw [Addr.add_mid, Nat.zero_add] at hcb
                  have fb := hcx.out.ob.free i0
                  have hbit := hide (hcx.out.bit i0 (V * 2 + j))
                  rw [hff.out] at hstep
                  rw [hstep] at hbit
                  have hhI : ((V * 2 + j : Nat) : Int) = (V : Int) * 2 + j := by push_cast; rfl
                  have hjb : (V : Int) * 2 + j ≤ 65536 := by omega
                  rw [hhI] at hbit ⊢
                  clear hstep hat hoo hjl hlN
                  unfold jv at hc0
                  unfold uv at hcb
                  generalize Huf.bitsIn ls t j i0 = old at hcb
                  go_wp2
                  go_roundw
                  case rel => exact ⟨j + 1, by omega, by go_num, by rw [show V * 2 + (j + 1) = V * 2 + j + 1 from rfl]; push_cast; first | rfl | go_num, hide hbit.out.1, hide (hbx.out.trans hbit.out.2)⟩
                  case measure => simp [intOf] <;> omega
                · obtain rfl : j = N := by omega
                  have hba := Huf.bitsIn_all ls t ht1
                  have hNc : Huf.cnt ls t = j := by rw [← hcnt.out, hl2.out, Huf.cnt, hl]
                  rw [hNc] at hba
                  rw [hba] at hcx
                  go_wp2
                  go_roundw
                  case rel => exact ⟨t + 1, V * 2 + j, by omega, by omega, by go_num, rfl, hide (by rw [Nat.add_sub_cancel, ← Huf.first_cnt ls t ht1, hff.out, hNc]), hcx, hbx⟩
                  case measure => simp [intOf] <;> omega
            · obtain rfl : t = 16 := by omega
              go_wp2
              go_ret2
              subst hl
              exact ⟨g, rfl, ⟨Ab, cb, Al, cl, Ao, co, hcd.out.congr (fun s hs => if_pos hs)⟩, hb.out⟩
set_option maxRecDepth 100000 in
set_option maxHeartbeats 1000000 in
theorem new_form (A : Option Addr) (n c : Nat) (ls : List Nat) (short : Bool) (w : World) (B0 : Nat) (hr : Rd w B0 A n ((nz ls).map iv)) (hn : n ≤ 288) (h15 : ∀ x ∈ ls, x ≤ 15) (hf : ¬ Huf.fits ls short) :
    Calls Tryz.prog 164 #[.slice A n c, .bool short] w fun e w' => e = .returned (.tuple #[.pointer none, .int .i64 3]) ∧ w = w' := by
  have hl : ls.length = n := by have := hr.len; rwa [nz, List.length_map] at this
  have hk := kraft_any A n c _ w B0 hr
  rw [Huf.K_nat ls (by omega) h15, show Huf.ok (nz ls) = true from Huf.ok_map ls (by omega) h15] at hk
  have hk := hide hk
  have hsl := Huf.sum_le ls
  have h1 : Huf.sum ls ≠ 32768 := fun h => hf (.inl h)
  have h2 : Huf.sum ls < 32768 → short = true → Hid (Calls Tryz.prog 186 #[.slice A n c] w fun e w' => e = .returned (.bool false) ∧ w = w') := by
    intro h3 h4
    exact hide (lone_any A n c ls w B0 hr hn h15 false ⟨fun h5 => absurd (.inr ⟨h3, h4, h5⟩) hf, fun h => by cases h⟩)
  clear hf h15 hr
  have hSI : (Huf.sum ls : Int) ≤ 4718592 := by omega
  clear hsl
  generalize Huf.sum ls = S at *
  by_cases h3 : 32768 < S
  · have h3I : (32768 : Int) < S := by omega
    clear h1 h2 h3
    go_enter Tryz.func164, Tryz.ntmps164
    go_wp2_with (go_at_call 185; (with_reducible refine hk.out.mono ?_); rintro e w' ⟨rfl, rfl⟩)
    go_ret2
    exact ⟨rfl, rfl⟩
  · have h3I : (S : Int) < 32768 := by omega
    have hSb : ((32768 : Int) < (S : Int)) = False := by simp; omega
    have h2 := h2 (by omega)
    clear h1 h3
    cases short
    · clear h2
      go_enter Tryz.func164, Tryz.ntmps164
      go_wp2_with (go_at_call 185; (with_reducible refine hk.out.mono ?_); rintro e w' ⟨rfl, rfl⟩)
      go_ret2
      exact ⟨rfl, rfl⟩
    · have h2f := h2 rfl
      clear h2
      go_enter Tryz.func164, Tryz.ntmps164
      go_wp2_with (first
        | (go_at_call 185; (with_reducible refine hk.out.mono ?_); rintro e w' ⟨rfl, rfl⟩)
        | (go_at_call 186; (with_reducible refine h2f.out.mono ?_); rintro e w' ⟨rfl, rfl⟩))
      go_ret2
      exact ⟨rfl, rfl⟩
/-! ### A symbol's bits -/
theorem CodeAt.below {B g : Nat} {w w' : World} {ls : List Nat} (h : CodeAt B w g ls) (hb : Below w.heap.size w w') : CodeAt B w' g ls := by
  obtain ⟨Ab, cb, Al, cl, Ao, co, h⟩ := h
  exact ⟨Ab, cb, Al, cl, Ao, co, h.below hb⟩
set_option maxHeartbeats 400000 in
theorem of_in (g : Nat) (ls : List Nat) (i : Nat) (w : World) (B : Nat) (h : CodeAt B w g ls) (_ : ls.length ≤ 288) (hi : i < ls.length) :
    Calls Tryz.prog 189 #[.pointer (some ⟨g, 0, none⟩), .int .i64 (i : Int)] w fun e w' => e = .returned (.tuple #[.int .u32 (Huf.bits ls 16 i : Int), .int .i64 (ls[i] : Int)]) ∧ ∃ k, w' = w.drewN k := by
  obtain ⟨Ab, cb, Al, cl, Ao, co, hc⟩ := h
  obtain ⟨gb, rfl, _, _⟩ := hc.ob.pos (by omega)
  obtain ⟨gl, rfl, _, _⟩ := hc.ol.pos (by omega)
  have d0 := hc.cellb
  have d1 := hc.celll
  have e0 := hc.ob.cells (g := gb) rfl i (uv (Huf.bits ls 16 i)) (by simp [hi])
  have e1 := hc.ol.cells (g := gl) rfl i (iv (ls[i] : Int)) (by simp [nz, hi])
  rw [Addr.add_mid, Nat.zero_add] at e0 e1
  unfold uv at e0
  unfold iv at e1
  have hiI : (i : Int) < ls.length := by omega
  generalize ls[i] = x at *
  generalize Huf.bits ls 16 i = y at *
  have hc := hide hc
  go_enter Tryz.func189, Tryz.ntmps189
  go_wp2
  go_quiet (fail)
  go_wp2
  go_ret2
  exact ⟨rfl, _, rfl⟩
end Go.Proofs.YtaapjampmnanmaaGreat
namespace Go.Proofs.YtaapjampmnanmaaGreat
open Go.RowKit
def Huf.hits (ls : List Nat) (s v : Nat) : Bool := decide (Huf.first ls s ≤ v) && decide (v < Huf.first ls s + Huf.cnt ls s)
def Huf.sym (ls : List Nat) (s v : Nat) : Nat := (Huf.idx ls ls.length s).getD (v - Huf.first ls s) 0
def Huf.dec (ls : List Nat) (l : List Bool) : Nat → Nat → Nat → Nat × Nat × Nat
  | 0, s, _ => (0, s, 3)
  | r + 1, s, v =>
    match l[s]? with
    | none => (0, s, 2)
    | some b => if Huf.hits ls (s + 1) (2 * v + b.toNat) then (Huf.sym ls (s + 1) (2 * v + b.toNat), s + 1, 0) else Huf.dec ls l r (s + 1) (2 * v + b.toNat)
theorem Huf.dec_short (ls : List Nat) (l : List Bool) (r s v : Nat) (h : l.length ≤ s) : Huf.dec ls l (r + 1) s v = (0, s, 2) := by
  rw [Huf.dec, List.getElem?_eq_none h]
theorem Huf.dec_hit (ls : List Nat) (l : List Bool) (r s v : Nat) (b : Bool) (h : l[s]? = some b) (hh : Huf.hits ls (s + 1) (2 * v + b.toNat) = true) : Huf.dec ls l (r + 1) s v = (Huf.sym ls (s + 1) (2 * v + b.toNat), s + 1, 0) := by
  rw [Huf.dec, h]
  simp only [hh, if_true]
theorem Huf.dec_miss (ls : List Nat) (l : List Bool) (r s v : Nat) (b : Bool) (h : l[s]? = some b) (hh : Huf.hits ls (s + 1) (2 * v + b.toNat) = false) : Huf.dec ls l (r + 1) s v = Huf.dec ls l r (s + 1) (2 * v + b.toNat) := by
  rw [Huf.dec, h]
  simp only [hh, Bool.false_eq_true, if_false]
theorem Huf.dec_le (ls : List Nat) (l : List Bool) : ∀ r s v, s ≤ (Huf.dec ls l r s v).2.1 ∧ (Huf.dec ls l r s v).2.1 ≤ s + r ∧ (s ≤ l.length → (Huf.dec ls l r s v).2.1 ≤ l.length) := by
  intro r
  induction r with
  | zero => intro s v; exact ⟨Nat.le_refl _, Nat.le_refl _, fun h => h⟩
  | succ r ih =>
    intro s v
    by_cases hs : s < l.length
    · have he : l[s]? = some l[s] := List.getElem?_eq_getElem hs
      cases hh : Huf.hits ls (s + 1) (2 * v + l[s].toNat) with
      | true =>
        rw [Huf.dec_hit ls l r s v _ he hh]
        exact ⟨by simp, by simp, fun _ => by simp; omega⟩
      | false =>
        rw [Huf.dec_miss ls l r s v _ he hh]
        have := ih (s + 1) (2 * v + l[s].toNat)
        exact ⟨by omega, by omega, fun _ => this.2.2 hs⟩
    · rw [Huf.dec_short ls l r s v (by omega)]
      exact ⟨Nat.le_refl _, by simp, fun h => h⟩
def Huf.word (y x : Nat) : List Bool := (Bit.low y x).reverse
theorem Huf.word_length (y x : Nat) : (Huf.word y x).length = x := by rw [Huf.word, List.length_reverse, Bit.low_length]
theorem Huf.word_get (y x j : Nat) (h : j < x) : (Huf.word y x)[j]? = some (y.testBit (x - 1 - j)) := by
  rw [List.getElem?_eq_getElem (by rw [Huf.word_length]; exact h)]
  simp only [Huf.word, List.getElem_reverse, Bit.low, List.getElem_map, List.getElem_range, List.length_map, List.length_range]
theorem Huf.V_grow (ls : List Nat) (s : Nat) : ∀ t, s ≤ t → Huf.V ls s * 2 ^ (t - s) ≤ Huf.V ls t := by
  intro t
  induction t with
  | zero => intro h; obtain rfl : s = 0 := by omega
            simp [Huf.V]
  | succ t ih =>
    intro h
    by_cases e : s = t + 1
    · subst e; simp
    · have := ih (by omega)
      rw [show t + 1 - s = t - s + 1 from by omega, Nat.pow_succ, ← Nat.mul_assoc]
      simp only [Huf.V]
      omega
theorem Huf.dec_word (ls : List Nat) (i x : Nat) (hi : ls[i]? = some x) (h1 : 1 ≤ x) (h15 : x ≤ 15) (hs : Huf.sum ls ≤ 32768) (rest : List Bool) :
    Huf.dec ls (Huf.word (Huf.code ls i x) x ++ rest) 15 0 0 = (i, x, 0) := by
  have hcl := Huf.code_lt ls hs i x hi h1 h15
  have hrk := Huf.rank_lt ls i x hi
  have key : ∀ s, s < x → Huf.dec ls (Huf.word (Huf.code ls i x) x ++ rest) 15 0 0 = Huf.dec ls (Huf.word (Huf.code ls i x) x ++ rest) (15 - s) s (Huf.code ls i x / 2 ^ (x - s)) := by
    intro s
    induction s with
    | zero => intro _; rw [Nat.sub_zero, Nat.sub_zero, Nat.div_eq_of_lt hcl]
    | succ s ih =>
      intro hsx
      rw [ih (by omega), show 15 - s = 15 - (s + 1) + 1 from by omega]
      have hb : (Huf.word (Huf.code ls i x) x ++ rest)[s]? = some ((Huf.code ls i x).testBit (x - 1 - s)) := by
        rw [List.getElem?_append_left (by rw [Huf.word_length]; omega), Huf.word_get _ _ _ (by omega)]
      have hst := Huf.div_step (Huf.code ls i x) x s (by omega)
      have hbt : 2 * (Huf.code ls i x / 2 ^ (x - s)) + ((Huf.code ls i x).testBit (x - 1 - s)).toNat = Huf.code ls i x / 2 ^ (x - (s + 1)) := by
        rw [hst]
        cases (Huf.code ls i x).testBit (x - 1 - s) <;> rfl
      rw [Huf.dec_miss ls _ _ s _ _ hb, hbt]
      rw [hbt]
      have hge : Huf.V ls (s + 1) ≤ Huf.code ls i x / 2 ^ (x - (s + 1)) := by
        rw [Nat.le_div_iff_mul_le (Nat.two_pow_pos _)]
        have h2 := Huf.V_grow ls (s + 1) (x - 1) (by omega)
        have h3 : Huf.first ls x = 2 * Huf.V ls (x - 1) := by
          obtain ⟨t, rfl⟩ : ∃ t, x = t + 1 := ⟨x - 1, by omega⟩
          rfl
        have h4 : Huf.V ls (s + 1) * 2 ^ (x - (s + 1)) = 2 * (Huf.V ls (s + 1) * 2 ^ (x - 1 - (s + 1))) := by
          rw [show x - (s + 1) = x - 1 - (s + 1) + 1 from by omega, Nat.pow_succ, ← Nat.mul_assoc, Nat.mul_comm]
        rw [h4]
        have : Huf.first ls x ≤ Huf.code ls i x := by unfold Huf.code; omega
        omega
      have hfc := Huf.first_cnt ls (s + 1) (by omega)
      unfold Huf.hits
      rw [hfc]
      simp
      omega
  have h0 := key (x - 1) (by omega)
  rw [h0, show 15 - (x - 1) = 15 - x + 1 from by omega]
  have hb : (Huf.word (Huf.code ls i x) x ++ rest)[x - 1]? = some ((Huf.code ls i x).testBit (x - 1 - (x - 1))) := by
    rw [List.getElem?_append_left (by rw [Huf.word_length]; omega), Huf.word_get _ _ _ (by omega)]
  have hst := Huf.div_step (Huf.code ls i x) x (x - 1) (by omega)
  have hx1 : x - 1 + 1 = x := by omega
  have hbt : 2 * (Huf.code ls i x / 2 ^ (x - (x - 1))) + ((Huf.code ls i x).testBit (x - 1 - (x - 1))).toNat = Huf.code ls i x := by
    rw [hx1, Nat.sub_self, Nat.pow_zero, Nat.div_one] at hst
    refine Eq.trans ?_ hst.symm
    cases (Huf.code ls i x).testBit (x - 1 - (x - 1)) <;> rfl
  rw [Huf.dec_hit ls _ _ (x - 1) _ _ hb]
  · rw [hbt, hx1, Huf.sym, Huf.code, Nat.add_sub_cancel_left, List.getD_eq_getElem?_getD, Huf.idx_rank ls i x hi ls.length (List.getElem?_eq_some_iff.1 hi).1]
    rfl
  · rw [hbt, hx1]
    unfold Huf.hits Huf.code
    simp
    exact hrk
end Go.Proofs.YtaapjampmnanmaaGreat
namespace Go.Proofs.YtaapjampmnanmaaGreat
open Go.RowKit
def fixL (i : Nat) : Nat := if i < 144 ∨ 280 ≤ i then 8 else if i < 256 then 9 else 7
def lsF : List Nat := (List.range 288).map fixL
theorem lsF_fits : Huf.fits lsF false := .inl (by decide +kernel)
theorem lsF_len : lsF.length = 288 := by decide +kernel
theorem lsF_le : ∀ x ∈ lsF, x ≤ 15 := by decide +kernel
theorem range_snoc (f : Nat → Value) (k : Nat) : (List.range k).map f ++ [f k] = (List.range (k + 1)).map f := by rw [List.range_succ, List.map_append]; rfl
set_option maxRecDepth 100000 in
set_option maxHeartbeats 1000000 in
theorem fixed_any (w : World) : Calls Tryz.prog 163 #[] w fun e w' => ∃ A1 c1 A2 c2, e = .returned (.tuple #[.slice A1 288 c1, .slice A2 30 c2]) ∧
    Ow w' w.heap.size 3 A1 288 c1 ((List.range 288).map fun i => jv (fixL i)) ∧ Ow w' w.heap.size 3 A2 30 c2 ((List.range 30).map fun _ => jv 5) ∧ Below w.heap.size w w' := by
  go_enter Tryz.func163, Tryz.ntmps163
  go_wp2
  go_loopw [0, 3] (fun s i wr => ∃ k : Nat, ∃ A c, k ≤ 288 ∧ i = .int .i64 k ∧ s = .slice A k c ∧ Hid (Ow wr w.heap.size 3 A k c ((List.range k).map fun i => jv (fixL i))) ∧ Hid (Below w.heap.size w wr)) (fun _ i _ => 288 - (intOf i).toNat)
  case atStart => exact ⟨0, none, 0, by omega, rfl, rfl, Ow.nil _ _ _, Below.refl _ _⟩
  case round =>
    obtain ⟨k, A, c, hk, rfl, rfl, ho, hb⟩ := hrel
    by_cases hlt : k < 288
    · have hkI : (k : Int) ≤ 287 := by omega
      have hsn := hide (range_snoc (fun i => jv (fixL i)) k)
      by_cases h8 : k < 144 ∨ 280 ≤ k
      · have hf : fixL k = 8 := if_pos h8
        rw [hf] at hsn
        have hd : k < 144 ∨ (144 ≤ k ∧ 280 ≤ k) := by omega
        have hd : (k : Int) ≤ 143 ∨ ((144 : Int) ≤ k ∧ (280 : Int) ≤ k) := by omega
        replace hlt := hide hlt
        clear h8 hf hk
        rcases hd with hd | ⟨hd1, hd⟩
        all_goals
          go_wp2_with (at_builtin; refine wpList_append_one wr rfl (.tmp 16) (.tmp 17) rfl elem_int rfl ho.out (jv 8) 3 _ rfl rfl (by simp only [maxLen]; omega) (by omega) hb.out.size ?_; intro A3 c3 w3 ho3 hg3 hn3; have hb3 := hide (hb.out.trans (hg3.to_below (B := w.heap.size) hb.out.size (fun i hi => (ho.out.blk_lt i hi).1))); have ho3 := hide ho3; clear hg3 hn3)
          go_roundw
          case rel => exact ⟨k + 1, A3, c3, by have := hlt.out; omega, by go_num, rfl, by rw [← hsn.out]; exact ho3, hb3⟩
          case measure => simp [intOf] <;> omega
      · by_cases h9 : k < 256
        · have hf : fixL k = 9 := by unfold fixL; rw [if_neg h8, if_pos h9]
          rw [hf] at hsn
          have hd1 : (144 : Int) ≤ k := by omega
          have hd2 : (k : Int) ≤ 255 := by omega
          replace hlt := hide hlt
          clear h8 hf hk h9
          go_wp2_with (at_builtin; refine wpList_append_one wr rfl (.tmp 22) (.tmp 23) rfl elem_int rfl ho.out (jv 9) 3 _ rfl rfl (by simp only [maxLen]; omega) (by omega) hb.out.size ?_; intro A3 c3 w3 ho3 hg3 hn3; have hb3 := hide (hb.out.trans (hg3.to_below (B := w.heap.size) hb.out.size (fun i hi => (ho.out.blk_lt i hi).1))); have ho3 := hide ho3; clear hg3 hn3)
          go_roundw
          case rel => exact ⟨k + 1, A3, c3, by have := hlt.out; omega, by go_num, rfl, by rw [← hsn.out]; exact ho3, hb3⟩
          case measure => simp [intOf] <;> omega
        · have hf : fixL k = 7 := by unfold fixL; rw [if_neg h8, if_neg h9]
          rw [hf] at hsn
          have hd1 : (256 : Int) ≤ k := by omega
          have hd2 : (k : Int) ≤ 279 := by omega
          replace hlt := hide hlt
          clear h8 h9 hf hk
          go_wp2_with (at_builtin; refine wpList_append_one wr rfl (.tmp 6) (.tmp 7) rfl elem_int rfl ho.out (jv 7) 3 _ rfl rfl (by simp only [maxLen]; omega) (by omega) hb.out.size ?_; intro A3 c3 w3 ho3 hg3 hn3; have hb3 := hide (hb.out.trans (hg3.to_below (B := w.heap.size) hb.out.size (fun i hi => (ho.out.blk_lt i hi).1))); have ho3 := hide ho3; clear hg3 hn3)
          go_roundw
          case rel => exact ⟨k + 1, A3, c3, by have := hlt.out; omega, by go_num, rfl, by rw [← hsn.out]; exact ho3, hb3⟩
          case measure => simp [intOf] <;> omega
    · have hk8 : k = 288 := by omega
      have hkI : (288 : Int) ≤ k := by omega
      replace hk8 := hide hk8
      have hz := hide hb.out.size
      obtain ⟨B1, hB1⟩ : ∃ B1, wr.heap.size = B1 := ⟨_, rfl⟩
      have hoB : Hid (∀ W, Below B1 wr W → Ow W w.heap.size 3 A k c ((List.range k).map fun i => jv (fixL i)) ∧ Below w.heap.size w W) := hide (fun W h => by subst hB1; exact ⟨ho.out.below h, hb.out.trans (h.mono hz.out)⟩)
      have hzB : Hid (w.heap.size ≤ B1) := by rw [← hB1]; exact hz
      have hst : Hid (Below B1 wr wr ∧ B1 ≤ wr.heap.size) := hide ⟨Below.refl _ _, by omega⟩
      clear hB1 hz ho hb hk hlt
      go_wp2
      go_loopw [1, 26] (fun s i wx => ∃ k : Nat, ∃ A2 c2, k ≤ 30 ∧ i = .int .i64 k ∧ s = .slice A2 k c2 ∧ Hid (Ow wx B1 3 A2 k c2 ((List.range k).map fun _ => jv 5)) ∧ Hid (Below B1 wr wx ∧ B1 ≤ wx.heap.size)) (fun _ i _ => 30 - (intOf i).toNat)
      case atStart => exact ⟨0, none, 0, by omega, rfl, rfl, Ow.nil _ _ _, hst⟩
      case round =>
        obtain ⟨j, A2, c2, hk, rfl, rfl, ho2, hb2⟩ := hrel
        by_cases hlt : j < 30
        · have hjI : (j : Int) ≤ 29 := by omega
          have hsn := hide (range_snoc (fun _ => jv 5) j)
          go_wp2_with (at_builtin; refine wpList_append_one _ rfl (.tmp 28) (.tmp 29) rfl elem_int rfl ho2.out (jv 5) 3 _ rfl rfl (by simp only [maxLen]; omega) (by omega) hb2.out.2 ?_; intro A3 c3 w3 ho3 hg3 hn3; have hb3 := hide (show _ ∧ _ from ⟨hb2.out.1.trans (hg3.to_below (B := B1) hb2.out.2 (fun i hi => (ho2.out.blk_lt i hi).1)), Nat.le_trans hb2.out.2 hg3.size⟩); have ho3 := hide ho3; clear hg3 hn3)
          go_roundw
          case rel => exact ⟨j + 1, A3, c3, by omega, by go_num, rfl, by rw [← hsn.out]; exact ho3, hb3⟩
          case measure => simp [intOf] <;> omega
        · obtain rfl : j = 30 := by omega
          go_wp2
          go_ret2
          obtain rfl := hk8.out
          exact ⟨A, c, A2, c2, rfl, (hoB.out _ hb2.out.1).1, ho2.out.base_le (fun g hg => Nat.le_trans hzB.out (ho2.out.blk_lt g hg).1), (hoB.out _ hb2.out.1).2⟩
theorem lsF_rd : (List.range 288).map (fun i => jv (fixL i)) = (nz lsF).map iv := by
  unfold nz lsF
  rw [List.map_map, List.map_map]
  rfl
end Go.Proofs.YtaapjampmnanmaaGreat
namespace Go.Proofs.YtaapjampmnanmaaGreat
open Go.RowKit
theorem Cd.keep {w w' : World} {B g n : Nat} {Ab : Option Addr} {cb : Nat} {Al : Option Addr} {cl : Nat} {ls : List Nat} {fs : Nat → Nat} {Ao : Nat → Option Addr} {co : Nat → Nat} {os : Nat → List Nat} {bits : Nat → Nat}
    (h : Cd w B g n Ab cb Al cl ls fs Ao co os bits) (hx : KeepX w w') : Cd w' B g n Ab cb Al cl ls fs Ao co os bits := by
  obtain ⟨cs, hk, hr⟩ := h.cells
  exact ⟨⟨cs, hx.row hk (by decide) (by decide) (by decide), hr⟩, h.hg, hx.ow h.ob (by decide) (by decide) (by decide), hx.ow h.ol (by decide) (by decide) (by decide), fun s hs => hx.ow (h.oo s hs) (by decide) (by decide) (by decide), h.apart, h.apartL⟩
theorem CodeAt.keep {B g : Nat} {w w' : World} {ls : List Nat} (h : CodeAt B w g ls) (hx : KeepX w w') : CodeAt B w' g ls := by
  obtain ⟨Ab, cb, Al, cl, Ao, co, h⟩ := h
  exact ⟨Ab, cb, Al, cl, Ao, co, h.keep hx⟩
theorem bit_at (bs : List UInt8) (a s : Nat) (b : Bool) (h : ((Bit.bitsOf bs).drop a)[s]? = some b) : Bit.num (((Bit.bitsOf bs).drop (a + s)).take 1) = b.toNat := by
  rw [← List.drop_drop]
  obtain ⟨hl, rfl⟩ := List.getElem?_eq_some_iff.1 h
  rw [List.drop_eq_getElem_cons hl]
  simp [Bit.num]
theorem or_bit1 (V b : Nat) (hV : V ≤ 32767) (hb : b ≤ 1) : bits .or .u32 ((V : Int) * 2) (b : Int) = ((2 * V + b : Nat) : Int) := by
  rw [show (V : Int) * 2 = ((2 * V : Nat) : Int) from by push_cast; rw [Int.mul_comm], u32_or_nat (2 * V) b (by omega) (by omega), nat_join1 (2 * V) b (by omega) (by omega)]
theorem Huf.bits_lt (ls : List Nat) (h15 : ∀ x ∈ ls, x ≤ 15) (hs : Huf.sum ls ≤ 32768) (i : Nat) (hi : i < ls.length) : Huf.bits ls 16 i ≤ 32767 := by
  have hx15 := h15 ls[i] (List.getElem_mem hi)
  have hg : ls.getD i 0 = ls[i] := by rw [List.getD_eq_getElem?_getD, List.getElem?_eq_getElem hi]; rfl
  unfold Huf.bits
  rw [hg]
  split
  · have := Huf.code_lt ls hs i _ (List.getElem?_eq_getElem hi) (by omega) hx15
    have h2 : 2 ^ ls[i] ≤ 2 ^ 15 := Nat.pow_le_pow_right (by omega) hx15
    omega
  · omega
end Go.Proofs.YtaapjampmnanmaaGreat
namespace Go.Proofs.YtaapjampmnanmaaGreat
open Go.RowKit
end Go.Proofs.YtaapjampmnanmaaGreat
namespace Go.Proofs.YtaapjampmnanmaaGreat
open Go.RowKit
section
variable {w w' : World} {B g : Nat} {fs : Nat → Nat} {Ao : Nat → Option Addr} {co : Nat → Nat} {os : Nat → List Nat}
end
end Go.Proofs.YtaapjampmnanmaaGreat
namespace Go.Proofs.YtaapjampmnanmaaGreat
open Go.RowKit
end Go.Proofs.YtaapjampmnanmaaGreat
