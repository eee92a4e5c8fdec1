/- The walks of layer 3 (huff) that read lengths: Kraft's sum, a lone code, and the reference's answers. There is no condition but where the slice lies. -/
import Derived.Test.YthplpoijkebjbaaMem
import Derived.Test.YthplpoijkebjbaaHuffLaw
namespace Go.Proofs.Ythplpoijkebjbaa
open Go.RowKit

def iv (z : Int) : Value := .int .i64 z
theorem Rd.int {w : World} {B n : Nat} {A : Option Addr} {l : List Int} (h : Rd w B A n (l.map iv)) {j : Nat} (hj : j < n) :
    ∃ b o, A = some ⟨b, o, none⟩ ∧ b < B ∧ w.cell? ⟨b, o + j, none⟩ = some (.int .i64 (l[j]'(by have := h.1; rw [List.length_map] at this; omega))) := by
  obtain ⟨b, o, h1, h2, h3⟩ := h.at hj
  exact ⟨b, o, h1, h2, by rw [h3, List.getElem_map]; rfl⟩

/-- The sum as the program answers it. -/
def Huf.part (zs : List Int) (k : Nat) : Nat := Huf.sum ((zs.take k).map Int.toNat)
def Huf.K (zs : List Int) : Int := if Huf.ok zs then (Huf.part zs zs.length : Int) else 0
theorem Huf.part_succ (zs : List Int) (k : Nat) (h : k < zs.length) : Huf.part zs (k + 1) = Huf.part zs k + Huf.wt zs[k].toNat := by
  unfold Huf.part Huf.sum
  rw [take_snoc zs k h, List.map_append, List.map_append, List.sum_append]
  simp
theorem Huf.wt_le (x : Nat) : Huf.wt x ≤ 16384 := by
  unfold Huf.wt
  split
  · omega
  · have : 2 ^ (15 - x) ≤ 2 ^ 14 := Nat.pow_le_pow_right (by omega) (by omega)
    omega
theorem Huf.part_le (zs : List Int) : ∀ k, Huf.part zs k ≤ 16384 * k := by
  intro k
  induction k with
  | zero => simp [Huf.part, Huf.sum]
  | succ k ih =>
    by_cases h : k < zs.length
    · rw [Huf.part_succ zs k h]
      have := Huf.wt_le zs[k].toNat
      omega
    · have e : zs.take (k + 1) = zs.take k := by rw [List.take_of_length_le (by omega), List.take_of_length_le (by omega)]
      unfold Huf.part at *
      rw [e]
      omega
theorem Huf.ok_all (zs : List Int) (h : zs.length ≤ 288) (ha : ∀ j (hj : j < zs.length), 0 ≤ zs[j] ∧ zs[j] ≤ 15) : Huf.ok zs = true := by
  simp only [Huf.ok, Bool.and_eq_true, decide_eq_true_eq, List.all_eq_true, Huf.good]
  refine ⟨h, ?_⟩
  intro z hz
  obtain ⟨j, hj, rfl⟩ := List.mem_iff_getElem.1 hz
  exact ha j hj
theorem Huf.ok_bad (zs : List Int) (j : Nat) (hj : j < zs.length) (h : zs[j] < 0 ∨ 15 < zs[j]) : Huf.ok zs = false := by
  cases hk : Huf.ok zs with
  | false => rfl
  | true =>
    exfalso
    simp only [Huf.ok, Bool.and_eq_true, decide_eq_true_eq, List.all_eq_true, Huf.good] at hk
    have := hk.2 zs[j] (List.getElem_mem hj)
    omega
theorem Huf.ok_long (zs : List Int) (h : 288 < zs.length) : Huf.ok zs = false := by
  cases hk : Huf.ok zs with
  | false => rfl
  | true =>
    exfalso
    simp only [Huf.ok, Bool.and_eq_true, decide_eq_true_eq] at hk
    omega
theorem Huf.K_bad {zs : List Int} (h : Huf.ok zs = false) : Huf.K zs = 0 := by unfold Huf.K; rw [h]; rfl
theorem Huf.K_ok {zs : List Int} (h : Huf.ok zs = true) : Huf.K zs = (Huf.part zs zs.length : Int) := by unfold Huf.K; rw [h]; rfl

set_option maxHeartbeats 1000000 in
theorem kraft_any (A : Option Addr) (n c : Nat) (zs : List Int) (w : World) (B : Nat) (hr : Rd w B A n (zs.map iv)) :
    Calls Try.prog 103 #[.slice A n c] w fun e w' => e = .returned (.tuple #[.int .i64 (Huf.K zs), .bool (Huf.ok zs)]) ∧ w = w' := by
  have hl : zs.length = n := hr.len
  have hr := hide hr
  by_cases hbig : 288 < n
  · have hb := Huf.ok_long zs (by omega)
    have hK := Huf.K_bad hb
    have hnI : (288 : Int) < n := by omega
    rw [hb, hK]
    go_enter Try.func103, Try.ntmps103
    go_wp2
    go_ret2
    exact ⟨rfl, rfl⟩
  · have hnI : (n : Int) ≤ 288 := by omega
    go_enter Try.func103, Try.ntmps103
    go_wp2
    go_loop [4, 12] (fun s i => ∃ k : Nat, k ≤ n ∧ i = .int .i64 k ∧ s = .int .i64 (Huf.part zs k : Int) ∧ Hid (∀ j (hj : j < zs.length), j < k → 0 ≤ zs[j] ∧ zs[j] ≤ 15)) (fun _ i => n - (intOf i).toNat)
    case atStart => exact ⟨0, by omega, rfl, by simp [Huf.part, Huf.sum], fun j _ h => absurd h (Nat.not_lt_zero _)⟩
    case round =>
      obtain ⟨k, hk, rfl, rfl, hall⟩ := hrel
      by_cases hlt : k < n
      · have hkl : k < zs.length := by omega
        obtain ⟨b, o, rfl, hbB, e0⟩ := hr.out.int (j := k) hlt
        have hkI : (k : Int) < n := by omega
        have hs := Huf.part_succ zs k hkl
        have hle := Huf.part_le zs k
        have hbad := hide (Huf.ok_bad zs k hkl)
        have hall2 : Hid (0 ≤ zs[k] ∧ zs[k] ≤ 15 → ∀ j (hj : j < zs.length), j < k + 1 → 0 ≤ zs[j] ∧ zs[j] ≤ 15) := by
          intro hz j hj hjk
          by_cases e : j = k
          · subst e; exact hz
          · exact hall.out j hj (by omega)
        generalize zs[k] = z at *
        by_cases hz0 : z < 0
        · have hb := hbad.out (.inl hz0)
          have hK := hide (Huf.K_bad hb)
          have hb := hide hb
          go_wp2
          go_ret2
          exact ⟨by first | (rw [hK.out, hb.out]; done) | (rw [hK.out, hb.out]; rfl) | (rw [hK.out]; done) | (rw [hK.out]; rfl) | rfl, rfl⟩
        · by_cases hz15 : 15 < z
          · have hb := hbad.out (.inr hz15)
            have hK := hide (Huf.K_bad hb)
            have hb := hide hb
            go_wp2
            go_ret2
            exact ⟨by first | (rw [hK.out, hb.out]; done) | (rw [hK.out, hb.out]; rfl) | (rw [hK.out]; done) | (rw [hK.out]; rfl) | rfl, rfl⟩
          · obtain ⟨m, rfl⟩ := Int.eq_ofNat_of_zero_le (by omega : 0 ≤ z)
            rw [Int.toNat_natCast] at hs
            have hm : m ≤ 15 := by omega
            by_cases hm0 : m = 0
            · subst hm0
              rw [show Huf.wt 0 = 0 from rfl, Nat.add_zero] at hs
              have hs := hide hs
              generalize Huf.part zs k = S at *
              go_wp2
              go_round
              case rel => exact ⟨k + 1, by omega, by go_num, by rw [hs.out]; rfl, hide (hall2.out (by omega))⟩
              case measure => simp [intOf] <;> omega
            · have hw : Huf.wt m = 2 ^ (15 - m) := by unfold Huf.wt; rw [if_neg hm0]
              have hp : 2 ^ (15 - m) ≤ 2 ^ 14 := Nat.pow_le_pow_right (by omega) (by omega)
              have hpI : (2 : Int) ^ (15 - m) = ((2 ^ (15 - m) : Nat) : Int) := by push_cast; rfl
              rw [hw] at hs
              have hs := hide hs
              generalize (2 ^ (15 - m) : Nat) = P at *
              have hmI : (0 : Int) < m := by omega
              have hmI2 : (15 : Int) - m = ((15 - m : Nat) : Int) := by omega
              generalize Huf.part zs k = S at *
              go_wp2
              go_round
              case rel => exact ⟨k + 1, by omega, by go_num, by rw [hs.out]; go_num, hide (hall2.out (by omega))⟩
              case measure => simp [intOf] <;> omega
      · obtain rfl : k = n := by omega
        have hok := hide (Huf.ok_all zs (by omega) (fun j hj => hall.out j hj (by omega)))
        have hK := hide (Huf.K_ok hok.out)
        rw [hl] at hK
        go_wp2
        go_ret2
        exact ⟨by first | (rw [hK.out, hok.out]; done) | (rw [hK.out, hok.out]; rfl) | (rw [hK.out]; done) | (rw [hK.out]; rfl) | rfl, rfl⟩

set_option maxRecDepth 100000 in
set_option maxHeartbeats 1000000 in
theorem refkraft_any (A : Option Addr) (n c : Nat) (zs : List Int) (w : World) (B : Nat) (hr : Rd w B A n (zs.map iv)) (hn : n ≤ maxLen) :
    Calls Try.prog 127 #[.slice A n c] w fun e w' => e = .returned (.tuple #[.int .i64 (Huf.K zs), .bool (Huf.ok zs)]) ∧ w = w' := by
  have hl : zs.length = n := hr.len
  have hr := hide hr
  have hnI : (n : Int) ≤ 9223372036854775807 := by simp only [maxLen] at hn; omega
  clear hn
  go_enter Try.func127, Try.ntmps127
  go_wp2
  go_loop [4, 5] (fun s i => ∃ k : Nat, k ≤ n ∧ k ≤ 289 ∧ i = .int .i64 k ∧ s = .int .i64 (Huf.part zs k : Int) ∧ Hid (∀ j (hj : j < zs.length), j < k → 0 ≤ zs[j] ∧ zs[j] ≤ 15)) (fun _ i => n - (intOf i).toNat)
  case atStart => exact ⟨0, by omega, by omega, rfl, by simp [Huf.part, Huf.sum], fun j _ h => absurd h (Nat.not_lt_zero _)⟩
  case round =>
    obtain ⟨k, hk, hk289, rfl, rfl, hall⟩ := hrel
    by_cases hlt : k < n
    · have hkl : k < zs.length := by omega
      have hkI : (k : Int) < n := by omega
      by_cases h289 : k < 289
      · have h289I : (k : Int) < 289 := by omega
        obtain ⟨b, o, rfl, hbB, e0⟩ := hr.out.int (j := k) hlt
        have hs := Huf.part_succ zs k hkl
        have hle := Huf.part_le zs k
        have hbad := hide (Huf.ok_bad zs k hkl)
        have hall2 : Hid (0 ≤ zs[k] ∧ zs[k] ≤ 15 → ∀ j (hj : j < zs.length), j < k + 1 → 0 ≤ zs[j] ∧ zs[j] ≤ 15) := by
          intro hz j hj hjk
          by_cases e : j = k
          · subst e; exact hz
          · exact hall.out j hj (by omega)
        generalize zs[k] = z at *
        by_cases hz0 : z < 0
        · have hb := hide (hbad.out (.inl hz0))
          have hK := hide (Huf.K_bad hb.out)
          go_wp2
          go_ret2
          exact ⟨by first | (rw [hK.out, hb.out]; done) | (rw [hK.out, hb.out]; rfl) | (rw [hK.out]; done) | (rw [hK.out]; rfl) | rfl, rfl⟩
        · by_cases hz15 : 15 < z
          · have hb := hide (hbad.out (.inr hz15))
            have hK := hide (Huf.K_bad hb.out)
            go_wp2
            go_ret2
            exact ⟨by first | (rw [hK.out, hb.out]; done) | (rw [hK.out, hb.out]; rfl) | (rw [hK.out]; done) | (rw [hK.out]; rfl) | rfl, rfl⟩
          · obtain ⟨m, rfl⟩ := Int.eq_ofNat_of_zero_le (by omega : 0 ≤ z)
            rw [Int.toNat_natCast] at hs
            have hm : m ≤ 15 := by omega
            generalize Huf.part zs k = S at *
            go_wp2
            go_loop [6, 7] (fun x i => ∃ j P : Nat, j ≤ m ∧ i = .int .i64 j ∧ x = .int .i64 (P : Int) ∧ P ≤ 32768 ∧ Hid (P = 2 ^ (15 - j))) (fun _ i => m - (intOf i).toNat)
            case atStart => exact ⟨0, 32768, by omega, rfl, rfl, by omega, hide (by decide)⟩
            case round =>
              obtain ⟨j, P, hj, rfl, rfl, hP, hPe⟩ := hrel
              by_cases hjm : j < m
              · have hjI : (j : Int) < m := by omega
                have hPn : Hid (P / 2 = 2 ^ (15 - (j + 1))) := by
                  rw [hPe.out, show 15 - j = 15 - (j + 1) + 1 from by omega, Nat.pow_succ, Nat.mul_div_cancel _ (by omega)]
                  exact hide rfl
                go_wp2
                go_round
                case rel => exact ⟨j + 1, P / 2, by omega, by go_num, by first | go_num | (exact int_eq (by omega)), by omega, hPn⟩
                case measure => simp [intOf] <;> omega
              · obtain rfl : j = m := by omega
                by_cases hm0 : j = 0
                · subst hm0
                  have hs := hide hs
                  go_wp2
                  go_round
                  case rel => exact ⟨k + 1, by omega, by omega, by go_num, by rw [hs.out]; rfl, hide (hall2.out (by omega))⟩
                  case measure => simp [intOf] <;> omega
                · have hw : Huf.wt j = P := by unfold Huf.wt; rw [if_neg hm0, hPe.out]
                  rw [hw] at hs
                  have hs := hide hs
                  have hmI : (0 : Int) < j := by omega
                  have hPI : (P : Int) ≤ 32768 := by omega
                  have hSI : (S : Int) ≤ 16384 * 289 := by omega
                  clear hP hPe hw hle
                  go_wp2
                  go_round
                  case rel => exact ⟨k + 1, by omega, by omega, by go_num, by rw [hs.out]; go_num, hide (hall2.out (by omega))⟩
                  case measure => simp [intOf] <;> omega
      · obtain rfl : k = 289 := by omega
        have hb := hide (Huf.ok_long zs (by omega))
        have hK := hide (Huf.K_bad hb.out)
        have hnb : (288 : Int) < n := by omega
        go_wp2
        go_ret2
        exact ⟨by first | (rw [hK.out, hb.out]; done) | (rw [hK.out, hb.out]; rfl) | (rw [hK.out]; done) | (rw [hK.out]; rfl) | rfl, rfl⟩
    · obtain rfl : k = n := by omega
      by_cases hbig : 288 < k
      · have hb := hide (Huf.ok_long zs (by omega))
        have hK := hide (Huf.K_bad hb.out)
        have hnb : (288 : Int) < k := by omega
        go_wp2
        go_ret2
        exact ⟨by first | (rw [hK.out, hb.out]; done) | (rw [hK.out, hb.out]; rfl) | (rw [hK.out]; done) | (rw [hK.out]; rfl) | rfl, rfl⟩
      · have hok := hide (Huf.ok_all zs (by omega) (fun j hj => hall.out j hj (by omega)))
        have hK := hide (Huf.K_ok hok.out)
        rw [hl] at hK
        have hnb : (k : Int) ≤ 288 := by omega
        go_wp2
        go_ret2
        exact ⟨by first | (rw [hK.out, hok.out]; done) | (rw [hK.out, hok.out]; rfl) | (rw [hK.out]; done) | (rw [hK.out]; rfl) | rfl, rfl⟩

/-- Lengths as they come in, once they are right. -/
theorem Huf.part_nat (ls : List Nat) : Huf.part (ls.map (fun x : Nat => (x : Int))) ls.length = Huf.sum ls := by
  unfold Huf.part
  rw [List.take_of_length_le (by simp), List.map_map]
  congr 1
  calc ls.map (Int.toNat ∘ fun x : Nat => (x : Int)) = ls.map id := List.map_congr_left fun x _ => by simp
    _ = ls := List.map_id ls

theorem lone_any (A : Option Addr) (n c : Nat) (ls : List Nat) (w : World) (B : Nat) (hr : Rd w B A n ((ls.map (fun x : Nat => (x : Int))).map iv)) (hn : n ≤ 288) (h15 : ∀ x ∈ ls, x ≤ 15) (v : Bool) (hv : ((∀ x ∈ ls, x ≤ 1) ∧ ls.sum ≤ 1) ↔ v = true) :
    Calls Try.prog 104 #[.slice A n c] w fun e w' => e = .returned (.bool v) ∧ w = w' := by
  have hv := hide hv
  have hl : ls.length = n := by have := hr.len; rwa [List.length_map] at this
  have hr := hide hr
  have h15 := hide h15
  go_enter Try.func104, Try.ntmps104
  go_wp2
  go_loop [3, 8] (fun s i => ∃ k : Nat, k ≤ n ∧ i = .int .i64 k ∧ s = .int .i64 ((ls.take k).sum : Int) ∧ (ls.take k).sum ≤ k ∧ Hid (∀ x ∈ ls.take k, x ≤ 1)) (fun _ i => n - (intOf i).toNat)
  case atStart => exact ⟨0, by omega, rfl, by simp, by simp, hide (by simp)⟩
  case round =>
    obtain ⟨k, hk, rfl, rfl, hS, hall⟩ := hrel
    by_cases hlt : k < n
    · have hkl : k < ls.length := by omega
      obtain ⟨b, o, rfl, hbB, e0⟩ := hr.out.int (j := k) hlt
      rw [List.getElem_map] at e0
      have hs := take_snoc ls k hkl
      have hsum : (ls.take (k + 1)).sum = (ls.take k).sum + ls[k] := by rw [hs, List.sum_append]; simp
      have hkI : (k : Int) < n := by omega
      have hx15 := h15.out ls[k] (List.getElem_mem hkl)
      have hmem := List.getElem_mem hkl
      generalize ls[k] = x at *
      by_cases hx : 1 < x
      · have hxI : (1 : Int) < x := by omega
        have hd : Hid (v = false) := hide (by
          cases v
          · rfl
          · have := (hv.out.2 rfl).1 x hmem
            omega)
        clear hs hsum
        go_wp2
        go_ret
        exact ⟨by rw [hd.out]; rfl, rfl⟩
      · have hxI : (x : Int) ≤ 1 := by omega
        have hall2 : Hid (∀ y ∈ ls.take (k + 1), y ≤ 1) := hide (by
          rw [hs]
          intro y hy
          rcases List.mem_append.1 hy with hy | hy
          · exact hall.out y hy
          · rw [List.mem_singleton.1 hy]; omega)
        have hsum := hide hsum
        clear hs
        generalize (ls.take k).sum = S at *
        go_wp2
        go_round
        case rel => exact ⟨k + 1, by omega, by go_num, by rw [hsum.out]; go_num, by rw [hsum.out]; omega, hall2⟩
        case measure => simp [intOf] <;> omega
    · obtain rfl : k = n := by omega
      have e : ls.take k = ls := List.take_of_length_le (by omega)
      rw [e] at hall hS ⊢
      have hd : Hid (v = decide ((ls.sum : Int) ≤ 1)) := hide (by
        apply Bool.eq_iff_iff.2
        rw [decide_eq_true_eq, ← hv.out]
        constructor
        · rintro ⟨_, h⟩; omega
        · intro h; exact ⟨hall.out, by omega⟩)
      go_wp2
      go_ret
      exact ⟨by rw [hd.out]; rfl, rfl⟩

set_option maxHeartbeats 400000 in
theorem refones_any (A : Option Addr) (n c : Nat) (ls : List Nat) (w : World) (B : Nat) (hr : Rd w B A n ((ls.map (fun x : Nat => (x : Int))).map iv)) (hn : n ≤ 288) :
    Calls Try.prog 128 #[.slice A n c] w fun e w' => e = .returned (.int .i64 (ls.count 1 : Int)) ∧ w = w' := by
  have hl : ls.length = n := by have := hr.len; rwa [List.length_map] at this
  have hr := hide hr
  go_enter Try.func128, Try.ntmps128
  go_wp2
  go_loop [3, 4] (fun s i => ∃ k : Nat, k ≤ n ∧ i = .int .i64 k ∧ s = .int .i64 ((ls.take k).count 1 : Int) ∧ (ls.take k).count 1 ≤ k) (fun _ i => n - (intOf i).toNat)
  case atStart => exact ⟨0, by omega, rfl, by simp, by simp⟩
  case round =>
    obtain ⟨k, hk, rfl, rfl, hS⟩ := hrel
    by_cases hlt : k < n
    · have hkl : k < ls.length := by omega
      obtain ⟨b, o, rfl, hbB, e0⟩ := hr.out.int (j := k) hlt
      rw [List.getElem_map] at e0
      have hs := take_snoc ls k hkl
      have hsum : (ls.take (k + 1)).count 1 = (ls.take k).count 1 + (if ls[k] = 1 then 1 else 0) := by rw [hs, List.count_append]; by_cases h : ls[k] = 1 <;> simp [h]
      have hkI : (k : Int) < n := by omega
      generalize ls[k] = x at *
      clear hs
      by_cases hx : x = 1
      · subst hx
        rw [if_pos rfl] at hsum
        have hsum := hide hsum
        generalize (ls.take k).count 1 = S at *
        go_wp2
        go_round
        case rel => exact ⟨k + 1, by omega, by go_num, by rw [hsum.out]; go_num, by rw [hsum.out]; omega⟩
        case measure => simp [intOf] <;> omega
      · rw [if_neg hx, Nat.add_zero] at hsum
        have hsum := hide hsum
        have hxb : ((x : Int) == 1) = false := by simp; omega
        generalize (ls.take k).count 1 = S at *
        go_wp2
        go_round
        case rel => exact ⟨k + 1, by omega, by go_num, by rw [hsum.out]; rfl, by rw [hsum.out]; omega⟩
        case measure => simp [intOf] <;> omega
    · obtain rfl : k = n := by omega
      have e : ls.take k = ls := List.take_of_length_le (by omega)
      rw [e]
      go_wp2
      go_ret
      exact ⟨rfl, rfl⟩

/-- Lengths that are numbers. -/
def nz (ls : List Nat) : List Int := ls.map fun x : Nat => (x : Int)
theorem Huf.K_nat (ls : List Nat) (h1 : ls.length ≤ 288) (h2 : ∀ x ∈ ls, x ≤ 15) : Huf.K (nz ls) = (Huf.sum ls : Int) := by
  unfold nz
  rw [Huf.K_ok (Huf.ok_map ls h1 h2), List.length_map, Huf.part_nat]
/-- The lengths make a code. -/
def Huf.fits (ls : List Nat) (short : Bool) : Prop := Huf.sum ls = 32768 ∨ (Huf.sum ls < 32768 ∧ short = true ∧ ((∀ x ∈ ls, x ≤ 1) ∧ ls.sum ≤ 1))

theorem Huf.sum_le (ls : List Nat) : Huf.sum ls ≤ 16384 * ls.length := by
  have h := Huf.part_le (nz ls) ls.length
  unfold nz at h
  rwa [Huf.part_nat] at h

set_option maxRecDepth 100000 in
set_option maxHeartbeats 1000000 in
theorem refright_any (A : Option Addr) (n c : Nat) (ls : List Nat) (short : Bool) (w : World) (B : Nat) (hr : Rd w B A n ((nz ls).map iv)) (hn : n ≤ 288) (h15 : ∀ x ∈ ls, x ≤ 15) (v : Int) (hv : (Huf.fits ls short → v = 0) ∧ (¬ Huf.fits ls short → v = 3)) :
    Calls Try.prog 121 #[.slice A n c, .bool short] w fun e w' => e = .returned (.int .i64 v) ∧ w = w' := by
  have hl : ls.length = n := by have := hr.len; rwa [nz, List.length_map] at this
  have hk := refkraft_any A n c _ w B hr (by simp only [maxLen]; omega)
  have hok := Huf.ok_map ls (by omega) h15
  rw [Huf.K_nat ls (by omega) h15, show Huf.ok (nz ls) = true from hok] at hk
  have hk := hide hk
  have ho := hide (refones_any A n c ls w B hr hn)
  have hlone := Huf.lone_iff ls
  have hsl := Huf.sum_le ls
  have hfit : Huf.fits ls short ↔ (Huf.sum ls = 32768 ∨ (Huf.sum ls < 32768 ∧ short = true ∧ (Huf.sum ls = 0 ∨ (Huf.sum ls = 16384 ∧ ls.count 1 = 1)))) := by
    unfold Huf.fits
    rw [hlone]
  rw [hfit] at hv
  clear hfit hlone hok hr h15
  have hSI : (Huf.sum ls : Int) ≤ 4718592 := by omega
  clear hsl
  generalize Huf.sum ls = S at *
  generalize ls.count 1 = q at *
  by_cases h1 : S = 32768
  · obtain rfl := hv.1 (.inl h1)
    subst h1
    go_enter Try.func121, Try.ntmps121
    go_wp2_with (go_at_call 127; (with_reducible refine hk.out.mono ?_); rintro e w' ⟨rfl, rfl⟩)
    go_ret
    exact ⟨rfl, rfl⟩
  · have h1b : ((S : Int) == 32768) = false := by simp; omega
    by_cases h2 : 32768 < S
    · obtain rfl := hv.2 (by omega)
      have h2I : (32768 : Int) < S := by omega
      clear hv h1 h2
      go_enter Try.func121, Try.ntmps121
      go_wp2_with (go_at_call 127; (with_reducible refine hk.out.mono ?_); rintro e w' ⟨rfl, rfl⟩)
      go_ret
      exact ⟨rfl, rfl⟩
    · have h2I : (S : Int) ≤ 32768 := by omega
      cases short
      · obtain rfl := hv.2 (by rintro (h | ⟨_, h, _⟩); exact h1 h; cases h)
        clear hv h1 h2
        go_enter Try.func121, Try.ntmps121
        go_wp2_with (go_at_call 127; (with_reducible refine hk.out.mono ?_); rintro e w' ⟨rfl, rfl⟩)
        go_ret
        exact ⟨rfl, rfl⟩
      · by_cases h3 : S = 0
        · obtain rfl := hv.1 (.inr ⟨by omega, rfl, .inl h3⟩)
          subst h3
          clear hv h1 h2
          go_enter Try.func121, Try.ntmps121
          go_wp2_with (go_at_call 127; (with_reducible refine hk.out.mono ?_); rintro e w' ⟨rfl, rfl⟩)
          go_ret
          exact ⟨rfl, rfl⟩
        · have h3b : ((S : Int) == 0) = false := by simp; omega
          by_cases h4 : S = 16384
          · by_cases h5 : q = 1
            · obtain rfl := hv.1 (.inr ⟨by omega, rfl, .inr ⟨h4, h5⟩⟩)
              subst h4 h5
              clear hv h1 h2
              go_enter Try.func121, Try.ntmps121
              go_wp2_with (first
                | (go_at_call 127; (with_reducible refine hk.out.mono ?_); rintro e w' ⟨rfl, rfl⟩)
                | (go_at_call 128; (with_reducible refine ho.out.mono ?_); rintro e w' ⟨rfl, rfl⟩))
              go_ret
              exact ⟨rfl, rfl⟩
            · obtain rfl := hv.2 (by rintro (h | ⟨_, _, h | h⟩); exact h1 h; exact h3 h; exact h5 h.2)
              have h5b : ((q : Int) == 1) = false := by simp; omega
              subst h4
              clear hv h1 h2
              go_enter Try.func121, Try.ntmps121
              go_wp2_with (first
                | (go_at_call 127; (with_reducible refine hk.out.mono ?_); rintro e w' ⟨rfl, rfl⟩)
                | (go_at_call 128; (with_reducible refine ho.out.mono ?_); rintro e w' ⟨rfl, rfl⟩))
              go_ret
              exact ⟨rfl, rfl⟩
          · obtain rfl := hv.2 (by rintro (h | ⟨_, _, h | h⟩); exact h1 h; exact h3 h; exact h4 h.1)
            have h4b : ((S : Int) == 16384) = false := by simp; omega
            clear hv h1 h2
            go_enter Try.func121, Try.ntmps121
            go_wp2_with (go_at_call 127; (with_reducible refine hk.out.mono ?_); rintro e w' ⟨rfl, rfl⟩)
            go_ret
            exact ⟨rfl, rfl⟩

end Go.Proofs.Ythplpoijkebjbaa
