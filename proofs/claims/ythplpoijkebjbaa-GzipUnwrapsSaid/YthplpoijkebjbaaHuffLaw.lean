/- The plain law of layer 3 (huff): lengths, the sum of Kraft, the numbers of the codes, and their digits. There is no condition. -/

namespace Go.Proofs.Ythplpoijkebjbaa.Huf

/-- The lengths as they come in: all of them 0 to 15, and no more than 288. -/
def good (z : Int) : Bool := decide (0 ≤ z) && decide (z ≤ 15)
def ok (zs : List Int) : Bool := decide (zs.length ≤ 288) && zs.all good
/-- What a length takes of all codes. -/
def wt (x : Nat) : Nat := if x = 0 then 0 else 2 ^ (15 - x)
def sum (ls : List Nat) : Nat := (ls.map wt).sum
/-- The symbols below k whose length is s, in order. -/
def idx (ls : List Nat) (k s : Nat) : List Nat := (List.range k).filter fun i => ls[i]? == some s
def cnt (ls : List Nat) (s : Nat) : Nat := (idx ls ls.length s).length
/-- The number behind the last code of length s. -/
def V (ls : List Nat) : Nat → Nat
  | 0 => 0
  | s + 1 => 2 * V ls s + cnt ls (s + 1)
/-- The first code of length s. -/
def first (ls : List Nat) : Nat → Nat
  | 0 => 0
  | s + 1 => 2 * V ls s
/-- The code of symbol i, whose length is s. -/
def code (ls : List Nat) (i s : Nat) : Nat := first ls s + (idx ls i s).length
/-- How many lengths are 1. -/
def ones (zs : List Int) : Nat := (zs.filter (· == 1)).length

theorem ok_map (ls : List Nat) (h1 : ls.length ≤ 288) (h2 : ∀ x ∈ ls, x ≤ 15) : ok (ls.map (fun x : Nat => (x : Int))) = true := by
  simp only [ok, Bool.and_eq_true, decide_eq_true_eq, List.all_eq_true, good, List.length_map]
  refine ⟨h1, ?_⟩
  intro z hz
  obtain ⟨x, hx, rfl⟩ := List.mem_map.1 hz
  have := h2 x hx
  omega

theorem idx_succ (ls : List Nat) (k s : Nat) : idx ls (k + 1) s = idx ls k s ++ (if ls[k]? = some s then [k] else []) := by
  unfold idx
  rw [List.range_succ, List.filter_append]
  congr 1
  by_cases h : ls[k]? = some s <;> simp [h]
theorem idx_yes (ls : List Nat) (k s : Nat) (h : ls[k]? = some s) : idx ls (k + 1) s = idx ls k s ++ [k] := by rw [idx_succ, if_pos h]
theorem idx_no (ls : List Nat) (k s : Nat) (h : ls[k]? ≠ some s) : idx ls (k + 1) s = idx ls k s := by rw [idx_succ, if_neg h, List.append_nil]
theorem idx_len (ls : List Nat) (s : Nat) : ∀ k, (idx ls k s).length = (ls.take k).count s := by
  intro k
  induction k with
  | zero => simp [idx]
  | succ k ih =>
    rw [idx_succ, List.length_append, ih]
    by_cases hk : k < ls.length
    · rw [List.take_succ_eq_append_getElem hk, List.count_append, List.getElem?_eq_getElem hk]
      by_cases h : ls[k] = s <;> simp [h]
    · rw [List.getElem?_eq_none (by omega), List.take_of_length_le (by omega), List.take_of_length_le (by omega)]
      simp
theorem cnt_count (ls : List Nat) (s : Nat) : cnt ls s = ls.count s := by rw [cnt, idx_len, List.take_length]
theorem idx_le (ls : List Nat) (k s : Nat) : (idx ls k s).length ≤ k := by
  rw [idx_len]
  exact Nat.le_trans List.count_le_length (by rw [List.length_take]; omega)
theorem idx_mono (ls : List Nat) (k n s : Nat) (h : k ≤ n) : (idx ls k s).length ≤ (idx ls n s).length := by
  induction n with
  | zero => obtain rfl : k = 0 := by omega
            exact Nat.le_refl _
  | succ n ih =>
    rcases Nat.lt_or_ge n k with h1 | h1
    · obtain rfl : k = n + 1 := by omega
      exact Nat.le_refl _
    · rw [idx_succ, List.length_append]
      have := ih h1
      omega
/-- The j-th symbol of length s. -/
theorem idx_at (ls : List Nat) (s : Nat) : ∀ n j (h : j < (idx ls n s).length), ls[(idx ls n s)[j]]? = some s ∧ (idx ls (idx ls n s)[j] s).length = j ∧ (idx ls n s)[j] < n := by
  intro n
  induction n with
  | zero => intro j h; simp [idx] at h
  | succ n ih =>
    intro j h
    by_cases hn : ls[n]? = some s
    · have e := idx_yes ls n s hn
      have h' := h
      rw [e, List.length_append, List.length_singleton] at h'
      have hj : j < (idx ls n s).length ∨ j = (idx ls n s).length := by omega
      rcases hj with hj | hj
      · have e2 : (idx ls (n + 1) s)[j] = (idx ls n s)[j] := by
          simp only [e]
          exact List.getElem_append_left hj
        rw [e2]
        have := ih j hj
        exact ⟨this.1, this.2.1, by omega⟩
      · have e2 : (idx ls (n + 1) s)[j] = n := by
          simp only [e, hj]
          rw [List.getElem_append_right (Nat.le_refl _)]
          simp
        rw [e2]
        exact ⟨hn, hj.symm, by omega⟩
    · have e := idx_no ls n s hn
      have h' := h
      rw [e] at h'
      have e2 : (idx ls (n + 1) s)[j] = (idx ls n s)[j] := by simp only [e]
      rw [e2]
      have := ih j h'
      exact ⟨this.1, this.2.1, by omega⟩
theorem rank_lt (ls : List Nat) (i s : Nat) (h : ls[i]? = some s) : (idx ls i s).length < cnt ls s := by
  have hi : i < ls.length := (List.getElem?_eq_some_iff.1 h).1
  have h1 := idx_mono ls (i + 1) ls.length s hi
  rw [idx_yes ls i s h, List.length_append, List.length_singleton] at h1
  exact h1
/-- Symbol i of length s stands at its rank. -/
theorem idx_rank (ls : List Nat) (i s : Nat) (h : ls[i]? = some s) : ∀ n, i < n → (idx ls n s)[(idx ls i s).length]? = some i := by
  intro n
  induction n with
  | zero => intro hi; omega
  | succ n ih =>
    intro hi
    rcases Nat.lt_or_ge i n with h1 | h1
    · rw [idx_succ, List.getElem?_append_left]
      · exact ih h1
      · have := (List.getElem?_eq_some_iff.1 (ih h1)).1
        exact this
    · obtain rfl : i = n := by omega
      rw [idx_yes ls i s h, List.getElem?_append_right (Nat.le_refl _)]
      simp

/-! ### Kraft's sum and the numbers -/
def W (ls : List Nat) (s : Nat) : Nat := (ls.map fun x => if 1 ≤ x ∧ x ≤ s then 2 ^ (15 - x) else 0).sum
theorem W_succ (ls : List Nat) (s : Nat) : W ls (s + 1) = W ls s + ls.count (s + 1) * 2 ^ (15 - (s + 1)) := by
  unfold W
  induction ls with
  | nil => simp
  | cons x r ih =>
    simp only [List.map_cons, List.sum_cons, List.count_cons, ih]
    by_cases hx : x = s + 1
    · subst hx
      rw [if_pos ⟨by omega, by omega⟩, if_neg (by omega), if_pos (by simp), Nat.add_mul]
      generalize 2 ^ (15 - (s + 1)) = p
      generalize List.count (s + 1) r * p = q
      omega
    · have e : (1 ≤ x ∧ x ≤ s + 1) ↔ (1 ≤ x ∧ x ≤ s) := by omega
      simp only [e]
      have : (x == s + 1) = false := by simpa using hx
      simp [this]
      omega
theorem W_le (ls : List Nat) (s : Nat) : W ls s ≤ sum ls := by
  unfold W sum
  induction ls with
  | nil => simp
  | cons x r ih =>
    simp only [List.map_cons, List.sum_cons]
    have : (if 1 ≤ x ∧ x ≤ s then 2 ^ (15 - x) else 0) ≤ wt x := by
      unfold wt
      by_cases hx : x = 0
      · subst hx; simp
      · rw [if_neg hx]
        generalize 2 ^ (15 - x) = p
        split <;> omega
    omega
theorem W_V (ls : List Nat) : ∀ s, s ≤ 15 → V ls s * 2 ^ (15 - s) = W ls s := by
  intro s
  induction s with
  | zero =>
    intro _
    have : W ls 0 = 0 := by
      unfold W
      induction ls with
      | nil => rfl
      | cons x r ih =>
        simp only [List.map_cons, List.sum_cons, ih]
        split <;> omega
    rw [this]; simp [V]
  | succ s ih =>
    intro hs
    rw [W_succ, ← ih (by omega), V, cnt_count, Nat.add_mul]
    congr 1
    rw [show 15 - s = 15 - (s + 1) + 1 from by omega, Nat.pow_succ, Nat.mul_comm 2 (V ls s), Nat.mul_assoc, Nat.mul_comm 2]
theorem V_le (ls : List Nat) (h : sum ls ≤ 32768) (s : Nat) (hs : s ≤ 15) : V ls s ≤ 2 ^ s := by
  have h1 := W_V ls s hs
  have h2 := W_le ls s
  have h3 : 2 ^ s * 2 ^ (15 - s) = 32768 := by rw [← Nat.pow_add, show s + (15 - s) = 15 from by omega]
  have hp : 0 < 2 ^ (15 - s) := Nat.two_pow_pos _
  refine Nat.le_of_mul_le_mul_right (c := 2 ^ (15 - s)) ?_ hp
  omega
theorem V_small (ls : List Nat) (h : sum ls ≤ 32768) (s : Nat) (hs : s ≤ 15) : V ls s ≤ 32768 := by
  have h1 := V_le ls h s hs
  have h2 : 2 ^ s ≤ 2 ^ 15 := Nat.pow_le_pow_right (by omega) hs
  omega
theorem first_cnt (ls : List Nat) (s : Nat) (hs : 1 ≤ s) : first ls s + cnt ls s = V ls s := by
  obtain ⟨t, rfl⟩ : ∃ t, s = t + 1 := ⟨s - 1, by omega⟩
  simp only [first, V]
theorem code_lt (ls : List Nat) (h : sum ls ≤ 32768) (i s : Nat) (hi : ls[i]? = some s) (h1 : 1 ≤ s) (h2 : s ≤ 15) : code ls i s < 2 ^ s := by
  have h3 := rank_lt ls i s hi
  have h4 := first_cnt ls s h1
  have h5 := V_le ls h s h2
  unfold code
  omega

/-- A list of lengths one or none of which is above 0, and then is 1. -/
theorem lone_iff (ls : List Nat) : ((∀ x ∈ ls, x ≤ 1) ∧ ls.sum ≤ 1) ↔ (sum ls = 0 ∨ (sum ls = 16384 ∧ ls.count 1 = 1)) := by
  have key : ∀ l : List Nat, sum l = 0 ↔ ∀ x ∈ l, x = 0 := by
    intro l
    induction l with
    | nil => simp [sum]
    | cons x r ih =>
      have e : sum (x :: r) = wt x + sum r := rfl
      rw [e]
      have hw : wt x = 0 ↔ x = 0 := by
        unfold wt
        by_cases hx : x = 0
        · simp [hx]
        · rw [if_neg hx]
          have := Nat.two_pow_pos (15 - x)
          omega
      simp only [List.mem_cons, forall_eq_or_imp]
      rw [← ih, ← hw]
      omega
  have zsum : ∀ l : List Nat, (∀ x ∈ l, x = 0) → l.sum = 0 := by
    intro l
    induction l with
    | nil => simp
    | cons x r ih => intro h; simp only [List.sum_cons, h x (by simp), ih fun y hy => h y (by simp [hy])]
  have zcount : ∀ l : List Nat, (∀ x ∈ l, x = 0) → l.count 1 = 0 := by
    intro l h
    rw [List.count_eq_zero]
    intro h1
    exact absurd (h 1 h1) (by decide)
  have zero : ∀ l : List Nat, l.sum = 0 → ∀ x ∈ l, x = 0 := by
    intro l
    induction l with
    | nil => simp
    | cons x r ih =>
      intro h
      rw [List.sum_cons] at h
      intro y hy
      rcases List.mem_cons.1 hy with rfl | hy
      · omega
      · exact ih (by omega) y hy
  have scount : ∀ l : List Nat, l.count 1 * 16384 ≤ sum l := by
    intro l
    induction l with
    | nil => simp
    | cons x r ih =>
      have e : sum (x :: r) = wt x + sum r := rfl
      rw [e, List.count_cons]
      by_cases hx : x = 1
      · subst hx
        have : wt 1 = 16384 := by decide
        simp only [beq_self_eq_true, if_true, this, Nat.succ_mul]
        exact Nat.le_trans (Nat.le_of_eq (Nat.add_comm _ _)) (Nat.add_le_add_left ih _)
      · have : (x == 1) = false := by simpa using hx
        rw [this]
        simp only [Bool.false_eq_true, if_false]
        omega
  induction ls with
  | nil => simp [sum]
  | cons x r ih =>
    have e : sum (x :: r) = wt x + sum r := rfl
    have e2 : (x :: r).sum = x + r.sum := List.sum_cons
    rw [e, e2, List.count_cons]
    by_cases h0 : x = 0
    · subst h0
      have : wt 0 = 0 := rfl
      simp only [this, Nat.zero_add, List.mem_cons, forall_eq_or_imp, Nat.zero_le, true_and, show ((0 : Nat) == 1) = false from rfl, Bool.false_eq_true, if_false, Nat.add_zero]
      exact ih
    · by_cases h1 : x = 1
      · subst h1
        have hw : wt 1 = 16384 := by decide
        simp only [hw, List.mem_cons, forall_eq_or_imp, beq_self_eq_true, if_true]
        constructor
        · rintro ⟨_, h⟩
          have hz := zero r (by omega)
          right
          rw [(key r).2 hz, zcount r hz]
          exact ⟨rfl, rfl⟩
        · rintro (h | ⟨h, h2⟩)
          · omega
          · have hz := (key r).1 (by omega)
            exact ⟨⟨Nat.le_refl _, fun y hy => by rw [hz y hy]; omega⟩, by rw [zsum r hz]; decide⟩
      · have hb : (x == 1) = false := by simpa using h1
        rw [hb]
        simp only [List.mem_cons, forall_eq_or_imp, Bool.false_eq_true, if_false, Nat.add_zero]
        constructor
        · rintro ⟨⟨h, _⟩, _⟩
          omega
        · rintro (h | ⟨h, h2⟩)
          · have : 0 < wt x := by unfold wt; rw [if_neg h0]; exact Nat.two_pow_pos _
            omega
          · have : 0 < wt x := by unfold wt; rw [if_neg h0]; exact Nat.two_pow_pos _
            have := scount r
            omega

/-! ### Digits -/
/-- The lowest n digits of a number, the highest one first. -/
def dig (v n : Nat) : List UInt8 := (List.range n).map fun i => if v.testBit (n - 1 - i) then 49 else 48
theorem div_step (v n j : Nat) (h : j < n) : v / 2 ^ (n - (j + 1)) = 2 * (v / 2 ^ (n - j)) + (if v.testBit (n - 1 - j) then 1 else 0) := by
  rw [show n - (j + 1) = n - 1 - j from by omega, show n - j = n - 1 - j + 1 from by omega, Nat.pow_succ, ← Nat.div_div_eq_div_mul, Nat.testBit_eq_decide_div_mod_eq]
  generalize v / 2 ^ (n - 1 - j) = q
  rcases Nat.mod_two_eq_zero_or_one q with hq | hq <;> simp [hq] <;> omega

end Go.Proofs.Ythplpoijkebjbaa.Huf
