/- The plain law of layer 11 (hilb): a square's curve as functions on numbers: the number of a place, the place of a number, each the other's inverse; halves; neighbors. There is no condition but that a place lies within its square. -/
namespace Go.Proofs.Ytmgajnllclodfaa.Hilb

/-- How many tiles all zooms below have. -/
def F : Nat → Nat
  | 0 => 0
  | z + 1 => 4 * F z + 1
def dig (a b : Nat) : Nat := if a = 0 then b else 3 - b
def turn (x y a b s : Nat) : Nat × Nat := if b = 1 then (x, y) else if a = 1 then (s - 1 - y, s - 1 - x) else (y, x)
def hil : Nat → Nat → Nat → Nat
  | 0, _, _ => 0
  | k + 1, x, y => 2 ^ k * 2 ^ k * dig (x / 2 ^ k % 2) (y / 2 ^ k % 2) +
      hil k (turn (x % 2 ^ k) (y % 2 ^ k) (x / 2 ^ k % 2) (y / 2 ^ k % 2) (2 ^ k)).1 (turn (x % 2 ^ k) (y % 2 ^ k) (x / 2 ^ k % 2) (y / 2 ^ k % 2) (2 ^ k)).2
theorem hil_succ (k x y : Nat) : hil (k + 1) x y = 2 ^ k * 2 ^ k * dig (x / 2 ^ k % 2) (y / 2 ^ k % 2) +
      hil k (turn (x % 2 ^ k) (y % 2 ^ k) (x / 2 ^ k % 2) (y / 2 ^ k % 2) (2 ^ k)).1 (turn (x % 2 ^ k) (y % 2 ^ k) (x / 2 ^ k % 2) (y / 2 ^ k % 2) (2 ^ k)).2 := rfl
def qa (q : Nat) : Nat := q / 2
def qb (q : Nat) : Nat := (q % 2 + q / 2) % 2
/-- One level more, of the place p, by the digit q. -/
def lay (p : Nat × Nat) (q s : Nat) : Nat × Nat := ((turn p.1 p.2 (qa q) (qb q) s).1 + qa q * s, (turn p.1 p.2 (qa q) (qb q) s).2 + qb q * s)
def unhil : Nat → Nat → Nat × Nat
  | 0, _ => (0, 0)
  | k + 1, r => lay (unhil k r) (r / 4 ^ k % 4) (2 ^ k)

theorem F_pow (z : Nat) : 3 * F z + 1 = 4 ^ z := by
  induction z with
  | zero => rfl
  | succ z ih => rw [F, Nat.pow_succ]; omega
theorem F_next (z : Nat) : F (z + 1) = F z + 4 ^ z := by rw [← F_pow, F]; omega
theorem F_mono {a b : Nat} (h : a ≤ b) : F a ≤ F b := by
  induction b with
  | zero => rw [Nat.le_zero.1 h]; exact Nat.le_refl _
  | succ b ih =>
    rcases Nat.lt_or_ge b a with h' | h'
    · rw [show a = b + 1 from by omega]; exact Nat.le_refl _
    · have := ih h'
      rw [F]; omega
theorem F_31 : F 31 = 1537228672809129301 := by decide
theorem F_lt {z : Nat} (h : z ≤ 31) : F z ≤ 1537228672809129301 := by rw [← F_31]; exact F_mono h
theorem F_eq (z : Nat) : (4 ^ z - 1) / 3 = F z := by have := F_pow z; omega
theorem pow4 (k : Nat) : 4 ^ k = 2 ^ k * 2 ^ k := by rw [← Nat.mul_pow]
theorem two_pos (k : Nat) : 0 < 2 ^ k := Nat.pow_pos (by omega)
theorem four_pos (k : Nat) : 0 < 4 ^ k := Nat.pow_pos (by omega)

theorem turn_lt {x y s : Nat} (a b : Nat) (hx : x < s) (hy : y < s) : (turn x y a b s).1 < s ∧ (turn x y a b s).2 < s := by
  unfold turn
  by_cases hb : b = 1
  · rw [if_pos hb]; exact ⟨hx, hy⟩
  · rw [if_neg hb]
    by_cases ha : a = 1
    · rw [if_pos ha]; exact ⟨by show s - 1 - y < s; omega, by show s - 1 - x < s; omega⟩
    · rw [if_neg ha]; exact ⟨hy, hx⟩
theorem turn_turn {x y s : Nat} (a b : Nat) (hx : x < s) (hy : y < s) : turn (turn x y a b s).1 (turn x y a b s).2 a b s = (x, y) := by
  unfold turn
  by_cases hb : b = 1
  · simp [hb]
  · by_cases ha : a = 1
    · simp only [if_neg hb, if_pos ha]
      rw [show s - 1 - (s - 1 - x) = x from by omega, show s - 1 - (s - 1 - y) = y from by omega]
    · simp only [if_neg hb, if_neg ha]

theorem dig_lt (a b : Nat) (_ha : a < 2) (hb : b < 2) : dig a b < 4 := by unfold dig; split <;> omega
theorem dig_q (q : Nat) (h : q < 4) : dig (qa q) (qb q) = q := by unfold dig qa qb; split <;> omega
theorem q_dig (a b : Nat) (ha : a < 2) (hb : b < 2) : qa (dig a b) = a ∧ qb (dig a b) = b := by
  unfold qa qb dig
  split <;> constructor <;> omega
theorem qa_lt (q : Nat) (h : q < 4) : qa q < 2 := by unfold qa; omega
theorem qb_lt (q : Nat) : qb q < 2 := by unfold qb; omega

/-- A number below m * s, as m's digit and the rest. -/
theorem part (x s c : Nat) (hx : x < s) : (x + c * s) / s = c ∧ (x + c * s) % s = x := by
  have hs : 0 < s := by omega
  exact ⟨by rw [Nat.add_mul_div_right _ _ hs, Nat.div_eq_of_lt hx, Nat.zero_add], by rw [Nat.add_mul_mod_self_right, Nat.mod_eq_of_lt hx]⟩

theorem unhil_lt (k : Nat) : ∀ r, (unhil k r).1 < 2 ^ k ∧ (unhil k r).2 < 2 ^ k := by
  induction k with
  | zero => intro r; exact ⟨Nat.one_pos, Nat.one_pos⟩
  | succ k ih =>
    intro r
    obtain ⟨h1, h2⟩ := turn_lt (qa (r / 4 ^ k % 4)) (qb (r / 4 ^ k % 4)) (ih r).1 (ih r).2
    have ha := qa_lt (r / 4 ^ k % 4) (Nat.mod_lt _ (by omega))
    have hb := qb_lt (r / 4 ^ k % 4)
    have ha' : qa (r / 4 ^ k % 4) * 2 ^ k ≤ 1 * 2 ^ k := Nat.mul_le_mul_right _ (by omega)
    have hb' : qb (r / 4 ^ k % 4) * 2 ^ k ≤ 1 * 2 ^ k := Nat.mul_le_mul_right _ (by omega)
    rw [Nat.pow_succ]
    exact ⟨by show _ + _ < _; omega, by show _ + _ < _; omega⟩

theorem unhil_add (k : Nat) : ∀ r c, unhil k (r + c * 4 ^ k) = unhil k r := by
  induction k with
  | zero => intro r c; rfl
  | succ k ih =>
    intro r c
    have e : r + c * 4 ^ (k + 1) = r + c * 4 * 4 ^ k := by rw [Nat.pow_succ, Nat.mul_assoc, Nat.mul_comm (4 ^ k) 4]
    unfold unhil
    rw [e, ih, Nat.add_mul_div_right _ _ (four_pos k)]
    rw [show (r / 4 ^ k + c * 4) % 4 = r / 4 ^ k % 4 from by omega]
theorem unhil_mod (k r : Nat) : unhil k r = unhil k (r % 4 ^ k) := by
  have := unhil_add k (r % 4 ^ k) (r / 4 ^ k)
  rw [← this, Nat.mul_comm, Nat.mod_add_div]

theorem hil_lay (k : Nat) (p : Nat × Nat) (q : Nat) (h1 : p.1 < 2 ^ k) (h2 : p.2 < 2 ^ k) (hq : q < 4) : hil (k + 1) (lay p q (2 ^ k)).1 (lay p q (2 ^ k)).2 = 4 ^ k * q + hil k p.1 p.2 := by
  obtain ⟨g1, g2⟩ := turn_lt (qa q) (qb q) h1 h2
  obtain ⟨e1, e2⟩ := part _ (2 ^ k) (qa q) g1
  obtain ⟨e3, e4⟩ := part _ (2 ^ k) (qb q) g2
  have ha := qa_lt q hq
  have hb := qb_lt q
  unfold lay
  simp only [hil_succ, e1, e2, e3, e4, Nat.mod_eq_of_lt ha, Nat.mod_eq_of_lt hb, dig_q q hq, turn_turn _ _ h1 h2, pow4]

theorem hil_unhil (k : Nat) : ∀ r, hil k (unhil k r).1 (unhil k r).2 = r % 4 ^ k := by
  induction k with
  | zero => intro r; show 0 = r % 1; omega
  | succ k ih =>
    intro r
    obtain ⟨h1, h2⟩ := unhil_lt k r
    show hil (k + 1) (lay (unhil k r) (r / 4 ^ k % 4) (2 ^ k)).1 (lay (unhil k r) (r / 4 ^ k % 4) (2 ^ k)).2 = _
    rw [hil_lay k _ _ h1 h2 (Nat.mod_lt _ (by omega)), ih, Nat.pow_succ, Nat.mod_mul]
    omega

theorem hil_lt (k : Nat) : ∀ x y, x < 2 ^ k → y < 2 ^ k → hil k x y < 4 ^ k := by
  induction k with
  | zero => intro x y _ _; exact Nat.one_pos
  | succ k ih =>
    intro x y hx hy
    obtain ⟨g1, g2⟩ := turn_lt (x / 2 ^ k % 2) (y / 2 ^ k % 2) (Nat.mod_lt x (two_pos k)) (Nat.mod_lt y (two_pos k))
    have h := ih _ _ g1 g2
    have hd := dig_lt (x / 2 ^ k % 2) (y / 2 ^ k % 2) (Nat.mod_lt _ (by omega)) (Nat.mod_lt _ (by omega))
    have hm : 2 ^ k * 2 ^ k * dig (x / 2 ^ k % 2) (y / 2 ^ k % 2) ≤ 4 ^ k * 3 := by rw [← pow4]; exact Nat.mul_le_mul_left _ (by omega)
    rw [hil_succ, Nat.pow_succ]
    omega

theorem unhil_hil (k : Nat) : ∀ x y, x < 2 ^ k → y < 2 ^ k → unhil k (hil k x y) = (x, y) := by
  induction k with
  | zero =>
    intro x y hx hy
    rw [Nat.pow_zero] at hx hy
    rw [show x = 0 from by omega, show y = 0 from by omega]
    rfl
  | succ k ih =>
    intro x y hx hy
    have hp := two_pos k
    have mx := Nat.mod_lt x hp
    have my := Nat.mod_lt y hp
    have dx : x / 2 ^ k < 2 := by rw [Nat.div_lt_iff_lt_mul hp]; rw [Nat.pow_succ] at hx; omega
    have dy : y / 2 ^ k < 2 := by rw [Nat.div_lt_iff_lt_mul hp]; rw [Nat.pow_succ] at hy; omega
    have hd := dig_lt _ _ dx dy
    obtain ⟨q1, q2⟩ := q_dig _ _ dx dy
    obtain ⟨g1, g2⟩ := turn_lt (x / 2 ^ k) (y / 2 ^ k) mx my
    have hl := hil_lt k _ _ g1 g2
    have hh : hil (k + 1) x y = hil k (turn (x % 2 ^ k) (y % 2 ^ k) (x / 2 ^ k) (y / 2 ^ k) (2 ^ k)).1 (turn (x % 2 ^ k) (y % 2 ^ k) (x / 2 ^ k) (y / 2 ^ k) (2 ^ k)).2 + dig (x / 2 ^ k) (y / 2 ^ k) * 4 ^ k := by
      rw [hil_succ, Nat.mod_eq_of_lt dx, Nat.mod_eq_of_lt dy, ← pow4, Nat.mul_comm (4 ^ k)]
      omega
    rw [hh]
    show lay (unhil k _) _ _ = _
    rw [unhil_add, ih _ _ g1 g2, Nat.add_mul_div_right _ _ (four_pos k), Nat.div_eq_of_lt hl, Nat.zero_add, Nat.mod_eq_of_lt hd]
    unfold lay
    rw [q1, q2, turn_turn _ _ mx my]
    have := Nat.mod_add_div x (2 ^ k)
    have := Nat.mod_add_div y (2 ^ k)
    rw [Nat.mul_comm (x / 2 ^ k), Nat.mul_comm (y / 2 ^ k)]
    congr 1

/-! ### Halves: the place above -/
theorem turn_half (x y a b s : Nat) (hx : x < 2 * s) (hy : y < 2 * s) : turn (x / 2) (y / 2) a b s = ((turn x y a b (2 * s)).1 / 2, (turn x y a b (2 * s)).2 / 2) := by
  unfold turn
  by_cases hb : b = 1
  · simp only [if_pos hb]
  · by_cases ha : a = 1
    · simp only [if_neg hb, if_pos ha]
      rw [show s - 1 - y / 2 = (2 * s - 1 - y) / 2 from by omega, show s - 1 - x / 2 = (2 * s - 1 - x) / 2 from by omega]
    · simp only [if_neg hb, if_neg ha]
theorem half_add (x c s : Nat) : (x + c * (2 * s)) / 2 = x / 2 + c * s := by
  rw [show c * (2 * s) = 2 * (c * s) from by rw [← Nat.mul_assoc, Nat.mul_comm c 2, Nat.mul_assoc]]
  omega
/-- The place of a fourth of the number is the place above. -/
theorem unhil_up (k : Nat) : ∀ r, unhil k (r / 4) = ((unhil (k + 1) r).1 / 2, (unhil (k + 1) r).2 / 2) := by
  induction k with
  | zero =>
    intro r
    obtain ⟨h1, h2⟩ := unhil_lt 1 r
    rw [Nat.pow_one] at h1 h2
    show (0, 0) = _
    rw [Nat.div_eq_of_lt h1, Nat.div_eq_of_lt h2]
  | succ k ih =>
    intro r
    obtain ⟨h1, h2⟩ := unhil_lt (k + 1) r
    rw [Nat.pow_succ, Nat.mul_comm] at h1 h2
    have hd : r / 4 / 4 ^ k % 4 = r / 4 ^ (k + 1) % 4 := by rw [Nat.div_div_eq_div_mul, Nat.pow_succ, Nat.mul_comm 4]
    show lay (unhil k (r / 4)) (r / 4 / 4 ^ k % 4) (2 ^ k) = ((lay (unhil (k + 1) r) (r / 4 ^ (k + 1) % 4) (2 ^ (k + 1))).1 / 2, (lay (unhil (k + 1) r) (r / 4 ^ (k + 1) % 4) (2 ^ (k + 1))).2 / 2)
    rw [ih, hd]
    unfold lay
    have e2 : 2 ^ (k + 1) = 2 * 2 ^ k := by rw [Nat.pow_succ, Nat.mul_comm]
    rw [turn_half _ _ _ _ _ h1 h2, e2, half_add, half_add]
theorem hil_up (k x y : Nat) (hx : x < 2 ^ (k + 1)) (hy : y < 2 ^ (k + 1)) : hil k (x / 2) (y / 2) = hil (k + 1) x y / 4 := by
  have h := unhil_up k (hil (k + 1) x y)
  rw [unhil_hil (k + 1) x y hx hy] at h
  have hl := hil_lt (k + 1) x y hx hy
  have e := hil_unhil k (hil (k + 1) x y / 4)
  rw [h] at e
  rw [show hil k (x / 2) (y / 2) = hil (k + 1) x y / 4 % 4 ^ k from e, Nat.mod_eq_of_lt]
  rw [Nat.pow_succ] at hl
  omega
/-- .. so many zooms up. -/
theorem hil_ups (u : Nat) : ∀ k x y, x < 2 ^ (k + u) → y < 2 ^ (k + u) → hil k (x / 2 ^ u) (y / 2 ^ u) = hil (k + u) x y / 4 ^ u := by
  induction u with
  | zero => intro k x y _ _; simp
  | succ u ih =>
    intro k x y hx hy
    have hx' : x / 2 ^ u < 2 ^ (k + 1) := by
      rw [Nat.div_lt_iff_lt_mul (two_pos u), ← Nat.pow_add, show k + 1 + u = k + (u + 1) from by omega]; exact hx
    have hy' : y / 2 ^ u < 2 ^ (k + 1) := by
      rw [Nat.div_lt_iff_lt_mul (two_pos u), ← Nat.pow_add, show k + 1 + u = k + (u + 1) from by omega]; exact hy
    have h1 := hil_up k (x / 2 ^ u) (y / 2 ^ u) hx' hy'
    have h2 := ih (k + 1) x y (by rw [show k + 1 + u = k + (u + 1) from by omega]; exact hx) (by rw [show k + 1 + u = k + (u + 1) from by omega]; exact hy)
    rw [Nat.div_div_eq_div_mul, Nat.div_div_eq_div_mul, ← Nat.pow_succ] at h1
    rw [h1, h2, Nat.div_div_eq_div_mul, ← Nat.pow_succ, show k + 1 + u = k + (u + 1) from by omega]

/-! ### Neighbors -/
/-- Two places side by side. -/
def Adj (p q : Nat × Nat) : Prop := (p.1 = q.1 ∧ (p.2 + 1 = q.2 ∨ q.2 + 1 = p.2)) ∨ (p.2 = q.2 ∧ (p.1 + 1 = q.1 ∨ q.1 + 1 = p.1))
theorem unhil_start (k : Nat) : ∀ c, unhil k (c * 4 ^ k) = (0, 0) := by
  intro c
  have h := unhil_add k 0 c
  rw [Nat.zero_add] at h
  rw [h]
  clear h
  induction k with
  | zero => rfl
  | succ k ih =>
    show lay (unhil k 0) (0 / 4 ^ k % 4) (2 ^ k) = _
    rw [ih, Nat.zero_div]
    simp [lay, turn, qa, qb]
theorem unhil_end (k : Nat) : ∀ c, unhil k (4 ^ k - 1 + c * 4 ^ k) = (2 ^ k - 1, 0) := by
  intro c
  rw [unhil_add]
  induction k with
  | zero => rfl
  | succ k ih =>
    have hp := four_pos k
    have h2 := two_pos k
    have e : 4 ^ (k + 1) - 1 = (4 ^ k - 1) + 3 * 4 ^ k := by rw [Nat.pow_succ]; omega
    show lay (unhil k _) (_ / 4 ^ k % 4) (2 ^ k) = _
    rw [e, unhil_add, ih, Nat.add_mul_div_right _ _ hp, Nat.div_eq_of_lt (by omega)]
    simp only [lay, turn, qa, qb, Nat.pow_succ]
    simp
    omega
theorem lay_adj (p p' : Nat × Nat) (q s : Nat) (h1 : p.1 < s) (h2 : p.2 < s) (h3 : p'.1 < s) (h4 : p'.2 < s) (h : Adj p p') : Adj (lay p q s) (lay p' q s) := by
  unfold Adj at h ⊢
  unfold lay turn
  by_cases hb : qb q = 1
  · simp only [if_pos hb]; omega
  · by_cases ha : qa q = 1
    · simp only [if_neg hb, if_pos ha]; omega
    · simp only [if_neg hb, if_neg ha]; omega
theorem near (k : Nat) : ∀ r, r + 1 < 4 ^ k → Adj (unhil k r) (unhil k (r + 1)) := by
  induction k with
  | zero => intro r h; rw [Nat.pow_zero] at h; omega
  | succ k ih =>
    intro r h
    have hp := four_pos k
    have h2 := two_pos k
    obtain ⟨l1, l2⟩ := unhil_lt k r
    obtain ⟨l3, l4⟩ := unhil_lt k (r + 1)
    rw [Nat.pow_succ] at h
    have hm := Nat.mod_add_div r (4 ^ k)
    have hr := Nat.mod_lt r hp
    by_cases hc : r % 4 ^ k + 1 < 4 ^ k
    · have hd : (r + 1) / 4 ^ k = r / 4 ^ k := by
        have e : r + 1 = (r % 4 ^ k + 1) + (r / 4 ^ k) * 4 ^ k := by rw [Nat.mul_comm]; omega
        rw [e, Nat.add_mul_div_right _ _ hp, Nat.div_eq_of_lt hc, Nat.zero_add]
      have e1 : unhil k r = unhil k (r % 4 ^ k) := unhil_mod k r
      have e2 : unhil k (r + 1) = unhil k (r % 4 ^ k + 1) := by
        have e : r + 1 = (r % 4 ^ k + 1) + (r / 4 ^ k) * 4 ^ k := by rw [Nat.mul_comm]; omega
        conv => lhs; rw [e]
        rw [unhil_add]
      show Adj (lay (unhil k r) (r / 4 ^ k % 4) (2 ^ k)) (lay (unhil k (r + 1)) ((r + 1) / 4 ^ k % 4) (2 ^ k))
      rw [hd]
      refine lay_adj _ _ _ _ l1 l2 l3 l4 ?_
      rw [e1, e2]
      exact ih _ hc
    · have hq : r / 4 ^ k < 3 := by
        rw [Nat.div_lt_iff_lt_mul hp]
        rcases Nat.lt_or_ge r (3 * 4 ^ k) with hlt | hge
        · exact hlt
        · have : r / 4 ^ k ≥ 3 := by rw [ge_iff_le, Nat.le_div_iff_mul_le hp]; omega
          have h3 : 4 ^ k * 3 ≤ 4 ^ k * (r / 4 ^ k) := Nat.mul_le_mul_left _ this
          omega
      have e : r = (4 ^ k - 1) + (r / 4 ^ k) * 4 ^ k := by rw [Nat.mul_comm (r / 4 ^ k)]; omega
      have e' : r + 1 = (r / 4 ^ k + 1) * 4 ^ k := by rw [Nat.add_mul, Nat.mul_comm (r / 4 ^ k)]; omega
      have u1 : unhil k r = (2 ^ k - 1, 0) := by conv => lhs; rw [e]; rw [unhil_end]
      have u2 : unhil k (r + 1) = (0, 0) := by rw [e', unhil_start]
      have d2 : (r + 1) / 4 ^ k = r / 4 ^ k + 1 := by rw [e', Nat.mul_div_cancel _ hp]
      show Adj (lay (unhil k r) (r / 4 ^ k % 4) (2 ^ k)) (lay (unhil k (r + 1)) ((r + 1) / 4 ^ k % 4) (2 ^ k))
      rw [u1, u2, d2]
      generalize r / 4 ^ k = q at *
      generalize 2 ^ k = s at *
      have hq3 : q = 0 ∨ q = 1 ∨ q = 2 := by omega
      rcases hq3 with rfl | rfl | rfl <;> simp [lay, turn, qa, qb, Adj] <;> omega

end Go.Proofs.Ytmgajnllclodfaa.Hilb
