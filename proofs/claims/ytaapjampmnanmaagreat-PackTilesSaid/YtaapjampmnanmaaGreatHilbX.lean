/- The plain law of layer 11 (hilb): a square's curve as functions on numbers: the number of a place, the place of a number, each the other's inverse; halves; neighbors. There is no condition but that a place lies within its square. The walks of layer 11 (hilb) and of its reference: which places are right. The walks of layer 11 (hilb) and of its reference: how many tiles all zooms below have; a turned part; a code's number. The walks of layer 11 (hilb) and of its reference: the number of a place. The walks of layer 11's reference: the number of a place. -/
import Derived.Test.YtaapjampmnanmaaGreatBase
namespace Go.Proofs.YtaapjampmnanmaaGreat.Hilb
def F : Nat → Nat
  | 0 => 0
  | z + 1 => 4 * F z + 1
def dig (a b : Nat) : Nat := if a = 0 then b else 3 - b
def turn (x y a b s : Nat) : Nat × Nat := if b = 1 then (x, y) else if a = 1 then (s - 1 - y, s - 1 - x) else (y, x)
def hil : Nat → Nat → Nat → Nat
  | 0, _, _ => 0
  | k + 1, x, y => 2 ^ k * 2 ^ k * dig (x / 2 ^ k % 2) (y / 2 ^ k % 2) +
      hil k (turn (x % 2 ^ k) (y % 2 ^ k) (x / 2 ^ k % 2) (y / 2 ^ k % 2) (2 ^ k)).1 (turn (x % 2 ^ k) (y % 2 ^ k) (x / 2 ^ k % 2) (y / 2 ^ k % 2) (2 ^ k)).2
theorem hil_succ (k x y : Nat) : hil (k + 1) x y = 2 ^ k * 2 ^ k * dig (x / 2 ^ k % 2) (y / 2 ^ k % 2) +
      hil k (turn (x % 2 ^ k) (y % 2 ^ k) (x / 2 ^ k % 2) (y / 2 ^ k % 2) (2 ^ k)).1 (turn (x % 2 ^ k) (y % 2 ^ k) (x / 2 ^ k % 2) (y / 2 ^ k % 2) (2 ^ k)).2 := rfl
def qa (q : Nat) : Nat := q / 2
def qb (q : Nat) : Nat := (q % 2 + q / 2) % 2
def lay (p : Nat × Nat) (q s : Nat) : Nat × Nat := ((turn p.1 p.2 (qa q) (qb q) s).1 + qa q * s, (turn p.1 p.2 (qa q) (qb q) s).2 + qb q * s)
def unhil : Nat → Nat → Nat × Nat
  | 0, _ => (0, 0)
  | k + 1, r => lay (unhil k r) (r / 4 ^ k % 4) (2 ^ k)
theorem F_pow (z : Nat) : 3 * F z + 1 = 4 ^ z := by
  induction z with
  | zero => rfl
  | succ z ih => rw [F, Nat.pow_succ]; omega
theorem F_next (z : Nat) : F (z + 1) = F z + 4 ^ z := by rw [← F_pow, F]; omega
theorem F_mono {a b : Nat} (h : a ≤ b) : F a ≤ F b := by
  induction b with
  | zero => rw [Nat.le_zero.1 h]; exact Nat.le_refl _
  | succ b ih =>
    rcases Nat.lt_or_ge b a with h' | h'
    · rw [show a = b + 1 from by omega]; exact Nat.le_refl _
    · have := ih h'
      rw [F]; omega
theorem F_31 : F 31 = 1537228672809129301 := by decide
theorem F_lt {z : Nat} (h : z ≤ 31) : F z ≤ 1537228672809129301 := by rw [← F_31]; exact F_mono h
theorem pow4 (k : Nat) : 4 ^ k = 2 ^ k * 2 ^ k := by rw [← Nat.mul_pow]
theorem two_pos (k : Nat) : 0 < 2 ^ k := Nat.pow_pos (by omega)
theorem four_pos (k : Nat) : 0 < 4 ^ k := Nat.pow_pos (by omega)
theorem turn_lt {x y s : Nat} (a b : Nat) (hx : x < s) (hy : y < s) : (turn x y a b s).1 < s ∧ (turn x y a b s).2 < s := by
  unfold turn
  by_cases hb : b = 1
  · rw [if_pos hb]; exact ⟨hx, hy⟩
  · rw [if_neg hb]
    by_cases ha : a = 1
    · rw [if_pos ha]; exact ⟨by show s - 1 - y < s; omega, by show s - 1 - x < s; omega⟩
    · rw [if_neg ha]; exact ⟨hy, hx⟩
theorem turn_turn {x y s : Nat} (a b : Nat) (hx : x < s) (hy : y < s) : turn (turn x y a b s).1 (turn x y a b s).2 a b s = (x, y) := by
  unfold turn
  by_cases hb : b = 1
  · simp [hb]
  · by_cases ha : a = 1
    · simp only [if_neg hb, if_pos ha]
      rw [show s - 1 - (s - 1 - x) = x from by omega, show s - 1 - (s - 1 - y) = y from by omega]
    · simp only [if_neg hb, if_neg ha]
theorem dig_lt (a b : Nat) (_ha : a < 2) (hb : b < 2) : dig a b < 4 := by unfold dig; split <;> omega
theorem q_dig (a b : Nat) (ha : a < 2) (hb : b < 2) : qa (dig a b) = a ∧ qb (dig a b) = b := by
  unfold qa qb dig
  split <;> constructor <;> omega
theorem qa_lt (q : Nat) (h : q < 4) : qa q < 2 := by unfold qa; omega
theorem qb_lt (q : Nat) : qb q < 2 := by unfold qb; omega
theorem part (x s c : Nat) (hx : x < s) : (x + c * s) / s = c ∧ (x + c * s) % s = x := by
  have hs : 0 < s := by omega
  exact ⟨by rw [Nat.add_mul_div_right _ _ hs, Nat.div_eq_of_lt hx, Nat.zero_add], by rw [Nat.add_mul_mod_self_right, Nat.mod_eq_of_lt hx]⟩
theorem unhil_lt (k : Nat) : ∀ r, (unhil k r).1 < 2 ^ k ∧ (unhil k r).2 < 2 ^ k := by
  induction k with
  | zero => intro r; exact ⟨Nat.one_pos, Nat.one_pos⟩
  | succ k ih =>
    intro r
    obtain ⟨h1, h2⟩ := turn_lt (qa (r / 4 ^ k % 4)) (qb (r / 4 ^ k % 4)) (ih r).1 (ih r).2
    have ha := qa_lt (r / 4 ^ k % 4) (Nat.mod_lt _ (by omega))
    have hb := qb_lt (r / 4 ^ k % 4)
    have ha' : qa (r / 4 ^ k % 4) * 2 ^ k ≤ 1 * 2 ^ k := Nat.mul_le_mul_right _ (by omega)
    have hb' : qb (r / 4 ^ k % 4) * 2 ^ k ≤ 1 * 2 ^ k := Nat.mul_le_mul_right _ (by omega)
    rw [Nat.pow_succ]
    exact ⟨by show _ + _ < _; omega, by show _ + _ < _; omega⟩
theorem unhil_add (k : Nat) : ∀ r c, unhil k (r + c * 4 ^ k) = unhil k r := by
  induction k with
  | zero => intro r c; rfl
  | succ k ih =>
    intro r c
    have e : r + c * 4 ^ (k + 1) = r + c * 4 * 4 ^ k := by rw [Nat.pow_succ, Nat.mul_assoc, Nat.mul_comm (4 ^ k) 4]
    unfold unhil
    rw [e, ih, Nat.add_mul_div_right _ _ (four_pos k)]
    rw [show (r / 4 ^ k + c * 4) % 4 = r / 4 ^ k % 4 from by omega]
theorem unhil_mod (k r : Nat) : unhil k r = unhil k (r % 4 ^ k) := by
  have := unhil_add k (r % 4 ^ k) (r / 4 ^ k)
  rw [← this, Nat.mul_comm, Nat.mod_add_div]
theorem hil_lt (k : Nat) : ∀ x y, x < 2 ^ k → y < 2 ^ k → hil k x y < 4 ^ k := by
  induction k with
  | zero => intro x y _ _; exact Nat.one_pos
  | succ k ih =>
    intro x y hx hy
    obtain ⟨g1, g2⟩ := turn_lt (x / 2 ^ k % 2) (y / 2 ^ k % 2) (Nat.mod_lt x (two_pos k)) (Nat.mod_lt y (two_pos k))
    have h := ih _ _ g1 g2
    have hd := dig_lt (x / 2 ^ k % 2) (y / 2 ^ k % 2) (Nat.mod_lt _ (by omega)) (Nat.mod_lt _ (by omega))
    have hm : 2 ^ k * 2 ^ k * dig (x / 2 ^ k % 2) (y / 2 ^ k % 2) ≤ 4 ^ k * 3 := by rw [← pow4]; exact Nat.mul_le_mul_left _ (by omega)
    rw [hil_succ, Nat.pow_succ]
    omega
theorem unhil_hil (k : Nat) : ∀ x y, x < 2 ^ k → y < 2 ^ k → unhil k (hil k x y) = (x, y) := by
  induction k with
  | zero =>
    intro x y hx hy
    rw [Nat.pow_zero] at hx hy
    rw [show x = 0 from by omega, show y = 0 from by omega]
    rfl
  | succ k ih =>
    intro x y hx hy
    have hp := two_pos k
    have mx := Nat.mod_lt x hp
    have my := Nat.mod_lt y hp
    have dx : x / 2 ^ k < 2 := by rw [Nat.div_lt_iff_lt_mul hp]; rw [Nat.pow_succ] at hx; omega
    have dy : y / 2 ^ k < 2 := by rw [Nat.div_lt_iff_lt_mul hp]; rw [Nat.pow_succ] at hy; omega
    have hd := dig_lt _ _ dx dy
    obtain ⟨q1, q2⟩ := q_dig _ _ dx dy
    obtain ⟨g1, g2⟩ := turn_lt (x / 2 ^ k) (y / 2 ^ k) mx my
    have hl := hil_lt k _ _ g1 g2
    have hh : hil (k + 1) x y = hil k (turn (x % 2 ^ k) (y % 2 ^ k) (x / 2 ^ k) (y / 2 ^ k) (2 ^ k)).1 (turn (x % 2 ^ k) (y % 2 ^ k) (x / 2 ^ k) (y / 2 ^ k) (2 ^ k)).2 + dig (x / 2 ^ k) (y / 2 ^ k) * 4 ^ k := by
      rw [hil_succ, Nat.mod_eq_of_lt dx, Nat.mod_eq_of_lt dy, ← pow4, Nat.mul_comm (4 ^ k)]
      omega
    rw [hh]
    show lay (unhil k _) _ _ = _
    rw [unhil_add, ih _ _ g1 g2, Nat.add_mul_div_right _ _ (four_pos k), Nat.div_eq_of_lt hl, Nat.zero_add, Nat.mod_eq_of_lt hd]
    unfold lay
    rw [q1, q2, turn_turn _ _ mx my]
    have := Nat.mod_add_div x (2 ^ k)
    have := Nat.mod_add_div y (2 ^ k)
    rw [Nat.mul_comm (x / 2 ^ k), Nat.mul_comm (y / 2 ^ k)]
    congr 1
/-! ### Halves: the place above -/
/-! ### Neighbors -/
def Adj (p q : Nat × Nat) : Prop := (p.1 = q.1 ∧ (p.2 + 1 = q.2 ∨ q.2 + 1 = p.2)) ∨ (p.2 = q.2 ∧ (p.1 + 1 = q.1 ∨ q.1 + 1 = p.1))
theorem unhil_start (k : Nat) : ∀ c, unhil k (c * 4 ^ k) = (0, 0) := by
  intro c
  have h := unhil_add k 0 c
  rw [Nat.zero_add] at h
  rw [h]
  clear h
  induction k with
  | zero => rfl
  | succ k ih =>
    show lay (unhil k 0) (0 / 4 ^ k % 4) (2 ^ k) = _
    rw [ih, Nat.zero_div]
    simp [lay, turn, qa, qb]
theorem unhil_end (k : Nat) : ∀ c, unhil k (4 ^ k - 1 + c * 4 ^ k) = (2 ^ k - 1, 0) := by
  intro c
  rw [unhil_add]
  induction k with
  | zero => rfl
  | succ k ih =>
    have hp := four_pos k
    have h2 := two_pos k
    have e : 4 ^ (k + 1) - 1 = (4 ^ k - 1) + 3 * 4 ^ k := by rw [Nat.pow_succ]; omega
    show lay (unhil k _) (_ / 4 ^ k % 4) (2 ^ k) = _
    rw [e, unhil_add, ih, Nat.add_mul_div_right _ _ hp, Nat.div_eq_of_lt (by omega)]
    simp only [lay, turn, qa, qb, Nat.pow_succ]
    simp
    omega
theorem lay_adj (p p' : Nat × Nat) (q s : Nat) (h1 : p.1 < s) (h2 : p.2 < s) (h3 : p'.1 < s) (h4 : p'.2 < s) (h : Adj p p') : Adj (lay p q s) (lay p' q s) := by
  unfold Adj at h ⊢
  unfold lay turn
  by_cases hb : qb q = 1
  · simp only [if_pos hb]; omega
  · by_cases ha : qa q = 1
    · simp only [if_neg hb, if_pos ha]; omega
    · simp only [if_neg hb, if_neg ha]; omega
theorem near (k : Nat) : ∀ r, r + 1 < 4 ^ k → Adj (unhil k r) (unhil k (r + 1)) := by
  induction k with
  | zero => intro r h; rw [Nat.pow_zero] at h; omega
  | succ k ih =>
    intro r h
    have hp := four_pos k
    have h2 := two_pos k
    obtain ⟨l1, l2⟩ := unhil_lt k r
    obtain ⟨l3, l4⟩ := unhil_lt k (r + 1)
    rw [Nat.pow_succ] at h
    have hm := Nat.mod_add_div r (4 ^ k)
    have hr := Nat.mod_lt r hp
    by_cases hc : r % 4 ^ k + 1 < 4 ^ k
    · have hd : (r + 1) / 4 ^ k = r / 4 ^ k := by
        have e : r + 1 = (r % 4 ^ k + 1) + (r / 4 ^ k) * 4 ^ k := by rw [Nat.mul_comm]; omega
        rw [e, Nat.add_mul_div_right _ _ hp, Nat.div_eq_of_lt hc, Nat.zero_add]
      have e1 : unhil k r = unhil k (r % 4 ^ k) := unhil_mod k r
      have e2 : unhil k (r + 1) = unhil k (r % 4 ^ k + 1) := by
        have e : r + 1 = (r % 4 ^ k + 1) + (r / 4 ^ k) * 4 ^ k := by rw [Nat.mul_comm]; omega
        conv => lhs; rw [e]
        rw [unhil_add]
      show Adj (lay (unhil k r) (r / 4 ^ k % 4) (2 ^ k)) (lay (unhil k (r + 1)) ((r + 1) / 4 ^ k % 4) (2 ^ k))
      rw [hd]
      refine lay_adj _ _ _ _ l1 l2 l3 l4 ?_
      rw [e1, e2]
      exact ih _ hc
    · have hq : r / 4 ^ k < 3 := by
        rw [Nat.div_lt_iff_lt_mul hp]
        rcases Nat.lt_or_ge r (3 * 4 ^ k) with hlt | hge
        · exact hlt
        · have : r / 4 ^ k ≥ 3 := by rw [ge_iff_le, Nat.le_div_iff_mul_le hp]; omega
          have h3 : 4 ^ k * 3 ≤ 4 ^ k * (r / 4 ^ k) := Nat.mul_le_mul_left _ this
          omega
      have e : r = (4 ^ k - 1) + (r / 4 ^ k) * 4 ^ k := by rw [Nat.mul_comm (r / 4 ^ k)]; omega
      have e' : r + 1 = (r / 4 ^ k + 1) * 4 ^ k := by rw [Nat.add_mul, Nat.mul_comm (r / 4 ^ k)]; omega
      have u1 : unhil k r = (2 ^ k - 1, 0) := by conv => lhs; rw [e]; rw [unhil_end]
      have u2 : unhil k (r + 1) = (0, 0) := by rw [e', unhil_start]
      have d2 : (r + 1) / 4 ^ k = r / 4 ^ k + 1 := by rw [e', Nat.mul_div_cancel _ hp]
      show Adj (lay (unhil k r) (r / 4 ^ k % 4) (2 ^ k)) (lay (unhil k (r + 1)) ((r + 1) / 4 ^ k % 4) (2 ^ k))
      rw [u1, u2, d2]
      generalize r / 4 ^ k = q at *
      generalize 2 ^ k = s at *
      have hq3 : q = 0 ∨ q = 1 ∨ q = 2 := by omega
      rcases hq3 with rfl | rfl | rfl <;> simp [lay, turn, qa, qb, Adj] <;> omega
end Go.Proofs.YtaapjampmnanmaaGreat.Hilb
namespace Go.Proofs.YtaapjampmnanmaaGreat
open Go.RowKit
theorem pow2_le (z : Nat) (hz : z ≤ 30) : 2 ^ z ≤ 1073741824 := show 2 ^ z ≤ 2 ^ 30 from Nat.pow_le_pow_right (by omega) hz
theorem pow2_i64 (z : Nat) (hz : z ≤ 30) : wrap64 ((2 : Int) ^ z) = ((2 ^ z : Nat) : Int) := by
  have h := pow2_le z hz
  have e : (2 : Int) ^ z = ((2 ^ z : Nat) : Int) := by norm_cast
  rw [e]
  generalize 2 ^ z = S at *
  exact IntWalk.wrap64_in _ ⟨by omega, by omega⟩
def IsPl (z x y : Int) : Prop := 0 ≤ z ∧ z ≤ 30 ∧ 0 ≤ x ∧ 0 ≤ y ∧ x < ((2 ^ z.toNat : Nat) : Int) ∧ y < ((2 ^ z.toNat : Nat) : Int)
theorem isPl_nat {z x y : Int} (h : IsPl z x y) : ∃ a b c : Nat, z = a ∧ x = b ∧ y = c ∧ a ≤ 30 ∧ b < 2 ^ a ∧ c < 2 ^ a := by
  obtain ⟨h1, h2, h3, h4, h5, h6⟩ := h
  exact ⟨z.toNat, x.toNat, y.toNat, by omega, by omega, by omega, by omega, by omega, by omega⟩
instance (z x y : Int) : Decidable (IsPl z x y) := by unfold IsPl; infer_instance
set_option maxHeartbeats 400000 in
theorem right_yes (z x y : Nat) (w : World) (hz : z ≤ 30) (hx : x < 2 ^ z) (hy : y < 2 ^ z) :
    Calls Tryz.prog 64 #[.agg #[.int .i64 (z : Int), .int .i64 (x : Int), .int .i64 (y : Int)]] w fun e w' => e = .returned (.bool true) ∧ Below w.heap.size w w' := by
  have hw := pow2_i64 z hz
  have hS := pow2_le z hz
  generalize 2 ^ z = S at *
  go_enter Tryz.func64, Tryz.ntmps64
  go_wp2
  go_ret
  exact ⟨rfl, (Below.refl _ _).alloc (Nat.le_refl _) _⟩
theorem notPl {z x y : Int} (h : ¬ IsPl z x y) : z < 0 ∨ 30 < z ∨ ∃ a : Nat, z = a ∧ a ≤ 30 ∧ (x < 0 ∨ (0 ≤ x ∧ ((2 ^ a : Nat) : Int) ≤ x) ∨ (0 ≤ x ∧ x < ((2 ^ a : Nat) : Int) ∧ (y < 0 ∨ (0 ≤ y ∧ ((2 ^ a : Nat) : Int) ≤ y)))) := by
  by_cases h1 : z < 0
  · exact .inl h1
  by_cases h2 : 30 < z
  · exact .inr (.inl h2)
  refine .inr (.inr ⟨z.toNat, by omega, by omega, ?_⟩)
  by_cases h3 : x < 0
  · exact .inl h3
  by_cases h4 : ((2 ^ z.toNat : Nat) : Int) ≤ x
  · exact .inr (.inl ⟨by omega, h4⟩)
  refine .inr (.inr ⟨by omega, by omega, ?_⟩)
  by_cases h5 : y < 0
  · exact .inl h5
  refine .inr ⟨by omega, ?_⟩
  by_cases h6 : ((2 ^ z.toNat : Nat) : Int) ≤ y
  · exact h6
  · exact absurd ⟨by omega, by omega, by omega, by omega, by omega, by omega⟩ h
set_option maxHeartbeats 1000000 in
theorem right_no (z x y : Int) (w : World) (h : ¬ IsPl z x y) :
    Calls Tryz.prog 64 #[.agg #[.int .i64 z, .int .i64 x, .int .i64 y]] w fun e w' => e = .returned (.bool false) ∧ Below w.heap.size w w' := by
  rcases notPl h with h1 | h1 | ⟨a, rfl, ha, h1⟩
  · go_enter Tryz.func64, Tryz.ntmps64
    go_wp2
    go_ret
    exact ⟨rfl, (Below.refl _ _).alloc (Nat.le_refl _) _⟩
  · go_enter Tryz.func64, Tryz.ntmps64
    go_wp2
    go_ret
    exact ⟨rfl, (Below.refl _ _).alloc (Nat.le_refl _) _⟩
  · have hw := pow2_i64 a ha
    have hS := pow2_le a ha
    clear h
    generalize 2 ^ a = S at *
    rcases h1 with h1 | ⟨h0, h1⟩ | ⟨h0, h1, h2 | ⟨h3, h2⟩⟩
    all_goals
      go_enter Tryz.func64, Tryz.ntmps64
      go_wp2
      go_ret
      exact ⟨by first | rfl | (simp; omega), (Below.refl _ _).alloc (Nat.le_refl _) _⟩
/-! ### The reference's -/
end Go.Proofs.YtaapjampmnanmaaGreat
namespace Go.Proofs.YtaapjampmnanmaaGreat
open Go.RowKit
structure Lev (s X Y a b : Nat) : Prop where
  pos : 1 ≤ s
  le : s ≤ 1073741824
  qx : (X : Int) / (s : Int) = a
  qy : (Y : Int) / (s : Int) = b
  a2 : a < 2
  b2 : b < 2
  mx : X % s < s
  my : Y % s < s
  sq : ((s : Int) * (s : Int)) ≤ 1152921504606846976
  sq0 : 0 ≤ ((s : Int) * (s : Int))
theorem lev_of (j X Y : Nat) (hj : j ≤ 29) (hX : X < 2 ^ (j + 1)) (hY : Y < 2 ^ (j + 1)) : Lev (2 ^ j) X Y (X / 2 ^ j) (Y / 2 ^ j) := by
  have hp := Hilb.two_pos j
  have hle := pow2_le j (by omega)
  rw [Nat.pow_succ] at hX hY
  generalize 2 ^ j = s at *
  have h1 : s * s ≤ 1152921504606846976 := Nat.mul_le_mul hle hle
  have h2 : ((s * s : Nat) : Int) ≤ 1152921504606846976 := by omega
  have h3 : 0 ≤ ((s * s : Nat) : Int) := by omega
  rw [Int.natCast_mul] at h2 h3
  refine ⟨by omega, hle, by norm_cast, by norm_cast, ?_, ?_, Nat.mod_lt _ (by omega), Nat.mod_lt _ (by omega), ?_, ?_⟩
  · rw [Nat.div_lt_iff_lt_mul (by omega)]; omega
  · rw [Nat.div_lt_iff_lt_mul (by omega)]; omega
  · exact h2
  · exact h3
theorem hil_lev (j X Y : Nat) (hX : X < 2 ^ (j + 1)) (hY : Y < 2 ^ (j + 1)) : Hilb.hil (j + 1) X Y = 2 ^ j * 2 ^ j * Hilb.dig (X / 2 ^ j) (Y / 2 ^ j) +
    Hilb.hil j (Hilb.turn (X % 2 ^ j) (Y % 2 ^ j) (X / 2 ^ j) (Y / 2 ^ j) (2 ^ j)).1 (Hilb.turn (X % 2 ^ j) (Y % 2 ^ j) (X / 2 ^ j) (Y / 2 ^ j) (2 ^ j)).2 := by
  have hp := Hilb.two_pos j
  have dx : X / 2 ^ j < 2 := by rw [Nat.div_lt_iff_lt_mul hp]; rw [Nat.pow_succ] at hX; omega
  have dy : Y / 2 ^ j < 2 := by rw [Nat.div_lt_iff_lt_mul hp]; rw [Nat.pow_succ] at hY; omega
  rw [Hilb.hil_succ, Nat.mod_eq_of_lt dx, Nat.mod_eq_of_lt dy]
theorem wrap_four (m : Nat) (hm : m ≤ 31) : IntKind.u64.wrap ((2 : Int) ^ (2 * m)) = 3 * ((Hilb.F m : Nat) : Int) + 1 := by
  have h := Hilb.F_lt hm
  have e : (2 : Int) ^ (2 * m) = ((3 * Hilb.F m + 1 : Nat) : Int) := by
    rw [Hilb.F_pow, show (4 : Nat) = 2 ^ 2 from rfl, ← Nat.pow_mul]
    norm_cast
  rw [e, IntKind.wrap_u64]
  omega
set_option maxHeartbeats 400000 in
theorem firstin_any (m : Nat) (w : World) (hm : m ≤ 31) :
    Calls Tryz.prog 65 #[.int .i64 (m : Int)] w fun e w' => e = .returned (.int .u64 ((Hilb.F m : Nat) : Int)) ∧ w = w' := by
  have hw := wrap_four m hm
  have hF := Hilb.F_lt hm
  generalize Hilb.F m = G at *
  go_enter Tryz.func65, Tryz.ntmps65
  go_wp2
  go_ret
  exact ⟨ret_int (by omega), rfl⟩
set_option maxHeartbeats 400000 in
theorem turn_any (x y a b s : Nat) (w : World) (hx : x < s) (hy : y < s) (hs : s ≤ 1073741824) (ha : a < 2) (hb : b < 2) :
    Calls Tryz.prog 66 #[.int .i64 (x : Int), .int .i64 (y : Int), .int .i64 (a : Int), .int .i64 (b : Int), .int .i64 (s : Int)] w
      fun e w' => e = .returned (.tuple #[.int .i64 (((Hilb.turn x y a b s).1 : Nat) : Int), .int .i64 (((Hilb.turn x y a b s).2 : Nat) : Int)]) ∧ w = w' := by
  have hcut : b = 1 ∨ (b = 0 ∧ a = 1) ∨ (b = 0 ∧ a = 0) := by omega
  rcases hcut with rfl | ⟨rfl, rfl⟩ | ⟨rfl, rfl⟩
  · go_enter Tryz.func66, Tryz.ntmps66
    go_wp2
    go_ret2
    exact ⟨rfl, rfl⟩
  · have e1 : Hid (Hilb.turn x y 1 0 s = (s - 1 - y, s - 1 - x)) := rfl
    have e2 : ((s - 1 - y : Nat) : Int) = (s : Int) - 1 - y := by omega
    have e3 : ((s - 1 - x : Nat) : Int) = (s : Int) - 1 - x := by omega
    have e2 := hide e2
    have e3 := hide e3
    go_enter Tryz.func66, Tryz.ntmps66
    go_wp2
    go_ret2
    exact ⟨by rw [e1.out]; show _ = Ending.returned (.tuple #[.int .i64 ((s - 1 - y : Nat) : Int), .int .i64 ((s - 1 - x : Nat) : Int)]); rw [e2.out, e3.out]; rfl, rfl⟩
  · go_enter Tryz.func66, Tryz.ntmps66
    go_wp2
    go_ret2
    exact ⟨rfl, rfl⟩
end Go.Proofs.YtaapjampmnanmaaGreat
namespace Go.Proofs.YtaapjampmnanmaaGreat
open Go.RowKit
theorem box3 {w w1 : World} {t : TypeId} {a b c : Value} (hb : Below (w.alloc (.cells #[a, b, c] t)).heap.size (w.alloc (.cells #[a, b, c] t)) w1) :
    w1.cell? ⟨w.heap.size, 0, none⟩ = some a ∧ w1.cell? ⟨w.heap.size, 1, none⟩ = some b ∧ w1.cell? ⟨w.heap.size, 2, none⟩ = some c ∧ Below w.heap.size w w1 := by
  have hk : Blk w1 w.heap.size t #[a, b, c] := (Blk.new w t #[a, b, c]).below hb (by simp)
  exact ⟨hk.cell 0, hk.cell 1, hk.cell 2, ((Below.refl _ _).alloc (Nat.le_refl _) _).trans (hb.mono (by simp))⟩
theorem hil_bound (z x y : Nat) (hz : z ≤ 30) (hx : x < 2 ^ z) (hy : y < 2 ^ z) : Hilb.F z + Hilb.hil z x y ≤ 1537228672809129301 := by
  have h1 := Hilb.hil_lt z x y hx hy
  have h2 := Hilb.F_lt (z := z + 1) (by omega)
  rw [Hilb.F_next] at h2
  omega
theorem xor_dig (a b : Nat) (ha : a < 2) (hb : b < 2) : bits .xor .i64 (3 * (a : Int)) (b : Int) = ((Hilb.dig a b : Nat) : Int) := by
  have ha' : a = 0 ∨ a = 1 := by omega
  have hb' : b = 0 ∨ b = 1 := by omega
  rcases ha' with rfl | rfl <;> rcases hb' with rfl | rfl <;> decide +kernel
theorem and_bit (a : Nat) (ha : a < 2) : bits .and .i64 (a : Int) 1 = (a : Int) := by
  have ha' : a = 0 ∨ a = 1 := by omega
  rcases ha' with rfl | rfl <;> decide +kernel
set_option maxHeartbeats 1000000 in
theorem id_yes (z x y : Nat) (w : World) (hz : z ≤ 30) (hx : x < 2 ^ z) (hy : y < 2 ^ z) :
    Calls Tryz.prog 32 #[.agg #[.int .i64 (z : Int), .int .i64 (x : Int), .int .i64 (y : Int)]] w
      fun e w' => e = .returned (.tuple #[.int .u64 ((Hilb.F z + Hilb.hil z x y : Nat) : Int), .int .i64 0]) ∧ Below w.heap.size w w' := by
  have hS := pow2_le z hz
  have hx1 : x < 1073741824 := by omega
  have hy1 : y < 1073741824 := by omega
  have hx := hide hx
  have hy := hide hy
  clear hS
  go_enter Tryz.func32, Tryz.ntmps32
  go_wp2_with (first
    | (go_at_call 64; (with_reducible refine (right_yes z x y _ hz hx.out hy.out).mono ?_); rintro e w1 ⟨rfl, hb1⟩; obtain ⟨c0, c1, c2, hb⟩ := box3 hb1; clear hb1)
    | (go_at_call 65; (with_reducible refine (firstin_any z _ (by omega)).mono ?_); rintro e w' ⟨rfl, rfl⟩))
  go_quiet (fail)
  go_wp2
  have hb := hide hb
  go_loopw [4, 5, 6, 23] (fun d p q i wr => ∃ k X Y D n : Nat, k ≤ z ∧ i = .int .i64 k ∧ d = .int .u64 (D : Int) ∧ p = .int .i64 (X : Int) ∧ q = .int .i64 (Y : Int) ∧ Hid (X < 2 ^ (z - k)) ∧ Hid (Y < 2 ^ (z - k)) ∧ Hid (D + Hilb.hil (z - k) X Y = Hilb.F z + Hilb.hil z x y) ∧ wr = w1.drewN n) (fun _ _ _ i _ => z - (intOf i).toNat)
  case atStart => exact ⟨0, x, y, Hilb.F z, _, by omega, rfl, rfl, rfl, rfl, hx, hy, rfl, rfl⟩
  case round =>
    obtain ⟨k, X, Y, D, n, hk, rfl, rfl, rfl, rfl, hX, hY, hD, rfl⟩ := hrel
    by_cases hlt : k < z
    · have hj : z - k = (z - 1 - k) + 1 := by omega
      rw [hj] at hX hY hD
      have hw := pow2_i64 (z - 1 - k) (by omega)
      have L := lev_of (z - 1 - k) X Y (by omega) hX.out hY.out
      have hh := hil_lev (z - 1 - k) X Y hX.out hY.out
      have hd := Hilb.dig_lt _ _ L.a2 L.b2
      have hT := Hilb.turn_lt (X / 2 ^ (z - 1 - k)) (Y / 2 ^ (z - 1 - k)) L.mx L.my
      have hF := Hilb.F_lt (z := z) (by omega)
      have hl := hil_bound z x y hz hx.out hy.out
      have ht := fun W => turn_any (X % 2 ^ (z - 1 - k)) (Y % 2 ^ (z - 1 - k)) (X / 2 ^ (z - 1 - k)) (Y / 2 ^ (z - 1 - k)) (2 ^ (z - 1 - k)) W L.mx L.my L.le L.a2 L.b2
      have hq : z - (k + 1) = z - 1 - k := by omega
      have hlift : Hid (∀ t, t < 2 ^ (z - 1 - k) → t < 2 ^ (z - (k + 1))) := by show ∀ _, _; intro t h; rw [hq]; exact h
      have hq := hide hq
      obtain ⟨lpos, lle, lqx, lqy, la, lb, lmx, lmy, lsq, lsq0⟩ := L
      have hdx : bits .xor .i64 (3 * ((X / 2 ^ (z - 1 - k) : Nat) : Int)) ((Y / 2 ^ (z - 1 - k) : Nat) : Int) = ((Hilb.dig (X / 2 ^ (z - 1 - k)) (Y / 2 ^ (z - 1 - k)) : Nat) : Int) := xor_dig _ _ la lb
      have hax := and_bit _ la
      have hbx := and_bit _ lb
      simp only [Int.natCast_emod] at ht
      have hD' := hD.out
      rw [hh] at hD'
      clear hX hY hD hj hh hF
      generalize 2 ^ (z - 1 - k) = s at *
      generalize X / s = a at *
      generalize Y / s = b at *
      generalize Hilb.dig a b = d at *
      have ht := hide ht
      have hT := hide hT
      generalize Hilb.turn (X % s) (Y % s) a b s = T at *
      have hP : ((s * s * d : Nat) : Int) ≤ 1537228672809129301 - D := by omega
      have hP0 : 0 ≤ ((s * s * d : Nat) : Int) := by omega
      rw [Int.natCast_mul, Int.natCast_mul] at hP hP0
      have hDn := hide hD'
      have hDb : D ≤ 1537228672809129301 := by omega
      have hpos : (1 : Int) ≤ s := by omega
      clear hD' hl hx1 hy1 lmx lmy
      go_wp2
      rw [hw]
      clear hw
      go_quiet (fail)
      go_wp2
      go_quiet ((go_at_call 66; exact quiet_left2 (ht.out _)))
      go_wp2
      go_roundw
      case rel => exact ⟨k + 1, T.1, T.2, D + s * s * d, _, by omega, by go_num, by push_cast; rfl, rfl, rfl, hlift.out _ hT.out.1, hlift.out _ hT.out.2, by show _ = _; rw [hq.out]; have := hDn.out; omega, rfl⟩
      case measure => simp [intOf]; omega
    · obtain rfl : k = z := by omega
      go_wp2
      go_ret2
      have hD' := hD.out
      rw [Nat.sub_self] at hD'
      exact ⟨by rw [← hD']; rfl, below_drewN hb.out _⟩
set_option maxHeartbeats 400000 in
theorem id_no (z x y : Int) (w : World) (h : ¬ IsPl z x y) :
    Calls Tryz.prog 32 #[.agg #[.int .i64 z, .int .i64 x, .int .i64 y]] w fun e w' => e = .returned (.tuple #[.int .u64 0, .int .i64 8]) ∧ Below w.heap.size w w' := by
  have h := hide h
  go_enter Tryz.func32, Tryz.ntmps32
  go_wp2_with (go_at_call 64; (with_reducible refine (right_no z x y _ h.out).mono ?_); rintro e w1 ⟨rfl, hb1⟩; obtain ⟨c0, c1, c2, hb⟩ := box3 hb1; clear hb1)
  go_ret2
  exact ⟨rfl, hb⟩
end Go.Proofs.YtaapjampmnanmaaGreat
namespace Go.Proofs.YtaapjampmnanmaaGreat
open Go.RowKit
end Go.Proofs.YtaapjampmnanmaaGreat
