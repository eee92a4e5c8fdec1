/- Layer 12 (dir): what the bytes of a directory say: the numbers read one behind the other, and the entries they are. Plain, with no program in sight; no condition. -/
import Derived.Test.YtmpdoileiniijaaDirVar
import Derived.Test.YtmpdoileiniijaaDirOwn
namespace Go.Proofs.Ytmpdoileiniijaa
open Go.RowKit

theorem vrS_use (l : List UInt8) (i a v c : Nat) (h : vrS l i a = (v, c, 0)) : i < c ∧ c ≤ i + l.length := by
  induction l generalizing i a with
  | nil => rw [vrS] at h; split at h <;> simp at h
  | cons x t ih =>
    rw [vrS] at h
    split at h
    · simp at h
    · split at h
      · injection h with _ h
        injection h with h _
        subst h
        simp
      · have := ih _ _ h
        simp
        omega
theorem vrS_big (l : List UInt8) (i a v c e : Nat) (ha : a < 2 ^ (7 * i)) (h : vrS l i a = (v, c, e)) : v ≤ 18446744073709551615 := by
  induction l generalizing i a with
  | nil => rw [vrS] at h; split at h <;> (injection h with h _; omega)
  | cons x t ih =>
    rw [vrS] at h
    split at h
    · injection h with h _; omega
    · rename_i hn
      have hx := toNat_le x
      have hg := grow i a (x.toNat % 128) (by omega) (by omega) (fun h9 => by
        have : x.toNat ≤ 1 := by omega
        omega) ha
      split at h
      · injection h with h _
        omega
      · exact ih _ _ hg.2.2 h
theorem vr_use {bs : List UInt8} {p v nx : Nat} (hp : p ≤ bs.length) (h : vr bs p = (v, nx, 0)) : p < nx ∧ nx ≤ bs.length := by
  obtain ⟨⟨rv, rn, re⟩, hR⟩ : ∃ R, vrS (bs.drop p) 0 0 = R := ⟨_, rfl⟩
  rw [vr_eq hR] at h
  injection h with h1 h
  injection h with h2 h3
  subst h3
  rw [if_pos rfl] at h2
  have := vrS_use _ _ _ _ _ hR
  rw [List.length_drop] at this
  omega
theorem vr_big {bs : List UInt8} {p v nx e : Nat} (h : vr bs p = (v, nx, e)) : v ≤ 18446744073709551615 := by
  obtain ⟨⟨rv, rn, re⟩, hR⟩ : ∃ R, vrS (bs.drop p) 0 0 = R := ⟨_, rfl⟩
  rw [vr_eq hR] at h
  injection h with h1 h
  subst h1
  exact vrS_big _ _ _ _ _ _ (by simp) hR
theorem vr_err {bs : List UInt8} {p v nx e : Nat} (h : vr bs p = (v, nx, e)) : e ≤ 3 ∧ (e ≠ 0 → v = 0 ∧ nx = 0) := by
  have key : ∀ (l : List UInt8) (i a v c e : Nat), vrS l i a = (v, c, e) → e ≤ 3 ∧ (e ≠ 0 → v = 0) := by
    intro l
    induction l with
    | nil => intro i a v c e h; rw [vrS] at h; split at h <;> (injection h with h1 h; injection h with h2 h3; omega)
    | cons x t ih =>
      intro i a v c e h
      rw [vrS] at h
      split at h
      · injection h with h1 h; injection h with h2 h3; omega
      · split at h
        · injection h with h1 h; injection h with h2 h3; omega
        · exact ih _ _ _ _ _ h
  obtain ⟨⟨rv, rn, re⟩, hR⟩ : ∃ R, vrS (bs.drop p) 0 0 = R := ⟨_, rfl⟩
  rw [vr_eq hR] at h
  injection h with h1 h
  injection h with h2 h3
  subst h1 h2 h3
  have := key _ _ _ _ _ _ hR
  exact ⟨this.1, fun h => ⟨this.2 h, if_neg h⟩⟩

def rdStep (bs : List UInt8) (n : Nat) (s : List Nat × Nat × Nat) : List Nat × Nat × Nat :=
  if s.2.2 ≠ 0 then s else
  if (vr bs s.2.1).2.2 ≠ 0 then (s.1, 0, (vr bs s.2.1).2.2) else
  if s.1.length = 3 * n ∧ (vr bs s.2.1).1 = 0 then (s.1, 0, 3) else (s.1 ++ [(vr bs s.2.1).1], (vr bs s.2.1).2.1, 0)
/-- The numbers read so far, the place behind, the error. -/
def rdTo (bs : List UInt8) (n p0 : Nat) : Nat → List Nat × Nat × Nat
  | 0 => ([], p0, 0)
  | k + 1 => rdStep bs n (rdTo bs n p0 k)
theorem rdStep_pre (bs : List UInt8) (n : Nat) (s : List Nat × Nat × Nat) : s.1 <+: (rdStep bs n s).1 := by
  unfold rdStep
  split
  · exact List.prefix_refl _
  · split
    · exact List.prefix_refl _
    · split
      · exact List.prefix_refl _
      · exact List.prefix_append _ _
theorem rd_pre (bs : List UInt8) (n p0 k j : Nat) (h : k ≤ j) : (rdTo bs n p0 k).1 <+: (rdTo bs n p0 j).1 := by
  obtain ⟨d, rfl⟩ : ∃ d, j = k + d := ⟨j - k, by omega⟩
  clear h
  induction d with
  | zero => exact List.prefix_refl _
  | succ d ih => exact ih.trans (rdStep_pre bs n _)
theorem rd_stay (bs : List UInt8) (n p0 k j : Nat) (h : k ≤ j) (he : (rdTo bs n p0 k).2.2 ≠ 0) : rdTo bs n p0 j = rdTo bs n p0 k := by
  obtain ⟨d, rfl⟩ : ∃ d, j = k + d := ⟨j - k, by omega⟩
  clear h
  induction d with
  | zero => rfl
  | succ d ih =>
    rw [show k + (d + 1) = (k + d) + 1 from rfl, rdTo, ih, rdStep, if_pos he]
def Ok (bs : List UInt8) (n p0 k p : Nat) : Prop := (rdTo bs n p0 k).2 = (p, 0)
def Ef (bs : List UInt8) (n p0 : Nat) : Nat := (rdTo bs n p0 (4 * n)).2.2
def pf (bs : List UInt8) (n p0 : Nat) : Nat := (rdTo bs n p0 (4 * n)).2.1
def val (bs : List UInt8) (n p0 j : Nat) : Nat := (rdTo bs n p0 (4 * n)).1.getD j 0
theorem Ok.zero (bs : List UInt8) (n p0 : Nat) : Ok bs n p0 0 p0 := rfl
theorem rd_len (bs : List UInt8) (n p0 k : Nat) (h : (rdTo bs n p0 k).2.2 = 0) : (rdTo bs n p0 k).1.length = k := by
  induction k with
  | zero => rfl
  | succ k ih =>
    have h0 : (rdTo bs n p0 k).2.2 = 0 := by
      by_cases h0 : (rdTo bs n p0 k).2.2 = 0
      · exact h0
      · rw [rd_stay bs n p0 k (k + 1) (by omega) h0] at h
        exact absurd h h0
    have hl := ih h0
    rw [rdTo, rdStep, if_neg (by omega)] at h ⊢
    split at h
    · exact absurd h (by assumption)
    · rename_i h1
      rw [if_neg h1] 
      split at h
      · simp at h
      · rename_i h2
        rw [if_neg h2, List.length_append, hl]
        rfl
theorem Ok.len {bs : List UInt8} {n p0 k p : Nat} (h : Ok bs n p0 k p) : (rdTo bs n p0 k).1.length = k := rd_len _ _ _ _ (by rw [h])
theorem getD_pre {a b : List Nat} (h : a <+: b) (j : Nat) (hj : j < a.length) : b.getD j 0 = a.getD j 0 := by
  obtain ⟨t, rfl⟩ := h
  rw [List.getD_eq_getElem?_getD, List.getD_eq_getElem?_getD, List.getElem?_append_left hj]
theorem Ok.next {bs : List UInt8} {n p0 k p v nx er : Nat} (h : Ok bs n p0 k p) (hk : k < 4 * n) (hv : vr bs p = (v, nx, er)) :
    (er ≠ 0 → Ef bs n p0 = er) ∧ (er = 0 → k = 3 * n ∧ v = 0 → Ef bs n p0 = 3) ∧ (er = 0 → ¬ (k = 3 * n ∧ v = 0) → Ok bs n p0 (k + 1) nx ∧ val bs n p0 k = v) := by
  have hl := h.len
  have hs : rdTo bs n p0 (k + 1) = rdStep bs n (rdTo bs n p0 k) := rfl
  obtain ⟨⟨V, p', e'⟩, hV⟩ : ∃ s, rdTo bs n p0 k = s := ⟨_, rfl⟩
  unfold Ok at h
  rw [hV] at h hs hl
  injection h with h1 h2
  simp only at h1 h2 hl
  subst h1 h2
  rw [rdStep] at hs
  simp only [ne_eq, not_true, if_false, hv] at hs
  refine ⟨fun he => ?_, fun he hz => ?_, fun he hz => ?_⟩
  · rw [if_pos he] at hs
    rw [Ef, rd_stay bs n p0 (k + 1) (4 * n) (by omega) (by rw [hs]; exact he), hs]
  · rw [if_neg (by omega), if_pos (by omega)] at hs
    rw [Ef, rd_stay bs n p0 (k + 1) (4 * n) (by omega) (by rw [hs]; exact (by decide : (3 : Nat) ≠ 0)), hs]
  · rw [if_neg (by omega), if_neg (by omega)] at hs
    refine ⟨by rw [Ok, hs], ?_⟩
    have hp := rd_pre bs n p0 (k + 1) (4 * n) (by omega)
    rw [val, getD_pre hp k (by rw [hs]; simp; omega), hs]
    simp [List.getD_eq_getElem?_getD, ← hl]
theorem Ok.bound {bs : List UInt8} {n p0 k p : Nat} (h0 : p0 ≤ bs.length) (h : Ok bs n p0 k p) : p0 + k ≤ p ∧ p ≤ bs.length := by
  induction k generalizing p with
  | zero => injection h with h _; omega
  | succ k ih =>
    obtain ⟨⟨V, p', e'⟩, hV⟩ : ∃ s, rdTo bs n p0 k = s := ⟨_, rfl⟩
    by_cases h0' : e' = 0
    · subst h0'
      have hok : Ok bs n p0 k p' := by rw [Ok, hV]
      have hb := ih hok
      unfold Ok at h
      rw [rdTo, hV, rdStep, if_neg (by simp)] at h
      simp only at h
      obtain ⟨⟨v, nx, er⟩, hv⟩ : ∃ s, vr bs p' = s := ⟨_, rfl⟩
      rw [hv] at h
      simp only at h
      split at h
      · injection h with _ h
        omega
      · rename_i h1
        have h1 : er = 0 := by simpa using h1
        subst h1
        have := vr_use hb.2 hv
        split at h
        · injection h with _ h
          omega
        · injection h with h _
          omega
    · unfold Ok at h
      rw [rd_stay bs n p0 k (k + 1) (by omega) (by rw [hV]; exact h0'), hV] at h
      injection h with _ h
      omega
theorem Ok.done {bs : List UInt8} {n p0 p : Nat} (h : Ok bs n p0 (4 * n) p) : Ef bs n p0 = 0 ∧ pf bs n p0 = p := by
  unfold Ok at h
  rw [Ef, pf, h]
  exact ⟨rfl, rfl⟩
theorem val_big (bs : List UInt8) (n p0 j : Nat) : val bs n p0 j ≤ 18446744073709551615 := by
  have key : ∀ k, ∀ x ∈ (rdTo bs n p0 k).1, x ≤ 18446744073709551615 := by
    intro k
    induction k with
    | zero => intro x hx; simp [rdTo] at hx
    | succ k ih =>
      intro x hx
      rw [rdTo, rdStep] at hx
      split at hx
      · exact ih x hx
      · split at hx
        · exact ih x hx
        · split at hx
          · exact ih x hx
          · rcases List.mem_append.1 hx with hx | hx
            · exact ih x hx
            · simp at hx
              subst hx
              exact vr_big (rfl : vr bs _ = (_, _, _))
  unfold val
  rw [List.getD_eq_getElem?_getD]
  by_cases h : j < (rdTo bs n p0 (4 * n)).1.length
  · rw [List.getElem?_eq_getElem h]
    exact key _ _ (List.getElem_mem h)
  · rw [List.getElem?_eq_none (by omega)]
    simp

/-! ### The entries that numbers are -/
def gid (f : Nat → Nat) : Nat → Nat
  | 0 => f 0
  | j + 1 => (gid f j + f (j + 1)) % 18446744073709551616
def gof (f : Nat → Nat) (n : Nat) : Nat → Nat
  | 0 => f (3 * n) - 1
  | j + 1 => if f (3 * n + (j + 1)) = 0 then (gof f n j + f (2 * n + j)) % 18446744073709551616 else f (3 * n + (j + 1)) - 1
def gent (f : Nat → Nat) (n j : Nat) : Ent := ⟨gid f j, gof f n j, f (2 * n + j), f (n + j)⟩
def gents (f : Nat → Nat) (n : Nat) : List Ent := (List.range n).map (gent f n)
def lastId (f : Nat → Nat) : Nat → Nat
  | 0 => 0
  | k + 1 => gid f k
theorem gid_big (f : Nat → Nat) (hf : ∀ j, f j ≤ 18446744073709551615) (j : Nat) : gid f j ≤ 18446744073709551615 := by
  cases j with
  | zero => exact hf 0
  | succ j => unfold gid; omega
theorem gof_big (f : Nat → Nat) (n : Nat) (hf : ∀ j, f j ≤ 18446744073709551615) (j : Nat) : gof f n j ≤ 18446744073709551615 := by
  cases j with
  | zero => unfold gof; have := hf (3 * n); omega
  | succ j => unfold gof; have := hf (3 * n + (j + 1)); split <;> omega
theorem lastId_next (f : Nat → Nat) (hf : ∀ j, f j ≤ 18446744073709551615) (k : Nat) : (lastId f k + f k) % 18446744073709551616 = gid f k ∧ lastId f k ≤ 18446744073709551615 := by
  cases k with
  | zero =>
    have := hf 0
    show (0 + f 0) % 18446744073709551616 = f 0 ∧ 0 ≤ 18446744073709551615
    omega
  | succ k => have := gid_big f hf k; unfold lastId; rw [gid]; exact ⟨rfl, this⟩
/-- The four stages of the making. -/
def F1 (f : Nat → Nat) (k : Nat) : List Ent := (List.range k).map fun j => ⟨gid f j, 0, 0, 0⟩
def F2 (f : Nat → Nat) (n i : Nat) : List Ent := (List.range n).map fun j => ⟨gid f j, 0, 0, if j < i then f (n + j) else 0⟩
def F3 (f : Nat → Nat) (n i : Nat) : List Ent := (List.range n).map fun j => ⟨gid f j, 0, if j < i then f (2 * n + j) else 0, f (n + j)⟩
def F4 (f : Nat → Nat) (n i : Nat) : List Ent := (List.range n).map fun j => ⟨gid f j, if j < i then gof f n j else 0, f (2 * n + j), f (n + j)⟩
theorem F1_len (f : Nat → Nat) (k : Nat) : (F1 f k).length = k := by simp [F1]
theorem F2_len (f : Nat → Nat) (n i : Nat) : (F2 f n i).length = n := by simp [F2]
theorem F3_len (f : Nat → Nat) (n i : Nat) : (F3 f n i).length = n := by simp [F3]
theorem F4_len (f : Nat → Nat) (n i : Nat) : (F4 f n i).length = n := by simp [F4]
theorem gents_len (f : Nat → Nat) (n : Nat) : (gents f n).length = n := by simp [gents]
theorem F1_succ (f : Nat → Nat) (k : Nat) : F1 f (k + 1) = F1 f k ++ [⟨gid f k, 0, 0, 0⟩] := by simp [F1, List.range_succ]
theorem F2_zero (f : Nat → Nat) (n : Nat) : F2 f n 0 = F1 f n := by simp [F2, F1]
theorem F3_zero (f : Nat → Nat) (n : Nat) : F3 f n 0 = F2 f n n := by
  apply List.ext_getElem (by simp [F3, F2])
  intro i h1 h2
  simp [F3] at h1
  simp [F3, F2, h1]
theorem F4_zero (f : Nat → Nat) (n : Nat) : F4 f n 0 = F3 f n n := by
  apply List.ext_getElem (by simp [F4, F3])
  intro i h1 h2
  simp [F4] at h1
  simp [F4, F3, h1]
theorem F4_full (f : Nat → Nat) (n : Nat) : F4 f n n = gents f n := by
  apply List.ext_getElem (by simp [F4, gents])
  intro i h1 h2
  simp [F4] at h1
  simp [F4, gents, gent, h1]
theorem F2_set (f : Nat → Nat) (n i : Nat) (h : i < (F2 f n i).length) : (F2 f n i).set i { (F2 f n i)[i] with run := f (n + i) } = F2 f n (i + 1) := by
  apply List.ext_getElem (by simp [F2])
  intro j h1 h2
  by_cases e : i = j
  · subst e
    rw [List.getElem_set_self]
    simp [F2]
  · rw [List.getElem_set_ne e]
    have : (j < i) = (j < i + 1) := propext ⟨fun h => by omega, fun h => by omega⟩
    simp [F2, this]
theorem F3_set (f : Nat → Nat) (n i : Nat) (h : i < (F3 f n i).length) : (F3 f n i).set i { (F3 f n i)[i] with len := f (2 * n + i) } = F3 f n (i + 1) := by
  apply List.ext_getElem (by simp [F3])
  intro j h1 h2
  by_cases e : i = j
  · subst e
    rw [List.getElem_set_self]
    simp [F3]
  · rw [List.getElem_set_ne e]
    have : (j < i) = (j < i + 1) := propext ⟨fun h => by omega, fun h => by omega⟩
    simp [F3, this]
theorem F4_set (f : Nat → Nat) (n i : Nat) (h : i < (F4 f n i).length) : (F4 f n i).set i { (F4 f n i)[i] with off := gof f n i } = F4 f n (i + 1) := by
  apply List.ext_getElem (by simp [F4])
  intro j h1 h2
  by_cases e : i = j
  · subst e
    rw [List.getElem_set_self]
    simp [F4]
  · rw [List.getElem_set_ne e]
    have : (j < i) = (j < i + 1) := propext ⟨fun h => by omega, fun h => by omega⟩
    simp [F4, this]
theorem F4_prev (f : Nat → Nat) (n i q : Nat) (hq : i = q + 1) (h : q < (F4 f n i).length) : (F4 f n i)[q].off = gof f n q ∧ (F4 f n i)[q].len = f (2 * n + q) := by
  subst hq
  simp [F4]
theorem gents_at (f : Nat → Nat) (n i : Nat) (h : i < (gents f n).length) : (gents f n)[i] = gent f n i := by simp [gents]
theorem gents_big (f : Nat → Nat) (n : Nat) (hf : ∀ j, f j ≤ 18446744073709551615) : ∀ x ∈ gents f n, x.big := by
  intro x hx
  obtain ⟨j, _, rfl⟩ := List.mem_map.1 hx
  exact ⟨gid_big f hf j, gof_big f n hf j, hf _, hf _⟩

/-- What Get answers: the entries and the error. -/
def GetR (bs : List UInt8) (r : List Ent × Nat) : Prop :=
  ∃ n p e, vr bs 0 = (n, p, e) ∧ (e ≠ 0 → r = ([], e)) ∧ (e = 0 → 65536 < n → r = ([], 9)) ∧ (e = 0 → n ≤ 65536 → Ef bs n p ≠ 0 → r = ([], Ef bs n p)) ∧
    (e = 0 → n ≤ 65536 → Ef bs n p = 0 → (pf bs n p < bs.length ∨ ¬ RightE (gents (val bs n p) n)) → r = ([], 3)) ∧
    (e = 0 → n ≤ 65536 → Ef bs n p = 0 → pf bs n p = bs.length → RightE (gents (val bs n p) n) → r = (gents (val bs n p) n, 0))
theorem rd_pf (bs : List UInt8) (n p0 : Nat) (h0 : p0 ≤ bs.length) (he : Ef bs n p0 = 0) : Ok bs n p0 (4 * n) (pf bs n p0) ∧ pf bs n p0 ≤ bs.length := by
  have hok : Ok bs n p0 (4 * n) (pf bs n p0) := by
    unfold Ok pf
    unfold Ef at he
    rw [← he]
  exact ⟨hok, (hok.bound h0).2⟩
theorem GetR.ex (bs : List UInt8) : ∃ r, GetR bs r := by
  obtain ⟨⟨n, p, e⟩, hv⟩ : ∃ s, vr bs 0 = s := ⟨_, rfl⟩
  by_cases he : e = 0
  · by_cases hn : 65536 < n
    · exact ⟨([], 9), n, p, e, hv, fun h => absurd he h, fun _ _ => rfl, fun _ h => absurd h (by omega), fun _ h => absurd h (by omega), fun _ h => absurd h (by omega)⟩
    · by_cases hE : Ef bs n p = 0
      · by_cases hb : pf bs n p < bs.length ∨ ¬ RightE (gents (val bs n p) n)
        · refine ⟨([], 3), n, p, e, hv, fun h => absurd he h, fun _ h => absurd h hn, fun _ _ h => absurd hE h, fun _ _ _ _ => rfl, fun _ _ _ h1 h2 => ?_⟩
          rcases hb with hb | hb
          · omega
          · exact absurd h2 hb
        · exact ⟨(gents (val bs n p) n, 0), n, p, e, hv, fun h => absurd he h, fun _ h => absurd h hn, fun _ _ h => absurd hE h, fun _ _ _ h => absurd h hb, fun _ _ _ _ _ => rfl⟩
      · exact ⟨([], Ef bs n p), n, p, e, hv, fun h => absurd he h, fun _ h => absurd h hn, fun _ _ _ => rfl, fun _ _ h => absurd h hE, fun _ _ h => absurd h hE⟩
  · exact ⟨([], e), n, p, e, hv, fun _ => rfl, fun h => absurd h he, fun h => absurd h he, fun h => absurd h he, fun h => absurd h he⟩

end Go.Proofs.Ytmpdoileiniijaa
