/- Layer 12 (dir): what was put is got again; what was got is put in no more bytes. Plain, with no program in sight; no condition. -/
import Derived.Test.YtmpdoileiniijaaDirRGet
namespace Go.Proofs.Ytmpdoileiniijaa
open Go.RowKit

theorem u8_nat (x : Nat) (h : x < 256) : (UInt8.ofNat x).toNat = x := by
  simp [UInt8.toNat_ofNat']
  omega
theorem pow7 (i : Nat) : 2 ^ (7 * (i + 1)) = 128 * 2 ^ (7 * i) := by
  rw [Nat.mul_add, Nat.pow_add, Nat.mul_comm]
theorem sm_next {V i : Nat} (h : V ≤ 18446744073709551615 / 128 ^ i) : V / 128 ≤ 18446744073709551615 / 128 ^ (i + 1) := by
  rw [Nat.pow_succ, ← Nat.div_div_eq_div_mul]
  exact Nat.div_le_div_right h
theorem vrS_vb (post : List UInt8) (k i a V : Nat) (hk : k + i = 9) (hV : V ≤ 18446744073709551615 / 128 ^ i) : vrS (vbF k V ++ post) i a = (a + V * 2 ^ (7 * i), i + (vbF k V).length, 0) := by
  induction k generalizing i a V with
  | zero =>
    obtain rfl : i = 9 := by omega
    have h1 : V ≤ 1 := hV
    have h2 : (UInt8.ofNat V).toNat = V := u8_nat V (by omega)
    show vrS (UInt8.ofNat V :: post) 9 a = _
    rw [vrS, h2, if_neg (by omega), if_pos (by omega), Nat.mod_eq_of_lt (by omega)]
    rfl
  | succ k ih =>
    by_cases h : V < 128
    · have h2 : (UInt8.ofNat V).toNat = V := u8_nat V (by omega)
      rw [vbF, if_pos h]
      show vrS (UInt8.ofNat V :: post) i a = _
      rw [vrS, h2, if_neg (by omega), if_pos h, Nat.mod_eq_of_lt h]
      rfl
    · have h2 : (UInt8.ofNat (V % 128 + 128)).toNat = V % 128 + 128 := u8_nat _ (by omega)
      rw [vbF, if_neg h]
      show vrS (UInt8.ofNat (V % 128 + 128) :: (vbF k (V / 128) ++ post)) i a = _
      rw [vrS, h2, if_neg (by omega), if_neg (by omega), ih (i + 1) _ (V / 128) (by omega) (sm_next hV)]
      have h3 : (V % 128 + 128) % 128 = V % 128 := by omega
      have h4 : a + V % 128 * 2 ^ (7 * i) + V / 128 * 2 ^ (7 * (i + 1)) = a + V * 2 ^ (7 * i) := by
        rw [pow7, ← Nat.mul_assoc, Nat.add_assoc, ← Nat.add_mul]
        congr 2
        omega
      rw [h3, h4, List.length_cons]
      congr 2
      omega
theorem vr_vb (pre post : List UInt8) (v : Nat) (hv : v ≤ 18446744073709551615) : vr (pre ++ (vb v ++ post)) pre.length = (v, pre.length + (vb v).length, 0) := by
  have h : vrS ((pre ++ (vb v ++ post)).drop pre.length) 0 0 = (v, (vb v).length, 0) := by
    rw [List.drop_left]
    have := vrS_vb post 9 0 0 v rfl (by simpa using hv)
    simpa [vb] using this
  rw [vr_eq h, if_pos rfl]
theorem vbF_small (k V : Nat) (h : V < 128) : (vbF k V).length = 1 := by
  cases k with
  | zero => rfl
  | succ k => rw [vbF, if_pos h]; rfl
theorem vrS_min (l : List UInt8) (i a v c : Nat) (h : vrS l i a = (v, c, 0)) : ∃ V, v = a + V * 2 ^ (7 * i) ∧ (vbF (9 - i) V).length + i ≤ c := by
  induction l generalizing i a with
  | nil => rw [vrS] at h; split at h <;> simp at h
  | cons x t ih =>
    rw [vrS] at h
    split at h
    · simp at h
    · rename_i h1
      split at h
      · rename_i h2
        injection h with h3 h
        injection h with h4 _
        refine ⟨x.toNat % 128, h3.symm, ?_⟩
        rw [vbF_small _ _ (by omega)]
        omega
      · rename_i h2
        obtain ⟨V', h3, h4⟩ := ih _ _ h
        have hi : i ≤ 8 := by omega
        obtain ⟨k, hk⟩ : ∃ k, 9 - i = k + 1 := ⟨8 - i, by omega⟩
        have hk' : 9 - (i + 1) = k := by omega
        refine ⟨x.toNat % 128 + 128 * V', ?_, ?_⟩
        · rw [h3, pow7, Nat.add_mul, Nat.add_assoc, ← Nat.mul_assoc, Nat.mul_comm V' 128]
        · rw [hk'] at h4
          rw [hk]
          by_cases h5 : x.toNat % 128 + 128 * V' < 128
          · rw [vbF_small _ _ h5]
            omega
          · rw [vbF, if_neg h5, List.length_cons, show (x.toNat % 128 + 128 * V') / 128 = V' by omega]
            omega
theorem vr_min {bs : List UInt8} {p v nx : Nat} (h : vr bs p = (v, nx, 0)) : p + (vb v).length ≤ nx := by
  obtain ⟨⟨rv, rn, re⟩, hR⟩ : ∃ R, vrS (bs.drop p) 0 0 = R := ⟨_, rfl⟩
  rw [vr_eq hR] at h
  injection h with h1 h
  injection h with h2 h3
  subst h1 h3
  rw [if_pos rfl] at h2
  obtain ⟨V, h4, h5⟩ := vrS_min _ _ _ _ _ hR
  simp at h4 h5
  subst h4
  unfold vb
  omega

/-! ### The numbers of a directory -/
def gv (es : List Ent) (j : Nat) : Nat :=
  if j < es.length then fId es j else if j < 2 * es.length then fRun es (j - es.length) else if j < 3 * es.length then fLen es (j - 2 * es.length) else fOff es (j - 3 * es.length)
theorem partB_add (f : Nat → Nat) (a b : Nat) : partB f (a + b) = partB f a ++ partB (fun j => f (a + j)) b := by
  induction b with
  | zero => simp [partB]
  | succ b ih => rw [show a + (b + 1) = (a + b) + 1 from rfl, partB_succ, ih, partB_succ, List.append_assoc]
theorem partB_cong {f g : Nat → Nat} (k : Nat) (h : ∀ j, j < k → f j = g j) : partB f k = partB g k := by
  induction k with
  | zero => rfl
  | succ k ih => rw [partB_succ, partB_succ, ih (fun j hj => h j (by omega)), h k (by omega)]
theorem putB_gv (es : List Ent) : putB es = vb es.length ++ partB (gv es) (4 * es.length) := by
  obtain ⟨n, hn⟩ : ∃ n, es.length = n := ⟨_, rfl⟩
  rw [putB, hn, show 4 * n = n + n + n + n by omega, partB_add, partB_add, partB_add]
  have h1 : partB (fId es) n = partB (gv es) n := partB_cong n (fun j hj => by rw [gv, hn, if_pos hj])
  have h2 : partB (fRun es) n = partB (fun j => gv es (n + j)) n := partB_cong n (fun j hj => by rw [gv, hn, if_neg (by omega), if_pos (by omega), Nat.add_sub_cancel_left])
  have h3 : partB (fLen es) n = partB (fun j => gv es (n + n + j)) n := partB_cong n (fun j hj => by rw [gv, hn, if_neg (by omega), if_neg (by omega), if_pos (by omega), show n + n + j - 2 * n = j by omega])
  have h4 : partB (fOff es) n = partB (fun j => gv es (n + n + n + j)) n := partB_cong n (fun j hj => by rw [gv, hn, if_neg (by omega), if_neg (by omega), if_neg (by omega), show n + n + n + j - 3 * n = j by omega])
  rw [h1, h2, h3, h4]
  simp only [List.append_assoc]
theorem putB_len (es : List Ent) : (putB es).length ≤ 10 + 40 * es.length := by
  rw [putB_gv, List.length_append]
  have h1 := vb_len es.length
  have h2 := partB_len (gv es) (4 * es.length)
  omega
section
variable {es : List Ent}
theorem right_ok (h : RightE es) (j : Nat) (hj : j < es.length) : (ent es j).ok := by
  rw [ent_at es j hj]
  exact h.2.2.1 j hj
theorem right_next (h : RightE es) (j : Nat) (hj : j + 1 < es.length) : (ent es j).next (ent es (j + 1)) := by
  rw [ent_at es j (by omega), ent_at es (j + 1) hj]
  exact h.2.2.2 j hj
theorem gv_big (h : RightE es) (j : Nat) (hj : j < 4 * es.length) : gv es j ≤ 18446744073709551615 := by
  unfold gv
  split
  · have h1 := right_ok h j (by assumption)
    unfold Ent.ok at h1
    unfold fId
    omega
  · split
    · have h1 := right_ok h (j - es.length) (by omega)
      unfold Ent.ok at h1
      unfold fRun
      omega
    · split
      · have h1 := right_ok h (j - 2 * es.length) (by omega)
        unfold Ent.ok at h1
        unfold fLen
        omega
      · have h1 := right_ok h (j - 3 * es.length) (by omega)
        unfold Ent.ok at h1
        unfold fOff
        split <;> omega
theorem gv_zero (h : RightE es) : gv es (3 * es.length) ≠ 0 := by
  have := h.1
  rw [gv, if_neg (by omega), if_neg (by omega), if_neg (by omega), Nat.sub_self, fOff, if_neg (by omega)]
  omega
theorem gid_of (h : RightE es) (f : Nat → Nat) (hf : ∀ j, j < 4 * es.length → f j = gv es j) (j : Nat) (hj : j < es.length) : gid f j = (ent es j).id := by
  induction j with
  | zero =>
    rw [gid, hf 0 (by omega), gv, if_pos hj, fId, prevId, if_pos rfl]
    omega
  | succ j ih =>
    have h1 := right_next h j hj
    have h2 := right_ok h (j + 1) hj
    unfold Ent.next at h1
    unfold Ent.ok at h2
    rw [gid, ih (by omega), hf (j + 1) (by omega), gv, if_pos hj, fId, prevId, if_neg (by omega), Nat.add_sub_cancel]
    omega
theorem gof_of (h : RightE es) (f : Nat → Nat) (hf : ∀ j, j < 4 * es.length → f j = gv es j) (j : Nat) (hj : j < es.length) : gof f es.length j = (ent es j).off := by
  have ho : ∀ j, j < es.length → f (3 * es.length + j) = fOff es j := by
    intro j hj
    rw [hf _ (by omega), gv, if_neg (by omega), if_neg (by omega), if_neg (by omega), Nat.add_sub_cancel_left]
  have hl : ∀ j, j < es.length → f (2 * es.length + j) = fLen es j := by
    intro j hj
    rw [hf _ (by omega), gv, if_neg (by omega), if_neg (by omega), if_pos (by omega), Nat.add_sub_cancel_left]
  induction j with
  | zero =>
    have h1 : f (3 * es.length) = fOff es 0 := ho 0 hj
    rw [gof, h1, fOff, if_neg (by omega)]
    omega
  | succ j ih =>
    have h1 := right_ok h (j + 1) hj
    have h2 := right_ok h j (by omega)
    unfold Ent.ok at h1 h2
    rw [gof, ih (by omega), ho (j + 1) hj, hl j (by omega), fLen]
    unfold fOff
    rw [Nat.add_sub_cancel]
    by_cases hc : 0 < j + 1 ∧ (ent es (j + 1)).off = (ent es j).off + (ent es j).len
    · rw [if_pos hc, if_pos rfl, hc.2]
      omega
    · rw [if_neg hc, if_neg (by omega)]
      omega
theorem gents_of (h : RightE es) (f : Nat → Nat) (hf : ∀ j, j < 4 * es.length → f j = gv es j) : gents f es.length = es := by
  apply List.ext_getElem (gents_len f es.length)
  intro j h1 h2
  rw [gents_at, ← ent_at es j h2, gent, gid_of h f hf j h2, gof_of h f hf j h2, hf (2 * es.length + j) (by omega), hf (es.length + j) (by omega)]
  rw [gv, if_neg (by omega), if_neg (by omega), if_pos (by omega), Nat.add_sub_cancel_left, gv, if_neg (by omega), if_pos (by omega), Nat.add_sub_cancel_left]
  rfl
/-- Numbers that were put are got again. -/
theorem rdTo_put (h : RightE es) (k : Nat) (hk : k ≤ 4 * es.length) : rdTo (putB es) es.length (vb es.length).length k = ((List.range k).map (gv es), (vb es.length ++ partB (gv es) k).length, 0) := by
  induction k with
  | zero => simp [rdTo, partB]
  | succ k ih =>
    have hs : putB es = (vb es.length ++ partB (gv es) k) ++ (vb (gv es k) ++ partB (fun j => gv es (k + 1 + j)) (4 * es.length - (k + 1))) := by
      rw [putB_gv, show 4 * es.length = (k + 1) + (4 * es.length - (k + 1)) by omega, partB_add, partB_succ]
      simp only [List.append_assoc, show k + 1 + (4 * es.length - (k + 1)) - (k + 1) = 4 * es.length - (k + 1) by omega]
    have hv := vr_vb (vb es.length ++ partB (gv es) k) (partB (fun j => gv es (k + 1 + j)) (4 * es.length - (k + 1))) (gv es k) (gv_big h k (by omega))
    rw [← hs] at hv
    rw [rdTo, ih (by omega), rdStep]
    simp only [ne_eq, not_true, if_false, hv, List.length_map, List.length_range]
    rw [if_neg (fun hc => gv_zero h (by rw [← hc.1]; exact hc.2)), List.range_succ, List.map_append, partB_succ]
    simp only [List.length_append, List.map_cons, List.map_nil, Nat.add_assoc]
theorem getR_put (h : RightE es) : GetR (putB es) (es, 0) := by
  have h0 : vr (putB es) 0 = (es.length, (vb es.length).length, 0) := by
    have := vr_vb [] (partB (gv es) (4 * es.length)) es.length (by have := h.2.1; omega)
    rw [List.nil_append, ← putB_gv] at this
    simpa using this
  have hr := rdTo_put h (4 * es.length) (Nat.le_refl _)
  have hE : Ef (putB es) es.length (vb es.length).length = 0 := by rw [Ef, hr]
  have hp : pf (putB es) es.length (vb es.length).length = (putB es).length := by rw [pf, hr, ← putB_gv]
  have hg : gents (val (putB es) es.length (vb es.length).length) es.length = es := gents_of h _ (fun j hj => by
    rw [val, hr]
    simp [List.getD_eq_getElem?_getD, hj])
  refine ⟨es.length, (vb es.length).length, 0, h0, fun h => absurd rfl h, fun _ h' => ?_, fun _ _ h' => absurd hE h', fun _ _ _ h' => ?_, fun _ _ _ _ _ => by rw [hg]⟩
  · have := h.2.1
    omega
  · rw [hp, hg] at h'
    rcases h' with h' | h'
    · omega
    · exact absurd h h'
end

/-- What is got is right, and put in no more bytes. -/
theorem getR_ok {bs : List UInt8} {l : List Ent} (hR : GetR bs (l, 0)) : RightE l ∧ 4 * l.length ≤ bs.length ∧ (putB l).length ≤ bs.length := by
  obtain ⟨n, p, e, hv, h1, h2, h3, h4, h5⟩ := hR
  have he : e = 0 := by
    by_cases he : e = 0
    · exact he
    · have := h1 he
      injection this with _ h
      exact h.symm
  subst he
  have hn : n ≤ 65536 := by
    by_cases hn : n ≤ 65536
    · exact hn
    · have := h2 rfl (by omega)
      injection this with _ h
      exact absurd h (by decide)
  have hE : Ef bs n p = 0 := by
    by_cases hE : Ef bs n p = 0
    · exact hE
    · have := h3 rfl hn hE
      injection this with _ h
      exact h.symm
  have hu := vr_use (Nat.zero_le _) hv
  have hpf := rd_pf bs n p hu.2 hE
  by_cases hb : pf bs n p < bs.length ∨ ¬ RightE (gents (val bs n p) n)
  · have := h4 rfl hn hE hb
    injection this with _ h
    exact absurd h (by decide)
  · have hp : pf bs n p = bs.length := by have := hpf.2; omega
    have hr : RightE (gents (val bs n p) n) := by
      by_cases h : RightE (gents (val bs n p) n)
      · exact h
      · exact absurd (.inr h) hb
    have := h5 rfl hn hE hp hr
    injection this with hl _
    subst hl
    obtain ⟨f, hf⟩ : ∃ f, val bs n p = f := ⟨_, rfl⟩
    have hfb : ∀ j, f j ≤ 18446744073709551615 := fun j => by rw [← hf]; exact val_big bs n p j
    have hok := hpf.1
    rw [hp] at hok
    have hbd := hok.bound hu.2
    refine ⟨hr, by rw [gents_len]; omega, ?_⟩
    rw [hf] at hr ⊢
    have hlen := gents_len f n
    -- the numbers of what was got are those that were read, or 0
    have hent : ∀ j, j < n → ent (gents f n) j = gent f n j := fun j hj => by rw [ent_at _ _ (by omega), gents_at]
    have hg : ∀ k, k < 4 * n → gv (gents f n) k = f k ∨ gv (gents f n) k = 0 := by
      intro k hk
      unfold gv
      rw [hlen]
      split
      · left
        rename_i h
        cases k with
        | zero => rw [fId, prevId, if_pos rfl, hent 0 h]; rfl
        | succ k =>
          have h6 := right_next hr k (by omega)
          unfold Ent.next at h6
          rw [hent k (by omega), hent (k + 1) h] at h6
          have h7 := hfb (k + 1)
          have h8 := gid_big f hfb k
          rw [fId, prevId, if_neg (by omega), Nat.add_sub_cancel, hent k (by omega), hent (k + 1) h]
          simp only [gent, gid] at h6 ⊢
          omega
      · split
        · left
          rw [fRun, hent _ (by omega)]
          show f (n + (k - n)) = f k
          congr 1
          omega
        · split
          · left
            rw [fLen, hent _ (by omega)]
            show f (2 * n + (k - 2 * n)) = f k
            congr 1
            omega
          · obtain ⟨j, hj⟩ : ∃ j, k = 3 * n + j := ⟨k - 3 * n, by omega⟩
            subst hj
            rw [Nat.add_sub_cancel_left]
            unfold fOff
            split
            · exact .inr rfl
            · rename_i hc
              left
              cases j with
              | zero =>
                have h9 : f (3 * n) ≠ 0 := by
                  rw [← hf]
                  exact hok.nz (by omega)
                rw [hent 0 (by omega)]
                show f (3 * n) - 1 + 1 = f (3 * n)
                omega
              | succ j =>
                rw [Nat.add_sub_cancel, hent j (by omega), hent (j + 1) (by omega)] at hc
                rw [hent (j + 1) (by omega)]
                have h6 := right_ok hr j (by omega)
                unfold Ent.ok at h6
                rw [hent j (by omega)] at h6
                simp only [gent] at h6 hc ⊢
                by_cases h9 : f (3 * n + (j + 1)) = 0
                · rw [gof, if_pos h9] at hc
                  omega
                · rw [gof, if_neg h9]
                  omega
    have key : ∀ k, k ≤ 4 * n → ∀ q, Ok bs n p k q → (vb n).length + (partB (gv (gents f n)) k).length ≤ q := by
      intro k
      induction k with
      | zero =>
        intro _ q hq
        have h6 : p = q := by
          have h7 := Ok.zero bs n p
          unfold Ok at h7 hq
          rw [h7] at hq
          injection hq
        subst h6
        have := vr_min hv
        simpa [partB] using this
      | succ k ih =>
        intro hk q hq
        obtain ⟨q', hq'⟩ := hq.back k (by omega)
        have h6 := ih (by omega) q' hq'
        obtain ⟨⟨v, nx, er⟩, hvv⟩ : ∃ s, vr bs q' = s := ⟨_, rfl⟩
        obtain ⟨n1, n2, n3⟩ := hq'.next (by omega) hvv
        have her : er = 0 := by
          by_cases h : er = 0
          · exact h
          · rw [n1 h] at hE
            exact absurd hE h
        subst her
        obtain ⟨n4, n5⟩ := n3 rfl (fun h => by
          rw [n2 rfl h] at hE
          exact absurd hE (by decide))
        have h7 : nx = q := by
          unfold Ok at n4 hq
          rw [n4] at hq
          injection hq
        subst h7
        rw [hf] at n5
        rw [partB_succ, List.length_append]
        have h8 := (vr_use (hq'.bound hu.2).2 hvv).1
        have h9 := vr_min hvv
        rcases hg k (by omega) with h10 | h10
        · rw [h10, n5]
          omega
        · rw [h10]
          show _ + (_ + 1) ≤ _
          omega
    have := key (4 * n) (Nat.le_refl _) _ hok
    rw [putB_gv, hlen, List.length_append]
    exact this

end Go.Proofs.Ytmpdoileiniijaa
