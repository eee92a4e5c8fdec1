/- Layer 14 (pack): the entries that are made are right, as are their parts and the entries of the parts: plain law. The conditions: the items are sorted, none is empty. -/
import Derived.Test.YtaapjampmnanmaaGreatPkEnd
import Derived.Test.YtaapjampmnanmaaGreatPkPacked
import Derived.Test.YtaapjampmnanmaaGreatPkLeaf
import Derived.Test.YtaapjampmnanmaaGreatDirX
namespace Go.Proofs.YtaapjampmnanmaaGreat
open Go.RowKit
set_option linter.unusedVariables false

/-- Each entry ends before the next one begins, and the last one ends at f. -/
def Sq (es : List Ent) (f : Nat) : Prop := (∀ j (h : j + 1 < es.length), es[j].id + es[j].run ≤ es[j + 1].id) ∧ ∀ e, es.getLast? = some e → e.id + e.run ≤ f
theorem Sq.nil (f : Nat) : Sq [] f := ⟨fun j h => absurd h (by simp), fun e h => by cases h⟩
theorem Sq.snoc {es : List Ent} {f g : Nat} {x : Ent} (h : Sq es f) (hf : f ≤ x.id) (hg : x.id + x.run ≤ g) : Sq (es ++ [x]) g := by
  refine ⟨fun j hj => ?_, fun e he => ?_⟩
  · rw [List.length_append, List.length_singleton] at hj
    by_cases e : j + 1 < es.length
    · rw [List.getElem_append_left (by omega), List.getElem_append_left e]
      exact h.1 j e
    · have hl : j + 1 = es.length := by omega
      rw [List.getElem_append_left (by omega)]
      have h1 := h.2 es[j] (by rw [List.getLast?_eq_getElem?, show es.length - 1 = j from by omega, List.getElem?_eq_getElem (by omega)])
      have h2 : (es ++ [x])[j + 1]'(by rw [List.length_append, List.length_singleton]; omega) = x := by
        rw [List.getElem_append_right (by omega)]
        simp [hl]
      rw [h2]
      omega
  · rw [List.getLast?_append] at he
    simp at he
    subst he
    exact hg
theorem Sq.run {es : List Ent} {f g q : Nat} {e : Ent} (h : Sq es f) (hq : es.length = q + 1) (he : es[q]? = some e) (r : Nat) (hg : e.id + r ≤ g) : Sq (es.set q { e with run := r }) g := by
  have hql : q < es.length := by omega
  rw [List.getElem?_eq_getElem hql] at he
  injection he with he
  refine ⟨fun j hj => ?_, fun x hx => ?_⟩
  · rw [List.length_set] at hj
    rw [List.getElem_set_ne (by omega)]
    by_cases hjq : j + 1 = q
    · have h1 := h.1 j hj
      have h2 : (es.set q { e with run := r })[j + 1]'(by rw [List.length_set]; exact hj) = { e with run := r } := by
        simp [hjq]
      rw [h2]
      have h3 : es[j + 1] = e := by rw [← he]; congr 1
      rw [h3] at h1
      exact h1
    · rw [List.getElem_set_ne (by omega)]
      exact h.1 j hj
  · rw [List.getLast?_eq_getElem?, List.length_set, hq, Nat.add_sub_cancel, List.getElem?_set_self hql] at hx
    injection hx with hx
    subst hx
    exact hg
/-- What the entries so far are. -/
structure EnS.Good (pk : List UInt8 → List UInt8) (s : EnS) (k f : Nat) : Prop where
  sq : Sq s.out f
  ok : ∀ e ∈ s.out, e.id ≤ 1537228672809129301 ∧ 1 ≤ e.run ∧ e.run ≤ k ∧ 1 ≤ e.len ∧ e.len ≤ 100000 ∧ e.off ≤ 100000 * k
  txt : s.texts.length ≤ k
  few : s.out.length ≤ k
  tx : ∀ t ∈ s.texts, (pk t).length ≤ 100000
theorem EnS.good (pk : List UInt8 → List UInt8) (X : Nat → It) (n : Nat) (hid : ∀ j, j < n → (X j).id ≤ 1537228672809129301) (hst : ∀ j, j + 1 < n → (X j).id < (X (j + 1)).id) (hpk : ∀ j, j < n → 1 ≤ (pk (X j).bs).length ∧ (pk (X j).bs).length ≤ 100000) :
    ∀ k, k ≤ n → (EnS.upto pk X k).Good pk k (if k = 0 then 0 else (X (k - 1)).id + 1) := by
  intro k
  induction k with
  | zero => intro _; exact ⟨Sq.nil _, fun e h => by simp [EnS.upto] at h, Nat.le_refl _, Nat.le_refl _, fun t h => by simp [EnS.upto] at h⟩
  | succ k ih =>
    intro hk
    replace ih := ih (by omega)
    rw [if_neg (by omega), Nat.add_sub_cancel]
    have hidk := hid k (by omega)
    have hpkk := hpk k (by omega)
    have hfk : (if k = 0 then 0 else (X (k - 1)).id + 1) ≤ (X k).id := by
      split
      · omega
      · have := hst (k - 1) (by omega)
        rw [show k - 1 + 1 = k from by omega] at this
        omega
    rw [EnS.upto]
    generalize EnS.upto pk X k = S at *
    by_cases hj : S.joins (X k).id (X k).bs
    · rw [EnS.step_join hj]
      obtain ⟨_, e, he, hs⟩ := hj
      have hne : S.out ≠ [] := by intro h; rw [h] at he; cases he
      obtain ⟨q, hq⟩ : ∃ q, S.out.length = q + 1 := ⟨S.out.length - 1, by have := List.length_pos_iff.2 hne; omega⟩
      have hqe : S.out[q]? = some e := by rw [List.getLast?_eq_getElem?, hq, Nat.add_sub_cancel] at he; exact he
      have hem := ih.ok e (List.mem_of_getLast? he)
      have hout := EnS.join_out S e he
      rw [hq, Nat.add_sub_cancel] at hout
      refine ⟨?_, ?_, Nat.le_succ_of_le ih.txt, ?_, ih.tx⟩
      · rw [hout]
        exact ih.sq.run hq hqe _ (by omega)
      · rw [hout]
        intro x hx
        rcases List.mem_or_eq_of_mem_set hx with h | rfl
        · have := ih.ok x h
          omega
        · simp only
          omega
      · rw [hout, List.length_set]
        have := ih.few
        omega
    · rw [EnS.step_add hj]
      refine ⟨?_, ?_, ?_, ?_, ?_⟩
      · exact ih.sq.snoc (f := if k = 0 then 0 else (X (k - 1)).id + 1) hfk (Nat.le_refl _)
      · intro x hx
        rcases List.mem_append.1 hx with h | h
        · have := ih.ok x h
          omega
        · obtain rfl := List.mem_singleton.1 h
          simp only
          have h1 := EnS.off_le pk S.texts (EnS.at S.texts (X k).bs)
          have h2 := EnS.tot_le pk 100000 S.texts ih.tx
          have h3 : 100000 * S.texts.length ≤ 100000 * k := Nat.mul_le_mul (Nat.le_refl _) ih.txt
          omega
      · show (EnS.more _ _).length ≤ _
        have := ih.txt
        unfold EnS.more
        split
        · omega
        · simp; omega
      · have := ih.few
        unfold EnS.add
        simp
        omega
      · show ∀ t ∈ EnS.more _ _, _
        unfold EnS.more
        split
        · exact ih.tx
        · intro t ht
          rcases List.mem_append.1 ht with h | h
          · exact ih.tx t h
          · rw [List.mem_singleton.1 h]
            exact hpkk.2
theorem EnS.Good.right {pk : List UInt8 → List UInt8} {s : EnS} {k f : Nat} (h : s.Good pk k f) (hk : k ≤ 40) (hne : s.out ≠ []) : RightE s.out := by
  refine ⟨List.length_pos_iff.2 hne, by have := h.few; omega, fun j hj => ?_, fun j hj => ?_⟩
  · have := h.ok _ (List.getElem_mem hj)
    unfold Ent.ok
    omega
  · have h1 := h.sq.1 j hj
    have h2 := h.ok _ (List.getElem_mem (show j < s.out.length by omega))
    unfold Ent.next
    omega
theorem EnS.upto_ne (pk : List UInt8 → List UInt8) (X : Nat → It) : ∀ k, 0 < k → (EnS.upto pk X k).out ≠ [] := by
  intro k hk
  obtain ⟨j, rfl⟩ : ∃ j, k = j + 1 := ⟨k - 1, by omega⟩
  rw [EnS.upto]
  by_cases hj : (EnS.upto pk X j).joins (X j).id (X j).bs
  · rw [EnS.step_join hj]
    obtain ⟨_, e, he, _⟩ := hj
    rw [EnS.join_out _ e he]
    intro h
    have h2 := congrArg List.length h
    rw [List.length_set] at h2
    rw [List.eq_nil_of_length_eq_zero h2] at he
    cases he
  · rw [EnS.step_add hj]
    unfold EnS.add
    simp
/-- A part of entries that are right is right. -/
theorem RightE.drop {es : List Ent} (h : RightE es) (a : Nat) (ha : a < es.length) : RightE (es.drop a) := by
  refine ⟨by rw [List.length_drop]; omega, by have := h.2.1; rw [List.length_drop]; omega, fun j hj => ?_, fun j hj => ?_⟩
  · rw [List.getElem_drop]
    rw [List.length_drop] at hj
    exact h.2.2.1 _ (by omega)
  · rw [List.getElem_drop, List.getElem_drop]
    rw [List.length_drop] at hj
    exact h.2.2.2 (a + j) (by omega)
theorem RightE.take {es : List Ent} (h : RightE es) (b : Nat) (hb : 0 < b) : RightE (es.take b) := by
  have h0 := h.1
  refine ⟨by rw [List.length_take]; omega, by have := h.2.1; rw [List.length_take]; omega, fun j hj => ?_, fun j hj => ?_⟩
  · rw [List.getElem_take]
    rw [List.length_take] at hj
    exact h.2.2.1 _ (by omega)
  · rw [List.getElem_take, List.getElem_take]
    rw [List.length_take] at hj
    exact h.2.2.2 j (by omega)
theorem chk_right (n : Nat) (hn : 1 ≤ n) : ∀ (f : Nat) (l : List Ent), (l = [] ∨ RightE l) → ∀ p ∈ chk n f l, RightE p
  | 0, l, _, p, h => by cases h
  | f + 1, l, hl, p, h => by
    rw [chk] at h
    split at h
    · cases h
    · rename_i hne
      have hr : RightE l := hl.resolve_left hne
      rcases List.mem_cons.1 h with rfl | h
      · exact hr.take n hn
      · refine chk_right n hn f _ ?_ p h
        by_cases hd : n < l.length
        · exact .inr (hr.drop n hd)
        · exact .inl (List.drop_eq_nil_of_le (by omega))
/-- The entry of part j, of a list of parts. -/
def topE (pk : List UInt8 → List UInt8) (ps : List (List Ent)) (j : Nat) : Ent := ⟨(((ps.getD j []).headD ⟨0, 0, 0, 0⟩)).id, (((ps.take j).map fun p => pk (putB p)).flatten).length, (pk (putB (ps.getD j []))).length, 0⟩
def topsL (pk : List UInt8 → List UInt8) (ps : List (List Ent)) (j : Nat) : List Ent := (List.range j).map (topE pk ps)
def leavesB (pk : List UInt8 → List UInt8) (ps : List (List Ent)) (j : Nat) : List UInt8 := ((ps.take j).map fun p => pk (putB p)).flatten
theorem topsL_succ (pk : List UInt8 → List UInt8) (ps : List (List Ent)) (j : Nat) : topsL pk ps (j + 1) = topsL pk ps j ++ [topE pk ps j] := by
  unfold topsL
  rw [List.range_succ, List.map_append]
  rfl
theorem leavesB_succ (pk : List UInt8 → List UInt8) (ps : List (List Ent)) (j : Nat) (hj : j < ps.length) : leavesB pk ps (j + 1) = leavesB pk ps j ++ pk (putB ps[j]) := by
  unfold leavesB
  rw [List.take_add_one, List.getElem?_eq_getElem hj, List.map_append, List.flatten_append]
  simp

theorem putB_few (es : List Ent) : (putB es).length ≤ 10 + 40 * es.length := by
  unfold putB
  have h0 := vb_len es.length
  have h1 := partB_len (fId es) es.length
  have h2 := partB_len (fRun es) es.length
  have h3 := partB_len (fLen es) es.length
  have h4 := partB_len (fOff es) es.length
  simp only [List.length_append]
  omega
theorem vb_pos (v : Nat) : 1 ≤ (vb v).length := by
  unfold vb
  rw [vbF]
  split <;> simp
theorem putB_pos (es : List Ent) : 1 ≤ (putB es).length := by
  unfold putB
  have := vb_pos es.length
  simp only [List.length_append]
  omega
theorem pkd_pos (gz : Bool) (bs : List UInt8) (h : 1 ≤ bs.length) : 1 ≤ (pkd gz bs).length := by
  cases gz with
  | true =>
    have h1 := Gz.wrap_len bs
    show 1 ≤ (Gz.wrap bs).length
    omega
  | false => exact h
theorem pkd_put (gz : Bool) (es : List Ent) (h : es.length ≤ 40) : 1 ≤ (pkd gz (putB es)).length ∧ (pkd gz (putB es)).length ≤ 100000 :=
  ⟨pkd_pos gz _ (putB_pos es), pkd_len gz _ (by have := putB_few es; omega)⟩
theorem chk_at (n : Nat) : ∀ (f : Nat) (l : List Ent) (j : Nat) (hj : j < (chk n f l).length), (chk n f l)[j] = (l.drop (j * n)).take n
  | 0, l, j, hj => absurd hj (Nat.not_lt_zero _)
  | f + 1, l, j, hj => by
    have hne : l ≠ [] := by
      intro h
      rw [h, chk_nil] at hj
      exact absurd hj (Nat.not_lt_zero _)
    have e : chk n (f + 1) l = l.take n :: chk n f (l.drop n) := by rw [chk, if_neg hne]
    cases j with
    | zero => simp [e]
    | succ j =>
      have hj' : j < (chk n f (l.drop n)).length := by rw [e] at hj; simpa using hj
      have := chk_at n f (l.drop n) j hj'
      rw [List.drop_drop] at this
      simp only [e, List.getElem_cons_succ]
      rw [this, Nat.succ_mul, Nat.add_comm n]
theorem RightE.lt {es : List Ent} (h : RightE es) {a b : Nat} (hab : a < b) (hb : b < es.length) : es[a].id < es[b].id := by
  obtain ⟨d, rfl⟩ : ∃ d, b = a + d + 1 := ⟨b - a - 1, by omega⟩
  induction d with
  | zero =>
    have h2 := h.2.2.2 a hb
    unfold Ent.next at h2
    exact Nat.lt_of_lt_of_le (Nat.lt_add_of_pos_right (by omega)) h2
  | succ d ih =>
    have h1 := ih (by omega) (by omega)
    have h2 := h.2.2.2 (a + d + 1) hb
    unfold Ent.next at h2
    exact Nat.lt_of_lt_of_le h1 (Nat.le_trans (Nat.le_add_right _ _) h2)
theorem leavesB_len (gz : Bool) (ps : List (List Ent)) (h : ∀ p ∈ ps, p.length ≤ 40) (j : Nat) (hj : j ≤ ps.length) : (leavesB (pkd gz) ps j).length ≤ 100000 * j := by
  induction j with
  | zero => simp [leavesB]
  | succ j ih =>
    rw [leavesB_succ _ _ _ (by omega), List.length_append]
    have h1 := ih (by omega)
    have h2 := pkd_put gz ps[j] (h _ (List.getElem_mem _))
    omega
/-- The entries of the parts are right. -/
theorem tops_right (gz : Bool) (es : List Ent) (hR : RightE es) (hn : es.length ≤ 40) (n : Nat) (hn1 : 1 ≤ n) : RightE (topsL (pkd gz) (chk n es.length es) (chk n es.length es).length) ∧ (chk n es.length es).length ≤ 40 := by
  have hlen : (chk n es.length es).length ≤ es.length := by
    have key : ∀ (f : Nat) (l : List Ent), (chk n f l).length ≤ f := by
      intro f
      induction f with
      | zero => intro l; exact Nat.le_refl _
      | succ f ih =>
        intro l
        rw [chk]
        split
        · exact Nat.zero_le _
        · have := ih (l.drop n)
          rw [List.length_cons]
          omega
    exact key _ _
  have hfew : ∀ p ∈ chk n es.length es, p.length ≤ 40 := by
    intro p hp
    obtain ⟨j, hj, rfl⟩ := List.getElem_of_mem hp
    rw [chk_at, List.length_take, List.length_drop]
    omega
  have hpos : 1 ≤ (chk n es.length es).length := by
    have h0 := hR.1
    obtain ⟨k, hk⟩ : ∃ k, es.length = k + 1 := ⟨es.length - 1, by omega⟩
    rw [hk, chk, if_neg (by intro h; rw [h] at hk; simp at hk)]
    simp
  have hidx : ∀ j, (hj : j < (chk n es.length es).length) → j * n < es.length := by
    intro j hj
    have h1 := chk_right n hn1 es.length es (.inr hR) _ (List.getElem_mem hj)
    have h2 := h1.1
    rw [chk_at, List.length_take, List.length_drop] at h2
    omega
  have hhead : ∀ j, (hj : j < (chk n es.length es).length) → (topE (pkd gz) (chk n es.length es) j).id = (es[j * n]'(hidx j hj)).id := by
    intro j hj
    have h0 := hidx j hj
    unfold topE
    rw [List.getD_eq_getElem?_getD, List.getElem?_eq_getElem hj]
    simp only [Option.getD_some]
    rw [chk_at]
    have h1 : (es.drop (j * n)).take n ≠ [] := by
      intro h
      have := congrArg List.length h
      rw [List.length_take, List.length_drop] at this
      simp at this
      omega
    rw [List.headD_eq_head?_getD, List.head?_eq_getElem?]
    rw [List.getElem?_take_of_lt (by omega), List.getElem?_drop, Nat.add_zero, List.getElem?_eq_getElem h0]
    rfl
  generalize chk n es.length es = ps at *
  have hl : (topsL (pkd gz) ps ps.length).length = ps.length := by unfold topsL; simp
  have hat : ∀ j (hj : j < (topsL (pkd gz) ps ps.length).length), (topsL (pkd gz) ps ps.length)[j] = topE (pkd gz) ps j := by
    intro j hj
    have h : (topsL (pkd gz) ps ps.length)[j]? = some (topE (pkd gz) ps j) := by
      unfold topsL
      rw [List.getElem?_map, List.getElem?_range (by omega)]
      rfl
    rw [List.getElem?_eq_getElem hj] at h
    injection h
  refine ⟨⟨by omega, by omega, fun j hj => ?_, fun j hj => ?_⟩, by omega⟩
  · rw [hat]
    have hj' : j < ps.length := by omega
    have h1 := hhead j hj'
    have h2 := hR.2.2.1 (j * n) (hidx j hj')
    have h3 := pkd_put gz ps[j] (hfew _ (List.getElem_mem _))
    have h4 := leavesB_len gz ps hfew j (by omega)
    have h5 : (topE (pkd gz) ps j).off = (leavesB (pkd gz) ps j).length := rfl
    have h6 : (topE (pkd gz) ps j).len = (pkd gz (putB ps[j])).length := by
      unfold topE
      rw [List.getD_eq_getElem?_getD, List.getElem?_eq_getElem hj']
      rfl
    have h7 : (topE (pkd gz) ps j).run = 0 := rfl
    unfold Ent.ok at *
    omega
  · rw [hat, hat]
    have hj' : j + 1 < ps.length := by omega
    have h1 := hhead j (by omega)
    have h2 := hhead (j + 1) hj'
    have h3 : (es[j * n]'(hidx j (by omega))).id < (es[(j + 1) * n]'(hidx (j + 1) hj')).id := hR.lt (by rw [Nat.succ_mul]; omega) (hidx (j + 1) hj')
    have h7 : (topE (pkd gz) ps j).run = 0 := rfl
    unfold Ent.next
    omega

end Go.Proofs.YtaapjampmnanmaaGreat
