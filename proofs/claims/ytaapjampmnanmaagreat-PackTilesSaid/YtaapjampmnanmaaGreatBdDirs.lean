/- Layer 14 (pack): the entries that are made are right, as are their parts and the entries of the parts: plain law. The conditions: the items are sorted, none is empty. Layer 14 (pack): the directories' bytes, in the program. The conditions: the entries are right; at most 40 of them. -/
import Derived.Test.YtaapjampmnanmaaGreatPkEnd
import Derived.Test.YtaapjampmnanmaaGreatPkPacked
import Derived.Test.YtaapjampmnanmaaGreatPkLeaf
import Derived.Test.YtaapjampmnanmaaGreatDirX
import Derived.Test.YtaapjampmnanmaaGreatPkMuch
import Derived.Test.YtaapjampmnanmaaGreatPkAt
import Derived.Test.YtaapjampmnanmaaGreatPkLeaves
namespace Go.Proofs.YtaapjampmnanmaaGreat
open Go.RowKit
set_option linter.unusedVariables false
def Sq (es : List Ent) (f : Nat) : Prop := (∀ j (h : j + 1 < es.length), es[j].id + es[j].run ≤ es[j + 1].id) ∧ ∀ e, es.getLast? = some e → e.id + e.run ≤ f
theorem Sq.nil (f : Nat) : Sq [] f := ⟨fun j h => absurd h (by simp), fun e h => by cases h⟩
theorem Sq.snoc {es : List Ent} {f g : Nat} {x : Ent} (h : Sq es f) (hf : f ≤ x.id) (hg : x.id + x.run ≤ g) : Sq (es ++ [x]) g := by
  refine ⟨fun j hj => ?_, fun e he => ?_⟩
  · rw [List.length_append, List.length_singleton] at hj
    by_cases e : j + 1 < es.length
    · rw [List.getElem_append_left (by omega), List.getElem_append_left e]
      exact h.1 j e
    · have hl : j + 1 = es.length := by omega
      rw [List.getElem_append_left (by omega)]
      have h1 := h.2 es[j] (by rw [List.getLast?_eq_getElem?, show es.length - 1 = j from by omega, List.getElem?_eq_getElem (by omega)])
      have h2 : (es ++ [x])[j + 1]'(by rw [List.length_append, List.length_singleton]; omega) = x := by
        rw [List.getElem_append_right (by omega)]
        simp [hl]
      rw [h2]
      omega
  · rw [List.getLast?_append] at he
    simp at he
    subst he
    exact hg
theorem Sq.run {es : List Ent} {f g q : Nat} {e : Ent} (h : Sq es f) (hq : es.length = q + 1) (he : es[q]? = some e) (r : Nat) (hg : e.id + r ≤ g) : Sq (es.set q { e with run := r }) g := by
  have hql : q < es.length := by omega
  rw [List.getElem?_eq_getElem hql] at he
  injection he with he
  refine ⟨fun j hj => ?_, fun x hx => ?_⟩
  · rw [List.length_set] at hj
    rw [List.getElem_set_ne (by omega)]
    by_cases hjq : j + 1 = q
    · have h1 := h.1 j hj
      have h2 : (es.set q { e with run := r })[j + 1]'(by rw [List.length_set]; exact hj) = { e with run := r } := by
        simp [hjq]
      rw [h2]
      have h3 : es[j + 1] = e := by rw [← he]; congr 1
      rw [h3] at h1
      exact h1
    · rw [List.getElem_set_ne (by omega)]
      exact h.1 j hj
  · rw [List.getLast?_eq_getElem?, List.length_set, hq, Nat.add_sub_cancel, List.getElem?_set_self hql] at hx
    injection hx with hx
    subst hx
    exact hg
structure EnS.Good (pk : List UInt8 → List UInt8) (s : EnS) (k f : Nat) : Prop where
  sq : Sq s.out f
  ok : ∀ e ∈ s.out, e.id ≤ 1537228672809129301 ∧ 1 ≤ e.run ∧ e.run ≤ k ∧ 1 ≤ e.len ∧ e.len ≤ 100000 ∧ e.off ≤ 100000 * k
  txt : s.texts.length ≤ k
  few : s.out.length ≤ k
  tx : ∀ t ∈ s.texts, (pk t).length ≤ 100000
theorem EnS.good (pk : List UInt8 → List UInt8) (X : Nat → It) (n : Nat) (hid : ∀ j, j < n → (X j).id ≤ 1537228672809129301) (hst : ∀ j, j + 1 < n → (X j).id < (X (j + 1)).id) (hpk : ∀ j, j < n → 1 ≤ (pk (X j).bs).length ∧ (pk (X j).bs).length ≤ 100000) :
    ∀ k, k ≤ n → (EnS.upto pk X k).Good pk k (if k = 0 then 0 else (X (k - 1)).id + 1) := by
  intro k
  induction k with
  | zero => intro _; exact ⟨Sq.nil _, fun e h => by simp [EnS.upto] at h, Nat.le_refl _, Nat.le_refl _, fun t h => by simp [EnS.upto] at h⟩
  | succ k ih =>
    intro hk
    replace ih := ih (by omega)
    rw [if_neg (by omega), Nat.add_sub_cancel]
    have hidk := hid k (by omega)
    have hpkk := hpk k (by omega)
    have hfk : (if k = 0 then 0 else (X (k - 1)).id + 1) ≤ (X k).id := by
      split
      · omega
      · have := hst (k - 1) (by omega)
        rw [show k - 1 + 1 = k from by omega] at this
        omega
    rw [EnS.upto]
    generalize EnS.upto pk X k = S at *
    by_cases hj : S.joins (X k).id (X k).bs
    · rw [EnS.step_join hj]
      obtain ⟨_, e, he, hs⟩ := hj
      have hne : S.out ≠ [] := by intro h; rw [h] at he; cases he
      obtain ⟨q, hq⟩ : ∃ q, S.out.length = q + 1 := ⟨S.out.length - 1, by have := List.length_pos_iff.2 hne; omega⟩
      have hqe : S.out[q]? = some e := by rw [List.getLast?_eq_getElem?, hq, Nat.add_sub_cancel] at he; exact he
      have hem := ih.ok e (List.mem_of_getLast? he)
      have hout := EnS.join_out S e he
      rw [hq, Nat.add_sub_cancel] at hout
      refine ⟨?_, ?_, Nat.le_succ_of_le ih.txt, ?_, ih.tx⟩
      · rw [hout]
        exact ih.sq.run hq hqe _ (by omega)
      · rw [hout]
        intro x hx
        rcases List.mem_or_eq_of_mem_set hx with h | rfl
        · have := ih.ok x h
          omega
        · simp only
          omega
      · rw [hout, List.length_set]
        have := ih.few
        omega
    · rw [EnS.step_add hj]
      refine ⟨?_, ?_, ?_, ?_, ?_⟩
      · exact ih.sq.snoc (f := if k = 0 then 0 else (X (k - 1)).id + 1) hfk (Nat.le_refl _)
      · intro x hx
        rcases List.mem_append.1 hx with h | h
        · have := ih.ok x h
          omega
        · obtain rfl := List.mem_singleton.1 h
          simp only
          have h1 := EnS.off_le pk S.texts (EnS.at S.texts (X k).bs)
          have h2 := EnS.tot_le pk 100000 S.texts ih.tx
          have h3 : 100000 * S.texts.length ≤ 100000 * k := Nat.mul_le_mul (Nat.le_refl _) ih.txt
          omega
      · show (EnS.more _ _).length ≤ _
        have := ih.txt
        unfold EnS.more
        split
        · omega
        · simp; omega
      · have := ih.few
        unfold EnS.add
        simp
        omega
      · show ∀ t ∈ EnS.more _ _, _
        unfold EnS.more
        split
        · exact ih.tx
        · intro t ht
          rcases List.mem_append.1 ht with h | h
          · exact ih.tx t h
          · rw [List.mem_singleton.1 h]
            exact hpkk.2
theorem EnS.Good.right {pk : List UInt8 → List UInt8} {s : EnS} {k f : Nat} (h : s.Good pk k f) (hk : k ≤ 40) (hne : s.out ≠ []) : RightE s.out := by
  refine ⟨List.length_pos_iff.2 hne, by have := h.few; omega, fun j hj => ?_, fun j hj => ?_⟩
  · have := h.ok _ (List.getElem_mem hj)
    unfold Ent.ok
    omega
  · have h1 := h.sq.1 j hj
    have h2 := h.ok _ (List.getElem_mem (show j < s.out.length by omega))
    unfold Ent.next
    omega
theorem EnS.upto_ne (pk : List UInt8 → List UInt8) (X : Nat → It) : ∀ k, 0 < k → (EnS.upto pk X k).out ≠ [] := by
  intro k hk
  obtain ⟨j, rfl⟩ : ∃ j, k = j + 1 := ⟨k - 1, by omega⟩
  rw [EnS.upto]
  by_cases hj : (EnS.upto pk X j).joins (X j).id (X j).bs
  · rw [EnS.step_join hj]
    obtain ⟨_, e, he, _⟩ := hj
    rw [EnS.join_out _ e he]
    intro h
    have h2 := congrArg List.length h
    rw [List.length_set] at h2
    rw [List.eq_nil_of_length_eq_zero h2] at he
    cases he
  · rw [EnS.step_add hj]
    unfold EnS.add
    simp
theorem RightE.drop {es : List Ent} (h : RightE es) (a : Nat) (ha : a < es.length) : RightE (es.drop a) := by
  refine ⟨by rw [List.length_drop]; omega, by have := h.2.1; rw [List.length_drop]; omega, fun j hj => ?_, fun j hj => ?_⟩
  · rw [List.getElem_drop]
    rw [List.length_drop] at hj
    exact h.2.2.1 _ (by omega)
  · rw [List.getElem_drop, List.getElem_drop]
    rw [List.length_drop] at hj
    exact h.2.2.2 (a + j) (by omega)
theorem RightE.take {es : List Ent} (h : RightE es) (b : Nat) (hb : 0 < b) : RightE (es.take b) := by
  have h0 := h.1
  refine ⟨by rw [List.length_take]; omega, by have := h.2.1; rw [List.length_take]; omega, fun j hj => ?_, fun j hj => ?_⟩
  · rw [List.getElem_take]
    rw [List.length_take] at hj
    exact h.2.2.1 _ (by omega)
  · rw [List.getElem_take, List.getElem_take]
    rw [List.length_take] at hj
    exact h.2.2.2 j (by omega)
theorem chk_right (n : Nat) (hn : 1 ≤ n) : ∀ (f : Nat) (l : List Ent), (l = [] ∨ RightE l) → ∀ p ∈ chk n f l, RightE p
  | 0, l, _, p, h => by cases h
  | f + 1, l, hl, p, h => by
    rw [chk] at h
    split at h
    · cases h
    · rename_i hne
      have hr : RightE l := hl.resolve_left hne
      rcases List.mem_cons.1 h with rfl | h
      · exact hr.take n hn
      · refine chk_right n hn f _ ?_ p h
        by_cases hd : n < l.length
        · exact .inr (hr.drop n hd)
        · exact .inl (List.drop_eq_nil_of_le (by omega))
def topE (pk : List UInt8 → List UInt8) (ps : List (List Ent)) (j : Nat) : Ent := ⟨(((ps.getD j []).headD ⟨0, 0, 0, 0⟩)).id, (((ps.take j).map fun p => pk (putB p)).flatten).length, (pk (putB (ps.getD j []))).length, 0⟩
def topsL (pk : List UInt8 → List UInt8) (ps : List (List Ent)) (j : Nat) : List Ent := (List.range j).map (topE pk ps)
def leavesB (pk : List UInt8 → List UInt8) (ps : List (List Ent)) (j : Nat) : List UInt8 := ((ps.take j).map fun p => pk (putB p)).flatten
theorem topsL_succ (pk : List UInt8 → List UInt8) (ps : List (List Ent)) (j : Nat) : topsL pk ps (j + 1) = topsL pk ps j ++ [topE pk ps j] := by
  unfold topsL
  rw [List.range_succ, List.map_append]
  rfl
theorem leavesB_succ (pk : List UInt8 → List UInt8) (ps : List (List Ent)) (j : Nat) (hj : j < ps.length) : leavesB pk ps (j + 1) = leavesB pk ps j ++ pk (putB ps[j]) := by
  unfold leavesB
  rw [List.take_add_one, List.getElem?_eq_getElem hj, List.map_append, List.flatten_append]
  simp
theorem putB_few (es : List Ent) : (putB es).length ≤ 10 + 40 * es.length := by
  unfold putB
  have h0 := vb_len es.length
  have h1 := partB_len (fId es) es.length
  have h2 := partB_len (fRun es) es.length
  have h3 := partB_len (fLen es) es.length
  have h4 := partB_len (fOff es) es.length
  simp only [List.length_append]
  omega
theorem vb_pos (v : Nat) : 1 ≤ (vb v).length := by
  unfold vb
  rw [vbF]
  split <;> simp
theorem putB_pos (es : List Ent) : 1 ≤ (putB es).length := by
  unfold putB
  have := vb_pos es.length
  simp only [List.length_append]
  omega
theorem pkd_pos (gz : Bool) (bs : List UInt8) (h : 1 ≤ bs.length) : 1 ≤ (pkd gz bs).length := by
  cases gz with
  | true =>
    have h1 := Gz.wrap_len bs
    show 1 ≤ (Gz.wrap bs).length
    omega
  | false => exact h
theorem pkd_put (gz : Bool) (es : List Ent) (h : es.length ≤ 40) : 1 ≤ (pkd gz (putB es)).length ∧ (pkd gz (putB es)).length ≤ 100000 :=
  ⟨pkd_pos gz _ (putB_pos es), pkd_len gz _ (by have := putB_few es; omega)⟩
theorem chk_at (n : Nat) : ∀ (f : Nat) (l : List Ent) (j : Nat) (hj : j < (chk n f l).length), (chk n f l)[j] = (l.drop (j * n)).take n
  | 0, l, j, hj => absurd hj (Nat.not_lt_zero _)
  | f + 1, l, j, hj => by
    have hne : l ≠ [] := by
      intro h
      rw [h, chk_nil] at hj
      exact absurd hj (Nat.not_lt_zero _)
    have e : chk n (f + 1) l = l.take n :: chk n f (l.drop n) := by rw [chk, if_neg hne]
    cases j with
    | zero => simp [e]
    | succ j =>
      have hj' : j < (chk n f (l.drop n)).length := by rw [e] at hj; simpa using hj
      have := chk_at n f (l.drop n) j hj'
      rw [List.drop_drop] at this
      simp only [e, List.getElem_cons_succ]
      rw [this, Nat.succ_mul, Nat.add_comm n]
theorem RightE.lt {es : List Ent} (h : RightE es) {a b : Nat} (hab : a < b) (hb : b < es.length) : es[a].id < es[b].id := by
  obtain ⟨d, rfl⟩ : ∃ d, b = a + d + 1 := ⟨b - a - 1, by omega⟩
  induction d with
  | zero =>
    have h2 := h.2.2.2 a hb
    unfold Ent.next at h2
    exact Nat.lt_of_lt_of_le (Nat.lt_add_of_pos_right (by omega)) h2
  | succ d ih =>
    have h1 := ih (by omega) (by omega)
    have h2 := h.2.2.2 (a + d + 1) hb
    unfold Ent.next at h2
    exact Nat.lt_of_lt_of_le h1 (Nat.le_trans (Nat.le_add_right _ _) h2)
theorem leavesB_len (gz : Bool) (ps : List (List Ent)) (h : ∀ p ∈ ps, p.length ≤ 40) (j : Nat) (hj : j ≤ ps.length) : (leavesB (pkd gz) ps j).length ≤ 100000 * j := by
  induction j with
  | zero => simp [leavesB]
  | succ j ih =>
    rw [leavesB_succ _ _ _ (by omega), List.length_append]
    have h1 := ih (by omega)
    have h2 := pkd_put gz ps[j] (h _ (List.getElem_mem _))
    omega
theorem tops_right (gz : Bool) (es : List Ent) (hR : RightE es) (hn : es.length ≤ 40) (n : Nat) (hn1 : 1 ≤ n) : RightE (topsL (pkd gz) (chk n es.length es) (chk n es.length es).length) ∧ (chk n es.length es).length ≤ 40 := by
  have hlen : (chk n es.length es).length ≤ es.length := by
    have key : ∀ (f : Nat) (l : List Ent), (chk n f l).length ≤ f := by
      intro f
      induction f with
      | zero => intro l; exact Nat.le_refl _
      | succ f ih =>
        intro l
        rw [chk]
        split
        · exact Nat.zero_le _
        · have := ih (l.drop n)
          rw [List.length_cons]
          omega
    exact key _ _
  have hfew : ∀ p ∈ chk n es.length es, p.length ≤ 40 := by
    intro p hp
    obtain ⟨j, hj, rfl⟩ := List.getElem_of_mem hp
    rw [chk_at, List.length_take, List.length_drop]
    omega
  have hpos : 1 ≤ (chk n es.length es).length := by
    have h0 := hR.1
    obtain ⟨k, hk⟩ : ∃ k, es.length = k + 1 := ⟨es.length - 1, by omega⟩
    rw [hk, chk, if_neg (by intro h; rw [h] at hk; simp at hk)]
    simp
  have hidx : ∀ j, (hj : j < (chk n es.length es).length) → j * n < es.length := by
    intro j hj
    have h1 := chk_right n hn1 es.length es (.inr hR) _ (List.getElem_mem hj)
    have h2 := h1.1
    rw [chk_at, List.length_take, List.length_drop] at h2
    omega
  have hhead : ∀ j, (hj : j < (chk n es.length es).length) → (topE (pkd gz) (chk n es.length es) j).id = (es[j * n]'(hidx j hj)).id := by
    intro j hj
    have h0 := hidx j hj
    unfold topE
    rw [List.getD_eq_getElem?_getD, List.getElem?_eq_getElem hj]
    simp only [Option.getD_some]
    rw [chk_at]
    have h1 : (es.drop (j * n)).take n ≠ [] := by
      intro h
      have := congrArg List.length h
      rw [List.length_take, List.length_drop] at this
      simp at this
      omega
    rw [List.headD_eq_head?_getD, List.head?_eq_getElem?]
    rw [List.getElem?_take_of_lt (by omega), List.getElem?_drop, Nat.add_zero, List.getElem?_eq_getElem h0]
    rfl
  generalize chk n es.length es = ps at *
  have hl : (topsL (pkd gz) ps ps.length).length = ps.length := by unfold topsL; simp
  have hat : ∀ j (hj : j < (topsL (pkd gz) ps ps.length).length), (topsL (pkd gz) ps ps.length)[j] = topE (pkd gz) ps j := by
    intro j hj
    have h : (topsL (pkd gz) ps ps.length)[j]? = some (topE (pkd gz) ps j) := by
      unfold topsL
      rw [List.getElem?_map, List.getElem?_range (by omega)]
      rfl
    rw [List.getElem?_eq_getElem hj] at h
    injection h
  refine ⟨⟨by omega, by omega, fun j hj => ?_, fun j hj => ?_⟩, by omega⟩
  · rw [hat]
    have hj' : j < ps.length := by omega
    have h1 := hhead j hj'
    have h2 := hR.2.2.1 (j * n) (hidx j hj')
    have h3 := pkd_put gz ps[j] (hfew _ (List.getElem_mem _))
    have h4 := leavesB_len gz ps hfew j (by omega)
    have h5 : (topE (pkd gz) ps j).off = (leavesB (pkd gz) ps j).length := rfl
    have h6 : (topE (pkd gz) ps j).len = (pkd gz (putB ps[j])).length := by
      unfold topE
      rw [List.getD_eq_getElem?_getD, List.getElem?_eq_getElem hj']
      rfl
    have h7 : (topE (pkd gz) ps j).run = 0 := rfl
    unfold Ent.ok at *
    omega
  · rw [hat, hat]
    have hj' : j + 1 < ps.length := by omega
    have h1 := hhead j (by omega)
    have h2 := hhead (j + 1) hj'
    have h3 : (es[j * n]'(hidx j (by omega))).id < (es[(j + 1) * n]'(hidx (j + 1) hj')).id := hR.lt (by rw [Nat.succ_mul]; omega) (hidx (j + 1) hj')
    have h7 : (topE (pkd gz) ps j).run = 0 := rfl
    unfold Ent.next
    omega
end Go.Proofs.YtaapjampmnanmaaGreat
namespace Go.Proofs.YtaapjampmnanmaaGreat
open Go.RowKit
set_option linter.unusedVariables false
set_option linter.unusedSimpArgs false
theorem ow_cap {w : World} {base n c : Nat} {e : TypeId} {A : Option Addr} {xs : List Value} (h : Ow w base e A n c xs) : n ≤ c := by
  rcases h.form with ⟨_, h1, h2⟩ | ⟨_, _, _, _, h, _⟩
  · omega
  · exact h
theorem right_big {es : List Ent} (h : RightE es) : ∀ x ∈ es, x.big := by
  intro x hx
  obtain ⟨j, hj, rfl⟩ := List.getElem_of_mem hx
  have := h.2.2.1 j hj
  unfold Ent.ok at this
  unfold Ent.big
  omega
theorem dput_any (A : Option Addr) (c : Nat) (es : List Ent) (ge gs : Nat) (gz : Bool) (w : World) (B : Nat) (hr : RdE w B A es) (hB : B ≤ w.heap.size) (hR : RightE es) (hn : es.length ≤ 40) (hk : w.cell? ⟨gs, 0, none⟩ = some (.bool gz)) :
    Calls Tryz.prog 77 #[.slice A es.length c, .pointer (some ⟨ge, 0, none⟩), .pointer (some ⟨gs, 0, none⟩)] w fun e w' => ∃ A' c', e = .returned (.slice A' (pkd gz (putB es)).length c') ∧ Ow w' w.heap.size 5 A' (pkd gz (putB es)).length c' ((pkd gz (putB es)).map bv) ∧ Below w.heap.size w w' := by
  have hput := hide (put_ok A c es w B hr hB (right_big hR) (by omega) hR)
  have hfew := putB_few es
  obtain ⟨p, hp⟩ : ∃ p, putB es = p := ⟨_, rfl⟩
  rw [hp] at hput hfew ⊢
  obtain ⟨P, hP⟩ : ∃ P, p.length = P := ⟨_, rfl⟩
  rw [hP] at hput hfew
  obtain ⟨n, hl⟩ : ∃ n, es.length = n := ⟨_, rfl⟩
  rw [hl] at hput hn hfew ⊢
  have hpk := hide (fun (A' : Option Addr) (c' : Nat) (W : World) (h : Rd W W.heap.size A' P (p.map bv)) (hc : P ≤ c') => ppacked_any A' P c' p gz W h hc (by omega))
  obtain ⟨K, hK⟩ : ∃ K, (pkd gz p).length = K := ⟨_, rfl⟩
  rw [hK] at hpk ⊢
  have hgs : gs < w.heap.size := World.block_lt_of_cell? w _ hk
  replace hk := hide hk
  clear hr hB hR hP hl hn hfew
  go_enter Tryz.func77, Tryz.ntmps77
  go_wp2_with (first
    | (go_at_call 78; (with_reducible refine hput.out.mono ?_); rintro e w1 ⟨A1, c1, rfl, ho, hb⟩; have k1 : w1.cell? ⟨gs, 0, none⟩ = some (.bool gz) := (hb.cell (p := ⟨gs, 0, none⟩) hgs).trans hk.out; have hp1 := hide (hpk.out A1 c1 w1 ho.rd (ow_cap ho)); replace hb := hide hb; clear ho)
    | (go_at_call 42; (with_reducible refine hp1.out.mono ?_); rintro e w2 ⟨A2, c2, rfl, ho2, hb2⟩; have b2 := hide (hb.out.trans (hb2.mono hb.out.size)); replace ho2 := hide (ho2.base_le (base' := w.heap.size) (fun g hg => Nat.le_trans hb.out.size (ho2.blk_lt g hg).1)); clear hb2 k1))
  go_ret
  exact ⟨A2, c2, rfl, ho2.out, b2.out⟩
noncomputable def dRoot (gz : Bool) (leaf : Int) (es : List Ent) : List UInt8 := if leaf < 1 ∨ (es.length : Int) ≤ leaf then pkd gz (putB es) else pkd gz (putB (topsL (pkd gz) (chks leaf es) (chks leaf es).length))
noncomputable def dLeaf (gz : Bool) (leaf : Int) (es : List Ent) : List UInt8 := if leaf < 1 ∨ (es.length : Int) ≤ leaf then [] else leavesB (pkd gz) (chks leaf es) (chks leaf es).length
def SpecC (gz : Bool) (leaf z0 z1 ax ay bx bY cx cy at' : Int) (mt : List UInt8) : Array Value := #[.bool gz, .int .i64 leaf, .int .i64 z0, .int .i64 z1, .int .i64 ax, .int .i64 ay, .int .i64 bx, .int .i64 bY, .int .i64 cx, .int .i64 cy, .int .i64 at', .string ⟨mt.toArray⟩]
def DirsP (root leaves : List UInt8) (G : Nat) (w : World) (e : Ending) (w' : World) : Prop :=
  ∃ A4 c4 A5 c5, e = .returned (.tuple #[.slice A4 root.length c4, .slice A5 leaves.length c5, .int .i64 0]) ∧ Ow w' G 5 A4 root.length c4 (root.map bv) ∧ Ow w' G 5 A5 leaves.length c5 (leaves.map bv) ∧ Below G w w'
set_option maxRecDepth 100000 in
set_option maxHeartbeats 4000000 in
theorem dirs_flat (A : Option Addr) (c : Nat) (es : List Ent) (gz : Bool) (leaf z0 z1 ax ay bx bY cx cy at' : Int) (mt : List UInt8) (w : World) (hr : RdE w w.heap.size A es) (hR : RightE es) (hn : es.length ≤ 40) (hflat : leaf < 1 ∨ (es.length : Int) ≤ leaf) :
    Calls Tryz.prog 40 #[.slice A es.length c, .agg #[.bool gz, .int .i64 leaf, .int .i64 z0, .int .i64 z1, .int .i64 ax, .int .i64 ay, .int .i64 bx, .int .i64 bY, .int .i64 cx, .int .i64 cy, .int .i64 at', .string ⟨mt.toArray⟩]] w (DirsP (pkd gz (putB es)) [] w.heap.size w) := by
  obtain ⟨G, hG⟩ : ∃ G, w.heap.size = G := ⟨_, rfl⟩
  obtain ⟨w1, hw1⟩ : ∃ W, w.alloc (.cells #[.bool gz, .int .i64 leaf, .int .i64 z0, .int .i64 z1, .int .i64 ax, .int .i64 ay, .int .i64 bx, .int .i64 bY, .int .i64 cx, .int .i64 cy, .int .i64 at', .string ⟨mt.toArray⟩] 61) = W := ⟨_, rfl⟩
  obtain ⟨w2, hw2⟩ : ∃ W, w1.alloc (.cells #[.int .i64 0] 31) = W := ⟨_, rfl⟩
  have k1 := hide (show Blk w1 G 61 (SpecC gz leaf z0 z1 ax ay bx bY cx cy at' mt) from by rw [← hw1, ← hG]; exact Blk.new w _ _)
  have hs1 : w1.heap.size = G + 1 := by rw [← hw1]; simp [hG]
  have k2 := hide (show Blk w2 (G + 1) 31 #[.int .i64 0] from by rw [← hw2, ← hs1]; exact Blk.new w1 _ _)
  have b2 := hide (show Below G w w2 from by rw [← hw2, ← hw1]; exact ((Below.refl G w).alloc (by omega) _).alloc (by simp; omega) _)
  have k12 := hide (show Blk w2 G 61 (SpecC gz leaf z0 z1 ax ay bx bY cx cy at' mt) from by rw [← hw2]; exact k1.out.alloc _)
  have e0 : w2.cell? ⟨G, 0, none⟩ = some (.bool gz) := k12.out.cell 0
  have e1 : w2.cell? ⟨G, 1, none⟩ = some (.int .i64 leaf) := k12.out.cell 1
  have hdp := hide (dput_any A c es (G + 1) G gz w2 G ((by rw [hG] at hr; exact hr.below b2.out)) (by have := k12.out.lt; omega) hR hn e0)
  obtain ⟨n, hl⟩ : ∃ n, es.length = n := ⟨_, rfl⟩
  obtain ⟨R, hRR⟩ : ∃ R, pkd gz (putB es) = R := ⟨_, rfl⟩
  obtain ⟨K, hK⟩ : ∃ K, R.length = K := ⟨_, rfl⟩
  rw [hRR, hK, hl] at hdp
  rw [hl] at hflat
  rw [hG, hl, hRR]
  unfold DirsP
  rw [hK]
  clear hr hR hn k1 hl hRR
  go_enter Tryz.func40, Tryz.ntmps40
  obtain ⟨v1, hv1⟩ : ∃ v, decide (leaf < 1) = v := ⟨_, rfl⟩
  obtain ⟨v2, hv2⟩ : ∃ v, decide ((n : Int) ≤ leaf) = v := ⟨_, rfl⟩
  have hcase : v1 = true ∨ (v1 = false ∧ v2 = true) := by
    rw [← hv1, ← hv2, decide_eq_true_eq, decide_eq_true_eq, decide_eq_false_iff_not]
    omega
  rcases hcase with rfl | ⟨rfl, rfl⟩
  all_goals (go_upto_region 4 with (go_at_call 77; (with_reducible refine hdp.out.mono ?_); rintro e w3 ⟨A3, c3, rfl, ho, hb⟩; have hs2 := hide (show G ≤ w2.heap.size from by have := k12.out.lt; omega); have hs23 := hide hb.size; have k3 := hide (k2.out.below hb k2.out.lt); have f0 : w3.cell? ⟨G + 1, 0, none⟩ = some (.int .i64 0) := k3.out.cell 0; have ff : w3.frozen? ⟨G + 1, 0, none⟩ = false := k3.out.free 0; have b3 := hide (b2.out.trans (hb.mono hs2.out)); replace ho := hide (ho.base_le (base' := G) (fun g hg => Nat.le_trans hs2.out (ho.blk_lt g hg).1))))
  all_goals (have hne := hide (show blk A3 ≠ some (G + 1) from ho.out.ne k3.out (by decide)))
  all_goals go_region
  all_goals go_wp2
  all_goals (
    obtain ⟨w4, hw4⟩ : ∃ W, (w3.setCell ⟨G + 1, 0, none⟩ (.int .i64 0)).drew = W := ⟨_, rfl⟩
    have k4 : w4.cell? ⟨G + 1, 0, none⟩ = some (.int .i64 0) := by rw [← hw4]; exact (k3.out.set 0 (.int .i64 0)).drew.cell 0
    have hc4 : Chg (fun k => k = G + 1) w3 w4 := by rw [← hw4]; exact ((Chg.refl (fun k => k = G + 1) w3).setCell (p := ⟨G + 1, 0, none⟩) (.inr rfl) _).drew
    rw [hw4]
    refine bodyPost_ret (v := .tuple #[.slice A3 K c3, .slice none 0 0, .int .i64 0]) (by simp [results, Tryz.results40, go_sem, k4]) rfl ?_
    exact ⟨A3, c3, none, 0, rfl, ho.out.chg hc4 (fun g hg e => hne.out (by rw [hg, e])), Ow.nil _ _ _, b3.out.trans (hc4.to_below (Nat.le_trans hs2.out hs23.out) (fun k hk => by omega))⟩)
set_option maxRecDepth 100000 in
set_option maxHeartbeats 4000000 in
theorem dirs_deep (A : Option Addr) (c : Nat) (es : List Ent) (gz : Bool) (leaf z0 z1 ax ay bx bY cx cy at' : Int) (mt : List UInt8) (w : World) (hr : RdE w w.heap.size A es) (hc : es.length ≤ c) (hR : RightE es) (hn : es.length ≤ 40) (hI : leaf ≤ 9223372036854775807) (h1 : 1 ≤ leaf) (h2 : leaf < (es.length : Int)) (ps : List (List Ent)) (hps : chks leaf es = ps) :
    Calls Tryz.prog 40 #[.slice A es.length c, .agg #[.bool gz, .int .i64 leaf, .int .i64 z0, .int .i64 z1, .int .i64 ax, .int .i64 ay, .int .i64 bx, .int .i64 bY, .int .i64 cx, .int .i64 cy, .int .i64 at', .string ⟨mt.toArray⟩]] w
      (DirsP (pkd gz (putB (topsL (pkd gz) ps ps.length))) (leavesB (pkd gz) ps ps.length) w.heap.size w) := by
  obtain ⟨G, hG⟩ : ∃ G, w.heap.size = G := ⟨_, rfl⟩
  obtain ⟨w1, hw1⟩ : ∃ W, w.alloc (.cells #[.bool gz, .int .i64 leaf, .int .i64 z0, .int .i64 z1, .int .i64 ax, .int .i64 ay, .int .i64 bx, .int .i64 bY, .int .i64 cx, .int .i64 cy, .int .i64 at', .string ⟨mt.toArray⟩] 61) = W := ⟨_, rfl⟩
  obtain ⟨w2, hw2⟩ : ∃ W, w1.alloc (.cells #[.int .i64 0] 31) = W := ⟨_, rfl⟩
  have k1 := hide (show Blk w1 G 61 (SpecC gz leaf z0 z1 ax ay bx bY cx cy at' mt) from by rw [← hw1, ← hG]; exact Blk.new w _ _)
  have hs1 : w1.heap.size = G + 1 := by rw [← hw1]; simp [hG]
  have k2 := hide (show Blk w2 (G + 1) 31 #[.int .i64 0] from by rw [← hw2, ← hs1]; exact Blk.new w1 _ _)
  have b2 := hide (show Below G w w2 from by rw [← hw2, ← hw1]; exact ((Below.refl G w).alloc (by omega) _).alloc (by simp; omega) _)
  have k12 := hide (show Blk w2 G 61 (SpecC gz leaf z0 z1 ax ay bx bY cx cy at' mt) from by rw [← hw2]; exact k1.out.alloc _)
  have e0 : w2.cell? ⟨G, 0, none⟩ = some (.bool gz) := k12.out.cell 0
  have e1 : w2.cell? ⟨G, 1, none⟩ = some (.int .i64 leaf) := k12.out.cell 1
  have hs2 := hide (show G + 2 ≤ w2.heap.size from by have := k2.out.lt; omega)
  have hlv := hide (pleaves_any A es.length c es leaf w2 rfl ((by rw [hG] at hr; exact (hr.below b2.out).up (by have := hs2.out; omega))) hc (by omega) hI)
  have hpR := hide (show (∀ p ∈ ps, RightE p ∧ p.length ≤ 40) ∧ RightE (topsL (pkd gz) ps ps.length) ∧ ps.length ≤ 40 from by
    have hcl : ps = chk leaf.toNat es.length es := by
      rw [← hps]
      unfold chks
      rw [if_neg (by omega)]
    have ht := tops_right gz es hR hn leaf.toNat (by omega)
    rw [← hcl] at ht
    refine ⟨fun p hp => ?_, ht⟩
    rw [hcl] at hp
    refine ⟨chk_right leaf.toNat (by omega) es.length es (.inr hR) p hp, ?_⟩
    obtain ⟨j, hj, rfl⟩ := List.getElem_of_mem hp
    rw [chk_at, List.length_take, List.length_drop]
    omega)
  rw [hps] at hlv
  obtain ⟨n, hl⟩ : ∃ n, es.length = n := ⟨_, rfl⟩
  rw [hl] at hlv h2
  rw [hG, hl]
  have hd1 : decide (leaf < 1) = false := by rw [decide_eq_false_iff_not]; omega
  have hd2 : decide ((n : Int) ≤ leaf) = false := by rw [decide_eq_false_iff_not]; omega
  replace h1 := hide h1
  replace h2 := hide h2
  obtain ⟨V, hVe⟩ : ∃ V, ps.length = V := ⟨_, rfl⟩
  unfold DirsP
  rw [hVe]
  obtain ⟨R, hRR⟩ : ∃ R, pkd gz (putB (topsL (pkd gz) ps V)) = R := ⟨_, rfl⟩
  obtain ⟨KR, hKR⟩ : ∃ K, R.length = K := ⟨_, rfl⟩
  obtain ⟨Lv, hLv⟩ : ∃ x, leavesB (pkd gz) ps V = x := ⟨_, rfl⟩
  rw [hRR, hKR, hLv]
  replace hRR := hide hRR
  replace hKR := hide hKR
  replace hLv := hide hLv
  replace hVe := hide hVe
  clear hr hR hn k1 hl hps hc
  go_enter Tryz.func40, Tryz.ntmps40
  go_wp2_with (go_at_call 79; (with_reducible refine hlv.out.mono ?_); rintro e w3 ⟨A3, c3, vs, rfl, hor, hrc, hb3⟩; have k3 := hide (k2.out.below hb3 k2.out.lt); have k13 := hide (k12.out.below hb3 k12.out.lt); have b3 := hide (b2.out.trans (hb3.mono (by have := hs2.out; omega))); have hs3 := hide (show G + 2 ≤ w3.heap.size from Nat.le_trans hs2.out hb3.size); replace hor := hide hor; replace hrc := hide hrc; clear hb3)
  have hV : vs.length = V := hrc.out.1.trans hVe.out
  rw [hV]
  have hVp := hide (show ps.length = V ∧ V ≤ 40 from by have := hrc.out.1; have := hpR.out.2.2; omega)
  obtain ⟨G3, hG3⟩ : ∃ x, w3.heap.size = x := ⟨_, rfl⟩
  clear e0 e1
  go_loopw [5, 8, 33] (fun s5 s8 s33 wr => ∃ (j : Nat) (A5 : Option Addr) (c5 : Nat) (A8 : Option Addr) (c8 : Nat), j ≤ V ∧ s33 = .int .i64 (j : Int) ∧ s5 = .slice A5 (leavesB (pkd gz) ps j).length c5 ∧ s8 = .slice A8 (topsL (pkd gz) ps j).length c8 ∧
    Hid (Ow wr G3 5 A5 (leavesB (pkd gz) ps j).length c5 ((leavesB (pkd gz) ps j).map bv)) ∧ Hid (OwE wr G3 A8 c8 (topsL (pkd gz) ps j)) ∧ Hid (Below G3 w3 wr)) (fun _ _ s33 _ => V - (intOf s33).toNat)
  case atStart => exact ⟨0, none, 0, none, 0, Nat.zero_le _, rfl, by simp [leavesB], by simp [topsL], hide (by simp only [leavesB, List.take_zero, List.map_nil, List.flatten_nil, List.length_nil]; exact Ow.nil _ _ _), hide (by simp only [topsL, List.range_zero, List.map_nil]; exact OwE.nil _ _), hide (Below.refl _ _)⟩
  case round =>
    obtain ⟨j, A5, c5, A8, c8, hj, rfl, rfl, rfl, ho5, ho8, hB⟩ := hrel
    have hB3 := hide (show Below w3.heap.size w3 wr from by rw [hG3]; exact hB.out)
    have hsr := hide (show G3 ≤ wr.heap.size from by rw [← hG3]; exact hB3.out.size)
    have hG23 := hide (show G + 2 ≤ G3 from by rw [← hG3]; exact hs3.out)
    have e0 : wr.cell? ⟨G, 0, none⟩ = some (.bool gz) := (hB.out.cell (p := ⟨G, 0, none⟩) (show G < G3 by have := hG23.out; omega)).trans (k13.out.cell 0)
    have k2r := hide (k3.out.below hB.out (by have := hG23.out; omega))
    by_cases hlt : j < V
    · have hjp : j < ps.length := by have := hVp.out; omega
      have hjI : (j : Int) < (V : Int) := by omega
      obtain ⟨gp, va, vc, rfl, x1, r1⟩ := parts_at (hor.out.below hB3.out) (hrc.out.below hB3.out) j (by omega) hjp
      obtain ⟨hRp, hlp⟩ := hpR.out.1 _ (List.getElem_mem hjp)
      have hlb := leavesB_len gz ps (fun p hp => (hpR.out.1 p hp).2) j (by omega)
      have hls := leavesB_succ (pkd gz) ps j hjp
      have hts := topsL_succ (pkd gz) ps j
      have htE : topE (pkd gz) ps j = ⟨(ps[j].headD ⟨0, 0, 0, 0⟩).id, (leavesB (pkd gz) ps j).length, (pkd gz (putB ps[j])).length, 0⟩ := by
        unfold topE leavesB
        rw [List.getD_eq_getElem?_getD, List.getElem?_eq_getElem hjp]
        rfl
      obtain ⟨p, hp⟩ : ∃ p, ps[j] = p := ⟨_, rfl⟩
      rw [hp] at x1 r1 hRp hlp hls htE
      have hp1 := hRp.1
      obtain ⟨b, o, rfl, hbb, y0, _, _, _⟩ := r1 0 (by omega)
      have hid0 : (p.headD ⟨0, 0, 0, 0⟩).id = (p[0]'(by omega)).id := by rw [List.headD_eq_head?_getD, List.head?_eq_getElem?, List.getElem?_eq_getElem (by omega)]; rfl
      obtain ⟨id0, hid⟩ : ∃ x, (p[0]'(by omega)).id = x := ⟨_, rfl⟩
      rw [hid] at y0 hid0
      rw [hid0] at htE
      have hpk2 := pkd_put gz p hlp
      have hdp := hide (dput_any (some ⟨b, o, none⟩) vc p (G + 1) G gz wr w3.heap.size r1 hB3.out.size hRp hlp e0)
      obtain ⟨pb, hpb⟩ : ∃ x, pkd gz (putB p) = x := ⟨_, rfl⟩
      rw [hpb] at hdp hpk2 hls htE
      obtain ⟨K, hK⟩ : ∃ K, pb.length = K := ⟨_, rfl⟩
      rw [hK] at hdp hpk2 htE
      obtain ⟨O, hO⟩ : ∃ O, (leavesB (pkd gz) ps j).length = O := ⟨_, rfl⟩
      rw [hO] at hlb htE ho5 ⊢
      have hOb : O ≤ 4000000 := by have := hVp.out.2; omega
      obtain ⟨L, hL⟩ : ∃ L, p.length = L := ⟨_, rfl⟩
      rw [hL] at x1 hdp hp1
      have hL0 : (0 : Int) < (L : Int) := by omega
      have hOw : IntKind.u64.wrap (O : Int) = (O : Int) := by rw [IntKind.wrap_u64]; omega
      have hKw : IntKind.u64.wrap (K : Int) = (K : Int) := by rw [IntKind.wrap_u64]; omega
      have hjw : IntKind.i64.wrap ((j : Int) + 1) = ((j + 1 : Nat) : Int) := by have := hVp.out.2; rw [IntKind.wrap_i64]; omega
      have hbd := hide (show O + K ≤ maxLen ∧ (O + K) * 1 ≤ 140737488355328 from by simp only [maxLen]; omega)
      have htl : (topsL (pkd gz) ps j).length = j := by unfold topsL; simp
      have htl2 := hide (show (topsL (pkd gz) ps j).length ≤ 1048576 from by have := hVp.out.2; omega)
      have hls2 := hide (show leavesB (pkd gz) ps (j + 1) = leavesB (pkd gz) ps j ++ pb ∧ (leavesB (pkd gz) ps (j + 1)).length = O + K from ⟨hls, by rw [hls, List.length_append, hO, hK]⟩)
      have hts2 := hide (show topsL (pkd gz) ps (j + 1) = topsL (pkd gz) ps j ++ [⟨id0, O, K, 0⟩] from by rw [hts, htE])
      replace hO := hide hO
      have hbr := hide (show b < wr.heap.size from Nat.lt_of_lt_of_le hbb hB3.out.size)
      rw [Nat.zero_mul, Nat.add_zero] at y0
      replace hlp := hide hlp
      replace hRp := hide hRp
      replace r1 := hide r1
      clear hls hts htE hlb hpk2 hpb hid hid0 htl hOb
      go_wp2_with (first
        | (go_at_call 77; (with_reducible refine hdp.out.mono ?_); rintro e wq ⟨Aq, cq, rfl, hoq, hbq⟩; have y1 : wq.cell? ⟨b, o, none⟩ = some (.int .u64 (id0 : Int)) := (hbq.cell (p := ⟨b, o, none⟩) hbr.out).trans y0; have ho5q := hide (ho5.out.below hbq); have ho8q := hide (ho8.out.below hbq); have hBq := hide (hB.out.trans (hbq.mono hsr.out)); have hsq := hide (Nat.le_trans hsr.out hbq.size); replace hoq := hide (hoq.base_le (base' := G3) (fun g hg => Nat.le_trans hsr.out (hoq.blk_lt g hg).1)); clear hbq)
        | (at_builtin; refine wpList_append_ent wq rfl (.tmp 40) (.tmp 52) rfl rfl ho8q.out ⟨id0, O, K, 0⟩ _ rfl htl2.out hsq.out ?_; intro A8' c8' wu ho8u hcu _; have ho5u := hide (ho5q.out.chg hcu (fun g hg h => ho8q.out.ne_ow ho5q.out (by decide) g h hg)); have hoqu := hide (hoq.out.chg hcu (fun g hg h => ho8q.out.ne_ow hoq.out (by decide) g h hg)); have hBu := hide (hBq.out.trans (hcu.to_below hsq.out (fun k hk => (ho8q.out.blk_lt k hk).1))); have hsu := hide (Nat.le_trans hsq.out hcu.size); replace ho8u := hide ho8u; clear hcu y1)
        | (at_builtin; refine wpList_append_rd wu rfl (.tmp 54) (.tmp 55) rfl elem_byte rfl ho5u.out rfl hoqu.out.rd (one_bv2 pb) hbd.out.1 hbd.out.2 hsu.out ?_; intro A5' c5' wv ho5v hcv _; have ho8v := hide (ho8u.out.chg hcv (fun g hg h => ho8u.out.ne_ow ho5u.out (by decide) g hg h)); have hBv := hide (hBu.out.trans (hcv.to_below hsu.out (fun k hk => (ho5u.out.blk_lt k hk).1))); replace ho5v := hide ho5v; clear hcv))
      go_roundw
      case rel => exact ⟨j + 1, A5', c5', A8', c8', by omega, by go_num, by rw [hls2.out.2], by rw [hts2.out]; simp, hide (by rw [hls2.out.2, hls2.out.1, List.map_append]; exact ho5v.out), hide (by rw [hts2.out]; exact ho8v.out), hBv⟩
      case measure => simp [intOf] <;> omega
    · obtain rfl : j = V := by omega
      have hdp := hide (dput_any A8 c8 (topsL (pkd gz) ps j) (G + 1) G gz wr wr.heap.size ho8.out.rd (Nat.le_refl _) (by rw [← hVp.out.1]; exact hpR.out.2.1) (by unfold topsL; rw [List.length_map, List.length_range]; exact hVp.out.2) e0)
      rw [hRR.out, hKR.out] at hdp
      rw [hLv.out] at ho5
      rw [hLv.out]
      go_upto_region 14 with (go_at_call 77; (with_reducible refine hdp.out.mono ?_); rintro e w5 ⟨Aq, cq, rfl, hoq, hbq⟩; have k5 := hide (k2r.out.below hbq k2r.out.lt); have f0 : w5.cell? ⟨G + 1, 0, none⟩ = some (.int .i64 0) := k5.out.cell 0; have ff : w5.frozen? ⟨G + 1, 0, none⟩ = false := k5.out.free 0; have ho5q := hide (ho5.out.below hbq); have hBq := hide (b3.out.trans ((hB.out.trans (hbq.mono hsr.out)).mono (by have := hG23.out; omega))); have hsq := hide (Nat.le_trans hsr.out hbq.size); replace hoq := hide (hoq.base_le (base' := G) (fun g hg => by have := (hoq.blk_lt g hg).1; have := hsr.out; have := hG23.out; omega)); clear hbq)
      have hne := hide (show blk Aq ≠ some (G + 1) from hoq.out.ne k5.out (by decide))
      have hne5 := hide (show blk A5 ≠ some (G + 1) from ho5q.out.ne k5.out (by decide))
      go_region
      go_wp2
      obtain ⟨w6, hw6⟩ : ∃ W, (w5.setCell ⟨G + 1, 0, none⟩ (.int .i64 0)).drew = W := ⟨_, rfl⟩
      have k6 : w6.cell? ⟨G + 1, 0, none⟩ = some (.int .i64 0) := by rw [← hw6]; exact (k5.out.set 0 (.int .i64 0)).drew.cell 0
      have hc6 : Chg (fun k => k = G + 1) w5 w6 := by rw [← hw6]; exact ((Chg.refl (fun k => k = G + 1) w5).setCell (p := ⟨G + 1, 0, none⟩) (.inr rfl) _).drew
      rw [hw6]
      refine bodyPost_ret (v := .tuple #[.slice Aq KR cq, .slice A5 Lv.length c5, .int .i64 0]) (by simp [results, Tryz.results40, go_sem, k6]) rfl ?_
      exact ⟨Aq, cq, A5, c5, rfl, hoq.out.chg hc6 (fun g hg e => hne.out (by rw [hg, e])), (ho5q.out.chg hc6 (fun g hg e => hne5.out (by rw [hg, e]))).base_le (fun g hg => by have := (ho5q.out.blk_lt g hg).1; have := hG23.out; omega), hBq.out.trans (hc6.to_below (by have := hG23.out; have := hsq.out; omega) (fun k hk => by omega))⟩
theorem dirs_any (A : Option Addr) (c : Nat) (es : List Ent) (q : Sp) (w : World) (hr : RdE w w.heap.size A es) (hc : es.length ≤ c) (hR : RightE es) (hn : es.length ≤ 40) (hI : q.leaf ≤ 9223372036854775807) :
    Calls Tryz.prog 40 #[.slice A es.length c, q.val] w (DirsP (dRoot q.gz q.leaf es) (dLeaf q.gz q.leaf es) w.heap.size w) := by
  obtain ⟨gz, leaf, z0, z1, ax, ay, bx, bY, cx, cy, at', mt⟩ := q
  by_cases h : leaf < 1 ∨ (es.length : Int) ≤ leaf
  · have := dirs_flat A c es gz leaf z0 z1 ax ay bx bY cx cy at' mt w hr hR hn h
    rw [show dRoot gz leaf es = pkd gz (putB es) from if_pos h, show dLeaf gz leaf es = [] from if_pos h]
    exact this
  · have := dirs_deep A c es gz leaf z0 z1 ax ay bx bY cx cy at' mt w hr hc hR hn hI (by omega) (by omega) _ rfl
    rw [show dRoot gz leaf es = _ from if_neg h, show dLeaf gz leaf es = _ from if_neg h]
    exact this
theorem chks_few (leaf : Int) (es : List Ent) (hn : es.length ≤ 40) (h : ¬ leaf < 1) : (∀ p ∈ chks leaf es, p.length ≤ 40) ∧ (chks leaf es).length ≤ 40 := by
  have hcl : chks leaf es = chk leaf.toNat es.length es := by
    unfold chks
    rw [if_neg h]
  rw [hcl]
  refine ⟨fun p hp => ?_, ?_⟩
  · obtain ⟨j, hj, rfl⟩ := List.getElem_of_mem hp
    rw [chk_at, List.length_take, List.length_drop]
    omega
  · have key : ∀ (f : Nat) (l : List Ent), (chk leaf.toNat f l).length ≤ f := by
      intro f
      induction f with
      | zero => intro l; exact Nat.le_refl _
      | succ f ih =>
        intro l
        rw [chk]
        split
        · exact Nat.zero_le _
        · have := ih (l.drop leaf.toNat)
          rw [List.length_cons]
          omega
    exact Nat.le_trans (key _ _) hn
theorem dRoot_few (gz : Bool) (leaf : Int) (es : List Ent) (hn : es.length ≤ 40) : (dRoot gz leaf es).length ≤ 100000 := by
  unfold dRoot
  split
  · exact (pkd_put gz es hn).2
  · rename_i h
    refine (pkd_put gz _ ?_).2
    unfold topsL
    rw [List.length_map, List.length_range]
    exact (chks_few leaf es hn (fun h1 => h (.inl h1))).2
theorem dLeaf_few (gz : Bool) (leaf : Int) (es : List Ent) (hn : es.length ≤ 40) : (dLeaf gz leaf es).length ≤ 4000000 := by
  unfold dLeaf
  split
  · exact Nat.zero_le _
  · rename_i h
    have hc := chks_few leaf es hn (fun h1 => h (.inl h1))
    have := leavesB_len gz (chks leaf es) hc.1 _ (Nat.le_refl _)
    have h2 := hc.2
    omega
end Go.Proofs.YtaapjampmnanmaaGreat
