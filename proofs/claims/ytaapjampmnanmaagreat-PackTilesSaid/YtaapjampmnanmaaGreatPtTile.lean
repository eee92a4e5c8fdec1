/- Layer 14 (pack): what the bytes of an archive that is made tell: plain law. The conditions: its entries are right; its parts are not long. -/
import Derived.Test.YtaapjampmnanmaaGreatPtLaw
namespace Go.Proofs.YtaapjampmnanmaaGreat
open Go.RowKit Go.Shelf
set_option linter.unusedVariables false
set_option linter.unusedSimpArgs false
structure ArcOk (q : Sp) (nl : Nat) (h : Hd) (bs : List UInt8) (out : List Ent) (texts : List (List UInt8)) : Prop where
  hd : h = bdHead q nl out (texts.map (pkd q.gz))
  eq : bs = headB h ++ dRoot q.gz q.leaf out ++ pkd q.gz q.mtx ++ dLeaf q.gz q.leaf out ++ (texts.map (pkd q.gz)).flatten
  right : RightE out
  few : out.length ≤ 40
  runs : ∀ e ∈ out, 1 ≤ e.run
  len : bs.length ≤ 1048576
  mt : q.mtx.length ≤ 65535
  tl : ∀ t ∈ texts, t.length ≤ 65535
section
variable {q : Sp} {nl : Nat} {h : Hd} {bs : List UInt8} {out : List Ent} {texts : List (List UInt8)}
theorem ArcOk.total (H : ArcOk q nl h bs out texts) : bs.length = 127 + (dRoot q.gz q.leaf out).length + (pkd q.gz q.mtx).length + (dLeaf q.gz q.leaf out).length + ((texts.map (pkd q.gz)).flatten).length := by
  rw [H.eq]
  simp only [List.length_append, headB_len]
theorem ArcOk.root (H : ArcOk q nl h bs out texts) : h.r0 = 127 ∧ h.r1 = (dRoot q.gz q.leaf out).length ∧ h.m0 = 127 + (dRoot q.gz q.leaf out).length ∧ h.m1 = (pkd q.gz q.mtx).length ∧ h.l0 = 127 + (dRoot q.gz q.leaf out).length + (pkd q.gz q.mtx).length ∧ h.l1 = (dLeaf q.gz q.leaf out).length ∧
    h.d0 = 127 + (dRoot q.gz q.leaf out).length + (pkd q.gz q.mtx).length + (dLeaf q.gz q.leaf out).length ∧ h.d1 = ((texts.map (pkd q.gz)).flatten).length ∧ h.inn = (if q.gz then 2 else 1) ∧ h.out = (if q.gz then 2 else 1) := by
  rw [H.hd]
  exact ⟨rfl, rfl, rfl, rfl, rfl, rfl, rfl, rfl, rfl, rfl⟩
theorem ArcOk.mtx (H : ArcOk q nl h bs out texts) : Ar.unpack bs h.m0 h.m1 h.inn = .inr q.mtx := by
  obtain ⟨_, _, e1, e2, _, _, _, _, e3, _⟩ := H.root
  rw [e1, e2, e3]
  refine Ar.unpack_pkd (p := headB h ++ dRoot q.gz q.leaf out) (y := dLeaf q.gz q.leaf out ++ (texts.map (pkd q.gz)).flatten) q.mtx ?_ (by rw [List.length_append, headB_len]) rfl H.mt
  rw [H.eq]
  simp only [List.append_assoc]
theorem ArcOk.tile (H : ArcOk q nl h bs out texts) (i : Nat) (hi : i < texts.length) (off len : Nat) (ho : off = EnS.off (pkd q.gz) texts i) (hl : len = (pkd q.gz texts[i]).length) : Within off len h.d1 ∧ Ar.unpack bs ((h.d0 + off) % 18446744073709551616) len h.out = .inr texts[i] := by
  obtain ⟨_, _, _, _, _, _, e1, e2, _, e3⟩ := H.root
  have ht := H.total
  have hlen := H.len
  have hi' : i < (texts.map (pkd q.gz)).length := by rw [List.length_map]; exact hi
  have hf := flat_split (texts.map (pkd q.gz)) i hi'
  have hol := off_len (pkd q.gz) texts i
  rw [List.getElem_map] at hf
  have hfl := congrArg List.length hf
  simp only [List.length_append] at hfl
  have hw : Within off len h.d1 := by
    unfold Within
    omega
  refine ⟨hw, ?_⟩
  unfold Within at hw
  rw [Nat.mod_eq_of_lt (by omega), e3, e1]
  refine Ar.unpack_pkd (p := headB h ++ dRoot q.gz q.leaf out ++ pkd q.gz q.mtx ++ dLeaf q.gz q.leaf out ++ ((texts.map (pkd q.gz)).take i).flatten) (y := ((texts.map (pkd q.gz)).drop (i + 1)).flatten) texts[i] ?_ ?_ hl.symm (H.tl _ (List.getElem_mem hi))
  · conv => lhs; rw [H.eq, hf]
    simp only [List.append_assoc]
  · simp only [List.length_append, headB_len]
    omega
theorem ArcOk.flat (H : ArcOk q nl h bs out texts) (hn : q.leaf < 1 ∨ (out.length : Int) ≤ q.leaf) : DirR bs h.inn h.r0 h.r1 (out, 0) := by
  obtain ⟨e1, e2, _, _, _, _, _, _, e3, _⟩ := H.root
  have hr : dRoot q.gz q.leaf out = pkd q.gz (putB out) := if_pos hn
  rw [e1, e2, e3]
  refine DirR.pkd (p := headB h) (y := pkd q.gz q.mtx ++ (dLeaf q.gz q.leaf out ++ (texts.map (pkd q.gz)).flatten)) out H.right H.few ?_ (headB_len h) (by rw [hr])
  rw [H.eq, hr]
  simp only [List.append_assoc]
theorem ArcOk.top (H : ArcOk q nl h bs out texts) (hn : ¬ (q.leaf < 1 ∨ (out.length : Int) ≤ q.leaf)) : DirR bs h.inn h.r0 h.r1 (topsL (pkd q.gz) (chk q.leaf.toNat out.length out) (chk q.leaf.toNat out.length out).length, 0) := by
  obtain ⟨e1, e2, _, _, _, _, _, _, e3, _⟩ := H.root
  have hc : chks q.leaf out = chk q.leaf.toNat out.length out := by unfold chks; rw [if_neg (by omega)]
  have hr : dRoot q.gz q.leaf out = pkd q.gz (putB (topsL (pkd q.gz) (chk q.leaf.toNat out.length out) (chk q.leaf.toNat out.length out).length)) := by
    rw [← hc]
    exact if_neg hn
  obtain ⟨h1, h2⟩ := tops_right q.gz out H.right H.few q.leaf.toNat (by omega)
  rw [e1, e2, e3]
  refine DirR.pkd (p := headB h) (y := pkd q.gz q.mtx ++ (dLeaf q.gz q.leaf out ++ (texts.map (pkd q.gz)).flatten)) _ h1 (by unfold topsL; rw [List.length_map, List.length_range]; exact h2) ?_ (headB_len h) (by rw [hr])
  rw [H.eq, hr]
  simp only [List.append_assoc]
theorem ArcOk.part (H : ArcOk q nl h bs out texts) (hn : ¬ (q.leaf < 1 ∨ (out.length : Int) ≤ q.leaf)) (j : Nat) (hj : j < (chk q.leaf.toNat out.length out).length) :
    Within (topE (pkd q.gz) (chk q.leaf.toNat out.length out) j).off (topE (pkd q.gz) (chk q.leaf.toNat out.length out) j).len h.l1 ∧
    DirR bs h.inn ((h.l0 + (topE (pkd q.gz) (chk q.leaf.toNat out.length out) j).off) % 18446744073709551616) (topE (pkd q.gz) (chk q.leaf.toNat out.length out) j).len ((chk q.leaf.toNat out.length out)[j], 0) ∧ RightE (chk q.leaf.toNat out.length out)[j] := by
  obtain ⟨_, _, _, _, e1, e2, _, _, e3, _⟩ := H.root
  have ht := H.total
  have hlen := H.len
  have hc : chks q.leaf out = chk q.leaf.toNat out.length out := by unfold chks; rw [if_neg (by omega)]
  have hR := chk_right q.leaf.toNat (by omega) out.length out (.inr H.right) _ (List.getElem_mem hj)
  have hp40 : ((chk q.leaf.toNat out.length out)[j]).length ≤ 40 := by
    rw [chk_at, List.length_take, List.length_drop]
    have := H.few
    omega
  have hd : dLeaf q.gz q.leaf out = ((chk q.leaf.toNat out.length out).map fun p => pkd q.gz (putB p)).flatten := by
    have : dLeaf q.gz q.leaf out = leavesB (pkd q.gz) (chks q.leaf out) (chks q.leaf out).length := if_neg hn
    rw [this, hc]
    unfold leavesB
    rw [List.take_length]
  generalize chk q.leaf.toNat out.length out = ps at *
  have hj' : j < (ps.map fun p => pkd q.gz (putB p)).length := by rw [List.length_map]; exact hj
  have hf := flat_split (ps.map fun p => pkd q.gz (putB p)) j hj'
  rw [List.getElem_map] at hf
  have hfl := congrArg List.length hf
  simp only [List.length_append] at hfl
  have ho : (topE (pkd q.gz) ps j).off = (((ps.map fun p => pkd q.gz (putB p)).take j).flatten).length := by
    rw [← List.map_take]
    rfl
  have hl : (topE (pkd q.gz) ps j).len = (pkd q.gz (putB ps[j])).length := by
    unfold topE
    rw [List.getD_eq_getElem?_getD, List.getElem?_eq_getElem hj]
    rfl
  have hdl := congrArg List.length hd
  have hw : Within (topE (pkd q.gz) ps j).off (topE (pkd q.gz) ps j).len h.l1 := by
    unfold Within
    omega
  refine ⟨hw, ?_, hR⟩
  unfold Within at hw
  rw [Nat.mod_eq_of_lt (by omega), e3, e1]
  refine DirR.pkd (p := headB h ++ dRoot q.gz q.leaf out ++ pkd q.gz q.mtx ++ ((ps.map fun p => pkd q.gz (putB p)).take j).flatten) (y := ((ps.map fun p => pkd q.gz (putB p)).drop (j + 1)).flatten ++ (texts.map (pkd q.gz)).flatten) ps[j] hR hp40 ?_ ?_ hl.symm
  · conv => lhs; rw [H.eq, hd, hf]
    simp only [List.append_assoc]
  · simp only [List.length_append, headB_len]
    omega
theorem tops_at (pk : List UInt8 → List UInt8) (ps : List (List Ent)) (j : Nat) (hj : j < (topsL pk ps ps.length).length) : (topsL pk ps ps.length)[j] = topE pk ps j ∧ j < ps.length := by
  have hl : j < ps.length := by unfold topsL at hj; simpa using hj
  have h : (topsL pk ps ps.length)[j]? = some (topE pk ps j) := by
    unfold topsL
    rw [List.getElem?_map, List.getElem?_range hl]
    rfl
  rw [List.getElem?_eq_getElem hj] at h
  injection h with h
  exact ⟨h, hl⟩
theorem topE_id (pk : List UInt8 → List UInt8) (es : List Ent) (n f j : Nat) (hj : j < (chk n f es).length) (h0 : j * n < es.length) (hn : 1 ≤ n) : (topE pk (chk n f es) j).id = es[j * n].id := by
  unfold topE
  rw [List.getD_eq_getElem?_getD, List.getElem?_eq_getElem hj]
  simp only [Option.getD_some]
  rw [chk_at, List.headD_eq_head?_getD, List.head?_eq_getElem?, List.getElem?_take_of_lt (by omega), List.getElem?_drop, Nat.add_zero, List.getElem?_eq_getElem h0]
  rfl
theorem chk_len (n : Nat) (hn : 1 ≤ n) : ∀ (f : Nat) (l : List Ent) (j : Nat), l.length ≤ f → (j < (chk n f l).length ↔ j * n < l.length)
  | 0, l, j, hf => by
    have : l.length = 0 := by omega
    rw [this]
    exact ⟨fun h => absurd h (Nat.not_lt_zero _), fun h => absurd h (Nat.not_lt_zero _)⟩
  | f + 1, l, j, hf => by
    rw [chk]
    split
    · rename_i h
      subst h
      exact ⟨fun h => absurd h (Nat.not_lt_zero _), fun h => absurd h (Nat.not_lt_zero _)⟩
    · rename_i h
      have hl := List.length_pos_iff.2 h
      cases j with
      | zero =>
        rw [Nat.zero_mul, List.length_cons]
        exact ⟨fun _ => hl, fun _ => Nat.succ_pos _⟩
      | succ j =>
        have ih := chk_len n hn f (l.drop n) j (by rw [List.length_drop]; omega)
        rw [List.length_drop] at ih
        rw [List.length_cons, Nat.succ_mul]
        omega
theorem ArcOk.down_yes (H : ArcOk q nl h bs out texts) (id a : Nat) (ha : a < out.length) (h1 : out[a].id ≤ id) (h2 : id < out[a].id + out[a].run) : DownR bs h.inn h.l0 h.l1 id 4 h.r0 h.r1 (out[a], true, 0) := by
  have hrun := H.runs _ (List.getElem_mem ha)
  by_cases hn : q.leaf < 1 ∨ (out.length : Int) ≤ q.leaf
  · exact ⟨(out, 0), H.flat hn, fun h => absurd rfl h, fun _ => ⟨(out[a], true), find_run H.right ha h1 h2, fun h => (by cases h), fun _ => ⟨fun _ => rfl, fun h => by simp only at h; omega⟩⟩⟩
  · have hT := H.top hn
    obtain ⟨n, hnn⟩ : ∃ n, q.leaf.toNat = n := ⟨_, rfl⟩
    have hn1 : 1 ≤ n := by omega
    have hTR := (tops_right q.gz out H.right H.few n hn1).1
    obtain ⟨j, r, hj, hrn⟩ : ∃ j r, a = j * n + r ∧ r < n := ⟨a / n, a % n, by rw [Nat.mul_comm]; exact (Nat.div_add_mod a n).symm, Nat.mod_lt _ hn1⟩
    have hj0 : j * n < out.length := by omega
    have hjl : j < (chk n out.length out).length := (chk_len n hn1 out.length out j (Nat.le_refl _)).2 hj0
    have hP := H.part hn j (by rw [hnn]; exact hjl)
    rw [hnn] at hT
    simp only [hnn] at hP
    obtain ⟨hw, hD, hPR⟩ := hP
    have hjt : j < (topsL (pkd q.gz) (chk n out.length out) (chk n out.length out).length).length := by unfold topsL; simpa using hjl
    have htj := (tops_at (pkd q.gz) (chk n out.length out) j hjt).1
    have hid := topE_id (pkd q.gz) out n out.length j hjl hj0 hn1
    have hasc := H.right.asc (j * n) a hj0 ha (by omega)
    have hf1 := find_yes (id := id) hTR hjt (by rw [htj, hid]; omega) (fun h => by rw [htj] at h; exact absurd h (Nat.lt_irrefl 0)) (fun h => by
      obtain ⟨ht2, hl2⟩ := tops_at (pkd q.gz) (chk n out.length out) (j + 1) h
      have hj2 := (chk_len n hn1 out.length out (j + 1) (Nat.le_refl _)).1 hl2
      rw [ht2, topE_id (pkd q.gz) out n out.length (j + 1) hl2 hj2 hn1]
      have h3 : a + 1 ≤ (j + 1) * n := by rw [Nat.succ_mul]; omega
      have h4 := H.right.asc (a + 1) ((j + 1) * n) (by omega) hj2 h3
      have h5 := H.right.2.2.2 a (by omega)
      unfold Ent.next at h5
      omega)
    rw [htj] at hf1
    have hpl : r < ((chk n out.length out)[j]).length := by rw [chk_at, List.length_take, List.length_drop]; omega
    have hpa : ((chk n out.length out)[j])[r] = out[a] := by
      have h : ((chk n out.length out)[j])[r]? = some out[a] := by
        rw [chk_at, List.getElem?_take_of_lt hrn, List.getElem?_drop, ← hj, List.getElem?_eq_getElem ha]
      rw [List.getElem?_eq_getElem hpl] at h
      injection h
    have hf2 := find_run (id := id) hPR hpl (by rw [hpa]; exact h1) (by rw [hpa]; exact h2)
    rw [hpa] at hf2
    refine ⟨_, hT, fun h => absurd rfl h, fun _ => ⟨_, hf1, fun h => (by cases h), fun _ => ⟨fun h => absurd h (Nat.lt_irrefl 0), fun _ => ⟨fun h => absurd hw h, fun _ => ?_⟩⟩⟩⟩
    exact ⟨_, hD, fun h => absurd rfl h, fun _ => ⟨_, hf2, fun h => (by cases h), fun _ => ⟨fun _ => rfl, fun h => by simp only at h; omega⟩⟩⟩
theorem ArcOk.down_no (H : ArcOk q nl h bs out texts) (id : Nat) (hno : ∀ e ∈ out, e.id ≤ id → ¬ id < e.id + e.run) : DownR bs h.inn h.l0 h.l1 id 4 h.r0 h.r1 (Ent.zero, false, 0) := by
  by_cases hn : q.leaf < 1 ∨ (out.length : Int) ≤ q.leaf
  · exact ⟨(out, 0), H.flat hn, fun h => absurd rfl h, fun _ => ⟨(Ent.zero, false), find_no H.right H.runs hno, fun _ => rfl, fun h => (by cases h)⟩⟩
  · have hT := H.top hn
    obtain ⟨n, hnn⟩ : ∃ n, q.leaf.toNat = n := ⟨_, rfl⟩
    have hn1 : 1 ≤ n := by omega
    have hTR := (tops_right q.gz out H.right H.few n hn1).1
    have hP := H.part hn
    rw [hnn] at hT
    simp only [hnn] at hP
    refine ⟨_, hT, fun h => absurd rfl h, fun _ => ?_⟩
    rcases find_top hTR (fun e he => by
      unfold topsL at he
      obtain ⟨j, _, rfl⟩ := List.mem_map.1 he
      rfl) id with hf | ⟨j, hjt, hf⟩
    · exact ⟨_, hf, fun _ => rfl, fun h => (by cases h)⟩
    · obtain ⟨htj, hjl⟩ := tops_at (pkd q.gz) (chk n out.length out) j hjt
      obtain ⟨hw, hD, hPR⟩ := hP j hjl
      rw [htj] at hf
      have hsub : ∀ e ∈ (chk n out.length out)[j], e ∈ out := fun e he => by
        rw [chk_at] at he
        exact List.mem_of_mem_drop (List.mem_of_mem_take he)
      have hf2 := find_no (id := id) hPR (fun e he => H.runs e (hsub e he)) (fun e he => hno e (hsub e he))
      refine ⟨_, hf, fun h => (by cases h), fun _ => ⟨fun h => absurd h (Nat.lt_irrefl 0), fun _ => ⟨fun h => absurd hw h, fun _ => ?_⟩⟩⟩
      exact ⟨_, hD, fun h => absurd rfl h, fun _ => ⟨_, hf2, fun _ => rfl, fun h => (by cases h)⟩⟩
theorem ArcOk.tile_yes (H : ArcOk q nl h bs out texts) (id a i : Nat) (ha : a < out.length) (h1 : out[a].id ≤ id) (h2 : id < out[a].id + out[a].run) (hi : i < texts.length) (ho : out[a].off = EnS.off (pkd q.gz) texts i) (hl : out[a].len = (pkd q.gz texts[i]).length) : TileR bs h true id (texts[i], true, 0) := by
  obtain ⟨hw, hu⟩ := H.tile i hi out[a].off out[a].len ho hl
  refine ⟨fun h => (by cases h), fun _ => ⟨_, H.down_yes id a ha h1 h2, fun h => (by cases h), fun _ => ⟨fun hn => absurd hw hn, fun _ => ⟨fun e he => ?_, fun d he => ?_⟩⟩⟩⟩
  · simp only at he
    rw [hu] at he
    cases he
  · simp only at he
    rw [hu] at he
    cases he
    rfl
theorem ArcOk.tile_no (H : ArcOk q nl h bs out texts) (id : Nat) (hno : ∀ e ∈ out, e.id ≤ id → ¬ id < e.id + e.run) : TileR bs h true id ([], false, 0) :=
  ⟨fun h => (by cases h), fun _ => ⟨_, H.down_no id hno, fun _ => rfl, fun h => (by cases h)⟩⟩
end
theorem num_item {l : List Im} {d : Im} {X : Nat → It} (hR : St.Rch 0 l.length (itf l d) X) {j : Nat} (hj : j < l.length) : ∃ m ∈ l, (X j).id = m.num ∧ (X j).bs = m.bs := by
  obtain ⟨m, hm, he⟩ := sort_mem hR hj
  exact ⟨m, hm, by rw [he]; rfl, by rw [he]; rfl⟩
theorem arc_item {q : Sp} {nl : Nat} {h : Hd} {bs : List UInt8} {l : List Im} {d : Im} {X : Nat → It} (hR : St.Rch 0 l.length (itf l d) X) (H : ArcOk q nl h bs (EnS.upto (pkd q.gz) X l.length).out (EnS.upto (pkd q.gz) X l.length).texts) (m : Im) (hm : m ∈ l) : TileR bs h true m.num (m.bs, true, 0) := by
  obtain ⟨j, hj, he⟩ := sort_has hR hm
  obtain ⟨e, hem, h1, h2, h3, h4, h5⟩ := (EnS.has (pkd q.gz) X l.length).cov j hj
  rw [he] at h1 h2 h3 h4 h5
  obtain ⟨a, ha, rfl⟩ := List.getElem_of_mem hem
  have hi : EnS.at (EnS.upto (pkd q.gz) X l.length).texts m.bs < (EnS.upto (pkd q.gz) X l.length).texts.length := List.idxOf_lt_length_iff.2 h5
  have ht : (EnS.upto (pkd q.gz) X l.length).texts[EnS.at (EnS.upto (pkd q.gz) X l.length).texts m.bs] = m.bs := List.getElem_idxOf hi
  have := H.tile_yes m.num a _ ha h1 h2 hi h3 (by rw [ht]; exact h4)
  rw [ht] at this
  exact this
theorem arc_none {q : Sp} {nl : Nat} {h : Hd} {bs : List UInt8} {l : List Im} {d : Im} {X : Nat → It} (hR : St.Rch 0 l.length (itf l d) X) (H : ArcOk q nl h bs (EnS.upto (pkd q.gz) X l.length).out (EnS.upto (pkd q.gz) X l.length).texts) (id : Nat) (hn : ∀ m ∈ l, m.num ≠ id) : TileR bs h true id ([], false, 0) := by
  refine H.tile_no id (fun e he h1 h2 => ?_)
  obtain ⟨j, hj, hji⟩ := (EnS.has (pkd q.gz) X l.length).only e he id h1 h2
  obtain ⟨m, hm, h3, _⟩ := num_item hR hj
  exact hn m hm (by rw [← h3, hji])
end Go.Proofs.YtaapjampmnanmaaGreat
