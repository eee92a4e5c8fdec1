/- Layer 14 (pack): the least number from a number on, told by the sorted array: plain law. There is no condition. Layer 14 (pack): Entries of the reference. The conditions: where the items lie; at most 40 items; at most 4000 bytes each. -/
import Derived.Test.YtaapjampmnanmaaGreatPkRef
import Derived.Test.YtaapjampmnanmaaGreatPkPlain
import Derived.Test.YtaapjampmnanmaaGreatPkEnts
import Derived.Test.YtaapjampmnanmaaGreatPkRight
namespace Go.Proofs.YtaapjampmnanmaaGreat
open Go.RowKit
set_option linter.unusedVariables false

theorem sort_strict {l : List Im} {d : Im} {X : Nat → It} (hR : St.Rch 0 l.length (itf l d) X) (hS : St.Srt It.id 0 l.length X) (hN : (l.map Im.num).Nodup) {i j : Nat} (hij : i < j) (hj : j < l.length) : (X i).id < (X j).id := by
  have h1 := hS i j (Nat.zero_le _) (Nat.le_of_lt hij) hj
  have h2 := (sort_ids hR).nodup_iff.2 hN
  rw [List.Nodup, List.pairwise_iff_getElem] at h2
  have h3 := h2 i j (by simp; omega) (by simpa using hj) hij
  rw [List.getElem_map, List.getElem_map, List.getElem_range, List.getElem_range] at h3
  omega
/-- From which number on the k-th search goes. -/
def nextFrom (X : Nat → It) (k : Nat) : Nat := if k = 0 then 0 else (X (k - 1)).id + 1
theorem nextFrom_succ (X : Nat → It) (k : Nat) : nextFrom X (k + 1) = (X k).id + 1 := by
  unfold nextFrom
  rw [if_neg (by omega)]
  rfl
theorem below_from {l : List Im} {d : Im} {X : Nat → It} (hR : St.Rch 0 l.length (itf l d) X) (hS : St.Srt It.id 0 l.length X) {q k : Nat} (hq : q < k) (hk : k ≤ l.length) : (X q).id < nextFrom X k := by
  unfold nextFrom
  rw [if_neg (by omega)]
  have h1 := hS q (k - 1) (Nat.zero_le _) (by omega) (by omega)
  omega
theorem least_next {l : List Im} {d : Im} {X : Nat → It} (hR : St.Rch 0 l.length (itf l d) X) (hS : St.Srt It.id 0 l.length X) (hN : (l.map Im.num).Nodup) {k : Nat} (hk : k < l.length) {t : Int} (h : Least l (nextFrom X k) l.length t) :
    ∃ i, ∃ hi : i < l.length, t = i ∧ l[i].it = X k := by
  obtain ⟨m, hm, hXk⟩ := sort_mem hR hk
  obtain ⟨j, hj, rfl⟩ := List.mem_iff_getElem.1 hm
  have hfr : nextFrom X k ≤ (X k).id := by
    unfold nextFrom
    split
    · omega
    · have := sort_strict hR hS hN (i := k - 1) (j := k) (by omega) hk
      omega
  have hnum : l[j].num = (X k).id := by rw [hXk]; rfl
  rcases h with ⟨_, h⟩ | ⟨i, hi, _, rfl, h1, h2⟩
  · have := h j hj hj
    omega
  · refine ⟨i, hi, rfl, ?_⟩
    obtain ⟨q, hq, hXq⟩ := sort_has hR (List.getElem_mem hi)
    have hnq : l[i].num = (X q).id := by rw [hXq]; rfl
    have h3 := h2 j hj hj (by omega)
    have h4 : q = k := by
      rcases Nat.lt_trichotomy q k with h5 | h5 | h5
      · have := below_from hR hS h5 (Nat.le_of_lt hk)
        omega
      · exact h5
      · have := sort_strict hR hS hN h5 hq
        omega
    rw [← hXq, h4]
theorem least_end {l : List Im} {d : Im} {X : Nat → It} (hR : St.Rch 0 l.length (itf l d) X) (hS : St.Srt It.id 0 l.length X) {t : Int} (h : Least l (nextFrom X l.length) l.length t) : t = -1 := by
  rcases h with ⟨h, _⟩ | ⟨i, hi, _, rfl, h1, h2⟩
  · exact h
  · obtain ⟨q, hq, hXq⟩ := sort_has hR (List.getElem_mem hi)
    have hnq : l[i].num = (X q).id := by rw [hXq]; rfl
    have := below_from hR hS hq (Nat.le_refl _)
    omega

end Go.Proofs.YtaapjampmnanmaaGreat

namespace Go.Proofs.YtaapjampmnanmaaGreat
open Go.RowKit Go.Maps
set_option linter.unusedVariables false
set_option linter.unusedSimpArgs false

theorem idx_before (a : List UInt8) : ∀ (l : List (List UInt8)) (j : Nat) (hj : j < l.length), j < l.idxOf a → l[j] ≠ a
  | x :: t, 0, _, h => by
    intro e
    rw [List.idxOf_cons] at h
    simp only [List.getElem_cons_zero] at e
    subst e
    simp at h
  | x :: t, j + 1, hj, h => by
    rw [List.idxOf_cons] at h
    by_cases e : x == a
    · simp [e] at h
    · simp [e] at h
      simp only [List.getElem_cons_succ]
      exact idx_before a t j (by simpa using hj) h
theorem idx_at (a : List UInt8) (l : List (List UInt8)) (h : l.idxOf a < l.length) : l[l.idxOf a] = a := List.getElem_idxOf h
theorem idx_le (a : List UInt8) (l : List (List UInt8)) : l.idxOf a ≤ l.length := List.idxOf_le_length
theorem idx_mem (a : List UInt8) (l : List (List UInt8)) (h : l.idxOf a < l.length) : a ∈ l := by
  have := List.getElem_mem h
  rwa [idx_at a l h] at this
theorem EnS.off_succ (pk : List UInt8 → List UInt8) (texts : List (List UInt8)) (k : Nat) (hk : k < texts.length) : EnS.off pk texts (k + 1) = EnS.off pk texts k + (pk texts[k]).length := by
  unfold EnS.off
  rw [List.take_add_one, List.getElem?_eq_getElem hk, List.map_append, List.sum_append]
  simp
def strV (t : List UInt8) : Value := .string ⟨t.toArray⟩
theorem elem_str : Elem1 Tryz.prog 134 9 (.string ⟨#[]⟩) 16 := ⟨Tryz.underlying134, by kernel_rfl, rfl⟩
/-- What the walk owns: the entries, the texts, the contents and their slices. -/
structure EnR (G : Nat) (w0 w : World) (out : List Ent) (texts cs : List (List UInt8)) (A7 : Option Addr) (c7 : Nat) (A8 : Option Addr) (c8 : Nat) (A9 : Option Addr) (c9 : Nat) (vs : List Sl) : Prop where
  gle : G ≤ w.heap.size
  ents : OwE w G A7 c7 out
  txt : Ow w G 9 A8 texts.length c8 (texts.map strV)
  rows : OwR w G 22 1 A9 vs.length c9 (vs.map fun s => [Sl.val s])
  byts : Byts w G vs cs
  bel : Below G w0 w
section
variable {G : Nat} {w0 w w' : World} {out : List Ent} {texts cs : List (List UInt8)} {A7 : Option Addr} {c7 : Nat} {A8 : Option Addr} {c8 : Nat} {A9 : Option Addr} {c9 : Nat} {vs : List Sl}
theorem EnR.below (h : EnR G w0 w out texts cs A7 c7 A8 c8 A9 c9 vs) (hb : Below w.heap.size w w') : EnR G w0 w' out texts cs A7 c7 A8 c8 A9 c9 vs :=
  ⟨Nat.le_trans h.gle hb.size, h.ents.below hb, h.txt.below hb, h.rows.below hb, h.byts.below hb, h.bel.trans (hb.mono h.gle)⟩
theorem EnR.addTxt (h : EnR G w0 w out texts cs A7 c7 A8 c8 A9 c9 vs) {A' : Option Addr} {c' : Nat} {t : List UInt8} (hr : Ow w' G 9 A' (texts.length + 1) c' (texts.map strV ++ [strV t])) (hc : Chg (fun k => blk A8 = some k) w w') : EnR G w0 w' out (texts ++ [t]) cs A7 c7 A' c' A9 c9 vs := by
  have hlow : ∀ k, blk A8 = some k → G ≤ k := fun k hk => (h.txt.blk_lt k hk).1
  refine ⟨Nat.le_trans h.gle hc.size, h.ents.chg hc ?_, by rw [List.length_append, List.map_append]; exact hr, h.rows.chg hc ?_, h.byts.chg hc hlow ?_, h.bel.trans (hc.to_below h.gle hlow)⟩
  · intro g hg hA
    obtain ⟨c1, h1⟩ := h.ents.row hg
    obtain ⟨c2, h2⟩ := h.txt.rowOf hA
    have := cells_ty h1 h2
    cases this
  · intro g hg hA
    obtain ⟨c1, h1⟩ := h.rows.row hg
    obtain ⟨c2, h2⟩ := h.txt.rowOf hA
    have := cells_ty h1 h2
    cases this
  · intro k cur hk hA
    obtain ⟨c2, h2⟩ := h.txt.rowOf hA
    have := cells_ty hk h2
    cases this
theorem EnR.addRow (h : EnR G w0 w out texts cs A7 c7 A8 c8 A9 c9 vs) {A' : Option Addr} {c' : Nat} {s : Sl} {p : List UInt8} (hr : OwR w' G 22 1 A' (vs.length + 1) c' ((vs.map fun s => [Sl.val s]) ++ [[Sl.val s]])) (hc : Chg (fun k => blk A9 = some k) w w') (hs : Byt w G s p) :
    EnR G w0 w' out texts (cs ++ [p]) A7 c7 A8 c8 A' c' (vs ++ [s]) := by
  have hlow : ∀ k, blk A9 = some k → G ≤ k := fun k hk => (h.rows.blk_lt k hk).1
  refine ⟨Nat.le_trans h.gle hc.size, h.ents.chg hc ?_, h.txt.chg hc ?_, by rw [List.length_append, List.map_append]; exact hr, (h.byts.snoc s p hs).chg hc hlow ?_, h.bel.trans (hc.to_below h.gle hlow)⟩
  · intro g hg hA
    obtain ⟨c1, h1⟩ := h.ents.row hg
    obtain ⟨c2, h2⟩ := h.rows.row hA
    have := cells_ty h1 h2
    cases this
  · intro g hg hA
    obtain ⟨c1, h1⟩ := h.txt.rowOf hg
    obtain ⟨c2, h2⟩ := h.rows.row hA
    have := cells_ty h1 h2
    cases this
  · intro k cur hk hA
    obtain ⟨c2, h2⟩ := h.rows.row hA
    have := cells_ty hk h2
    cases this
theorem EnR.setEnts (h : EnR G w0 w out texts cs A7 c7 A8 c8 A9 c9 vs) {A' : Option Addr} {c' : Nat} {out' : List Ent} (hr : OwE w' G A' c' out') (hc : Chg (fun k => blk A7 = some k) w w') : EnR G w0 w' out' texts cs A' c' A8 c8 A9 c9 vs := by
  have hlow : ∀ k, blk A7 = some k → G ≤ k := fun k hk => (h.ents.blk_lt k hk).1
  refine ⟨Nat.le_trans h.gle hc.size, hr, h.txt.chg hc ?_, h.rows.chg hc ?_, h.byts.chg hc hlow ?_, h.bel.trans (hc.to_below h.gle hlow)⟩
  · intro g hg hA
    obtain ⟨c1, h1⟩ := h.txt.rowOf hg
    obtain ⟨c2, h2⟩ := h.ents.row hA
    have := cells_ty h1 h2
    cases this
  · intro g hg hA
    obtain ⟨c1, h1⟩ := h.rows.row hg
    obtain ⟨c2, h2⟩ := h.ents.row hA
    have := cells_ty h1 h2
    cases this
  · intro k cur hk hA
    obtain ⟨c2, h2⟩ := h.ents.row hA
    have := cells_ty hk h2
    cases this
end
theorem leastk_any (A : Option Addr) (c B : Nat) (l : List Im) (d : Im) (X : Nat → It) (hR : St.Rch 0 l.length (itf l d) X) (hS : St.Srt It.id 0 l.length X) (hN : (l.map Im.num).Nodup) (w : World) (hr : RdIm w B A l) (hB : B ≤ w.heap.size) (hn : l.length ≤ 40) (hok : ∀ m ∈ l, m.ok) (k : Nat) (hk : k < l.length) :
    Calls Tryz.prog 83 #[.slice A l.length c, .int .u64 (nextFrom X k : Int)] w fun e w' => (∃ (i : Nat) (m : Im), l[i]? = some m ∧ e = .returned (.int .i64 (i : Int)) ∧ m.it = X k) ∧ Below w.heap.size w w' :=
  (least_any A c B l (nextFrom X k) w hr hB hn hok).mono fun e w' ⟨⟨t, he, hl⟩, hb⟩ => by
    obtain ⟨i, hi, rfl, h⟩ := least_next hR hS hN hk hl
    exact ⟨⟨i, l[i], List.getElem?_eq_getElem hi, he, h⟩, hb⟩
theorem leastend_any (A : Option Addr) (c B : Nat) (l : List Im) (d : Im) (X : Nat → It) (hR : St.Rch 0 l.length (itf l d) X) (hS : St.Srt It.id 0 l.length X) (w : World) (hr : RdIm w B A l) (hB : B ≤ w.heap.size) (hn : l.length ≤ 40) (hok : ∀ m ∈ l, m.ok) :
    Calls Tryz.prog 83 #[.slice A l.length c, .int .u64 (nextFrom X l.length : Int)] w fun e w' => e = .returned (.int .i64 (-1)) ∧ Below w.heap.size w w' :=
  (least_any A c B l (nextFrom X l.length) w hr hB hn hok).mono fun e w' ⟨⟨t, he, hl⟩, hb⟩ => by
    rw [least_end hR hS hl] at he
    exact ⟨he, hb⟩
theorem sorted_nodup {l : List Im} {er : Nat} (h : SortE l er) (h0 : er = 0) : (l.map Im.num).Nodup := by
  refine nodup_of_apart l (fun i j hi hj hij he => ?_)
  have := h.form (sorted_ok h h0) (.inr (.inr ⟨i, j, hi, hj, hij, he⟩))
  omega
/-- What the reference's Entries returns. -/
def REntP (pk : List UInt8 → List UInt8) (G : Nat) (w : World) (l : List Im) (er : Nat) (X : Nat → It) (e : Ending) (w' : World) : Prop :=
  Below G w w' ∧ ((er ≠ 0 ∧ e = .returned (.tuple #[.slice none 0 0, .slice none 0 0, .int .i64 (er : Int)])) ∨
    (er = 0 ∧ ∃ A9 c9 A10 c10 vs, e = .returned (.tuple #[.slice A9 (EnS.upto pk X l.length).out.length c9, .slice A10 vs.length c10, .int .i64 0]) ∧
      OwE w' G A9 c9 (EnS.upto pk X l.length).out ∧ OwR w' G 22 1 A10 vs.length c10 (vs.map fun s => [Sl.val s]) ∧ Byts w' G vs ((EnS.upto pk X l.length).texts.map pk)))
theorem REntP.bad {pk : List UInt8 → List UInt8} {G : Nat} {w w' : World} {l : List Im} {er : Nat} {X : Nat → It} (h : Below G w w') (he : er ≠ 0) : REntP pk G w l er X (.returned (.tuple #[.slice none 0 0, .slice none 0 0, .int .i64 (er : Int)])) w' := ⟨h, .inl ⟨he, rfl⟩⟩

set_option maxRecDepth 100000 in
set_option maxHeartbeats 8000000 in
theorem rentries_any (A : Option Addr) (c : Nat) (l : List Im) (gz : Bool) (w : World) (hr : RdIm w w.heap.size A l) (hn : l.length ≤ 40) (d : Im) (er : Nat) (hE : SortE l er) (hby : er = 0 → ImBy w w.heap.size l) (her : er ≤ 8)
    (X : Nat → It) (hX : er = 0 → St.Rch 0 l.length (itf l d) X ∧ St.Srt It.id 0 l.length X) :
    Calls Tryz.prog 44 #[.slice A l.length c, .bool gz] w (REntP (pkd gz) w.heap.size w l er X) := by
  obtain ⟨G, hG⟩ : ∃ G, w.heap.size = G := ⟨_, rfl⟩
  rw [hG] at hr hby ⊢
  have hsz := hide (fun (W : World) (hb : Below G w W) => show G ≤ W.heap.size from by rw [← hG]; exact hb.size)
  have hri := hide (fun (W : World) (hb : Below G w W) => pkright_any A c G l W (hr.below hb) (hsz.out W hb) hn er hE)
  have hle := hide (fun (h0 : er = 0) (W : World) (hb : Below G w W) => leastend_any A c G l d X (hX h0).1 (hX h0).2 W (hr.below hb) (hsz.out W hb) hn (sorted_ok hE h0))
  have hls := hide (fun (h0 : er = 0) (W : World) (hb : Below G w W) (k : Nat) (hk : k < l.length) => leastk_any A c G l d X (hX h0).1 (hX h0).2 (sorted_nodup hE h0) W (hr.below hb) (hsz.out W hb) hn (sorted_ok hE h0) k hk)
  have hok := hide (fun (h0 : er = 0) (m : Im) (hm : m ∈ l) => show m.ok from sorted_ok hE h0 m hm)
  have hRX := hide (fun (h0 : er = 0) => (hX h0).1)
  replace hr := hide hr
  replace hby := hide hby
  obtain ⟨n, hl⟩ : ∃ n, l.length = n := ⟨_, rfl⟩
  have hnI : (n : Int) ≤ 40 := by omega
  rw [hl] at hri hle hls
  rw [hl]
  clear hn hE hX
  go_enter Tryz.func44, Tryz.ntmps44
  rcases Nat.eq_zero_or_pos er with rfl | hep
  · replace hby := hide (hby.out (by first | rfl | trivial))
    replace hle := hide (hle.out rfl)
    replace hls := hide (hls.out rfl)
    replace hok := hide (hok.out rfl)
    replace hRX := hide (hRX.out rfl)
    go_wp2_with (go_at_call 82; (with_reducible refine (hri.out _ (Below.refl _ _)).mono ?_); rintro e w1 ⟨rfl, b1⟩; replace b1 := hide (show Below G w w1 from by rw [← hG]; exact b1))
    go_loopg [7, 8, 9, 10, 11] n (fun gk s7 s8 s9 s10 s11 wr => ∃ (k : Nat) (S : EnS) (A7 : Option Addr) (c7 : Nat) (A8 : Option Addr) (c8 : Nat) (A9 : Option Addr) (c9 : Nat) (vs : List Sl), k + gk = n ∧ s7 = .slice A7 S.out.length c7 ∧ s8 = .slice A8 S.texts.length c8 ∧ s9 = .slice A9 vs.length c9 ∧ s10 = .string ⟨S.last.toArray⟩ ∧ s11 = .int .u64 (nextFrom X k : Int) ∧
      Hid (S = EnS.upto (pkd gz) X k) ∧ Hid (EnR G w wr S.out S.texts (S.texts.map (pkd gz)) A7 c7 A8 c8 A9 c9 vs) ∧ Hid (∀ t ∈ S.texts, t.length ≤ 1048576))
    case atStart => exact ⟨0, ⟨[], [], []⟩, none, 0, none, 0, none, 0, [], by omega, rfl, rfl, rfl, rfl, rfl, hide rfl, hide ⟨hsz.out _ b1.out, OwE.nil _ _, Ow.nil _ _ _, OwR.nil _ _ _ _, Byts.nil _ _, b1.out⟩, hide (fun _ h => absurd h (by simp))⟩
    case round =>
      obtain ⟨k, S, A7, c7, A8, c8, A9, c9, vs, hk, rfl, rfl, rfl, rfl, rfl, hS0, hM, htx⟩ := hrel
      rcases gk with _ | gk
      · obtain rfl : k = n := by omega
        have hle2 := hide (hle.out wr hM.out.bel)
        have hfin := hide (fun (W : World) (hb : Below wr.heap.size wr W) => show REntP (pkd gz) G w l 0 X (.returned (.tuple #[.slice A7 S.out.length c7, .slice A9 vs.length c9, .int .i64 0])) W from by
          have h := hM.out.below hb
          refine ⟨h.bel, .inr ⟨rfl, A7, c7, A9, c9, vs, ?_, ?_, h.rows, ?_⟩⟩
          · rw [hl, ← hS0.out]
          · rw [hl, ← hS0.out]
            exact h.ents
          · rw [hl, ← hS0.out]
            exact h.byts)
        go_wp2_with (go_at_call 83; (with_reducible refine hle2.out.mono ?_); rintro e w2 ⟨rfl, b2⟩; replace b2 := hide b2)
        go_ret3
        exact hfin.out _ b2.out
      · have hlt : k < n := by omega
        obtain ⟨N, hN⟩ : ∃ N, (X k).id = N := ⟨_, rfl⟩
        obtain ⟨mb, hmb⟩ : ∃ b, (X k).bs = b := ⟨_, rfl⟩
        have hXid := hide (fun j (hj : j < n) => show (X j).id ≤ 1537228672809129301 from by
          obtain ⟨m, hm, he⟩ := sort_mem hRX.out (k := j) (by omega)
          rw [he]
          exact num_le m (hok.out m hm))
        have hNle := hide (show N ≤ 1537228672809129301 from by rw [← hN]; exact hXid.out k hlt)
        have hfit := hide (show S.Fits k 1537228672809129301 from by rw [hS0.out]; exact EnS.fits _ _ _ k (fun j hj => hXid.out j (by omega)))
        clear hXid
        have hol : S.out.length ≤ 40 := Nat.le_trans hfit.out.outs (by omega)
        have hnw : IntKind.u64.wrap ((N : Int) + 1) = ((N + 1 : Nat) : Int) := by have := hNle.out; rw [IntKind.wrap_u64]; omega
        have hnx := hide (show nextFrom X (k + 1) = N + 1 from by rw [nextFrom_succ, hN])
        have hl1 := hide (fun W (hb : Below G w W) => hls.out W hb k hlt)
        obtain ⟨N1, hN1⟩ : ∃ x, N + 1 = x := ⟨_, rfl⟩
        rw [hN1] at hnw hnx
        replace hN := hide hN
        replace hmb := hide hmb
        replace hl := hide hl
        clear hN1 b1
        go_upto_region 13 with (first
          | (go_at_call 83; (with_reducible refine (hl1.out w2 hM2.out.bel).mono ?_); rintro e w3 ⟨⟨i, ⟨mz, mx, my, mA, mn, mc, mb'⟩, hi, rfl, hit⟩, hb3⟩; have hM3 := hide (hM2.out.below hb3); clear hM2 hb3; obtain ⟨hil, hlm⟩ := List.getElem?_eq_some_iff.1 hi; have hmem := List.getElem_mem hil; obtain ⟨bb, oo, rfl, hbb, e0, e1, e2, e3⟩ := (hr.out.below hM3.out.bel) i hil; rw [hlm] at e0 e1 e2 e3 hmem; obtain ⟨hmr0, hmc, hmn⟩ := hby.out _ hmem; simp only at e0 e1 e2 e3 hmr0 hmc hmn; obtain rfl : mb' = mb := (congrArg It.bs hit).trans hmb.out; have hnum : (Im.mk mz mx my mA mn mc mb').num = N := (congrArg It.id hit).trans hN.out; have hiI : (i : Int) < (n : Int) := (by have := hl.out; omega); obtain ⟨g1, hg1⟩ : ∃ x, w3.heap.size = x := ⟨_, rfl⟩; obtain ⟨w4, hw4⟩ : ∃ W, w3.alloc (.cells #[.int .i64 mz, .int .i64 mx, .int .i64 my, .slice mA mn mc] 67) = W := ⟨_, rfl⟩; have k4 := hide (show Blk w4 g1 67 #[.int .i64 mz, .int .i64 mx, .int .i64 my, .slice mA mn mc] from by rw [← hw4, ← hg1]; exact Blk.new w3 _ _); have hM4 := hide (hM3.out.below (show Below w3.heap.size w3 w4 from by rw [← hw4]; exact (Below.refl _ w3).alloc (Nat.le_refl _) _)); clear hM3; have f0 : w4.cell? ⟨g1, 0, none⟩ = some (.int .i64 mz) := k4.out.cell 0; have f1 : w4.cell? ⟨g1, 1, none⟩ = some (.int .i64 mx) := k4.out.cell 1; have f2 : w4.cell? ⟨g1, 2, none⟩ = some (.int .i64 my) := k4.out.cell 2; have hidc := hide (rimid_any ⟨mz, mx, my, mA, mn, mc, mb'⟩ (hok.out _ hmem) w4); rw [hnum] at hidc; replace hmr0 := hide hmr0; replace hmc := hide hmc; replace hmn := hide hmn; clear hit hi hlm hil hmem hnum)
          | (go_at_call 83; (with_reducible refine (hl1.out wr hM.out.bel).mono ?_); rintro e w2 ⟨⟨i0, m0, _, rfl, _⟩, hb2⟩; have hM2 := hide (hM.out.below hb2); clear hb2)
          | (go_at_call 34; (with_reducible refine hidc.out.mono ?_); rintro e w5 ⟨rfl, hb5⟩; have hM5 := hide (hM4.out.below hb5); have k5 := hide (k4.out.below hb5 k4.out.lt); clear hb5 hM4 k4 f0 f1 f2 hidc e0 e1 e2 e3))
        have hrd5 := hide (hmr0.out.below hM5.out.bel)
        have hcv := fun n => str_pk (w := w5.drewN n) (hrd5.out.below (show Below G w5 (w5.drewN n) from ⟨rfl, rfl, rfl, Nat.le_refl _, fun _ _ => rfl⟩)) mc
        have hbl := hide (show mb'.length = mn from hrd5.out.len)
        have hmnI : (mn : Int) ≤ 1048576 := by have := hmn.out; omega
        have f3 : w5.cell? ⟨g1, 3, none⟩ = some (.slice mA mn mc) := k5.out.cell 3
        obtain ⟨jb, hj⟩ : ∃ jb : Bool, (jb = true ↔ S.joins N mb') := by
          by_cases h : S.joins N mb'
          · exact ⟨true, by simp [h]⟩
          · exact ⟨false, by simp [h]⟩
        replace hj := hide hj
        have hlast := hide (show ∀ q, S.out.length = q + 1 → ∃ e gg, S.out.getLast? = some e ∧ S.out[q]? = some e ∧ e.id ≤ 1537228672809129301 ∧ 1 ≤ e.run ∧ e.run ≤ 40 ∧ A7 = some ⟨gg, 0, none⟩ ∧ (S.joins N mb' ↔ S.last = mb' ∧ e.id + e.run = N) ∧ w5.cell? ⟨gg, q * 4, none⟩ = some (.int .u64 (e.id : Int)) ∧ w5.cell? ⟨gg, q * 4 + 3, none⟩ = some (.int .u64 (e.run : Int)) from by
          intro q hq
          have hq' : q < S.out.length := by omega
          have hl : S.out.getLast? = some S.out[q] := by rw [List.getLast?_eq_getElem?, show S.out.length - 1 = q from by omega, List.getElem?_eq_getElem hq']
          have hm := List.getElem_mem hq'
          obtain ⟨gg, hA9, _, _⟩ := hM5.out.ents.pos (by omega)
          obtain ⟨b', o', hA', _, x0, _, _, x3⟩ := hM5.out.ents.rd q hq'
          have hzero : b' = gg ∧ o' = 0 := by rw [hA9] at hA'; injection hA' with h; injection h with h1 h2; exact ⟨h1.symm, h2.symm⟩
          obtain ⟨rfl, rfl⟩ := hzero
          rw [Nat.zero_add] at x0 x3
          have hr := hfit.out.runs _ hm
          refine ⟨S.out[q], b', hl, List.getElem?_eq_getElem hq', hfit.out.ids _ hm, hr.1, by omega, hA9, ?_, x0, x3⟩
          unfold EnS.joins
          rw [hl]
          constructor
          · rintro ⟨h1, e, h2, h3⟩
            cases h2
            exact ⟨h1, h3⟩
          · rintro ⟨h1, h3⟩
            exact ⟨h1, _, rfl, h3⟩)
        go_cut [68] from 43 to 67 (fun s68 wx => s68 = .bool jb ∧ ∃ nq, wx = w5.drewN nq)
        case first =>
          rcases Nat.eq_zero_or_pos S.out.length with h0 | h0
          · obtain rfl : jb = false := by
              have h1 : ¬ S.joins N mb' := by rintro ⟨_, e, he, _⟩; rw [List.eq_nil_of_length_eq_zero h0] at he; cases he
              cases jb
              · rfl
              · exact absurd (hj.out.1 rfl) h1
            have hg0 : decide (0 < S.out.length) = false := by rw [h0]; decide
            go_quiet (fail)
            go_wp2
            go_meet
            exact ⟨rfl, _, rfl⟩
          · obtain ⟨q, hq⟩ : ∃ q, S.out.length = q + 1 := ⟨S.out.length - 1, by omega⟩
            obtain ⟨e, gg, hl, hqe, hid, hr1, hr2, rfl, hji, x0, x3⟩ := hlast.out q hq
            have hg0 : decide (0 < S.out.length) = true := by rw [decide_eq_true_eq]; omega
            have hLw : IntKind.i64.wrap ((S.out.length : Int) - 1) = (q : Int) := by rw [IntKind.wrap_i64]; omega
            have hqlt : (q : Int) < (S.out.length : Int) := by omega
            obtain ⟨sb, hstr⟩ : ∃ sb, (S.last == mb') = sb := ⟨_, rfl⟩
            have hsb : sb = true ↔ S.last = mb' := by rw [← hstr]; exact beq_iff_eq
            replace hsb := hide hsb
            cases sb with
            | false =>
              obtain rfl : jb = false := by
                have h1 : ¬ S.joins N mb' := fun h => by have := hsb.out.2 (hji.1 h).1; cases this
                cases jb
                · rfl
                · exact absurd (hj.out.1 rfl) h1
              clear x0 x3 hid hr1 hr2 hji hl hqe hlast hsb hq hol
              go_quiet (fail)
              go_wp2
              go_meet
              exact ⟨rfl, _, rfl⟩
            | true =>
              have hsw : IntKind.u64.wrap ((e.id : Int) + (e.run : Int)) = ((e.id + e.run : Nat) : Int) := by rw [IntKind.wrap_u64]; omega
              have hjq : (((e.id + e.run : Nat) : Int) == (N : Int)) = jb := by
                have h1 : jb = true ↔ e.id + e.run = N := by rw [hj.out, hji]; exact ⟨fun h => h.2, fun h => ⟨hsb.out.1 rfl, h⟩⟩
                cases jb
                · have : ¬ (e.id + e.run = N) := fun h => by have := h1.2 h; cases this
                  simp
                  omega
                · have := h1.1 rfl
                  simp
                  omega
              obtain ⟨sm, hsm⟩ : ∃ s, e.id + e.run = s := ⟨_, rfl⟩
              rw [hsm] at hsw hjq
              clear hid hr1 hr2 hji hl hqe hlast hsb hsm hol hq
              go_quiet (fail)
              go_wp2
              go_meet
              exact ⟨rfl, _, rfl⟩
        case rest =>
          obtain ⟨rfl, nq, rfl⟩ := hcut
          obtain ⟨wx, hwx⟩ : ∃ W, W = w5.drewN nq := ⟨_, rfl⟩
          rw [← hwx]
          have bax := hide (show Below w5.heap.size w5 wx from by rw [hwx]; exact ⟨rfl, rfl, rfl, Nat.le_refl _, fun _ _ => rfl⟩)
          have hMx := hide (hM5.out.below bax.out)
          have kx := hide (k5.out.below bax.out k5.out.lt)
          have hrdx := hide (hmr0.out.below hMx.out.bel)
          clear f3 hcv hwx hrd5 k5
          cases jb with
          | true =>
            obtain ⟨q, hq⟩ : ∃ q, S.out.length = q + 1 := by
              obtain ⟨_, e, he, _⟩ := hj.out.1 rfl
              cases ho : S.out with
              | nil => rw [ho] at he; cases he
              | cons x t => exact ⟨t.length, rfl⟩
            obtain ⟨e, gg, hl, hqe, hid, hr1, hr2, rfl, hji, _, x3⟩ := hlast.out q hq
            have hgl : gg < w5.heap.size := (hM5.out.ents.blk_lt gg rfl).2
            have y3 := (bax.out.cell (p := ⟨gg, q * 4 + 3, none⟩) hgl).trans x3
            have hfr : wx.frozen? ⟨gg, q * 4 + 3, none⟩ = false := hMx.out.ents.free _
            have hrw : IntKind.u64.wrap ((e.run : Int) + 1) = ((e.run + 1 : Nat) : Int) := by rw [IntKind.wrap_u64]; omega
            have hput : OwE (wx.setCell ⟨gg, q * 4 + 3, none⟩ (.int .u64 ((e.run + 1 : Nat) : Int))) G (some ⟨gg, 0, none⟩) c7 (S.out.set q { e with run := e.run + 1 }) :=
              hMx.out.ents.put q (by omega) 3 (by omega) (e.run + 1) _ (.inr (.inr (.inr ⟨rfl, by have h := hqe; rw [List.getElem?_eq_getElem (by omega)] at h; injection h with h; rw [h]⟩)))
            obtain ⟨r1, hr1'⟩ : ∃ r, e.run + 1 = r := ⟨_, rfl⟩
            rw [hr1'] at hrw hput
            obtain ⟨wy, hwy⟩ : ∃ W, wx.setCell ⟨gg, q * 4 + 3, none⟩ (.int .u64 (r1 : Int)) = W := ⟨_, rfl⟩
            have hMy := hide (show EnR G w wy (S.out.set q { e with run := r1 }) S.texts (S.texts.map (pkd gz)) (some ⟨gg, 0, none⟩) c7 A8 c8 A9 c9 vs from by
              rw [← hwy]
              exact hMx.out.setEnts hput ((Chg.refl (fun k => blk (some ⟨gg, 0, none⟩) = some k) wx).setCell (p := ⟨gg, q * 4 + 3, none⟩) (.inr rfl) _))
            have hjS := hide (show S.join.out = S.out.set q { e with run := r1 } from by rw [EnS.join_out S e hl, hr1', show S.out.length - 1 = q from by omega])
            have hjl := hide (show S.join.out.length = S.out.length from by rw [hjS.out, List.length_set])
            have hSk := hide (show S.join = EnS.upto (pkd gz) X (k + 1) from by
              rw [EnS.upto, ← hS0.out, EnS.step_join (by rw [hN.out, hmb.out]; exact hj.out.1 rfl)])
            have hLw : IntKind.i64.wrap ((S.out.length : Int) - 1) = (q : Int) := by rw [IntKind.wrap_i64]; omega
            have hqlt : (q : Int) < (S.out.length : Int) := by omega
            clear hput hid hr1 hr2 hji hl hqe hlast hol x3 hgl hq
            go_wp2
            go_roundg gk
            case measure => omega
            case rel => exact ⟨k + 1, S.join, _, c7, A8, c8, A9, c9, vs, by omega, by rw [hjl.out], rfl, rfl, rfl, by rw [hnx.out], hSk, hide (by rw [hjS.out]; exact hMy.out), htx⟩
          | false =>
            have hnj : ¬ S.joins N mb' := fun h => by have := hj.out.2 h; cases this
            have hSk := hide (show S.add (pkd gz) N mb' = EnS.upto (pkd gz) X (k + 1) from by
              rw [EnS.upto, ← hS0.out, EnS.step_add (by rw [hN.out, hmb.out]; exact hnj), hN.out, hmb.out])
            clear hlast hj hnj
            have f3 : wx.cell? ⟨g1, 3, none⟩ = some (.slice mA mn mc) := kx.out.cell 3
            have hcv := str_pk hrdx.out mc
            obtain ⟨M, hMM⟩ : ∃ M, EnS.at S.texts mb' = M := ⟨_, rfl⟩
            obtain ⟨p, hp⟩ : ∃ p, pkd gz mb' = p := ⟨_, rfl⟩
            obtain ⟨P, hP⟩ : ∃ P, p.length = P := ⟨_, rfl⟩
            have hPb : P ≤ 20000000 := by rw [← hP, ← hp]; exact pkd_big gz mb' (by have := hbl.out; have := hmn.out; omega)
            have hMle : M ≤ S.texts.length := by rw [← hMM]; exact idx_le _ _
            have hbef := hide (show ∀ j (hj : j < S.texts.length), j < M → S.texts[j] ≠ mb' from by rw [← hMM]; exact idx_before _ _)
            have hatM := hide (show ∀ h : M < S.texts.length, S.texts[M] = mb' from by subst hMM; exact fun h => idx_at _ _ h)
            have htl := hide (show S.texts.length ≤ 40 from by have := hfit.out.txt; omega)
            have hoffb := hide (show ∀ t, EnS.off (pkd gz) S.texts t ≤ 800000000 from fun t => by
              have h0 := EnS.off_le (pkd gz) S.texts t
              have h1 := EnS.tot_le (pkd gz) 20000000 S.texts (fun t ht => pkd_big gz t (htx.out t ht))
              have h2 := htl.out
              have : 20000000 * S.texts.length ≤ 20000000 * 40 := Nat.mul_le_mul (Nat.le_refl _) h2
              omega)
            have hvl := hide (show vs.length = S.texts.length from by have h := hMx.out.byts.1; rwa [List.length_map] at h)
            have hpk := hide (fun W (hb : Below G w W) => rpacked_own mA mn mc mb' gz W ((hmr0.out.below hb).mono (hsz.out _ hb)) hmc.out hmn.out)
            rw [hp, hP] at hpk
            have hadd := hide (show (S.add (pkd gz) N mb').out = S.out ++ [⟨N, EnS.off (pkd gz) S.texts M, P, 1⟩] ∧ (S.add (pkd gz) N mb').texts = EnS.more S.texts mb' ∧ (S.add (pkd gz) N mb').last = mb' from by
              unfold EnS.add
              rw [hp, hP, hMM]
              exact ⟨rfl, rfl, rfl⟩)
            have hconts := hide (show ∀ t (ht : t < S.texts.length), ∃ g9 va vc, A9 = some ⟨g9, 0, none⟩ ∧ wx.cell? ⟨g9, t, none⟩ = some (.slice va (pkd gz S.texts[t]).length vc) from by
              intro t ht
              have htv : t < vs.length := by rw [hvl.out]; exact ht
              obtain ⟨g9, v, hA, hv, hc, _⟩ := hMx.out.rows.cells t htv 0 (by omega)
              have h1 := (hMx.out.byts.2 t htv (by simpa using ht)).1
              rw [List.getElem_map] at h1 hv
              rw [Nat.mul_one, Nat.add_zero] at hc
              refine ⟨g9, vs[t].A, vs[t].c, hA, ?_⟩
              rw [hc, ← h1]
              cases hv
              rfl)
            have htxts := hide (show ∀ t (ht : t < S.texts.length), ∃ g8 o8, A8 = some ⟨g8, o8, none⟩ ∧ wx.cell? ⟨g8, o8 + t, none⟩ = some (.string ⟨S.texts[t].toArray⟩) from by
              intro t ht
              obtain ⟨g8, o8, hA, _, hc⟩ := hMx.out.txt.rd.at (j := t) (by simpa using ht)
              rw [List.getElem_map] at hc
              exact ⟨g8, o8, hA, hc⟩)
            replace hMM := hide hMM
            clear hol hnw
            go_wp2
            go_loopw [16, 17] (fun s16 s17 wv => ∃ t : Nat, t ≤ M ∧ s16 = .int .i64 (t : Int) ∧ s17 = .int .u64 (EnS.off (pkd gz) S.texts t : Int) ∧ wx = wv) (fun s16 _ _ => M - (intOf s16).toNat)
            case atStart => exact ⟨0, Nat.zero_le _, rfl, by simp [EnS.off], rfl⟩
            case round =>
              obtain ⟨t, ht, rfl, rfl, rfl⟩ := hrel
              obtain ⟨O, hO⟩ : ∃ O, EnS.off (pkd gz) S.texts t = O := ⟨_, rfl⟩
              have hOb : O ≤ 800000000 := by rw [← hO]; exact hoffb.out t
              by_cases htM : t < M
              · have htl2 : t < S.texts.length := by omega
                have htlI : (t : Int) < (S.texts.length : Int) := by omega
                have htvI : (t : Int) < (vs.length : Int) := by have := hvl.out; omega
                obtain ⟨g9, va, vc, rfl, x9⟩ := hconts.out t htl2
                obtain ⟨g8, o8, rfl, x8⟩ := htxts.out t htl2
                have hne0 := hbef.out t htl2 htM
                have hsucc := EnS.off_succ (pkd gz) S.texts t htl2
                have hb2 := hoffb.out (t + 1)
                obtain ⟨tt, htt⟩ : ∃ tt, S.texts[t] = tt := ⟨_, rfl⟩
                rw [htt] at x9 x8 hne0 hsucc
                obtain ⟨vn, hvn⟩ : ∃ vn, (pkd gz tt).length = vn := ⟨_, rfl⟩
                rw [hvn] at x9 hsucc
                rw [hO] at hsucc ⊢
                have hne : (tt == mb') = false := by simpa using hne0
                have hne2 : (tt != mb') = true := by simpa using hne0
                have hvw : IntKind.u64.wrap (vn : Int) = (vn : Int) := by rw [IntKind.wrap_u64]; omega
                have how : IntKind.u64.wrap ((O : Int) + (vn : Int)) = (O : Int) + (vn : Int) := by rw [IntKind.wrap_u64]; omega
                have htw : IntKind.i64.wrap ((t : Int) + 1) = (t : Int) + 1 := by have := htl.out; rw [IntKind.wrap_i64]; omega
                have hrel2 := hide (show Value.int .u64 ((O : Int) + (vn : Int)) = .int .u64 (EnS.off (pkd gz) S.texts (t + 1) : Int) from by rw [hsucc]; simp)
                clear hne0 hsucc hvn htt hb2 hO hOb
                go_wp2
                go_roundw
                case rel => exact ⟨t + 1, by omega, by go_num, hrel2.out, by first | rfl | trivial⟩
                case measure => simp [intOf] <;> omega
              · obtain rfl : t = M := by omega
                rw [hO] at hadd
                rw [hO]
                by_cases hml : t < S.texts.length
                · have htlI : (t : Int) < (S.texts.length : Int) := by omega
                  have htvI : (t : Int) < (vs.length : Int) := by have := hvl.out; omega
                  obtain ⟨g9, va, vc, rfl, x9⟩ := hconts.out t hml
                  obtain ⟨g8, o8, rfl, x8⟩ := htxts.out t hml
                  rw [hatM.out hml] at x8 x9
                  rw [hp, hP] at x9
                  have hmem := hide (idx_mem mb' S.texts (by have := hMM.out; unfold EnS.at at this; omega))
                  have hPw : IntKind.u64.wrap (P : Int) = (P : Int) := by rw [IntKind.wrap_u64]; omega
                  have hteq : ((t : Int) == (S.texts.length : Int)) = false := by simp; omega
                  have hol2 : S.out.length ≤ 1048576 := by have := hfit.out.outs; omega
                  clear hO hOb ht htM hMle
                  go_wp2_with (at_builtin; refine wpList_append_ent wx rfl (.tmp 118) (.tmp 128) rfl rfl hMx.out.ents ⟨N, O, P, 1⟩ _ rfl hol2 hMx.out.gle ?_; intro A7' c7' wq ho hcq _; have hMq := hide (hMx.out.setEnts ho hcq); clear ho hcq x8 x9)
                  go_roundg gk
                  case measure => omega
                  case rel =>
                    have hmore : EnS.more S.texts mb' = S.texts := if_pos hmem.out
                    exact ⟨k + 1, S.add (pkd gz) N mb', A7', c7', _, c8, _, c9, vs, by omega, by rw [hadd.out.1]; simp, by rw [hadd.out.2.1, hmore], rfl, by rw [hadd.out.2.2], by rw [hnx.out], hSk,
                      hide (by rw [hadd.out.1, hadd.out.2.1, hmore]; exact hMq.out), hide (by rw [hadd.out.2.1, hmore]; exact htx.out)⟩
                · obtain rfl : t = S.texts.length := by omega
                  have hnew := hide (show mb' ∉ S.texts from fun h => by have := List.idxOf_lt_length_of_mem h; have h2 := hMM.out; unfold EnS.at at h2; omega)
                  have hPw : IntKind.u64.wrap (P : Int) = (P : Int) := by rw [IntKind.wrap_u64]; omega
                  have hol2 : S.out.length ≤ 1048576 := by have := hfit.out.outs; omega
                  have hvl2 : vs.length ≤ 1048576 := by have := hvl.out; have := htl.out; omega
                  have htx1 := hide (show S.texts.length + 1 ≤ maxLen ∧ (S.texts.length + 1) * 16 ≤ 140737488355328 from by have := htl.out; simp only [maxLen]; omega)
                  have hbnd : (S.texts.length : Int) < (vs.length : Int) + 1 := by have := hvl.out; omega
                  clear hO hOb ht htM hMle hml
                  go_wp2_with (first
                    | (at_builtin; refine wpList_append_one wx rfl (.tmp 107) (.tmp 109) rfl elem_str rfl hMx.out.txt (strV mb') _ _ rfl rfl htx1.out.1 htx1.out.2 hMx.out.gle ?_; intro A8' c8' wA hot hct _; have hMA := hide (hMx.out.addTxt hot hct); have kA := hide (kx.out.chg hct (hMx.out.txt.ne kx.out (by decide))); clear f3 hot hct; have fA : wA.cell? ⟨g1, 3, none⟩ = some (.slice mA mn mc) := kA.out.cell 3; have hpkA := hide (hpk.out wA hMA.out.bel))
                    | (go_at_call 47; (with_reducible refine hpkA.out.mono ?_); rintro e wB ⟨Af, cf, rfl, hof, hbf⟩; have hMB := hide (hMA.out.below hbf); have hbyt := hide (show Byt wB G ⟨Af, P, cf⟩ p from ⟨hP.symm, by
                        rcases hof with ⟨h1, h2, h3⟩ | h1
                        · left
                          rw [h1, h2, h3]
                          exact hmr0.out.below hMB.out.bel
                        · right
                          exact h1.base_le (fun g hg => Nat.le_trans hMA.out.gle (h1.blk_lt g hg).1)⟩); clear fA hof hbf)
                    | (at_builtin; refine wpList_append_row wB rfl (.tmp 111) (.tmp 116) rfl elem_cont rfl hMB.out.rows [Sl.val ⟨Af, P, cf⟩] rfl (by intro u hu; rw [List.mem_singleton.1 hu]; rfl) _ _ rfl hvl2 (by omega) hMB.out.gle ?_; intro A9' c9' wC hor hcr _; have hMC := hide (hMB.out.addRow hor hcr hbyt.out); obtain ⟨g9, v9, rfl, hv9, x9, _⟩ := hor.cells vs.length (by omega) 0 (by omega); rw [Nat.mul_one, Nat.add_zero, hvl.out] at x9; obtain rfl : v9 = .slice Af P cf := (by rw [List.getElem_append_right (by rw [List.length_map]; exact Nat.le_refl _)] at hv9; simp at hv9; exact hv9.symm); clear hv9; replace hor := True.intro; clear hcr)
                    | (at_builtin; refine wpList_append_ent wC rfl (.tmp 118) (.tmp 128) rfl rfl hMC.out.ents ⟨N, O, P, 1⟩ _ rfl hol2 hMC.out.gle ?_; intro A7' c7' wq ho hcq _; have hMq := hide (hMC.out.setEnts ho hcq); clear ho hcq x9))
                  go_roundg gk
                  case measure => omega
                  case rel =>
                    have hmore : EnS.more S.texts mb' = S.texts ++ [mb'] := if_neg hnew.out
                    exact ⟨k + 1, S.add (pkd gz) N mb', A7', c7', A8', c8', some ⟨g9, 0, none⟩, c9', vs ++ [⟨Af, P, cf⟩], by omega, by rw [hadd.out.1]; simp, by rw [hadd.out.2.1, hmore]; simp, by simp, by rw [hadd.out.2.2], by rw [hnx.out], hSk,
                      hide (by rw [hadd.out.1, hadd.out.2.1, hmore, List.map_append, List.map_cons, List.map_nil, hp]; exact hMq.out), hide (by rw [hadd.out.2.1, hmore]; exact fun t ht => (List.mem_append.1 ht).elim (fun h => htx.out t h) (fun h => by rw [List.mem_singleton.1 h]; have := hbl.out; have := hmn.out; omega))⟩
  · have hez : ((er : Int) == 0) = false := by simp; omega
    have hez2 : ((er : Int) != 0) = true := by simp; omega
    clear hle hls
    go_wp2_with (first
      | (go_at_call 82; (with_reducible refine (hri.out w1 b1.out).mono ?_); rintro e w2 ⟨rfl, b2⟩; replace b2 := hide (show Below G w w2 from b1.out.trans (b2.mono (hsz.out _ b1.out))))
      | (go_at_call 82; (with_reducible refine (hri.out _ (Below.refl _ _)).mono ?_); rintro e w1 ⟨rfl, b1⟩; replace b1 := hide (show Below G w w1 from by rw [← hG]; exact b1)))
    go_ret3
    exact REntP.bad b2.out (by omega)

end Go.Proofs.YtaapjampmnanmaaGreat
