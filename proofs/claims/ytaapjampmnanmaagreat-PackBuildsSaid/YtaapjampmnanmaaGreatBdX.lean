/- Layer 14 (pack): slices.Concat of the contents. The conditions: where they lie; not all of them are empty; 100000000 bytes at most. Layer 14 (pack): which archive the entries and contents make: plain law. The conditions: the items are sorted, none is empty or long. Layer 14 (pack): one part of an archive is laid behind the bytes so far. The conditions: where they lie; how many there are. -/
import Derived.Test.YtaapjampmnanmaaGreatPkAt
import Derived.Test.YtaapjampmnanmaaGreatGz
import Derived.Test.YtaapjampmnanmaaGreatBdDirs
import Derived.Test.YtaapjampmnanmaaGreatBdEmpty
import Derived.Test.YtaapjampmnanmaaGreatPkN
namespace Go.Proofs.YtaapjampmnanmaaGreat
open Go.RowKit
set_option linter.unusedVariables false
set_option linter.unusedSimpArgs false

theorem flat_succ (cs : List (List UInt8)) (k : Nat) (hk : k < cs.length) : (cs.take (k + 1)).flatten = (cs.take k).flatten ++ cs[k] := by
  rw [List.take_add_one, List.getElem?_eq_getElem hk, List.flatten_append]
  simp
theorem flat_le (cs : List (List UInt8)) (k : Nat) : (cs.take k).flatten.length ≤ cs.flatten.length := by
  have h : cs.flatten = (cs.take k).flatten ++ (cs.drop k).flatten := by rw [← List.flatten_append, List.take_append_drop]
  rw [h, List.length_append]
  omega
/-- Where the contents lie. -/
def CatAt (w : World) (B : Nat) (A : Option Addr) (cs : List (List UInt8)) : Prop := ∀ k (hk : k < cs.length), ∃ g va vc, A = some ⟨g, 0, none⟩ ∧ g < B ∧ w.cell? ⟨g, k, none⟩ = some (.slice va cs[k].length vc) ∧ Rd w B va cs[k].length (cs[k].map bv)
theorem CatAt.below {w w' : World} {B : Nat} {A : Option Addr} {cs : List (List UInt8)} (h : CatAt w B A cs) (hb : Below B w w') : CatAt w' B A cs := by
  intro k hk
  obtain ⟨g, va, vc, h1, h2, h3, h4⟩ := h k hk
  exact ⟨g, va, vc, h1, h2, (hb.cell (p := ⟨g, k, none⟩) h2).trans h3, h4.below hb⟩
set_option maxRecDepth 100000 in
set_option maxHeartbeats 4000000 in
theorem catn_any (A : Option Addr) (c B : Nat) (cs : List (List UInt8)) (w : World) (hat : CatAt w B A cs) (hB : B ≤ w.heap.size) (hn : cs.length ≤ 40) (h0 : 0 < cs.flatten.length) (hmx : cs.flatten.length ≤ 100000000) :
    Calls Tryz.prog 43 #[.slice A cs.length c] w fun e w' => ∃ A' c', e = .returned (.slice A' cs.flatten.length c') ∧ Ow w' w.heap.size 5 A' cs.flatten.length c' (cs.flatten.map bv) ∧ Below w.heap.size w w' := by
  obtain ⟨G, hG⟩ : ∃ G, w.heap.size = G := ⟨_, rfl⟩
  obtain ⟨T, hT⟩ : ∃ T, cs.flatten.length = T := ⟨_, rfl⟩
  have hpre := hide (show ∀ k, (cs.take k).flatten.length ≤ T from fun k => by rw [← hT]; exact flat_le cs k)
  have hsu := hide (fun k (hk : k < cs.length) => flat_succ cs k hk)
  rw [hT] at h0 hmx ⊢
  have hg := hide (grow_any T w h0 (by omega))
  rw [hG] at hg ⊢
  obtain ⟨n, hl⟩ : ∃ n, cs.length = n := ⟨_, rfl⟩
  have hnI : (n : Int) ≤ 40 := by omega
  rw [hl]
  have hall := hide (show (cs.take n).flatten = cs.flatten from by rw [List.take_of_length_le (by omega)])
  replace hat := hide hat
  replace hl := hide hl
  replace hmx := hide hmx
  replace hT := hide hT
  clear h0 hn
  go_enter Tryz.func43, Tryz.ntmps43
  go_wp2
  go_loopw [3, 11] (fun s3 s11 wr => ∃ k : Nat, k ≤ n ∧ s3 = .int .i64 ((cs.take k).flatten.length : Int) ∧ s11 = .int .i64 (k : Int) ∧ w = wr) (fun _ s11 _ => n - (intOf s11).toNat)
  case atStart => exact ⟨0, Nat.zero_le _, by simp, rfl, rfl⟩
  case round =>
    obtain ⟨k, hk, rfl, rfl, rfl⟩ := hrel
    by_cases hlt : k < n
    · have hkl : k < cs.length := by have := hl.out; omega
      have hkI : (k : Int) < (n : Int) := by omega
      obtain ⟨g, va, vc, rfl, _, e1, r1⟩ := hat.out k hkl
      have h1 := hsu.out k hkl
      have h2 := hpre.out (k + 1)
      have h3 := hmx.out
      obtain ⟨m, hm⟩ : ∃ m, cs[k].length = m := ⟨_, rfl⟩
      rw [hm] at e1
      have h4 : (cs.take (k + 1)).flatten.length = (cs.take k).flatten.length + m := by rw [h1, List.length_append, hm]
      obtain ⟨u, hu⟩ : ∃ u, (cs.take k).flatten.length = u := ⟨_, rfl⟩
      rw [hu] at h4 ⊢
      have hw : IntKind.i64.wrap ((u : Int) + (m : Int)) = ((u + m : Nat) : Int) := by rw [IntKind.wrap_i64]; omega
      have hneg : decide (((u + m : Nat) : Int) < 0) = false := by rw [decide_eq_false_iff_not]; omega
      have hkw : IntKind.i64.wrap ((k : Int) + 1) = ((k + 1 : Nat) : Int) := by rw [IntKind.wrap_i64]; omega
      obtain ⟨um, hum⟩ : ∃ um, u + m = um := ⟨_, rfl⟩
      rw [hum] at hw hneg h4
      have hrel2 := hide (show Value.int .i64 (um : Int) = .int .i64 ((cs.take (k + 1)).flatten.length : Int) from by rw [h4])
      clear h1 h2 h3 h4 hu hm r1 hum
      go_wp2
      go_roundw
      case rel => exact ⟨k + 1, by omega, hrel2.out, by go_num, by first | rfl | trivial⟩
      case measure => simp [intOf] <;> omega
    · obtain rfl : k = n := by omega
      rw [hall.out, hT.out]
      go_wp2_with (go_at_call 81; (with_reducible refine hg.out.mono ?_); rintro e w1 ⟨A3, c3, rfl, o3, b3⟩; replace o3 := hide o3; replace b3 := hide b3)
      go_loopw [6, 27] (fun s6 s27 wr => ∃ (j : Nat) (A6 : Option Addr) (c6 : Nat), j ≤ k ∧ s6 = .slice A6 (cs.take j).flatten.length c6 ∧ s27 = .int .i64 (j : Int) ∧ Hid (Ow wr G 5 A6 (cs.take j).flatten.length c6 ((cs.take j).flatten.map bv)) ∧ Hid (Below G w wr)) (fun _ s27 _ => k - (intOf s27).toNat)
      case atStart => exact ⟨0, A3, c3, Nat.zero_le _, by simp, rfl, hide (by simpa using o3.out), b3⟩
      case round =>
        obtain ⟨j, A6, c6, hj, rfl, rfl, ho, hb⟩ := hrel
        by_cases hlt2 : j < k
        · have hjl : j < cs.length := by have := hl.out; omega
          have hjI : (j : Int) < (k : Int) := by omega
          have hgs := hide (show G ≤ wr.heap.size from by rw [← hG]; exact hb.out.size)
          obtain ⟨g, va, vc, rfl, _, e1, r1⟩ := (hat.out.below (hb.out.mono (by omega))) j hjl
          have h1 := hsu.out j hjl
          have h2 := hpre.out (j + 1)
          have h3 := hmx.out
          have h4 : (cs.take (j + 1)).flatten.length = (cs.take j).flatten.length + cs[j].length := by rw [h1, List.length_append]
          have h5 := hide (show (cs.take j).flatten.length + cs[j].length ≤ maxLen ∧ ((cs.take j).flatten.length + cs[j].length) * 1 ≤ 140737488355328 from by simp only [maxLen]; omega)
          have hjw : IntKind.i64.wrap ((j : Int) + 1) = ((j + 1 : Nat) : Int) := by rw [IntKind.wrap_i64]; omega
          have hr1 := hide r1
          obtain ⟨cj, hcj⟩ : ∃ x, cs[j] = x := ⟨_, rfl⟩
          rw [hcj] at e1 h1 h4 h5 hr1
          replace h1 := hide h1
          replace h4 := hide h4
          clear r1 h2 h3 hcj
          go_wp2_with (at_builtin; refine wpList_append_rd wr rfl (.tmp 31) (.tmp 32) rfl elem_byte rfl ho.out rfl hr1.out (one_bv2 cj) h5.out.1 h5.out.2 hgs.out ?_; intro A4 c4 w4 ho4 hc4 hn4; have b4 := hide (hb.out.trans (hc4.to_below hgs.out (fun i hi => (ho.out.blk_lt i hi).1))); replace ho4 := hide ho4; clear hc4 hn4)
          go_roundw
          case rel => exact ⟨j + 1, A4, c4, by omega, by rw [h4.out]; simp [List.length_flatten], by go_num, hide (by rw [h4.out, h1.out, List.map_append]; exact ho4.out), b4⟩
          case measure => simp [intOf] <;> omega
        · obtain rfl : j = k := by omega
          rw [hall.out, hT.out] at ho
          rw [hall.out, hT.out]
          go_wp2
          go_ret
          exact ⟨A6, c6, rfl, ho.out, hb.out⟩

end Go.Proofs.YtaapjampmnanmaaGreat

namespace Go.Proofs.YtaapjampmnanmaaGreat
open Go.RowKit
set_option linter.unusedVariables false

theorem EnS.texts_ne (pk : List UInt8 → List UInt8) (X : Nat → It) : ∀ k, 0 < k → (EnS.upto pk X k).texts ≠ [] := by
  intro k
  induction k with
  | zero => intro h; exact absurd h (Nat.lt_irrefl 0)
  | succ k ih =>
    intro _
    rw [EnS.upto]
    by_cases hj : (EnS.upto pk X k).joins (X k).id (X k).bs
    · rw [EnS.step_join hj]
      obtain ⟨_, e, he, _⟩ := hj
      refine ih ?_
      rcases Nat.eq_zero_or_pos k with rfl | h
      · simp [EnS.upto] at he
      · exact h
    · rw [EnS.step_add hj]
      show EnS.more _ _ ≠ []
      unfold EnS.more
      split
      · rename_i h
        intro h0
        rw [h0] at h
        cases h
      · simp
theorem flat_tot (pk : List UInt8 → List UInt8) (texts : List (List UInt8)) : (texts.map pk).flatten.length = EnS.tot pk texts := by
  unfold EnS.tot
  induction texts with
  | nil => rfl
  | cons t ts ih => rw [List.map_cons, List.flatten_cons, List.length_append, ih, List.map_cons, List.sum_cons]
/-- What is known of the entries and contents of items without an error. -/
structure OutOk (out : List Ent) (cs : List (List UInt8)) : Prop where
  right : RightE out
  few : out.length ≤ 40
  cfew : cs.length ≤ 40
  pos : 0 < cs.flatten.length
  most : cs.flatten.length ≤ 4000000
theorem out_ok {w : World} {B : Nat} {l : List Im} {d : Im} {X : Nat → It} (gz : Bool) (hE : SortE l 0) (hn : l.length ≤ 40) (hby : ImBy w B l) (hsm : ∀ m ∈ l, m.n ≤ 4000) (hR : St.Rch 0 l.length (itf l d) X) (hS : St.Srt It.id 0 l.length X) :
    OutOk (EnS.upto (pkd gz) X l.length).out ((EnS.upto (pkd gz) X l.length).texts.map (pkd gz)) := by
  have hok := sorted_ok hE rfl
  have hne : l ≠ [] := fun h => by
    have := hE.form hok (.inl h)
    omega
  have hnz : ∀ m ∈ l, m.n ≠ 0 := fun m hm h => by
    have := hE.form hok (.inr (.inl ⟨m, hm, h⟩))
    omega
  have hl0 : 0 < l.length := List.length_pos_iff.2 hne
  have hbs : ∀ j, j < l.length → 1 ≤ (X j).bs.length ∧ (X j).bs.length ≤ 4000 := by
    intro j hj
    obtain ⟨m, hm, he⟩ := sort_mem hR hj
    have h1 := (hby m hm).1.len
    have h2 := hsm m hm
    have h3 := hnz m hm
    rw [he]
    show 1 ≤ m.bs.length ∧ m.bs.length ≤ 4000
    omega
  have hg := EnS.good (pkd gz) X l.length (fun j hj => by
    obtain ⟨m, hm, he⟩ := sort_mem hR hj
    rw [he]
    exact num_le m (hok m hm)) (fun j hj => sort_strict hR hS (sorted_nodup hE rfl) (Nat.lt_succ_self j) hj) (fun j hj => ⟨pkd_pos gz _ (hbs j hj).1, pkd_len gz _ (hbs j hj).2⟩) l.length (Nat.le_refl _)
  have hf := hg.few
  have ht := hg.txt
  refine ⟨hg.right hn (EnS.upto_ne _ _ _ hl0), by omega, by rw [List.length_map]; omega, ?_, ?_⟩
  · have hx := EnS.texts_ne (pkd gz) X l.length hl0
    rw [flat_tot]
    have hmem : ∀ k, ∀ t ∈ (EnS.upto (pkd gz) X k).texts, k ≤ l.length → 1 ≤ t.length := by
      intro k
      induction k with
      | zero => intro t h; simp [EnS.upto] at h
      | succ k ih =>
        intro t h hk
        rw [EnS.upto] at h
        by_cases hj : (EnS.upto (pkd gz) X k).joins (X k).id (X k).bs
        · rw [EnS.step_join hj] at h
          exact ih t h (by omega)
        · rw [EnS.step_add hj] at h
          have h' : t ∈ EnS.more (EnS.upto (pkd gz) X k).texts (X k).bs := h
          unfold EnS.more at h'
          split at h'
          · exact ih t h' (by omega)
          · rcases List.mem_append.1 h' with h1 | h1
            · exact ih t h1 (by omega)
            · rw [List.mem_singleton.1 h1]
              exact (hbs k (by omega)).1
    generalize hT : (EnS.upto (pkd gz) X l.length).texts = T at *
    cases T with
    | nil => exact absurd rfl hx
    | cons t ts =>
      have h1 := pkd_pos gz t (hmem l.length t (by rw [hT]; simp) (Nat.le_refl _))
      unfold EnS.tot
      rw [List.map_cons, List.sum_cons]
      omega
  · rw [flat_tot]
    have h1 := EnS.tot_le (pkd gz) 100000 _ hg.tx
    have : 100000 * (EnS.upto (pkd gz) X l.length).texts.length ≤ 100000 * 40 := Nat.mul_le_mul (Nat.le_refl _) (by omega)
    omega
/-- The header of an archive. -/
def bdHd (q : Sp) (nl no nc r m l d : Nat) : Hd := { emptyH q with r0 := 127, r1 := r, m0 := 127 + r, m1 := m, l0 := 127 + r + m, l1 := l, d0 := 127 + r + m + l, d1 := d, c0 := nl, c1 := no, c2 := nc }
noncomputable def bdHead (q : Sp) (nl : Nat) (out : List Ent) (cs : List (List UInt8)) : Hd :=
  bdHd q nl out.length cs.length (dRoot q.gz q.leaf out).length (pkd q.gz q.mtx).length (dLeaf q.gz q.leaf out).length cs.flatten.length
noncomputable def bdLen (q : Sp) (out : List Ent) (cs : List (List UInt8)) : Nat := 127 + (dRoot q.gz q.leaf out).length + (pkd q.gz q.mtx).length + (dLeaf q.gz q.leaf out).length + cs.flatten.length
/-- The archive, and the error; er: the items' error, r: the header's error. -/
noncomputable def bdOut (q : Sp) (nl : Nat) (out : List Ent) (cs : List (List UInt8)) (er : Nat) (r : Int) : List UInt8 × Int :=
  if er ≠ 0 then ([], (er : Int)) else if 1048576 < q.mtx.length then ([], 5) else if 4194304 < bdLen q out cs then ([], 5) else if r ≠ 0 then ([], r)
  else (headB (bdHead q nl out cs) ++ dRoot q.gz q.leaf out ++ pkd q.gz q.mtx ++ dLeaf q.gz q.leaf out ++ cs.flatten, 0)
/-- What Build returns. -/
def UBd (G : Nat) (w : World) (o : List UInt8 × Int) (e : Ending) (w' : World) : Prop :=
  ∃ A c, e = .returned (.tuple #[.slice A o.1.length c, .int .i64 o.2]) ∧ Rd w' w'.heap.size A o.1.length (o.1.map bv) ∧ Below G w w'

end Go.Proofs.YtaapjampmnanmaaGreat

namespace Go.Proofs.YtaapjampmnanmaaGreat
open Go.RowKit
set_option linter.unusedVariables false
set_option linter.unusedSimpArgs false

/-- What a part's call leaves. -/
def PartP (gb base : Nat) (bs ds : List UInt8) (Ab : Option Addr) (w : World) (e : Ending) (w' : World) : Prop :=
  e = .returned (.agg #[.int .u64 (bs.length : Int), .int .u64 (ds.length : Int)]) ∧ ∃ Ab' cb', Blk w' gb 22 #[.slice Ab' (bs.length + ds.length) cb'] ∧ Ow w' base 5 Ab' (bs.length + ds.length) cb' ((bs ++ ds).map bv) ∧ Chg (fun k => k = gb ∨ blk Ab = some k) w w'
set_option maxRecDepth 100000 in
set_option maxHeartbeats 2000000 in
theorem dpart_any (gb base : Nat) (Ab : Option Addr) (cb : Nat) (bs ds : List UInt8) (A : Option Addr) (c B : Nat) (w : World) (hk : Blk w gb 22 #[.slice Ab bs.length cb]) (ho : Ow w base 5 Ab bs.length cb (bs.map bv)) (hbase : base ≤ w.heap.size) (hr : Rd w B A ds.length (ds.map bv)) (hn : bs.length + ds.length ≤ 100000000) :
    Calls Tryz.prog 41 #[.slice A ds.length c, .pointer (some ⟨gb, 0, none⟩)] w (PartP gb base bs ds Ab w) := by
  obtain ⟨G, hG⟩ : ∃ G, w.heap.size = G := ⟨_, rfl⟩
  obtain ⟨w1, hw1⟩ : ∃ W, w.alloc (.cells #[.int .u64 0, .int .u64 0] 25) = W := ⟨_, rfl⟩
  obtain ⟨m, hm⟩ : ∃ m, bs.length = m := ⟨_, rfl⟩
  obtain ⟨n, hd⟩ : ∃ n, ds.length = n := ⟨_, rfl⟩
  unfold PartP
  rw [hm] at hk ho hn ⊢
  rw [hd] at hr hn ⊢
  have b1 := hide (show Below w.heap.size w w1 from by rw [← hw1]; exact (Below.refl _ w).alloc (Nat.le_refl _) _)
  have kr := hide (show Blk w1 G 25 #[.int .u64 0, .int .u64 0] from by rw [← hw1, ← hG]; exact Blk.new w _ _)
  have k1 := hide (hk.below b1.out hk.lt)
  have o1 := hide (ho.below b1.out)
  have r1 : Hid (Rd w1 w1.heap.size A n (ds.map bv)) := hide (by
    have h := hr.len
    refine ⟨hr.1, fun j hj => ?_⟩
    obtain ⟨b, o, e, hb, hc⟩ := hr.2 j hj
    have hl : j < (ds.map bv).length := by rw [hr.1]; exact hj
    rw [List.getElem?_eq_getElem hl] at hc ⊢
    have hb' : b < w.heap.size := World.block_lt_of_cell? w _ hc
    exact ⟨b, o, e, Nat.lt_of_lt_of_le hb' b1.out.size, (b1.out.cell (p := ⟨b, o + j, none⟩) hb').trans hc⟩)
  have e0 : w1.cell? ⟨gb, 0, none⟩ = some (.slice Ab m cb) := k1.out.cell 0
  have hne := hide (show blk Ab ≠ some gb from o1.out.ne k1.out (by decide))
  have hner := hide (show blk Ab ≠ some G from o1.out.ne kr.out (by decide))
  have hgr := hide (show gb < G from by rw [← hG]; exact hk.lt)
  have hbd := hide (show m + n ≤ maxLen ∧ (m + n) * 1 ≤ 140737488355328 from by simp only [maxLen]; omega)
  have hb1 := hide (show base ≤ w1.heap.size from Nat.le_trans hbase b1.out.size)
  have hmw : IntKind.u64.wrap (m : Int) = (m : Int) := by rw [IntKind.wrap_u64]; omega
  have hnw : IntKind.u64.wrap (n : Int) = (n : Int) := by rw [IntKind.wrap_u64]; omega
  replace hn := hide hn
  clear hk ho hr hbase hm hd
  go_enter Tryz.func41, Tryz.ntmps41
  go_upto_region 2 with fail
  go_upto_region 3 with (at_builtin; refine wpList_append_rd w1 rfl (.tmp 8) (.tmp 9) rfl elem_byte rfl o1.out rfl r1.out (one_bv2 ds) hbd.out.1 hbd.out.2 hb1.out ?_; intro A2 c2 w2 o2 hc2 hn2; have k2 := hide (k1.out.chg hc2 (fun h => hne.out h)); have kr2 := hide (kr.out.chg hc2 (fun h => hner.out h)); have f0 : w2.cell? ⟨gb, 0, none⟩ = some (.slice Ab m cb) := k2.out.cell 0; have ff : w2.frozen? ⟨gb, 0, none⟩ = false := k2.out.free 0; replace o2 := hide o2; replace hc2 := hide hc2)
  have hne2 := hide (show blk A2 ≠ some gb from o2.out.ne k2.out (by decide))
  have hne3 := hide (show blk A2 ≠ some G from o2.out.ne kr2.out (by decide))
  obtain ⟨w3, hw3⟩ : ∃ W, w2.setCell ⟨gb, 0, none⟩ (.slice A2 (m + n) c2) = W := ⟨_, rfl⟩
  rw [hw3]
  have k3 := hide (show Blk w3 gb 22 #[.slice A2 (m + n) c2] from by rw [← hw3]; exact k2.out.set 0 _)
  have kr3 := hide (show Blk w3 G 25 #[.int .u64 0, .int .u64 0] from by rw [← hw3]; exact kr2.out.far (p := ⟨gb, 0, none⟩) (show G ≠ gb by have := hgr.out; omega) _)
  have hc3 := hide (show Chg (fun k => k = gb) w2 w3 from by rw [← hw3]; exact (Chg.refl (fun k => k = gb) w2).setCell (p := ⟨gb, 0, none⟩) (.inr rfl) _)
  have o3 := hide (o2.out.chg hc3.out (fun g hg e => hne2.out (by rw [hg, e])))
  obtain ⟨w4, hw4⟩ : ∃ W, w3.setRow G #[.int .u64 (m : Int), .int .u64 (n : Int)] = W := ⟨_, rfl⟩
  have kr4 := hide (show Blk w4 G 25 #[.int .u64 (m : Int), .int .u64 (n : Int)] from by rw [← hw4]; exact kr3.out.row _)
  have hc4 := hide (show Chg (fun k => k = G) w3 w4 from by rw [← hw4]; exact (Chg.refl (fun k => k = G) w3).setRow (.inr rfl) _)
  have o4 := hide (o3.out.chg hc4.out (fun g hg e => hne3.out (by rw [hg, e])))
  have k4 := hide (k3.out.chg hc4.out (show gb ≠ G by have := hgr.out; omega))
  have hall := hide (show Chg (fun k => k = gb ∨ blk Ab = some k) w w4 from by
    have h1 : Chg (fun k => k = gb ∨ blk Ab = some k) w w1 := ⟨b1.out.os, b1.out.tape, b1.out.output, b1.out.size, fun k hl _ => b1.out.block k hl⟩
    have h2 := h1.trans (hc2.out) (fun k _ h => .inr h)
    have h3 := h2.trans hc3.out (fun k _ h => .inl h)
    exact ⟨hc4.out.os.trans h3.os, hc4.out.tape.trans h3.tape, hc4.out.output.trans h3.output, Nat.le_trans h3.size hc4.out.size, fun k hl hn => (hc4.out.block k (Nat.lt_of_lt_of_le hl h3.size) (by rw [← hG]; omega)).trans (h3.block k hl hn)⟩)
  go_wp2_with ((with_reducible refine wpList_store_row (o := ⟨none, .store 25 (.tmp 3) (.tmp 15), _, _, _, _⟩) rfl 25 (.tmp 3) (.tmp 15) rfl G #[.int .u64 (m : Int), .int .u64 (n : Int)] rfl rfl 25 _ kr3.out.eq (by kernel_rfl) rfl (by simp [Value.oneCell']) ?_); rw [hw4])
  refine bodyPost_ret_by (results_cell_row rfl _ _ G 25 #[.int .u64 (m : Int), .int .u64 (n : Int)] (0, 0) _ rfl kr4.out.eq Tryz.underlying25 rfl (by kernel_rfl)) rfl ⟨rfl, A2, c2, k4.out, ?_, hall.out⟩
  rw [List.map_append]
  exact o4.out

end Go.Proofs.YtaapjampmnanmaaGreat
