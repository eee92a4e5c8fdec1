/- Layer 14 (pack): Build of the reference. The conditions: where the items lie; at most 40 items; how long items and metadata are. -/
import Derived.Test.YtaapjampmnanmaaGreatDirX
import Derived.Test.YtaapjampmnanmaaGreatBdBuild
import Derived.Deep.DeepCutAuto
namespace Go.Proofs.YtaapjampmnanmaaGreat
open Go.RowKit
set_option linter.unusedVariables false
set_option linter.unusedSimpArgs false

/-- The entries that stand in the root. -/
noncomputable def dTop (gz : Bool) (leaf : Int) (es : List Ent) : List Ent := if leaf < 1 ∨ (es.length : Int) ≤ leaf then es else topsL (pkd gz) (chks leaf es) (chks leaf es).length
theorem dRoot_top (gz : Bool) (leaf : Int) (es : List Ent) : dRoot gz leaf es = pkd gz (putB (dTop gz leaf es)) := by
  unfold dRoot dTop
  split <;> rfl
theorem dTop_right (gz : Bool) (leaf : Int) (es : List Ent) (hR : RightE es) (hn : es.length ≤ 40) : RightE (dTop gz leaf es) ∧ (dTop gz leaf es).length ≤ 40 := by
  unfold dTop
  split
  · exact ⟨hR, hn⟩
  · rename_i h
    have hcl : chks leaf es = chk leaf.toNat es.length es := by
      unfold chks
      rw [if_neg (by omega)]
    rw [hcl]
    have ht := tops_right gz es hR hn leaf.toNat (by omega)
    refine ⟨ht.1, ?_⟩
    unfold topsL
    rw [List.length_map, List.length_range]
    exact ht.2
set_option maxRecDepth 100000 in
set_option maxHeartbeats 8000000 in
theorem rbuild_any (A : Option Addr) (c : Nat) (l : List Im) (q : Sp) (w : World) (hr : RdIm w w.heap.size A l) (hn : l.length ≤ 40) (d : Im) (er : Nat) (hE : SortE l er) (her : er ≤ 8) (hby : er = 0 → ImBy w w.heap.size l)
    (hsm : er = 0 → q.mtx.length ≤ 1048576 → q.mtx.length ≤ 4000 ∧ ∀ m ∈ l, m.n ≤ 4000) (hI : q.leaf ≤ 9223372036854775807) (hml : q.mtx.length ≤ 9223372036854775807)
    (X : Nat → It) (out : List Ent) (cs : List (List UInt8)) (r : Int) (hX : er = 0 → St.Rch 0 l.length (itf l d) X ∧ St.Srt It.id 0 l.length X) (h0 : er = 0 → out = (EnS.upto (pkd q.gz) X l.length).out ∧ cs = (EnS.upto (pkd q.gz) X l.length).texts.map (pkd q.gz)) (h1 : er ≠ 0 → out = [] ∧ cs = [])
    (hRr : RightR (bdHead q l.length out cs) (bdLen q out cs : Int) r) :
    Calls Tryz.prog 22 #[.slice A l.length c, q.val] w (UBd w.heap.size w (bdOut q l.length out cs er r)) := by
  obtain ⟨G, hG⟩ : ∃ G, w.heap.size = G := ⟨_, rfl⟩
  obtain ⟨w1, hw1⟩ : ∃ W, w.alloc (.cells q.cells 61) = W := ⟨_, rfl⟩
  have k1 := hide (show Blk w1 G 61 q.cells from by rw [← hw1, ← hG]; exact Blk.new w _ _)
  have b1 := hide (show Below G w w1 from by rw [← hw1, ← hG]; exact (Below.refl _ w).alloc (Nat.le_refl _) _)
  have hs1 := hide (show w1.heap.size = G + 1 from by rw [← hw1]; simp [hG])
  rw [hG] at hr hby
  have hr1 := hide (show RdIm w1 w1.heap.size A l from (hr.below b1.out).mono (by have := hs1.out; omega))
  have hby1 := hide (fun (h0 : er = 0) => show ImBy w1 w1.heap.size l from fun m hm => by
    obtain ⟨h1, h2, h3⟩ := hby h0 m hm
    exact ⟨(h1.below b1.out).mono (by have := hs1.out; omega), h2, h3⟩)
  have e0 : w1.cell? ⟨G, 0, none⟩ = some (.bool q.gz) := k1.out.cell 0
  have hen := hide (rentries_any A c l q.gz w1 hr1.out hn d er hE hby1.out her X hX)
  have hsp := info_sp q
  have hqv : q.val = .agg q.cells := rfl
  obtain ⟨n, hl⟩ : ∃ n, l.length = n := ⟨_, rfl⟩
  rw [hl] at hen
  rw [hl, hqv, hG]
  have hmI : (q.mtx.length : Int) ≤ 9223372036854775807 := by omega
  rw [hl] at hRr
  replace hE := hide hE
  replace hsm := hide hsm
  replace hn := hide hn
  replace hl := hide hl
  replace hml := hide hml
  replace hsp := hide hsp
  replace hX := hide hX
  replace h0 := hide h0
  replace h1 := hide h1
  replace hRr := hide hRr
  clear hr hby hr1
  go_enter Tryz.func22, Tryz.ntmps22
  rcases Nat.eq_zero_or_pos er with rfl | hep
  · replace hby1 := hide (hby1.out rfl)
    obtain ⟨hR, hS⟩ := hX.out rfl
    obtain ⟨hout, hcs⟩ := h0.out rfl
    replace hout := hide hout
    replace hcs := hide hcs
    go_upto_region 2 with (go_at_call 44; (with_reducible refine hen.out.mono ?_); rintro e w2 ⟨b2, ⟨he, _⟩ | ⟨_, A9, c9, A10, c10, vs, rfl, ho, hro, hbt⟩⟩; (exact absurd rfl he); rw [← hout.out] at ho ⊢; rw [← hcs.out] at hbt; replace ho := hide ho; replace hro := hide hro; replace hbt := hide hbt; replace b2 := hide b2)
    have hs12 := hide (show w1.heap.size ≤ w2.heap.size from b2.out.size)
    have bG2 := hide (show Below G w w2 from b1.out.trans (b2.out.mono (by have := hs1.out; omega)))
    have k2 := hide (k1.out.below b2.out k1.out.lt)
    have f11 : w2.cell? ⟨G, 11, none⟩ = some (.string ⟨q.mtx.toArray⟩) := k2.out.cell 11
    have hvl := hide (show vs.length = cs.length from hbt.out.1)
    rw [hvl.out]
    by_cases hbig : 1048576 < q.mtx.length
    · have hbd : decide ((1048576 : Int) < (q.mtx.length : Int)) = true := by rw [decide_eq_true_eq]; omega
      have hfin := hide (show UBd G w (bdOut q n out cs 0 r) (.returned (.tuple #[.slice none 0 0, .int .i64 5])) w2 from by
        have ho : bdOut q n out cs 0 r = ([], 5) := by unfold bdOut; rw [if_neg (by simp), if_pos hbig]
        exact ⟨none, 0, by rw [ho]; rfl, by rw [ho]; exact ⟨rfl, fun j h => absurd h (Nat.not_lt_zero _)⟩, bG2.out⟩)
      clear hbig
      go_wp2
      go_ret2
      exact hfin.out
    · have hbd : decide ((1048576 : Int) < (q.mtx.length : Int)) = false := by rw [decide_eq_false_iff_not]; omega
      obtain ⟨hM4, hl4⟩ := hsm.out (by first | rfl | trivial) (by omega)
      have hok := out_ok q.gz hE.out hn.out hby1.out hl4 hR hS
      rw [← hout.out, ← hcs.out] at hok
      have hRf := dRoot_few q.gz q.leaf out hok.few
      have hLf := dLeaf_few q.gz q.leaf out hok.few
      have hPf := pkd_len q.gz q.mtx hM4
      have hDf := hok.most
      have hoR := hide hok.right
      have hcf := hide hok.cfew
      have hof := hide hok.few
      have htop := hide (dTop_right q.gz q.leaf out hok.right hok.few)
      have hM4' := hide hM4
      clear hl4 hok
      replace hbig := hide hbig
      obtain ⟨T, hT⟩ : ∃ x, dTop q.gz q.leaf out = x := ⟨_, rfl⟩
      obtain ⟨Lv, hL0⟩ : ∃ x, dLeaf q.gz q.leaf out = x := ⟨_, rfl⟩
      rw [hT] at htop
      obtain ⟨G2, hG2⟩ : ∃ x, w2.heap.size = x := ⟨_, rfl⟩
      have hGs := hide (show G < G2 from by have := hs12.out; have := hs1.out; omega)
      go_upto_region 7 with fail
      iterate 8 go_step
      go_cut [9, 10] (fun s9 s10 wx => ∃ (A7 : Option Addr) (c7 : Nat) (A5 : Option Addr) (c5 : Nat), s9 = .slice A7 T.length c7 ∧ s10 = .slice A5 Lv.length c5 ∧ Hid (RdE wx wx.heap.size A7 T) ∧ Hid (Rd wx wx.heap.size A5 Lv.length (Lv.map bv)) ∧ Hid (Below G2 w2 wx))
      case first =>
        have f1 : w2.cell? ⟨G, 1, none⟩ = some (.int .i64 q.leaf) := k2.out.cell 1
        obtain ⟨v1, hv1⟩ : ∃ v, decide (0 < q.leaf) = v := ⟨_, rfl⟩
        obtain ⟨v2, hv2⟩ : ∃ v, decide (q.leaf < (out.length : Int)) = v := ⟨_, rfl⟩
        by_cases hflat : q.leaf < 1 ∨ (out.length : Int) ≤ q.leaf
        · have hTo := hide (show T = out ∧ Lv = [] from ⟨by rw [← hT]; exact if_pos hflat, by rw [← hL0]; exact if_pos hflat⟩)
          have hcase : v1 = false ∨ (v1 = true ∧ v2 = false) := by
            rw [← hv1, ← hv2, decide_eq_false_iff_not, decide_eq_false_iff_not, decide_eq_true_eq]
            omega
          have hend := hide (show Hid (RdE w2 w2.heap.size A9 T) ∧ Hid (Rd w2 w2.heap.size none Lv.length (Lv.map bv)) ∧ Hid (Below G2 w2 w2) from ⟨hide (by rw [hTo.out.1]; exact ho.out.rd), hide (by rw [hTo.out.2]; exact ⟨rfl, fun j h => absurd h (Nat.not_lt_zero _)⟩), hide (Below.refl _ _)⟩)
          have hTl := hide (show T.length = out.length ∧ Lv.length = 0 from by rw [hTo.out.1, hTo.out.2]; exact ⟨rfl, rfl⟩)
          rcases hcase with rfl | ⟨rfl, rfl⟩
          all_goals go_wp2
          all_goals go_meet
          all_goals exact ⟨A9, c9, none, 0, by rw [hTl.out.1], by rw [hTl.out.2], hend.out.1, hend.out.2.1, hend.out.2.2⟩
        · obtain rfl : v1 = true := by rw [← hv1, decide_eq_true_eq]; omega
          obtain rfl : v2 = true := by rw [← hv2, decide_eq_true_eq]; omega
          obtain ⟨ps, hps⟩ : ∃ x, chks q.leaf out = x := ⟨_, rfl⟩
          have hTo := hide (show T = topsL (pkd q.gz) ps ps.length ∧ Lv = leavesB (pkd q.gz) ps ps.length from by
            constructor
            · rw [← hT, ← hps]; exact if_neg hflat
            · rw [← hL0, ← hps]; exact if_neg hflat)
          have hpR := hide (show (∀ p ∈ ps, RightE p ∧ p.length ≤ 40) ∧ ps.length ≤ 40 from by
            have h1 := chks_few q.leaf out hof.out (fun h => hflat (.inl h))
            rw [hps] at h1
            have hcl : ps = chk q.leaf.toNat out.length out := by
              rw [← hps]
              unfold chks
              rw [if_neg (fun h => hflat (.inl h))]
            refine ⟨fun p hp => ⟨?_, h1.1 p hp⟩, h1.2⟩
            rw [hcl] at hp
            exact chk_right q.leaf.toNat (by omega) out.length out (.inr hoR.out) p hp)
          have hlv := rleaves_any A9 c9 out q.leaf w2 ho.out.rd (owe_cap ho.out) (by have := hof.out; omega) hI
          rw [hps] at hlv
          replace hlv := hide hlv
          clear hflat
          go_upto_region 11 with (go_at_call 45; (with_reducible refine hlv.out.mono ?_); rintro e w3 ⟨A3, c3, us, rfl, hor, hrc, hb3⟩; have hs23 := hide (show G2 ≤ w3.heap.size from by rw [← hG2]; exact hb3.size); have k3 := hide (k2.out.below hb3 k2.out.lt); have b3 := hide (show Below G2 w2 w3 from by rw [← hG2]; exact hb3); replace hor := hide hor; replace hrc := hide hrc; clear hb3)
          rw [hG2] at hrc
          obtain ⟨V, hV⟩ : ∃ V, us.length = V := ⟨_, rfl⟩
          have hVp := hide (show ps.length = V ∧ V ≤ 40 from by have := hrc.out.1; have := hpR.out.2; omega)
          rw [hV]
          obtain ⟨G3, hG3⟩ : ∃ x, w3.heap.size = x := ⟨_, rfl⟩
          clear f1 hv1 hv2
          go_wp2
          go_loopw [9, 10, 12] (fun s9 s10 s12 wr => ∃ (j : Nat) (A5 : Option Addr) (c5 : Nat) (A8 : Option Addr) (c8 : Nat), j ≤ V ∧ s12 = .int .i64 (j : Int) ∧ s10 = .slice A5 (leavesB (pkd q.gz) ps j).length c5 ∧ s9 = .slice A8 (topsL (pkd q.gz) ps j).length c8 ∧
            Hid (Ow wr G3 5 A5 (leavesB (pkd q.gz) ps j).length c5 ((leavesB (pkd q.gz) ps j).map bv)) ∧ Hid (OwE wr G3 A8 c8 (topsL (pkd q.gz) ps j)) ∧ Hid (Below G3 w3 wr)) (fun _ _ s12 _ => V - (intOf s12).toNat)
          case atStart => exact ⟨0, none, 0, none, 0, Nat.zero_le _, rfl, by simp [leavesB], by simp [topsL], hide (by simp only [leavesB, List.take_zero, List.map_nil, List.flatten_nil, List.length_nil]; exact Ow.nil _ _ _), hide (by simp only [topsL, List.range_zero, List.map_nil]; exact OwE.nil _ _), hide (Below.refl _ _)⟩
          case round =>
            obtain ⟨j, A5, c5, A8, c8, hj, rfl, rfl, rfl, ho5, ho8, hB⟩ := hrel
            have hB3 := hide (show Below w3.heap.size w3 wr from by rw [hG3]; exact hB.out)
            have hsr := hide (show G3 ≤ wr.heap.size from by rw [← hG3]; exact hB3.out.size)
            have hG23 := hide (show G2 ≤ G3 from by rw [← hG3]; exact hs23.out)
            by_cases hlt : j < V
            · have hjp : j < ps.length := by have := hVp.out; omega
              have hjI : (j : Int) < (V : Int) := by omega
              obtain ⟨gp, va, vc, rfl, x1, r1⟩ := parts_at (hor.out.below hB3.out) (hrc.out.below (hB3.out.mono (by rw [hG3]; exact hG23.out))) j (by omega) hjp
              obtain ⟨hRp, hlp⟩ := hpR.out.1 _ (List.getElem_mem hjp)
              have hlb := leavesB_len q.gz ps (fun p hp => (hpR.out.1 p hp).2) j (by omega)
              have hls := leavesB_succ (pkd q.gz) ps j hjp
              have hts := topsL_succ (pkd q.gz) ps j
              have htE : topE (pkd q.gz) ps j = ⟨(ps[j].headD ⟨0, 0, 0, 0⟩).id, (leavesB (pkd q.gz) ps j).length, (pkd q.gz (putB ps[j])).length, 0⟩ := by
                unfold topE leavesB
                rw [List.getD_eq_getElem?_getD, List.getElem?_eq_getElem hjp]
                rfl
              obtain ⟨p, hp⟩ : ∃ p, ps[j] = p := ⟨_, rfl⟩
              rw [hp] at x1 r1 hRp hlp hls htE
              have hp1 := hRp.1
              obtain ⟨bb, oo, rfl, hbb, yy0, _, _, _⟩ := r1 0 (by omega)
              have hid0 : (p.headD ⟨0, 0, 0, 0⟩).id = (p[0]'(by omega)).id := by rw [List.headD_eq_head?_getD, List.head?_eq_getElem?, List.getElem?_eq_getElem (by omega)]; rfl
              obtain ⟨id0, hid⟩ : ∃ x, (p[0]'(by omega)).id = x := ⟨_, rfl⟩
              rw [hid] at yy0 hid0
              rw [hid0] at htE
              have hpk2 := pkd_put q.gz p hlp
              have hfew := putB_few p
              have hdr := hide (refdright_any (some ⟨bb, oo, none⟩) vc p wr G2 r1 (Nat.le_trans hG23.out hsr.out) (right_big hRp) (by simp only [maxLen]; omega) true ⟨fun _ => rfl, fun _ => hRp⟩)
              obtain ⟨va, hva⟩ : ∃ x : Option Addr, some ⟨bb, oo, none⟩ = x := ⟨_, rfl⟩
              rw [hva] at x1 r1 hdr
              have hput0 := fun (W : World) (hb : Below wr.heap.size wr W) => rput_ok va vc p W G2 (r1.below (hb.mono (Nat.le_trans hG23.out hsr.out))) (Nat.le_trans (Nat.le_trans hG23.out hsr.out) hb.size) (by omega) hRp
              obtain ⟨pp, hpp⟩ : ∃ x, putB p = x := ⟨_, rfl⟩
              rw [hpp] at hput0 hfew hpk2 hls htE
              obtain ⟨PP, hPP⟩ : ∃ x, pp.length = x := ⟨_, rfl⟩
              rw [hPP] at hput0 hfew
              have hpkk0 := fun (W : World) (A' : Option Addr) (c' : Nat) (h : Rd W W.heap.size A' PP (pp.map bv)) (hc : PP ≤ c') => rpacked_own A' PP c' pp q.gz W h hc (by omega)
              obtain ⟨pb, hpb⟩ : ∃ x, pkd q.gz pp = x := ⟨_, rfl⟩
              rw [hpb] at hpkk0 hpk2 hls htE
              obtain ⟨K2, hK⟩ : ∃ K, pb.length = K := ⟨_, rfl⟩
              rw [hK] at hpkk0 hpk2 htE
              obtain ⟨O, hO⟩ : ∃ O, (leavesB (pkd q.gz) ps j).length = O := ⟨_, rfl⟩
              rw [hO] at hlb htE ho5 ⊢
              have hOb : O ≤ 4000000 := by have := hVp.out.2; omega
              obtain ⟨L, hL⟩ : ∃ L, p.length = L := ⟨_, rfl⟩
              rw [hL] at x1 hdr hput0 hp1
              have hput := hide (show ∀ W, Grw wr W → _ from fun W hW => hput0 W hW)
              have hpkk := hide hpkk0
              have hL0' : (0 : Int) < (L : Int) := by omega
              have hOw : IntKind.u64.wrap (O : Int) = (O : Int) := by rw [IntKind.wrap_u64]; omega
              have hKw : IntKind.u64.wrap (K2 : Int) = (K2 : Int) := by rw [IntKind.wrap_u64]; omega
              have hjw : IntKind.i64.wrap ((j : Int) + 1) = ((j + 1 : Nat) : Int) := by have := hVp.out.2; rw [IntKind.wrap_i64]; omega
              have hbd := hide (show O + K2 ≤ maxLen ∧ (O + K2) * 1 ≤ 140737488355328 from by simp only [maxLen]; omega)
              have htl : (topsL (pkd q.gz) ps j).length = j := by unfold topsL; simp
              have htl2 := hide (show (topsL (pkd q.gz) ps j).length ≤ 1048576 from by have := hVp.out.2; omega)
              have hls2 := hide (show leavesB (pkd q.gz) ps (j + 1) = leavesB (pkd q.gz) ps j ++ pb ∧ (leavesB (pkd q.gz) ps (j + 1)).length = O + K2 from ⟨hls, by rw [hls, List.length_append, hO, hK]⟩)
              have hts2 := hide (show topsL (pkd q.gz) ps (j + 1) = topsL (pkd q.gz) ps j ++ [⟨id0, O, K2, 0⟩] from by rw [hts, htE])
              replace hO := hide hO
              have hgpl : gp < wr.heap.size := World.block_lt_of_cell? wr _ x1
              have hGr : G < wr.heap.size := by have := hGs.out; have := hG23.out; have := hsr.out; omega
              have e0r : wr.cell? ⟨G, 0, none⟩ = some (.bool q.gz) := (hB.out.cell (p := ⟨G, 0, none⟩) (show G < G3 by have := hGs.out; have := hG23.out; omega)).trans (k3.out.cell 0)
              have hxW := hide (show ∀ W, Grw wr W → W.cell? ⟨gp, j, none⟩ = some (.slice va L vc) ∧ W.cell? ⟨G, 0, none⟩ = some (.bool q.gz) from fun W hW => ⟨(hW.out.cell (p := ⟨gp, j, none⟩) hgpl).trans x1, (hW.out.cell (p := ⟨G, 0, none⟩) hGr).trans e0r⟩)
              replace r1 := hide r1
              replace hva := hide hva
              rw [Nat.zero_mul, Nat.add_zero] at yy0
              have hbbl := hide (show bb < wr.heap.size from Nat.lt_of_lt_of_le hbb (Nat.le_trans hG23.out hsr.out))
              clear hls hts htE hlb hpk2 hp1 hid hid0 htl hOb hput0 hpkk0 hfew hpp hPP hpb
              go_upto_region 16 with (go_at_call 46; (with_reducible refine hdr.out.mono ?_); rintro e y0 ⟨rfl, hb0⟩; replace hb0 := hide hb0)
              have hs0 : Grw wr y0.drew := show Below wr.heap.size wr y0.drew from hb0.out.trans ⟨rfl, rfl, rfl, Nat.le_refl _, fun _ _ => rfl⟩
              refine wp_region_held_drew (S := Grw wr) (by kernel_rfl) hs0 ?_
              obtain ⟨y1, hy1⟩ : ∃ W, y0.drew = W := ⟨_, rfl⟩
              rw [hy1] at hs0 ⊢
              intro hS0
              clear hy1 hs0
              refine gtake (i := 0) (d := 62) (v := .slice (some ⟨gp, 0, none⟩) V c3) rfl rfl (by kernel_rfl) (by kernel_rfl) (by kernel_rfl) (fun _ _ _ h => h) (.inl ⟨rfl, fun W _ => by go_simp⟩) (by assumption) ?_
              simp only [Act.put, List.setIfInBounds_toArray, List.set_cons_zero, List.set_cons_succ]
              refine gtake (i := 1) (d := 63) (v := .int .i64 (j : Int)) rfl rfl (by kernel_rfl) (by kernel_rfl) (by kernel_rfl) (fun _ _ _ h => h) (.inl ⟨rfl, fun W _ => by go_simp⟩) (by assumption) ?_
              simp only [Act.put, List.setIfInBounds_toArray, List.set_cons_zero, List.set_cons_succ]
              refine gtake (i := 2) (d := 64) (v := .pointer (some ⟨gp, j, none⟩)) rfl rfl (by kernel_rfl) (by kernel_rfl) (by kernel_rfl) (fun _ _ _ h => h) (.inl ⟨rfl, fun W _ => by go_simp⟩) (by assumption) ?_
              simp only [Act.put, List.setIfInBounds_toArray, List.set_cons_zero, List.set_cons_succ]
              refine gtake (i := 3) (d := 65) (v := .slice va L vc) rfl rfl (by kernel_rfl) (by kernel_rfl) (by kernel_rfl) (fun _ _ _ h => h) (.inl ⟨rfl, fun W hW => by have hc0 := (hxW.out W hW).1; go_simp⟩) (by assumption) ?_
              simp only [Act.put, List.setIfInBounds_toArray, List.set_cons_zero, List.set_cons_succ]
              refine gtake (i := 5) (d := 67) (v := .pointer (some ⟨G, 0, none⟩)) rfl rfl (by kernel_rfl) (by kernel_rfl) (by kernel_rfl) (fun _ _ _ h => h) (.inl ⟨rfl, fun W _ => by go_simp⟩) (by assumption) ?_
              simp only [Act.put, List.setIfInBounds_toArray, List.set_cons_zero, List.set_cons_succ]
              refine gtake (i := 6) (d := 68) (v := .bool q.gz) rfl rfl (by kernel_rfl) (by kernel_rfl) (by kernel_rfl) (fun _ _ _ h => h) (.inl ⟨rfl, fun W hW => by have hc0 := (hxW.out W hW).2; go_simp⟩) (by assumption) ?_
              simp only [Act.put, List.setIfInBounds_toArray, List.set_cons_zero, List.set_cons_succ]
              refine wpAnyH_ready (rs := [4]) (by kernel_rfl) (by simp) ?_
              refine AllReadyH.cons (o := ⟨some 66, _, _, _, _, _⟩) rfl (fun K hK => ?_) AllReadyH.nil
              rw [if_pos (by rfl)]
              go_simp
              go_at_call 48
              (with_reducible refine (hput.out y1 hS0).mono ?_)
              rintro e y2 ⟨A7, c7, rfl, ho7, hb7⟩
              have hS2 : Grw wr y2 := Below.trans hS0 (hb7.mono hS0.size)
              have hq2 := hide (hpkk.out y2 A7 c7 ho7.rd (ow_cap ho7))
              have ho7 := hide ho7
              clear hb7
              refine hK.out _ _ hS2 (fun _ => ?_)
              clear hK
              refine wpAnyH_ready (rs := [7]) (by kernel_rfl) (by simp) ?_
              refine AllReadyH.cons (o := ⟨some 69, _, _, _, _, _⟩) rfl (fun K hK => ?_) AllReadyH.nil
              rw [if_pos (by rfl)]
              go_simp
              go_at_call 47
              (with_reducible refine hq2.out.mono ?_)
              rintro e y3 ⟨A6, c6, rfl, hoP, hb8⟩
              have hS3 : Grw wr y3 := Below.trans hS2 (hb8.mono hS2.size)
              have hoP : ∃ cc, Ow y3 G3 5 A6 K2 cc (pb.map bv) := by
                rcases hoP with ⟨g1, g2, g3⟩ | h
                · have h9 := ho7.out.below hb8
                  rw [g1, g2, g3]
                  exact ⟨c7, h9.base_le (fun g hg => Nat.le_trans (Nat.le_trans hsr.out hS0.out.size) (h9.blk_lt g hg).1)⟩
                · exact ⟨c6, h.base_le (fun g hg => Nat.le_trans (Nat.le_trans hsr.out hS2.out.size) (h.blk_lt g hg).1)⟩
              obtain ⟨cc, hoP⟩ := hoP
              replace hoP := hide hoP
              clear hb8
              refine hK.out _ _ hS3 (fun _ => ?_)
              clear hK
              refine gtake (i := 8) (d := 13) (v := .slice A6 K2 c6) rfl rfl (by kernel_rfl) (by kernel_rfl) (by kernel_rfl) (fun _ _ _ h => h) (.inl ⟨rfl, fun W _ => by go_simp⟩) (by assumption) ?_
              simp only [Act.put, List.setIfInBounds_toArray, List.set_cons_zero, List.set_cons_succ]
              refine wpAnyH_done (by kernel_rfl) ?_ _
              have ho5q := hide (ho5.out.below hS3.out)
              have ho8q := hide (ho8.out.below hS3.out)
              have hBq := hide (hB.out.trans (hS3.out.mono hsr.out))
              have hsq := hide (Nat.le_trans hsr.out hS3.out.size)
              obtain ⟨x3, _⟩ := hxW.out y3 hS3
              have yy3 := (hS3.out.cell (p := ⟨bb, oo, none⟩) hbbl.out).trans yy0
              obtain rfl := hva.out
              go_wp2_with (first
                | (at_builtin; refine wpList_append_ent y3 rfl (.tmp 70) (.tmp 85) rfl rfl ho8q.out ⟨id0, O, K2, 0⟩ _ rfl htl2.out hsq.out ?_; intro A8' c8' wu ho8u hcu _; have ho5u := hide (ho5q.out.chg hcu (fun g hg h => ho8q.out.ne_ow ho5q.out (by decide) g h hg)); have hoPu := hide (hoP.out.chg hcu (fun g hg h => ho8q.out.ne_ow hoP.out (by decide) g h hg)); have hBu := hide (hBq.out.trans (hcu.to_below hsq.out (fun k hk => (ho8q.out.blk_lt k hk).1))); have hsu := hide (Nat.le_trans hsq.out hcu.size); replace ho8u := hide ho8u; clear hcu x3 yy3)
                | (at_builtin; refine wpList_append_rd wu rfl (.tmp 87) (.tmp 88) rfl elem_byte rfl ho5u.out rfl hoPu.out.rd (one_bv2 pb) hbd.out.1 hbd.out.2 hsu.out ?_; intro A5' c5' wv ho5v hcv _; have ho8v := hide (ho8u.out.chg hcv (fun g hg h => ho8u.out.ne_ow ho5u.out (by decide) g hg h)); have hBv := hide (hBu.out.trans (hcv.to_below hsu.out (fun k hk => (ho5u.out.blk_lt k hk).1))); replace ho5v := hide ho5v; clear hcv))
              go_roundw
              case rel => exact ⟨j + 1, A5', c5', A8', c8', by omega, by go_num, by rw [hls2.out.2], by rw [hts2.out]; simp, hide (by rw [hls2.out.2, hls2.out.1, List.map_append]; exact ho5v.out), hide (by rw [hts2.out]; exact ho8v.out), hBv⟩
              case measure => simp [intOf] <;> omega
            · obtain rfl : j = V := by omega
              have hVe := hVp.out.1
              have hend := hide (show Hid (RdE wr wr.heap.size A8 T) ∧ Hid (Rd wr wr.heap.size A5 Lv.length (Lv.map bv)) ∧ Hid (Below G2 w2 wr) from ⟨hide (by rw [hTo.out.1, hVe]; exact ho8.out.rd), hide (by rw [hTo.out.2, hVe]; exact ho5.out.rd), hide (b3.out.trans (hB.out.mono hG23.out))⟩)
              have hTl := hide (show T.length = (topsL (pkd q.gz) ps j).length ∧ Lv.length = (leavesB (pkd q.gz) ps j).length from by rw [hTo.out.1, hTo.out.2, hVe]; exact ⟨rfl, rfl⟩)
              go_wp2
              go_meet
              exact ⟨A8, c8, A5, c5, by rw [hTl.out.1], by rw [hTl.out.2], hend.out.1, hend.out.2.1, hend.out.2.2⟩
      case rest =>
        obtain ⟨A7, c7, A5, c5, rfl, rfl, hRT, hRL, hbx⟩ := hcut
        obtain ⟨wd, rfl⟩ : ∃ W, W = wc := ⟨_, rfl⟩
        have k3 := hide (k2.out.below hbx.out hGs.out)
        have hGw := hide (show G2 ≤ wd.heap.size from by rw [← hG2]; exact Nat.le_trans (by rw [hG2]; exact Nat.le_refl _) hbx.out.size)
        have hdr := hide (refdright_any A7 c7 T wd wd.heap.size hRT.out (Nat.le_refl _) (right_big htop.out.1) (by have := htop.out.2; simp only [maxLen]; omega) true ⟨fun _ => rfl, fun _ => htop.out.1⟩)
        have hput0 := fun (W : World) (hb : Below wd.heap.size wd W) => rput_ok A7 c7 T W wd.heap.size (hRT.out.below hb) hb.size (by have := htop.out.2; omega) htop.out.1
        have hfew := putB_few T
        have hTf := htop.out.2
        have hrt := dRoot_top q.gz q.leaf out
        rw [hT] at hrt
        obtain ⟨tb, htb⟩ : ∃ x, putB T = x := ⟨_, rfl⟩
        rw [htb] at hput0 hfew hrt
        have hpk10 := fun (W : World) (A' : Option Addr) (c' : Nat) (h : Rd W W.heap.size A' tb.length (tb.map bv)) (hc : tb.length ≤ c') => rpacked_own A' tb.length c' tb q.gz W h hc (by omega)
        have hpk20 := fun (W : World) (A' : Option Addr) (c' : Nat) (h : Rd W W.heap.size A' q.mtx.length (q.mtx.map bv)) (hc : q.mtx.length ≤ c') => rpacked_own A' q.mtx.length c' q.mtx q.gz W h hc (by omega)
        obtain ⟨R, hR0⟩ : ∃ x, dRoot q.gz q.leaf out = x := ⟨_, rfl⟩
        obtain ⟨Pm, hP0⟩ : ∃ x, pkd q.gz q.mtx = x := ⟨_, rfl⟩
        rw [hR0] at hRf hrt
        rw [hP0] at hPf hpk20
        rw [← hrt] at hpk10
        have hpk1 := hide hpk10
        have hpk2 := hide hpk20
        go_upto_region 21 with (go_at_call 46; (with_reducible refine hdr.out.mono ?_); rintro e y0 ⟨rfl, hb00⟩; have hb0 := hide (show Below G2 w2 y0 from hbx.out.trans (hb00.mono hGw.out)); have hs20 := hide (show G2 ≤ y0.heap.size from Nat.le_trans hGw.out hb00.size); have hy0 := hide hb00; clear hb00)
        have hxW := hide (show ∀ W, Grw y0 W → W.cell? ⟨G, 0, none⟩ = some (.bool q.gz) ∧ W.cell? ⟨G, 11, none⟩ = some (.string ⟨q.mtx.toArray⟩) from fun W hW => by
          have hk := (k3.out.below hy0.out k3.out.lt).below hW.out (Nat.lt_of_lt_of_le k3.out.lt hy0.out.size)
          exact ⟨hk.cell 0, hk.cell 11⟩)
        have hput := hide (fun (W : World) (hW : Grw y0 W) => hput0 W (hy0.out.trans (hW.out.mono hy0.out.size)))
        clear hput0 hpk10 hpk20 hfew hTf hrt htb hdr
        go_cut [14, 15] (fun s14 s15 wx => ∃ (A4 : Option Addr) (c4 : Nat) (Ap : Option Addr) (cp : Nat), s14 = .slice A4 R.length c4 ∧ s15 = .slice Ap Pm.length cp ∧ Hid (Rd wx wx.heap.size A4 R.length (R.map bv)) ∧ Hid (Rd wx wx.heap.size Ap Pm.length (Pm.map bv)) ∧ Hid (Below wd.heap.size wd wx))
        case first =>
          have hs0 : Grw y0 y0.drew := ⟨rfl, rfl, rfl, Nat.le_refl _, fun _ _ => rfl⟩
          refine wp_region_held_drew (S := Grw y0) (by kernel_rfl) hs0 ?_
          obtain ⟨y1, hy1⟩ : ∃ W, y0.drew = W := ⟨_, rfl⟩
          rw [hy1] at hs0 ⊢
          intro hSy1
          clear hy1 hs0
          refine gtake (i := 0) (d := 93) (v := .slice A7 T.length c7) rfl rfl (by kernel_rfl) (by kernel_rfl) (by kernel_rfl) (fun _ _ _ h => h) (.inl ⟨rfl, fun W _ => by go_simp⟩) (by assumption) ?_
          simp only [Act.put, List.setIfInBounds_toArray, List.set_cons_zero, List.set_cons_succ]
          refine gtake (i := 2) (d := 95) (v := .pointer (some ⟨G, 0, none⟩)) rfl rfl (by kernel_rfl) (by kernel_rfl) (by kernel_rfl) (fun _ _ _ h => h) (.inl ⟨rfl, fun W _ => by go_simp⟩) (by assumption) ?_
          simp only [Act.put, List.setIfInBounds_toArray, List.set_cons_zero, List.set_cons_succ]
          refine gtake (i := 3) (d := 96) (v := .bool q.gz) rfl rfl (by kernel_rfl) (by kernel_rfl) (by kernel_rfl) (fun _ _ _ h => h) (.inl ⟨rfl, fun W hW => by have hc0 := (hxW.out W hW).1; go_simp⟩) (by assumption) ?_
          simp only [Act.put, List.setIfInBounds_toArray, List.set_cons_zero, List.set_cons_succ]
          refine gtake (i := 5) (d := 98) (v := .pointer (some ⟨G, 11, none⟩)) rfl rfl (by kernel_rfl) (by kernel_rfl) (by kernel_rfl) (fun _ _ _ h => h) (.inl ⟨rfl, fun W _ => by go_simp⟩) (by assumption) ?_
          simp only [Act.put, List.setIfInBounds_toArray, List.set_cons_zero, List.set_cons_succ]
          refine gtake (i := 6) (d := 99) (v := .string ⟨q.mtx.toArray⟩) rfl rfl (by kernel_rfl) (by kernel_rfl) (by kernel_rfl) (fun _ _ _ h => h) (.inl ⟨rfl, fun W hW => by have hc0 := (hxW.out W hW).2; go_simp⟩) (by assumption) ?_
          simp only [Act.put, List.setIfInBounds_toArray, List.set_cons_zero, List.set_cons_succ]
          refine gtake (i := 8) (d := 101) (v := .pointer (some ⟨G, 0, none⟩)) rfl rfl (by kernel_rfl) (by kernel_rfl) (by kernel_rfl) (fun _ _ _ h => h) (.inl ⟨rfl, fun W _ => by go_simp⟩) (by assumption) ?_
          simp only [Act.put, List.setIfInBounds_toArray, List.set_cons_zero, List.set_cons_succ]
          refine gtake (i := 9) (d := 102) (v := .bool q.gz) rfl rfl (by kernel_rfl) (by kernel_rfl) (by kernel_rfl) (fun _ _ _ h => h) (.inl ⟨rfl, fun W hW => by have hc0 := (hxW.out W hW).1; go_simp⟩) (by assumption) ?_
          simp only [Act.put, List.setIfInBounds_toArray, List.set_cons_zero, List.set_cons_succ]
          refine wpAnyH_ready (rs := [1, 7]) (by kernel_rfl) (by simp) ?_
          refine AllReadyH.cons (o := ⟨some 94, _, _, _, _, _⟩) rfl (fun K hK => ?_) ?_
          · rw [if_pos (by rfl)]
            go_simp
            go_at_call 48
            (with_reducible refine (hput.out y1 hSy1).mono ?_)
            rintro e y2 ⟨A8, c8, rfl, h8, hbn⟩
            have h8c := ow_cap h8
            have h8 := h8.rd
            have hSy2 : Grw y0 y2 := Below.trans hSy1 (hbn.mono hSy1.size)
            clear hbn
            refine hK.out _ _ hSy2 (fun _ => ?_)
            clear hK
            refine wpAnyH_ready (rs := [4, 7]) (by kernel_rfl) (by simp) ?_
            refine AllReadyH.cons (o := ⟨some 97, _, _, _, _, _⟩) rfl (fun K hK => ?_) ?_
            · rw [if_pos (by rfl)]
              go_simp
              go_at_call 47
              (with_reducible refine (hpk1.out y2 A8 c8 h8 h8c).mono ?_)
              rintro e y3 ⟨A4, c4, rfl, hR4, hbn⟩
              replace hR4 : Rd y3 y3.heap.size A4 R.length (R.map bv) := by
                rcases hR4 with ⟨g1, g2, g3⟩ | h
                · rw [g1, g2, g3]
                  exact (h8.below hbn).mono hbn.size
                · exact h.rd
              have hSy3 : Grw y0 y3 := Below.trans hSy2 (hbn.mono hSy2.size)
              replace h8 := (h8.below hbn).mono hbn.size
              clear hbn
              refine hK.out _ _ hSy3 (fun _ => ?_)
              clear hK
              refine wpAnyH_ready (rs := [7]) (by kernel_rfl) (by simp) ?_
              refine AllReadyH.cons (o := ⟨some 100, _, _, _, _, _⟩) rfl (fun K hK => ?_) AllReadyH.nil
              rw [if_pos (by rfl)]
              obtain ⟨cm, y4, hcv, hM, hbn, hcm⟩ := conv_str y3 q.mtx
              obtain ⟨gm, hgm⟩ : ∃ x, y3.heap.size = x := ⟨_, rfl⟩
              rw [hgm] at hcv hM
              go_simp
              have hSy4 : Grw y0 y4 := Below.trans hSy3 (hbn.mono hSy3.size)
              replace h8 := (h8.below hbn).mono hbn.size
              replace hR4 := (hR4.below hbn).mono hbn.size
              clear hcv
              clear hbn
              refine hK.out _ _ hSy4 (fun _ => ?_)
              clear hK
              refine wpAnyH_ready (rs := [10]) (by kernel_rfl) (by simp) ?_
              refine AllReadyH.cons (o := ⟨some 103, _, _, _, _, _⟩) rfl (fun K hK => ?_) AllReadyH.nil
              rw [if_pos (by rfl)]
              go_simp
              go_at_call 47
              (with_reducible refine (hpk2.out y4 (some ⟨gm, 0, none⟩) cm hM hcm).mono ?_)
              rintro e y5 ⟨Ap, cp, rfl, hPp, hbn⟩
              replace hPp : Rd y5 y5.heap.size Ap Pm.length (Pm.map bv) := by
                rcases hPp with ⟨g1, g2, g3⟩ | h
                · rw [g1, g2, g3]
                  exact (hM.below hbn).mono hbn.size
                · exact h.rd
              have hSy5 : Grw y0 y5 := Below.trans hSy4 (hbn.mono hSy4.size)
              replace h8 := (h8.below hbn).mono hbn.size
              replace hR4 := (hR4.below hbn).mono hbn.size
              replace hM := (hM.below hbn).mono hbn.size
              clear hbn
              refine hK.out _ _ hSy5 (fun _ => ?_)
              clear hK
              refine gtake (i := 11) (d := 14) (v := .slice A4 R.length c4) rfl rfl (by kernel_rfl) (by kernel_rfl) (by kernel_rfl) (fun _ _ _ h => h) (.inl ⟨rfl, fun W _ => by go_simp⟩) (by assumption) ?_
              simp only [Act.put, List.setIfInBounds_toArray, List.set_cons_zero, List.set_cons_succ]
              refine gtake (i := 12) (d := 15) (v := .slice Ap Pm.length cp) rfl rfl (by kernel_rfl) (by kernel_rfl) (by kernel_rfl) (fun _ _ _ h => h) (.inl ⟨rfl, fun W _ => by go_simp⟩) (by assumption) ?_
              simp only [Act.put, List.setIfInBounds_toArray, List.set_cons_zero, List.set_cons_succ]
              refine wpAnyH_done (by kernel_rfl) ?_ _
              have hBe := hide (show Below wd.heap.size wd y5 from hy0.out.trans (hSy5.mono hy0.out.size))
              replace hR4 := hide hR4
              replace hPp := hide hPp
              go_wp2
              go_meet
              exact ⟨A4, c4, Ap, cp, rfl, rfl, hR4, hPp, hBe⟩
            refine AllReadyH.cons (o := ⟨some 100, _, _, _, _, _⟩) rfl (fun K hK => ?_) AllReadyH.nil
            rw [if_pos (by rfl)]
            obtain ⟨cm, y3, hcv, hM, hbn, hcm⟩ := conv_str y2 q.mtx
            obtain ⟨gm, hgm⟩ : ∃ x, y2.heap.size = x := ⟨_, rfl⟩
            rw [hgm] at hcv hM
            go_simp
            have hSy3 : Grw y0 y3 := Below.trans hSy2 (hbn.mono hSy2.size)
            replace h8 := (h8.below hbn).mono hbn.size
            clear hcv
            clear hbn
            refine hK.out _ _ hSy3 (fun _ => ?_)
            clear hK
            refine wpAnyH_ready (rs := [4]) (by kernel_rfl) (by simp) ?_
            refine AllReadyH.cons (o := ⟨some 97, _, _, _, _, _⟩) rfl (fun K hK => ?_) AllReadyH.nil
            rw [if_pos (by rfl)]
            go_simp
            go_at_call 47
            (with_reducible refine (hpk1.out y3 A8 c8 h8 h8c).mono ?_)
            rintro e y4 ⟨A4, c4, rfl, hR4, hbn⟩
            replace hR4 : Rd y4 y4.heap.size A4 R.length (R.map bv) := by
              rcases hR4 with ⟨g1, g2, g3⟩ | h
              · rw [g1, g2, g3]
                exact (h8.below hbn).mono hbn.size
              · exact h.rd
            have hSy4 : Grw y0 y4 := Below.trans hSy3 (hbn.mono hSy3.size)
            replace h8 := (h8.below hbn).mono hbn.size
            replace hM := (hM.below hbn).mono hbn.size
            clear hbn
            refine hK.out _ _ hSy4 (fun _ => ?_)
            clear hK
            refine wpAnyH_ready (rs := [10]) (by kernel_rfl) (by simp) ?_
            refine AllReadyH.cons (o := ⟨some 103, _, _, _, _, _⟩) rfl (fun K hK => ?_) AllReadyH.nil
            rw [if_pos (by rfl)]
            go_simp
            go_at_call 47
            (with_reducible refine (hpk2.out y4 (some ⟨gm, 0, none⟩) cm hM hcm).mono ?_)
            rintro e y5 ⟨Ap, cp, rfl, hPp, hbn⟩
            replace hPp : Rd y5 y5.heap.size Ap Pm.length (Pm.map bv) := by
              rcases hPp with ⟨g1, g2, g3⟩ | h
              · rw [g1, g2, g3]
                exact (hM.below hbn).mono hbn.size
              · exact h.rd
            have hSy5 : Grw y0 y5 := Below.trans hSy4 (hbn.mono hSy4.size)
            replace h8 := (h8.below hbn).mono hbn.size
            replace hR4 := (hR4.below hbn).mono hbn.size
            replace hM := (hM.below hbn).mono hbn.size
            clear hbn
            refine hK.out _ _ hSy5 (fun _ => ?_)
            clear hK
            refine gtake (i := 11) (d := 14) (v := .slice A4 R.length c4) rfl rfl (by kernel_rfl) (by kernel_rfl) (by kernel_rfl) (fun _ _ _ h => h) (.inl ⟨rfl, fun W _ => by go_simp⟩) (by assumption) ?_
            simp only [Act.put, List.setIfInBounds_toArray, List.set_cons_zero, List.set_cons_succ]
            refine gtake (i := 12) (d := 15) (v := .slice Ap Pm.length cp) rfl rfl (by kernel_rfl) (by kernel_rfl) (by kernel_rfl) (fun _ _ _ h => h) (.inl ⟨rfl, fun W _ => by go_simp⟩) (by assumption) ?_
            simp only [Act.put, List.setIfInBounds_toArray, List.set_cons_zero, List.set_cons_succ]
            refine wpAnyH_done (by kernel_rfl) ?_ _
            have hBe := hide (show Below wd.heap.size wd y5 from hy0.out.trans (hSy5.mono hy0.out.size))
            replace hR4 := hide hR4
            replace hPp := hide hPp
            go_wp2
            go_meet
            exact ⟨A4, c4, Ap, cp, rfl, rfl, hR4, hPp, hBe⟩
          refine AllReadyH.cons (o := ⟨some 100, _, _, _, _, _⟩) rfl (fun K hK => ?_) AllReadyH.nil
          rw [if_pos (by rfl)]
          obtain ⟨cm, y2, hcv, hM, hbn, hcm⟩ := conv_str y1 q.mtx
          obtain ⟨gm, hgm⟩ : ∃ x, y1.heap.size = x := ⟨_, rfl⟩
          rw [hgm] at hcv hM
          go_simp
          have hSy2 : Grw y0 y2 := Below.trans hSy1 (hbn.mono hSy1.size)
          clear hcv
          clear hbn
          refine hK.out _ _ hSy2 (fun _ => ?_)
          clear hK
          refine wpAnyH_ready (rs := [1]) (by kernel_rfl) (by simp) ?_
          refine AllReadyH.cons (o := ⟨some 94, _, _, _, _, _⟩) rfl (fun K hK => ?_) AllReadyH.nil
          rw [if_pos (by rfl)]
          go_simp
          go_at_call 48
          (with_reducible refine (hput.out y2 hSy2).mono ?_)
          rintro e y3 ⟨A8, c8, rfl, h8, hbn⟩
          have h8c := ow_cap h8
          have h8 := h8.rd
          have hSy3 : Grw y0 y3 := Below.trans hSy2 (hbn.mono hSy2.size)
          replace hM := (hM.below hbn).mono hbn.size
          clear hbn
          refine hK.out _ _ hSy3 (fun _ => ?_)
          clear hK
          refine wpAnyH_ready (rs := [4]) (by kernel_rfl) (by simp) ?_
          refine AllReadyH.cons (o := ⟨some 97, _, _, _, _, _⟩) rfl (fun K hK => ?_) AllReadyH.nil
          rw [if_pos (by rfl)]
          go_simp
          go_at_call 47
          (with_reducible refine (hpk1.out y3 A8 c8 h8 h8c).mono ?_)
          rintro e y4 ⟨A4, c4, rfl, hR4, hbn⟩
          replace hR4 : Rd y4 y4.heap.size A4 R.length (R.map bv) := by
            rcases hR4 with ⟨g1, g2, g3⟩ | h
            · rw [g1, g2, g3]
              exact (h8.below hbn).mono hbn.size
            · exact h.rd
          have hSy4 : Grw y0 y4 := Below.trans hSy3 (hbn.mono hSy3.size)
          replace h8 := (h8.below hbn).mono hbn.size
          replace hM := (hM.below hbn).mono hbn.size
          clear hbn
          refine hK.out _ _ hSy4 (fun _ => ?_)
          clear hK
          refine wpAnyH_ready (rs := [10]) (by kernel_rfl) (by simp) ?_
          refine AllReadyH.cons (o := ⟨some 103, _, _, _, _, _⟩) rfl (fun K hK => ?_) AllReadyH.nil
          rw [if_pos (by rfl)]
          go_simp
          go_at_call 47
          (with_reducible refine (hpk2.out y4 (some ⟨gm, 0, none⟩) cm hM hcm).mono ?_)
          rintro e y5 ⟨Ap, cp, rfl, hPp, hbn⟩
          replace hPp : Rd y5 y5.heap.size Ap Pm.length (Pm.map bv) := by
            rcases hPp with ⟨g1, g2, g3⟩ | h
            · rw [g1, g2, g3]
              exact (hM.below hbn).mono hbn.size
            · exact h.rd
          have hSy5 : Grw y0 y5 := Below.trans hSy4 (hbn.mono hSy4.size)
          replace h8 := (h8.below hbn).mono hbn.size
          replace hR4 := (hR4.below hbn).mono hbn.size
          replace hM := (hM.below hbn).mono hbn.size
          clear hbn
          refine hK.out _ _ hSy5 (fun _ => ?_)
          clear hK
          refine gtake (i := 11) (d := 14) (v := .slice A4 R.length c4) rfl rfl (by kernel_rfl) (by kernel_rfl) (by kernel_rfl) (fun _ _ _ h => h) (.inl ⟨rfl, fun W _ => by go_simp⟩) (by assumption) ?_
          simp only [Act.put, List.setIfInBounds_toArray, List.set_cons_zero, List.set_cons_succ]
          refine gtake (i := 12) (d := 15) (v := .slice Ap Pm.length cp) rfl rfl (by kernel_rfl) (by kernel_rfl) (by kernel_rfl) (fun _ _ _ h => h) (.inl ⟨rfl, fun W _ => by go_simp⟩) (by assumption) ?_
          simp only [Act.put, List.setIfInBounds_toArray, List.set_cons_zero, List.set_cons_succ]
          refine wpAnyH_done (by kernel_rfl) ?_ _
          have hBe := hide (show Below wd.heap.size wd y5 from hy0.out.trans (hSy5.mono hy0.out.size))
          replace hR4 := hide hR4
          replace hPp := hide hPp
          go_wp2
          go_meet
          exact ⟨A4, c4, Ap, cp, rfl, rfl, hR4, hPp, hBe⟩
        case rest =>
          obtain ⟨A4, c4, Ap, cp, rfl, rfl, hRR, hRP, hby⟩ := hcut
          have hMR := hide (hby.out)
          have bG2w := hide (show Below G w wc from (bG2.out.trans (hbx.out.mono (Nat.le_of_lt hGs.out))).trans (hby.out.mono (Nat.le_trans (Nat.le_of_lt hGs.out) hGw.out)))
          have k4 := hide (k3.out.below hby.out k3.out.lt)
          obtain ⟨GB, hGB⟩ : ∃ x, wc.heap.size = x := ⟨_, rfl⟩
          have hG2B := hide (show G2 ≤ GB from by rw [← hGB]; exact Nat.le_trans hGw.out hby.out.size)
          have hGB' := hide (show G < GB from Nat.lt_of_lt_of_le hGs.out hG2B.out)
          rw [hGB] at hRR hRP
          have hRRd := hide (show ∀ W, Below GB wc W → Rd W GB A4 R.length (R.map bv) from fun W hb => hRR.out.below hb)
          have hRPd := hide (show ∀ W, Below GB wc W → Rd W GB Ap Pm.length (Pm.map bv) from fun W hb => hRP.out.below hb)
          have hRLd := hide (show ∀ W, Below GB wc W → Rd W GB A5 Lv.length (Lv.map bv) from fun W hb => by
            have h := (hRL.out.below hby.out).mono hby.out.size
            rw [hGB] at h
            exact h.below hb)
          have hCat := hide (show ∀ W, Below GB wc W → CatAt W GB A10 cs from fun W hb => by
            have hw : Below G2 w2 W := (hbx.out.trans (hby.out.mono hGw.out)).trans (hb.mono hG2B.out)
            have hw2 : Below w2.heap.size w2 W := by rw [hG2]; exact hw
            intro k hk
            obtain ⟨g, va, m, vc, hA, hc, hrd⟩ := byts_at hro.out hbt.out hs12.out k (by rw [hvl.out]; exact hk) hk
            have hm := hrd.len
            subst hm
            have hgl := World.block_lt_of_cell? w2 _ hc
            refine ⟨g, va, vc, hA, Nat.lt_of_lt_of_le hgl (by rw [hG2]; exact hG2B.out), (hw2.cell (p := ⟨g, k, none⟩) hgl).trans hc, (hrd.below hw2).mono (by rw [hG2]; exact hG2B.out)⟩)
          have hem := rempty_any q wc
          rw [show q.val = .agg q.cells from rfl] at hem
          replace hem := hide hem
          obtain ⟨xs, hxs⟩ : ∃ x, (emptyH q).cells = x := ⟨_, rfl⟩
          have xinfo := hide (show (Tryz.prog.info? 30).map (·.size) = some xs.size from by rw [← hxs]; exact (emptyH q).info)
          have xone := hide (show xs.all (·.oneCell') = true from by rw [← hxs]; exact (emptyH q).one)
          have xsz := hide (show (#[.int .u64 0, .int .u64 0, .int .u64 0, .int .u64 0, .int .u64 0, .int .u64 0, .int .u64 0, .int .u64 0, .int .u64 0, .int .u64 0, .int .u64 0, .bool false, .int .i64 0, .int .i64 0, .int .i64 0, .int .i64 0, .int .i64 0, .int .i64 0, .int .i64 0, .int .i64 0, .int .i64 0, .int .i64 0, .int .i64 0, .int .i64 0] : Array Value).size = xs.size from by rw [← hxs]; rfl)
          rw [hxs] at hem
          clear hRR hRP hRL hRT hxW hput hpk1 hpk2 k2 k1 b1
          go_upto_region 23 with (first
            | (with_reducible refine wpList_load_row (o := ⟨some 104, .load 61 (.tmp 3), _, _, _, _⟩) rfl 61 (.tmp 3) rfl G rfl 61 q.cells (0, 0) _ k4.out.eq Tryz.underlying61 rfl hsp.out ?_)
            | (go_at_call 25; (with_reducible refine hem.out.mono ?_); rintro e w4 ⟨rfl, b4⟩; obtain ⟨gh, hgh⟩ : ∃ g, w4.heap.size = g := ⟨_, rfl⟩; obtain ⟨w5, hw5⟩ : ∃ W, w4.alloc (.cells #[.int .u64 0, .int .u64 0, .int .u64 0, .int .u64 0, .int .u64 0, .int .u64 0, .int .u64 0, .int .u64 0, .int .u64 0, .int .u64 0, .int .u64 0, .bool false, .int .i64 0, .int .i64 0, .int .i64 0, .int .i64 0, .int .i64 0, .int .i64 0, .int .i64 0, .int .i64 0, .int .i64 0, .int .i64 0, .int .i64 0, .int .i64 0] 30) = W := ⟨_, rfl⟩; have k5 := hide (show Blk w5 gh 30 #[.int .u64 0, .int .u64 0, .int .u64 0, .int .u64 0, .int .u64 0, .int .u64 0, .int .u64 0, .int .u64 0, .int .u64 0, .int .u64 0, .int .u64 0, .bool false, .int .i64 0, .int .i64 0, .int .i64 0, .int .i64 0, .int .i64 0, .int .i64 0, .int .i64 0, .int .i64 0, .int .i64 0, .int .i64 0, .int .i64 0, .int .i64 0] from by rw [← hw5, ← hgh]; exact Blk.new w4 _ _); obtain ⟨w6, hw6⟩ : ∃ W, w5.setRow gh xs = W := ⟨_, rfl⟩; replace b4 := hide b4)
            | ((with_reducible refine wpList_store_row (o := ⟨none, .store 30 (.tmp 16) (.tmp 105), _, _, _, _⟩) rfl 30 (.tmp 16) (.tmp 105) rfl gh xs rfl rfl 30 _ k5.out.eq xinfo.out xsz.out xone.out ?_); rw [hw6]))
          have hsgh := hide (show GB ≤ gh from by rw [← hgh, ← hGB]; exact b4.out.size)
          have k6 := hide (show Blk w6 gh 30 (emptyH q).cells from by rw [← hw6, hxs]; exact k5.out.row _)
          have b6 := hide (show Below GB wc w6 from by rw [← hw6, ← hw5]; exact below_row ((b4.out.mono (by rw [hGB]; exact Nat.le_refl _)).alloc (by rw [hgh]; exact hsgh.out) _) hsgh.out _)
          obtain ⟨H1, hH1⟩ : ∃ x : Hd, { emptyH q with c0 := n, c1 := out.length, c2 := cs.length } = x := ⟨_, rfl⟩
          have hnI : IntKind.u64.wrap (n : Int) = (n : Int) := by have := hn.out; have := hl.out; rw [IntKind.wrap_u64]; omega
          have hoI : IntKind.u64.wrap (out.length : Int) = (out.length : Int) := by have := hof.out; rw [IntKind.wrap_u64]; omega
          have hcI : IntKind.u64.wrap (cs.length : Int) = (cs.length : Int) := by have := hcf.out; rw [IntKind.wrap_u64]; omega
          have g8 : w6.cell? ⟨gh, 8, none⟩ = some (.int .u64 0) := k6.out.cell 8
          have g9 : w6.cell? ⟨gh, 9, none⟩ = some (.int .u64 0) := k6.out.cell 9
          have g10 : w6.cell? ⟨gh, 10, none⟩ = some (.int .u64 0) := k6.out.cell 10
          have gf := k6.out.free
          obtain ⟨w7, hw7⟩ : ∃ W, ((w6.setCell ⟨gh, 8, none⟩ (.int .u64 (n : Int))).setCell ⟨gh, 9, none⟩ (.int .u64 (out.length : Int))).setCell ⟨gh, 10, none⟩ (.int .u64 (cs.length : Int)) = W := ⟨_, rfl⟩
          have k7 := hide (show Blk w7 gh 30 H1.cells from by rw [← hw7, ← hH1]; exact ((k6.out.set 8 _).set 9 _).set 10 _)
          have b7 := hide (show Below GB wc w7 from by rw [← hw7]; exact ((b6.out.setCell hsgh.out _).setCell hsgh.out _).setCell hsgh.out _)
          go_upto_region 25 with fail
          clear g8 g9 g10 gf hw7 k6 b6 k5 hw5
          obtain ⟨GL, hGL⟩ : ∃ x, w7.heap.size = x := ⟨_, rfl⟩
          have hGBL := hide (show GB ≤ GL from by rw [← hGL]; exact Nat.le_trans hsgh.out (Nat.le_of_lt k7.out.lt))
          have hghL := hide (show gh < GL from by rw [← hGL]; exact k7.out.lt)
          obtain ⟨N, hN⟩ : ∃ x, cs.length = x := ⟨_, rfl⟩
          have hpre := hide (show ∀ k, (cs.take k).flatten.length ≤ cs.flatten.length from flat_le cs)
          have hsu := hide (fun k (hk : k < cs.length) => flat_succ cs k hk)
          rw [hN]
          go_wp2
          go_loopw [17, 18] (fun s17 s18 wr => ∃ (j : Nat) (A6 : Option Addr) (c6 : Nat), j ≤ N ∧ s17 = .slice A6 (cs.take j).flatten.length c6 ∧ s18 = .int .i64 (j : Int) ∧ Hid (Ow wr GL 5 A6 (cs.take j).flatten.length c6 ((cs.take j).flatten.map bv)) ∧ Hid (Below GL w7 wr)) (fun _ s18 _ => N - (intOf s18).toNat)
          case atStart => exact ⟨0, none, 0, Nat.zero_le _, by simp, rfl, hide (by simpa using Ow.nil w7 GL _), hide (Below.refl _ _)⟩
          case round =>
            obtain ⟨j, A6, c6, hj, rfl, rfl, ho6, hb6⟩ := hrel
            have hbW := hide (show Below GB wc wr from b7.out.trans (hb6.out.mono hGBL.out))
            by_cases hlt2 : j < N
            · have hjl : j < cs.length := by omega
              have hjI : (j : Int) < (N : Int) := by omega
              have hgs := hide (show GL ≤ wr.heap.size from by rw [← hGL]; exact Nat.le_trans (by rw [hGL]; exact Nat.le_refl _) hb6.out.size)
              obtain ⟨g, va, vc, rfl, _, e1, r1⟩ := (hCat.out wr hbW.out) j hjl
              have h1 := hsu.out j hjl
              have h2 := hpre.out (j + 1)
              have h4 : (cs.take (j + 1)).flatten.length = (cs.take j).flatten.length + cs[j].length := by rw [h1, List.length_append]
              have h5 := hide (show (cs.take j).flatten.length + cs[j].length ≤ maxLen ∧ ((cs.take j).flatten.length + cs[j].length) * 1 ≤ 140737488355328 from by simp only [maxLen]; omega)
              have hjw : IntKind.i64.wrap ((j : Int) + 1) = ((j + 1 : Nat) : Int) := by have := hcf.out; rw [IntKind.wrap_i64]; omega
              have hr1 := hide r1
              obtain ⟨cj, hcj⟩ : ∃ x, cs[j] = x := ⟨_, rfl⟩
              rw [hcj] at e1 h1 h4 h5 hr1
              replace h1 := hide h1
              replace h4 := hide h4
              clear r1 h2 hcj
              go_wp2_with (at_builtin; refine wpList_append_rd wr rfl (.tmp 123) (.tmp 127) rfl elem_byte rfl ho6.out rfl hr1.out (one_bv2 cj) h5.out.1 h5.out.2 hgs.out ?_; intro Ad cd wd4 hod hcd hnd; have bd4 := hide (hb6.out.trans (hcd.to_below hgs.out (fun i hi => (ho6.out.blk_lt i hi).1))); replace hod := hide hod; clear hcd hnd)
              go_roundw
              case rel => exact ⟨j + 1, Ad, cd, by omega, by rw [h4.out]; simp [List.length_flatten], by go_num, hide (by rw [h4.out, h1.out, List.map_append]; exact hod.out), bd4⟩
              case measure => simp [intOf] <;> omega
            · obtain rfl : j = N := by omega
              have hall : (cs.take j).flatten = cs.flatten := by rw [List.take_of_length_le (by omega)]
              rw [hall] at ho6
              rw [hall]
              obtain ⟨D, hD⟩ : ∃ x, cs.flatten = x := ⟨_, rfl⟩
              rw [hD] at ho6 hDf
              rw [hD]
              have k8 := hide (k7.out.below hb6.out hghL.out)
              clear hCat hsu hpre hall hem
              obtain ⟨N1, hN1⟩ : ∃ x, 127 + R.length = x := ⟨_, rfl⟩
              obtain ⟨N2, hN2⟩ : ∃ x, N1 + Pm.length = x := ⟨_, rfl⟩
              obtain ⟨N3, hN3⟩ : ∃ x, N2 + Lv.length = x := ⟨_, rfl⟩
              obtain ⟨N4, hN4⟩ : ∃ x, N3 + D.length = x := ⟨_, rfl⟩
              rw [hL0] at hLf
              have hRI : IntKind.u64.wrap (R.length : Int) = (R.length : Int) := by rw [IntKind.wrap_u64]; omega
              have hPI : IntKind.u64.wrap (Pm.length : Int) = (Pm.length : Int) := by rw [IntKind.wrap_u64]; omega
              have hLI : IntKind.u64.wrap (Lv.length : Int) = (Lv.length : Int) := by rw [IntKind.wrap_u64]; omega
              have hDI : IntKind.u64.wrap (D.length : Int) = (D.length : Int) := by rw [IntKind.wrap_u64]; omega
              have hW1 : IntKind.u64.wrap (127 + (R.length : Int)) = (N1 : Int) := by rw [IntKind.wrap_u64]; omega
              have hW2 : IntKind.u64.wrap ((N1 : Int) + (Pm.length : Int)) = (N2 : Int) := by rw [IntKind.wrap_u64]; omega
              have hW3 : IntKind.u64.wrap ((N2 : Int) + (Lv.length : Int)) = (N3 : Int) := by rw [IntKind.wrap_u64]; omega
              have hW4 : IntKind.u64.wrap ((N3 : Int) + (D.length : Int)) = (N4 : Int) := by rw [IntKind.wrap_u64]; omega
              have hW5 : IntKind.i64.wrap (N4 : Int) = (N4 : Int) := by rw [IntKind.wrap_i64]; omega
              have hNb := hide (show N4 ≤ 9000000 from by omega)
              replace hN1 := hide hN1
              replace hN2 := hide hN2
              replace hN3 := hide hN3
              replace hN4 := hide hN4
              have hDb := hide hDf
              have hRb := hide hRf
              have hPb := hide hPf
              have hLb := hide hLf
              clear hDf hRf hPf hLf
              have x0 : wr.cell? ⟨gh, 0, none⟩ = some (.int .u64 (H1.r0 : Int)) := k8.out.cell 0
              have x1 : wr.cell? ⟨gh, 1, none⟩ = some (.int .u64 (H1.r1 : Int)) := k8.out.cell 1
              have xf := k8.out.free
              go_upto_region 30 with fail
              obtain ⟨m1, hm1⟩ : ∃ W, (wr.setCell ⟨gh, 0, none⟩ (.int .u64 (127 : Int))).setCell ⟨gh, 1, none⟩ (.int .u64 (R.length : Int)) = W := ⟨_, rfl⟩
              obtain ⟨H2, hH2⟩ : ∃ x : Hd, { H1 with r0 := 127, r1 := R.length } = x := ⟨_, rfl⟩
              have k9 := hide (show Blk m1 gh 30 H2.cells from by rw [← hm1, ← hH2]; exact (k8.out.set 0 _).set 1 _)
              have cm1 := hide (show Chg (fun k => k = gh) wr m1 from by rw [← hm1]; exact ((Chg.refl (fun k => k = gh) wr).setCell (p := ⟨gh, 0, none⟩) (.inr rfl) _).setCell (p := ⟨gh, 1, none⟩) (.inr rfl) _)
              rw [hm1]
              clear x0 x1 xf hm1
              have x0 : m1.cell? ⟨gh, 2, none⟩ = some (.int .u64 (H2.m0 : Int)) := k9.out.cell 2
              have x1 : m1.cell? ⟨gh, 3, none⟩ = some (.int .u64 (H2.m1 : Int)) := k9.out.cell 3
              have xf := k9.out.free
              go_upto_region 31 with fail
              obtain ⟨m2, hm2⟩ : ∃ W, (m1.setCell ⟨gh, 2, none⟩ (.int .u64 (N1 : Int))).setCell ⟨gh, 3, none⟩ (.int .u64 (Pm.length : Int)) = W := ⟨_, rfl⟩
              obtain ⟨H3, hH3⟩ : ∃ x : Hd, { H2 with m0 := N1, m1 := Pm.length } = x := ⟨_, rfl⟩
              have k10 := hide (show Blk m2 gh 30 H3.cells from by rw [← hm2, ← hH3]; exact (k9.out.set 2 _).set 3 _)
              have cm2 := hide (show Chg (fun k => k = gh) m1 m2 from by rw [← hm2]; exact ((Chg.refl (fun k => k = gh) m1).setCell (p := ⟨gh, 2, none⟩) (.inr rfl) _).setCell (p := ⟨gh, 3, none⟩) (.inr rfl) _)
              rw [hm2]
              clear x0 x1 xf hm2
              have x0 : m2.cell? ⟨gh, 4, none⟩ = some (.int .u64 (H3.l0 : Int)) := k10.out.cell 4
              have x1 : m2.cell? ⟨gh, 5, none⟩ = some (.int .u64 (H3.l1 : Int)) := k10.out.cell 5
              have xf := k10.out.free
              have z0 : m2.cell? ⟨gh, 2, none⟩ = some (.int .u64 (N1 : Int)) := by have h := k10.out.cell 2; rw [← hH3] at h; exact h
              have z1 : m2.cell? ⟨gh, 3, none⟩ = some (.int .u64 (Pm.length : Int)) := by have h := k10.out.cell 3; rw [← hH3] at h; exact h
              go_upto_region 32 with fail
              obtain ⟨m3, hm3⟩ : ∃ W, (m2.setCell ⟨gh, 4, none⟩ (.int .u64 (N2 : Int))).setCell ⟨gh, 5, none⟩ (.int .u64 (Lv.length : Int)) = W := ⟨_, rfl⟩
              obtain ⟨H4, hH4⟩ : ∃ x : Hd, { H3 with l0 := N2, l1 := Lv.length } = x := ⟨_, rfl⟩
              have k11 := hide (show Blk m3 gh 30 H4.cells from by rw [← hm3, ← hH4]; exact (k10.out.set 4 _).set 5 _)
              have cm3 := hide (show Chg (fun k => k = gh) m2 m3 from by rw [← hm3]; exact ((Chg.refl (fun k => k = gh) m2).setCell (p := ⟨gh, 4, none⟩) (.inr rfl) _).setCell (p := ⟨gh, 5, none⟩) (.inr rfl) _)
              rw [hm3]
              clear x0 x1 xf hm3 z0 z1
              have x0 : m3.cell? ⟨gh, 6, none⟩ = some (.int .u64 (H4.d0 : Int)) := k11.out.cell 6
              have x1 : m3.cell? ⟨gh, 7, none⟩ = some (.int .u64 (H4.d1 : Int)) := k11.out.cell 7
              have xf := k11.out.free
              have z0 : m3.cell? ⟨gh, 4, none⟩ = some (.int .u64 (N2 : Int)) := by have h := k11.out.cell 4; rw [← hH4] at h; exact h
              have z1 : m3.cell? ⟨gh, 5, none⟩ = some (.int .u64 (Lv.length : Int)) := by have h := k11.out.cell 5; rw [← hH4] at h; exact h
              go_upto_region 33 with fail
              obtain ⟨m4, hm4⟩ : ∃ W, (m3.setCell ⟨gh, 6, none⟩ (.int .u64 (N3 : Int))).setCell ⟨gh, 7, none⟩ (.int .u64 (D.length : Int)) = W := ⟨_, rfl⟩
              obtain ⟨H5, hH5⟩ : ∃ x : Hd, { H4 with d0 := N3, d1 := D.length } = x := ⟨_, rfl⟩
              have k12 := hide (show Blk m4 gh 30 H5.cells from by rw [← hm4, ← hH5]; exact (k11.out.set 6 _).set 7 _)
              have cm4 := hide (show Chg (fun k => k = gh) m3 m4 from by rw [← hm4]; exact ((Chg.refl (fun k => k = gh) m3).setCell (p := ⟨gh, 6, none⟩) (.inr rfl) _).setCell (p := ⟨gh, 7, none⟩) (.inr rfl) _)
              rw [hm4]
              clear x0 x1 xf hm4 z0 z1
              have z0 : m4.cell? ⟨gh, 6, none⟩ = some (.int .u64 (N3 : Int)) := by have h := k12.out.cell 6; rw [← hH5] at h; exact h
              have z1 : m4.cell? ⟨gh, 7, none⟩ = some (.int .u64 (D.length : Int)) := by have h := k12.out.cell 7; rw [← hH5] at h; exact h
              go_upto_region 34 with fail
              have hH := hide (show bdHead q n out cs = H5 from by
                unfold bdHead
                rw [hR0, hP0, hL0, hD, ← hH5, ← hH4, ← hH3, ← hH2, ← hH1, ← hN3.out, ← hN2.out, ← hN1.out]
                rfl)
              have hbd4 := hide (show bdLen q out cs = N4 from by
                unfold bdLen
                rw [hR0, hP0, hL0, hD, ← hN4.out, ← hN3.out, ← hN2.out, ← hN1.out])
              have hbo := hide (show bdOut q n out cs 0 r = if 4194304 < N4 then ([], 5) else if r ≠ 0 then ([], r) else (headB H5 ++ R ++ Pm ++ Lv ++ D, 0) from by
                unfold bdOut
                rw [if_neg (by simp), if_neg hbig.out, hbd4.out, hH.out, hR0, hP0, hL0, hD])
              have hsm4 := hide (show wr.heap.size ≤ m4.heap.size from Nat.le_trans (Nat.le_trans cm1.out.size cm2.out.size) (Nat.le_trans cm3.out.size cm4.out.size))
              have hc14 := hide (show Chg (fun k => k = gh) wr m4 from ((cm1.out.trans cm2.out (fun _ _ h => h)).trans cm3.out (fun _ _ h => h)).trans cm4.out (fun _ _ h => h))
              have hwrs := hide (show GB ≤ wr.heap.size from by rw [← hGB]; exact Nat.le_trans (by rw [hGB]; exact Nat.le_refl _) hbW.out.size)
              have hbW4 := hide (show Below GB wc m4 from hbW.out.trans (hc14.out.to_below hwrs.out (fun k hk => by rw [hk]; exact hsgh.out)))
              have ho64 := hide (ho6.out.chg hc14.out (fun g hg e => by have := (ho6.out.blk_lt g hg).1; have := hghL.out; omega))
              have bG4 := hide (show Below G w m4 from bG2w.out.trans (hbW4.out.mono (Nat.le_of_lt hGB'.out)))
              have hu8 : H5.c0 ≤ 18446744073709551615 ∧ H5.c1 ≤ 18446744073709551615 ∧ H5.c2 ≤ 18446744073709551615 := by
                rw [← hH5, ← hH4, ← hH3, ← hH2, ← hH1]
                have := hn.out
                have := hl.out
                have := hof.out
                have := hcf.out
                simp only
                omega
              have hkk : H5.Ok := by
                rw [← hH5, ← hH4, ← hH3, ← hH2, ← hH1]
                have := hN1.out
                have := hN2.out
                have := hN3.out
                have := hN4.out
                have := hNb.out
                exact ⟨by simp only; omega⟩
              have hput := hide (fun W => rputhead_any H5 hkk hu8 W)
              have hinf := hide H5.info
              have hRr5 := hRr.out
              rw [hH.out, hbd4.out] at hRr5
              have hri := hide (fun W => rright_any H5 (N4 : Int) W (by have := hNb.out; omega) r hRr5)
              clear hkk hu8 hRr5 cm1 cm2 cm3 cm4 z0 z1 hW1 hW2 hW3 hW4 hW5 hRI hPI hLI hDI hL0 hR0 hP0
              have hNI : (N4 : Int) ≤ 9000000 := by have := hNb.out; omega
              by_cases hlong : 4194304 < N4
              · have hld : decide ((4194304 : Int) < (N4 : Int)) = true := by rw [decide_eq_true_eq]; omega
                have hfin := hide (show UBd G w (bdOut q n out cs 0 r) (.returned (.tuple #[.slice none 0 0, .int .i64 5])) m4 from by
                  rw [hbo.out, if_pos hlong]
                  exact ⟨none, 0, rfl, ⟨rfl, fun j h => absurd h (Nat.not_lt_zero _)⟩, bG4.out⟩)
                replace hlong := hide hlong
                go_wp2
                go_ret2
                exact hfin.out
              · have hld : decide ((4194304 : Int) < (N4 : Int)) = false := by rw [decide_eq_false_iff_not]; omega
                rw [if_neg hlong] at hbo
                replace hlong := hide hlong
                by_cases hr0 : r = 0
                · subst hr0
                  have hbo2 := hbo.out
                  rw [if_neg (by simp)] at hbo2
                  replace hbo2 := hide hbo2
                  have hq1 := hide (show 127 + R.length ≤ maxLen ∧ (127 + R.length) * 1 ≤ 140737488355328 from by have := hRb.out; simp only [maxLen]; omega)
                  have hq2 := hide (show 127 + R.length + Pm.length ≤ maxLen ∧ (127 + R.length + Pm.length) * 1 ≤ 140737488355328 from by have := hRb.out; have := hPb.out; simp only [maxLen]; omega)
                  have hq3 := hide (show 127 + R.length + Pm.length + Lv.length ≤ maxLen ∧ (127 + R.length + Pm.length + Lv.length) * 1 ≤ 140737488355328 from by have := hRb.out; have := hPb.out; have := hLb.out; simp only [maxLen]; omega)
                  have hq4 := hide (show 127 + R.length + Pm.length + Lv.length + D.length ≤ maxLen ∧ (127 + R.length + Pm.length + Lv.length + D.length) * 1 ≤ 140737488355328 from by have := hRb.out; have := hPb.out; have := hLb.out; have := hDb.out; simp only [maxLen]; omega)
                  go_wp2_with (first
                    | (with_reducible refine wpList_load_row (o := ⟨some 177, .load 30 (.tmp 16), _, _, _, _⟩) rfl 30 (.tmp 16) rfl gh rfl 30 H5.cells (0, 0) _ k12.out.eq Tryz.underlying30 rfl hinf.out ?_)
                    | (go_at_call 49; (with_reducible refine (hri.out m4).mono ?_); rintro e m5 ⟨rfl, hb5⟩; have k13 := hide (k12.out.below hb5 k12.out.lt); have hbW5 := hide (hbW4.out.trans (hb5.mono (Nat.le_trans hwrs.out hsm4.out))); have ho65 := hide (ho64.out.below hb5); have hs5 := hide (Nat.le_trans (Nat.le_trans hwrs.out hsm4.out) hb5.size); clear hb5)
                    | (with_reducible refine wpList_load_row (o := ⟨some 184, .load 30 (.tmp 16), _, _, _, _⟩) rfl 30 (.tmp 16) rfl gh rfl 30 H5.cells (0, 0) _ k13.out.eq Tryz.underlying30 rfl hinf.out ?_)
                    | (go_at_call 50; (with_reducible refine (hput.out m5).mono ?_); rintro e m6 ⟨Ah, ch, rfl, hoh, hb6⟩; have hbW6 := hide (hbW5.out.trans (hb6.mono hs5.out)); have ho66 := hide (ho65.out.below hb6); have ho6l := hide (show ∀ g, blk A6 = some g → g < m5.heap.size from fun g hg => (ho65.out.blk_lt g hg).2); have hbs := hide (show m5.heap.size + 1 ≤ m6.heap.size from by obtain ⟨g, _, h1, h2⟩ := hoh.pos (by omega); omega); have hlo := hide (show ∀ (k : Nat), m5.heap.size + 1 ≤ k → GB ≤ k from fun k hk => by have := hs5.out; omega); replace hoh := hide hoh; clear hb6)
                    | (at_builtin; refine wpList_append_rd m6 rfl (.tmp 185) (.tmp 186) rfl elem_byte rfl hoh.out rfl (hRRd.out m6 hbW6.out) (one_bv2 R) hq1.out.1 hq1.out.2 hbs.out ?_; intro B1 d1 q1 ho1 hc1 _; have hbq1 := hide (hbW6.out.trans (hc1.to_below (hlo.out _ hbs.out) (fun k hk => hlo.out k (hoh.out.blk_lt k hk).1))); have hod1 := hide (ho66.out.chg hc1 (fun g hg e => by have h1 := ho6l.out g hg; have h2 := (hoh.out.blk_lt g e).1; omega)); have hbs1 := hide (Nat.le_trans hbs.out hc1.size); replace ho1 := hide ho1; clear hc1)
                    | (at_builtin; refine wpList_append_rd q1 rfl (.tmp 187) (.tmp 188) rfl elem_byte rfl ho1.out rfl (hRPd.out q1 hbq1.out) (one_bv2 Pm) hq2.out.1 hq2.out.2 hbs1.out ?_; intro B2 d2 q2 ho2 hc2 _; have hbq2 := hide (hbq1.out.trans (hc2.to_below (hlo.out _ hbs1.out) (fun k hk => hlo.out k (ho1.out.blk_lt k hk).1))); have hod2 := hide (hod1.out.chg hc2 (fun g hg e => by have h1 := ho6l.out g hg; have h2 := (ho1.out.blk_lt g e).1; omega)); have hbs2 := hide (Nat.le_trans hbs1.out hc2.size); replace ho2 := hide ho2; clear hc2)
                    | (at_builtin; refine wpList_append_rd q2 rfl (.tmp 189) (.tmp 190) rfl elem_byte rfl ho2.out rfl (hRLd.out q2 hbq2.out) (one_bv2 Lv) hq3.out.1 hq3.out.2 hbs2.out ?_; intro B3 d3 q3 ho3 hc3 _; have hbq3 := hide (hbq2.out.trans (hc3.to_below (hlo.out _ hbs2.out) (fun k hk => hlo.out k (ho2.out.blk_lt k hk).1))); have hod3 := hide (hod2.out.chg hc3 (fun g hg e => by have h1 := ho6l.out g hg; have h2 := (ho2.out.blk_lt g e).1; omega)); have hbs3 := hide (Nat.le_trans hbs2.out hc3.size); replace ho3 := hide ho3; clear hc3)
                    | (at_builtin; refine wpList_append_rd q3 rfl (.tmp 191) (.tmp 192) rfl elem_byte rfl ho3.out rfl hod3.out.rd (one_bv2 D) hq4.out.1 hq4.out.2 hbs3.out ?_; intro B4 d4 q4 ho4 hc4 _; have hbq4 := hide (hbq3.out.trans (hc4.to_below (hlo.out _ hbs3.out) (fun k hk => hlo.out k (ho3.out.blk_lt k hk).1))); replace ho4 := hide ho4; clear hc4))
                  have hfin := hide (show UBd G w (bdOut q n out cs 0 0) (.returned (.tuple #[.slice B4 (127 + R.length + Pm.length + Lv.length + D.length) d4, .int .i64 0])) q4 from by
                    rw [hbo2.out]
                    have hlen : (headB H5 ++ R ++ Pm ++ Lv ++ D).length = 127 + R.length + Pm.length + Lv.length + D.length := by simp only [List.length_append, headB_len]
                    refine ⟨B4, d4, by simp only [hlen], ?_, bG2w.out.trans (hbq4.out.mono (Nat.le_of_lt hGB'.out))⟩
                    simp only [hlen]
                    rw [List.map_append, List.map_append, List.map_append, List.map_append]
                    exact ho4.out.rd)
                  go_ret2
                  exact hfin.out
                · have hrd : (r != 0) = true := by simp [hr0]
                  have hfin := hide (show ∀ W, Below GB wc W → UBd G w (bdOut q n out cs 0 r) (.returned (.tuple #[.slice none 0 0, .int .i64 r])) W from fun W hb => by
                    rw [hbo.out, if_pos hr0]
                    exact ⟨none, 0, rfl, ⟨rfl, fun j h => absurd h (Nat.not_lt_zero _)⟩, bG2w.out.trans (hb.mono (Nat.le_of_lt hGB'.out))⟩)
                  replace hr0 := hide hr0
                  go_wp2_with (first
                    | (with_reducible refine wpList_load_row (o := ⟨some 177, .load 30 (.tmp 16), _, _, _, _⟩) rfl 30 (.tmp 16) rfl gh rfl 30 H5.cells (0, 0) _ k12.out.eq Tryz.underlying30 rfl hinf.out ?_)
                    | (with_reducible refine wpList_load_row (o := ⟨some 181, .load 30 (.tmp 16), _, _, _, _⟩) rfl 30 (.tmp 16) rfl gh rfl 30 H5.cells (0, 0) _ k13.out.eq Tryz.underlying30 rfl hinf.out ?_)
                    | (go_at_call 49; (with_reducible refine (hri.out m5).mono ?_); rintro e m6 ⟨rfl, hb6⟩; have hbW6 := hide (hbW5.out.trans (hb6.mono hs5.out)); clear hb6)
                    | (go_at_call 49; (with_reducible refine (hri.out m4).mono ?_); rintro e m5 ⟨rfl, hb5⟩; have k13 := hide (k12.out.below hb5 k12.out.lt); have hbW5 := hide (hbW4.out.trans (hb5.mono (Nat.le_trans hwrs.out hsm4.out))); have hs5 := hide (Nat.le_trans (Nat.le_trans hwrs.out hsm4.out) hb5.size); clear hb5))
                  go_ret2
                  exact hfin.out _ hbW6.out
  · have hez : ((er : Int) == 0) = false := by simp; omega
    have hez2 : ((er : Int) != 0) = true := by simp; omega
    have hfin := hide (fun (W : World) (hb : Below G w W) => show UBd G w (bdOut q n out cs er r) (.returned (.tuple #[.slice none 0 0, .int .i64 (er : Int)])) W from by
      have ho : bdOut q n out cs er r = ([], (er : Int)) := if_pos (by omega)
      exact ⟨none, 0, by rw [ho]; rfl, by rw [ho]; exact ⟨rfl, fun j h => absurd h (Nat.not_lt_zero _)⟩, hb⟩)
    go_wp2_with (go_at_call 44; (with_reducible refine hen.out.mono ?_); rintro e w2 ⟨b2, ⟨he, rfl⟩ | ⟨he, _⟩⟩; (all_goals try (exact absurd he (by omega))); replace b2 := hide b2)
    go_ret2
    exact hfin.out _ (b1.out.trans (b2.out.mono (by have := hs1.out; omega)))

end Go.Proofs.YtaapjampmnanmaaGreat
