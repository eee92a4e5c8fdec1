/- Layer 14 (pack): Build of the program. The conditions: where the items lie; at most 40 items; how long items and metadata are. -/
import Derived.Test.YtaapjampmnanmaaGreatBdX
import Derived.Test.YtaapjampmnanmaaGreatArchY
import Derived.Laws.CopyOwn
import Derived.Lib.ConvBytes
import Derived.Deep.OwnRows
namespace Go.Proofs.YtaapjampmnanmaaGreat
open Go.RowKit
set_option linter.unusedVariables false
set_option linter.unusedSimpArgs false

theorem conv_str (w : World) (mt : List UInt8) : ∃ c' w', (convert 9 22 (.string ⟨mt.toArray⟩)).run Tryz.prog w = .ok (.slice (some ⟨w.heap.size, 0, none⟩) mt.length c') w' ∧ Rd w' w'.heap.size (some ⟨w.heap.size, 0, none⟩) mt.length (mt.map bv) ∧ Below w.heap.size w w' ∧ mt.length ≤ c' := by
  have h := Go.Lib.run_convert_string_bytes (P := Tryz.prog) w 9 22 5 ⟨mt.toArray⟩ Tryz.underlying9 Tryz.underlying22 Tryz.underlying5
  have hsz : (ByteArray.mk mt.toArray).size = mt.length := rfl
  rw [hsz] at h
  refine ⟨_, _, h, ⟨by simp, fun j hj => ?_⟩, ⟨rfl, rfl, rfl, by rw [Go.Lib.bytesWorld_size]; omega, fun k hk => Go.Lib.bytesWorld_at_old _ _ _ _ hk⟩, ?_⟩
  · refine ⟨w.heap.size, 0, rfl, by rw [Go.Lib.bytesWorld_size]; omega, ?_⟩
    rw [Nat.zero_add, Go.Lib.bytesWorld_cell w 5 ⟨mt.toArray⟩ j hj, List.getElem?_map, List.getElem?_eq_getElem hj]
    simp [bv, List.getD_eq_getElem?_getD, List.getElem?_eq_getElem hj]
  · exact grownCap_ge w mt.length 0 5
theorem owe_cap {w : World} {b c : Nat} {A : Option Addr} {es : List Ent} (h : OwE w b A c es) : es.length ≤ c := by
  obtain ⟨xs, h, _⟩ := h
  rcases h.2 with ⟨hv, h0⟩ | ⟨g, cap, cur, hv, _, _, hc, _⟩
  · injection hv with h1 h2 h3
    omega
  · injection hv with h1 h2 h3
    rw [h3]
    exact hc
theorem made_zeros (n : Nat) : (madeCells #[.int .u8 0] n).toList = (List.replicate n (0 : UInt8)).map bv := by
  apply List.ext_getElem
  · simp [size_madeCells]
  · intro i h1 h2
    simp [madeCells, Nat.mod_one, bv]
/-- The spec's cells. -/
def Sp.cells (q : Sp) : Array Value := #[.bool q.gz, .int .i64 q.leaf, .int .i64 q.z0, .int .i64 q.z1, .int .i64 q.ax, .int .i64 q.ay, .int .i64 q.bx, .int .i64 q.bY, .int .i64 q.cx, .int .i64 q.cy, .int .i64 q.at', .string ⟨q.mtx.toArray⟩]
theorem info_sp (q : Sp) : (Tryz.prog.info? 61).map (·.size) = some q.cells.size := by
  show _ = some 12
  kernel_rfl
/-- What the walk of Build owns: the spec, the header, the box of the bytes, the bytes. -/
structure BdM (GB gs gh gb : Nat) (w0 w : World) (q : Sp) (h : Hd) (Ab : Option Addr) (cb : Nat) (bs : List UInt8) : Prop where
  sp : Blk w gs 61 q.cells
  hd : Blk w gh 30 h.cells
  bx : Blk w gb 22 #[.slice Ab bs.length cb]
  ow : Ow w GB 5 Ab bs.length cb (bs.map bv)
  bel : Below GB w0 w
  s : gs < GB
  h' : GB ≤ gh
  b' : GB ≤ gb
section
variable {GB gs gh gb : Nat} {w0 w w' : World} {q : Sp} {h : Hd} {Ab : Option Addr} {cb : Nat} {bs : List UInt8}
theorem BdM.size (m : BdM GB gs gh gb w0 w q h Ab cb bs) : GB ≤ w.heap.size := Nat.le_of_lt (Nat.lt_of_le_of_lt m.h' m.hd.lt)
theorem BdM.below (m : BdM GB gs gh gb w0 w q h Ab cb bs) (hb : Below w.heap.size w w') : BdM GB gs gh gb w0 w' q h Ab cb bs :=
  ⟨m.sp.below hb m.sp.lt, m.hd.below hb m.hd.lt, m.bx.below hb m.bx.lt, m.ow.below hb, m.bel.trans (hb.mono m.size), m.s, m.h', m.b'⟩
theorem BdM.part (m : BdM GB gs gh gb w0 w q h Ab cb bs) {ds : List UInt8} {e : Ending} (hp : PartP gb GB bs ds Ab w e w') :
    e = .returned (.agg #[.int .u64 (bs.length : Int), .int .u64 (ds.length : Int)]) ∧ ∃ Ab' cb', BdM GB gs gh gb w0 w' q h Ab' cb' (bs ++ ds) := by
  obtain ⟨he, Ab', cb', hk, ho, hc⟩ := hp
  have hlow : ∀ k, (k = gb ∨ blk Ab = some k) → GB ≤ k := fun k hk => hk.elim (fun e => by rw [e]; exact m.b') (fun e => (m.ow.blk_lt k e).1)
  refine ⟨he, Ab', cb', ⟨m.sp.chg hc (fun hk => by have := hlow gs hk; have := m.s; omega), m.hd.chg hc (fun hk => ?_), by rw [List.length_append]; exact hk, by rw [List.length_append]; exact ho, m.bel.trans (hc.to_below m.size hlow), m.s, m.h', m.b'⟩⟩
  rcases hk with hk | hk
  · exact absurd hk (Blk.same m.hd m.bx (by decide))
  · exact m.ow.ne m.hd (by decide) hk
/-- Two numbers stored into the header. -/
theorem BdM.set2 (m : BdM GB gs gh gb w0 w q h Ab cb bs) (i : Nat) (a b : Value) (hd' : Hd) (hk : Blk ((w.setCell ⟨gh, i, none⟩ a).setCell ⟨gh, i + 1, none⟩ b) gh 30 hd'.cells) :
    BdM GB gs gh gb w0 ((w.setCell ⟨gh, i, none⟩ a).setCell ⟨gh, i + 1, none⟩ b) q hd' Ab cb bs := by
  have hc : Chg (fun k => k = gh) w ((w.setCell ⟨gh, i, none⟩ a).setCell ⟨gh, i + 1, none⟩ b) := ((Chg.refl (fun k => k = gh) w).setCell (p := ⟨gh, i, none⟩) (.inr rfl) _).setCell (p := ⟨gh, i + 1, none⟩) (.inr rfl) _
  refine ⟨m.sp.chg hc (fun hk => by have := m.s; have := m.h'; omega), hk, m.bx.chg hc (fun e => ?_), m.ow.chg hc (fun g hg e => ?_), m.bel.trans (hc.to_below m.size (fun k hk => by rw [hk]; exact m.h')), m.s, m.h', m.b'⟩
  · exact absurd e (Blk.same m.bx m.hd (by decide))
  · subst e
    exact m.ow.ne m.hd (by decide) hg
end
theorem step_copy_own {P : Program} {ops : Array Oper} {o : Oper} {a : Act} {w : World} {K : Act → World → Prop} {Q : Exit → Act → World → Prop} {E : Prop} (hgd : o.guard = none) (d s : Operand) (dT sT : TypeId)
    (ho : o.op = .call { callee := .builtin .copy, args := #[d, s], argTypes := #[dT, sT] }) (elem : TypeId) (hu : P.underlying dT = some (.slice elem)) (hsz : (P.info? elem).map (·.size) = some 1)
    (g off dLen dCap : Nat) (ad : Addr) (sLen sCap : Nat) (hd : a.eval d = .slice (some ⟨g, off, none⟩) dLen dCap) (hs : a.eval s = .slice (some ad) sLen sCap)
    (cur : Array Value) (t : TypeId) (hg : w.heap[g]? = some (.cells cur t (0, 0))) (cs : List Value) (hn : cs.length = Nat.min sLen dLen)
    (hsrc : ∀ j v, cs[j]? = some v → w.cell? (ad.add j) = some v) (hfit : off + cs.length ≤ cur.size) (h1 : ∀ v ∈ cs, v.oneCell' = true)
    (h : K (a.put o.dst (goInt cs.length)) (w.setRow g (cur.toList.take off ++ (cs ++ cur.toList.drop (off + cs.length))).toArray)) :
    if Region.wanted o (yielded ops a.tmps) = true then Oper.wp P o a w K Q else E := by
  rw [if_pos (by simp [Region.wanted, hgd])]
  have hrun := run_copy_row (P := P) w dT sT o.type elem g off dLen dCap ad sLen sCap cur t cs hu hsz hg hn hsrc hfit h1
  unfold Oper.wp
  simp [execOp, ho, resolve, invoke, builtin, hd, hs, hrun, Result.andThen]
  exact h
/-- The bytes once the header's bytes are laid over their head. -/
theorem Ow.headed {w : World} {base g n c : Nat} {cur : Array Value} {bs hs : List UInt8} (h : Ow w base 5 (some ⟨g, 0, none⟩) n c (bs.map bv)) (hg : w.heap[g]? = some (.cells cur 5 (0, 0))) (hl : hs.length ≤ n) :
    hs.length ≤ cur.size ∧ Ow (w.setRow g (cur.toList.take 0 ++ (hs.map bv ++ cur.toList.drop (0 + (hs.map bv).length))).toArray) base 5 (some ⟨g, 0, none⟩) n c ((hs ++ bs.drop hs.length).map bv) := by
  rcases h.2 with ⟨hv, _⟩ | ⟨g', cap, cur', hv, hb, hh, h1, h2, h3, h4⟩
  · cases hv
  · injection hv with e1 e2 e3
    injection e1 with e1
    injection e1 with e1 _
    subst e1 e3
    rw [hh] at hg
    injection hg with hg
    injection hg with hg
    subst hg
    have hbl : bs.length = n := by have := h.1; simpa using this
    refine ⟨by omega, ?_, .inr ⟨g, c, _, rfl, hb, setRow_heap w g cur' _ _ (0, 0) hh, h1, h2, ?_, ?_⟩⟩
    · simp
      omega
    · simp
      omega
    · rw [List.take_zero, List.nil_append, Nat.zero_add, List.map_append, List.map_drop]
      rw [← h4]
      simp only [List.length_map, Nat.mul_one]
      rw [List.take_append]
      rw [List.take_of_length_le (by simp; omega), List.length_map, List.drop_take]
/-- What Build returns, with what is known of it. -/
def BuildP (q : Sp) (l : List Im) (d : Im) (er : Nat) (G : Nat) (w : World) (e : Ending) (w' : World) : Prop :=
  ∃ X out cs r, UBd G w (bdOut q l.length out cs er r) e w' ∧ RightR (bdHead q l.length out cs) (bdLen q out cs : Int) r ∧ (er = 0 → St.Rch 0 l.length (itf l d) X ∧ St.Srt It.id 0 l.length X) ∧
    (er = 0 → out = (EnS.upto (pkd q.gz) X l.length).out ∧ cs = (EnS.upto (pkd q.gz) X l.length).texts.map (pkd q.gz)) ∧ (er ≠ 0 → out = [] ∧ cs = [])
theorem BuildP.bad {q : Sp} {l : List Im} {d : Im} {er : Nat} {G : Nat} {w w' : World} (he : er ≠ 0) (hb : Below G w w') : BuildP q l d er G w (.returned (.tuple #[.slice none 0 0, .int .i64 (er : Int)])) w' := by
  obtain ⟨r, hr⟩ := RightR.ex (bdHead q l.length [] []) (bdLen q [] [] : Int)
  have ho : bdOut q l.length [] [] er r = ([], (er : Int)) := if_pos he
  exact ⟨fun _ => d.it, [], [], r, ⟨none, 0, by rw [ho]; rfl, by rw [ho]; exact ⟨rfl, fun j h => absurd h (Nat.not_lt_zero _)⟩, hb⟩, hr, fun h => absurd h he, fun h => absurd h he, fun _ => ⟨rfl, rfl⟩⟩

set_option maxRecDepth 100000 in
set_option maxHeartbeats 8000000 in
theorem build_any (A : Option Addr) (c : Nat) (l : List Im) (q : Sp) (w : World) (hr : RdIm w w.heap.size A l) (hn : l.length ≤ 40) (d : Im) (er : Nat) (hE : SortE l er) (her : er ≤ 8) (hby : er = 0 → ImBy w w.heap.size l)
    (hsm : er = 0 → q.mtx.length ≤ 1048576 → q.mtx.length ≤ 4000 ∧ ∀ m ∈ l, m.n ≤ 4000) (hI : q.leaf ≤ 9223372036854775807) (hml : q.mtx.length ≤ 9223372036854775807) :
    Calls Tryz.prog 21 #[.slice A l.length c, q.val] w (BuildP q l d er w.heap.size w) := by
  obtain ⟨G, hG⟩ : ∃ G, w.heap.size = G := ⟨_, rfl⟩
  obtain ⟨w1, hw1⟩ : ∃ W, w.alloc (.cells q.cells 61) = W := ⟨_, rfl⟩
  have k1 := hide (show Blk w1 G 61 q.cells from by rw [← hw1, ← hG]; exact Blk.new w _ _)
  have b1 := hide (show Below G w w1 from by rw [← hw1, ← hG]; exact (Below.refl _ w).alloc (Nat.le_refl _) _)
  have hs1 := hide (show w1.heap.size = G + 1 from by rw [← hw1]; simp [hG])
  rw [hG] at hr hby
  have hr1 := hide (show RdIm w1 w1.heap.size A l from (hr.below b1.out).mono (by have := hs1.out; omega))
  have hby1 := hide (fun (h0 : er = 0) => show ImBy w1 w1.heap.size l from fun m hm => by
    obtain ⟨h1, h2, h3⟩ := hby h0 m hm
    exact ⟨(h1.below b1.out).mono (by have := hs1.out; omega), h2, h3⟩)
  have e0 : w1.cell? ⟨G, 0, none⟩ = some (.bool q.gz) := k1.out.cell 0
  have e11 : w1.cell? ⟨G, 11, none⟩ = some (.string ⟨q.mtx.toArray⟩) := k1.out.cell 11
  have hen := hide (entries_any A c l q.gz w1 hr1.out hn d er hE hby1.out her)
  have hPd := hide (fun (e : Ending) (w' : World) => show BuildP q l d er G w e w' → BuildP q l d er w.heap.size w e w' from by rw [hG]; exact id)
  have hsp := info_sp q
  have hqv : q.val = .agg q.cells := rfl
  have hms : ((ByteArray.mk q.mtx.toArray).size : Int) = (q.mtx.length : Int) := rfl
  obtain ⟨n, hl⟩ : ∃ n, l.length = n := ⟨_, rfl⟩
  rw [hl] at hen
  rw [hl, hqv, hG]
  have hmI : (q.mtx.length : Int) ≤ 9223372036854775807 := by omega
  replace hE := hide hE
  replace hsm := hide hsm
  replace hn := hide hn
  replace hl := hide hl
  replace hml := hide hml
  replace hsp := hide hsp
  clear hr hby hr1
  go_enter Tryz.func21, Tryz.ntmps21
  rcases Nat.eq_zero_or_pos er with rfl | hep
  · replace hby1 := hide (hby1.out rfl)
    go_upto_region 2 with (go_at_call 39; (with_reducible refine hen.out.mono ?_); rintro e w2 ⟨b2, ⟨he, _⟩ | ⟨_, X, A9, c9, A10, c10, vs, hR, hS, rfl, ho, hro, hbt⟩⟩; (exact absurd rfl he); replace hR := hide hR; replace hS := hide hS; replace ho := hide ho; replace hro := hide hro; replace hbt := hide hbt; replace b2 := hide b2)
    obtain ⟨out, hout⟩ : ∃ x, (EnS.upto (pkd q.gz) X l.length).out = x := ⟨_, rfl⟩
    obtain ⟨cs, hcs⟩ : ∃ x, (EnS.upto (pkd q.gz) X l.length).texts.map (pkd q.gz) = x := ⟨_, rfl⟩
    rw [hout] at ho
    rw [hcs] at hbt
    rw [hout]
    have hs12 := hide (show w1.heap.size ≤ w2.heap.size from b2.out.size)
    have bG2 := hide (show Below G w w2 from b1.out.trans (b2.out.mono (by have := hs1.out; omega)))
    have k2 := hide (k1.out.below b2.out k1.out.lt)
    have f11 : w2.cell? ⟨G, 11, none⟩ = some (.string ⟨q.mtx.toArray⟩) := k2.out.cell 11
    have hvl := hide (show vs.length = cs.length from hbt.out.1)
    rw [hvl.out]
    have hmk := hide (show ∀ (r : Int) (W : World) (e : Ending), RightR (bdHead q l.length out cs) (bdLen q out cs : Int) r → UBd G w (bdOut q l.length out cs 0 r) e W → BuildP q l d 0 G w e W from fun r W e h1 h2 =>
      ⟨X, out, cs, r, h2, h1, fun _ => ⟨hR.out, hS.out⟩, fun _ => ⟨hout.symm, hcs.symm⟩, fun h => absurd rfl h⟩)
    by_cases hbig : 1048576 < q.mtx.length
    · have hbd : decide ((1048576 : Int) < (q.mtx.length : Int)) = true := by rw [decide_eq_true_eq]; omega
      have hfin := hide (show BuildP q l d 0 G w (.returned (.tuple #[.slice none 0 0, .int .i64 5])) w2 from by
        obtain ⟨r, hr⟩ := RightR.ex (bdHead q l.length out cs) (bdLen q out cs : Int)
        have ho : bdOut q l.length out cs 0 r = ([], 5) := by unfold bdOut; rw [if_neg (by simp), if_pos hbig]
        exact hmk.out r w2 _ hr ⟨none, 0, by rw [ho]; rfl, by rw [ho]; exact ⟨rfl, fun j h => absurd h (Nat.not_lt_zero _)⟩, bG2.out⟩)
      clear hbig
      go_wp2
      go_ret2
      exact hfin.out
    · have hbd : decide ((1048576 : Int) < (q.mtx.length : Int)) = false := by rw [decide_eq_false_iff_not]; omega
      obtain ⟨hM4, hl4⟩ := hsm.out (by first | rfl | trivial) (by omega)
      have hok := out_ok q.gz hE.out hn.out hby1.out hl4 hR.out hS.out
      rw [hout, hcs] at hok
      have hdir := dirs_any A9 c9 out q w2 ho.out.rd (owe_cap ho.out) hok.right hok.few hI
      rw [show q.val = .agg q.cells from rfl] at hdir
      replace hdir := hide hdir
      have hRf := dRoot_few q.gz q.leaf out hok.few
      have hLf := dLeaf_few q.gz q.leaf out hok.few
      have hPf := pkd_len q.gz q.mtx hM4
      have hDf := hok.most
      have hD0 := hide hok.pos
      have hcf := hide hok.cfew
      have hof := hide hok.few
      obtain ⟨R, hR0⟩ : ∃ x, dRoot q.gz q.leaf out = x := ⟨_, rfl⟩
      obtain ⟨Lv, hL0⟩ : ∃ x, dLeaf q.gz q.leaf out = x := ⟨_, rfl⟩
      obtain ⟨Pm, hP0⟩ : ∃ x, pkd q.gz q.mtx = x := ⟨_, rfl⟩
      have hbh := hide (show bdHead q l.length out cs = bdHd q n out.length cs.length R.length Pm.length Lv.length cs.flatten.length from by unfold bdHead; rw [hR0, hL0, hP0, hl.out])
      have hbl := hide (show bdLen q out cs = 127 + R.length + Pm.length + Lv.length + cs.flatten.length from by unfold bdLen; rw [hR0, hL0, hP0])
      have hbo := hide (show ∀ r, bdOut q l.length out cs 0 r = if 4194304 < bdLen q out cs then ([], 5) else if r ≠ 0 then ([], r) else (headB (bdHead q l.length out cs) ++ R ++ Pm ++ Lv ++ cs.flatten, 0) from fun r => by unfold bdOut; rw [if_neg (by simp), if_neg hbig, hR0, hL0, hP0])
      rw [hR0] at hRf
      rw [hL0] at hLf
      rw [hP0] at hPf
      rw [hR0, hL0] at hdir
      have hM4' := hide hM4
      replace hout := hide hout
      replace hcs := hide hcs
      clear hl4 hok hbig hM4 hR0 hL0
      replace hP0 := hide hP0
      go_upto_region 9 with (first
        | (with_reducible refine wpList_load_row (o := ⟨some 34, .load 61 (.tmp 3), _, _, _, _⟩) rfl 61 (.tmp 3) rfl G rfl 61 q.cells (0, 0) _ k2.out.eq Tryz.underlying61 rfl hsp.out ?_)
        | (go_at_call 40; (with_reducible refine hdir.out.mono ?_); rintro e w3 ⟨A4, c4, A5, c5, rfl, h4, h5, b3⟩; replace h4 := hide h4; replace h5 := hide h5; replace b3 := hide b3))
      obtain ⟨GB, hGB⟩ : ∃ x, w3.heap.size = x := ⟨_, rfl⟩
      have hs23 := hide (show w2.heap.size ≤ GB from by rw [← hGB]; exact b3.out.size)
      have bG3 := hide (show Below G w w3 from bG2.out.trans (b3.out.mono (by have := hs12.out; have := hs1.out; omega)))
      have k3 := hide (k2.out.below b3.out k2.out.lt)
      have hGs := hide (show G < GB from by have := hs12.out; have := hs23.out; have := hs1.out; omega)
      have hRd := hide (show ∀ W, Below GB w3 W → Rd W GB A4 R.length (R.map bv) from fun W hb => by have := h4.out.rd; rw [hGB] at this; exact this.below hb)
      have hLd := hide (show ∀ W, Below GB w3 W → Rd W GB A5 Lv.length (Lv.map bv) from fun W hb => by have := h5.out.rd; rw [hGB] at this; exact this.below hb)
      have hCat := hide (show ∀ W, Below GB w3 W → CatAt W GB A10 cs from fun W hb => by
        refine CatAt.below ?_ hb
        intro k hk
        obtain ⟨g, va, m, vc, hA, hc, hrd⟩ := byts_at (hro.out.below b3.out) (hbt.out.below b3.out) (by have := hs12.out; have := hs23.out; omega) k (by rw [hvl.out]; exact hk) hk
        have hm := hrd.len
        rw [hGB] at hrd
        subst hm
        exact ⟨g, va, vc, hA, by rw [← hGB]; exact World.block_lt_of_cell? w3 _ hc, hc, hrd⟩)
      have hem := pempty_any q w3
      rw [show q.val = .agg q.cells from rfl] at hem
      replace hem := hide hem
      obtain ⟨xs, hxs⟩ : ∃ x, (emptyH q).cells = x := ⟨_, rfl⟩
      have xinfo := hide (show (Tryz.prog.info? 30).map (·.size) = some xs.size from by rw [← hxs]; exact (emptyH q).info)
      have xone := hide (show xs.all (·.oneCell') = true from by rw [← hxs]; exact (emptyH q).one)
      have xsz := hide (show (#[.int .u64 0, .int .u64 0, .int .u64 0, .int .u64 0, .int .u64 0, .int .u64 0, .int .u64 0, .int .u64 0, .int .u64 0, .int .u64 0, .int .u64 0, .bool false, .int .i64 0, .int .i64 0, .int .i64 0, .int .i64 0, .int .i64 0, .int .i64 0, .int .i64 0, .int .i64 0, .int .i64 0, .int .i64 0, .int .i64 0, .int .i64 0] : Array Value).size = xs.size from by rw [← hxs]; rfl)
      rw [hxs] at hem
      go_upto_region 10 with (first
        | (with_reducible refine wpList_load_row (o := ⟨some 42, .load 61 (.tmp 3), _, _, _, _⟩) rfl 61 (.tmp 3) rfl G rfl 61 q.cells (0, 0) _ k3.out.eq Tryz.underlying61 rfl hsp.out ?_)
        | (go_at_call 24; (with_reducible refine hem.out.mono ?_); rintro e w4 ⟨rfl, b4⟩; obtain ⟨gh, hgh⟩ : ∃ g, w4.heap.size = g := ⟨_, rfl⟩; obtain ⟨w5, hw5⟩ : ∃ W, w4.alloc (.cells #[.int .u64 0, .int .u64 0, .int .u64 0, .int .u64 0, .int .u64 0, .int .u64 0, .int .u64 0, .int .u64 0, .int .u64 0, .int .u64 0, .int .u64 0, .bool false, .int .i64 0, .int .i64 0, .int .i64 0, .int .i64 0, .int .i64 0, .int .i64 0, .int .i64 0, .int .i64 0, .int .i64 0, .int .i64 0, .int .i64 0, .int .i64 0] 30) = W := ⟨_, rfl⟩; have k5 := hide (show Blk w5 gh 30 #[.int .u64 0, .int .u64 0, .int .u64 0, .int .u64 0, .int .u64 0, .int .u64 0, .int .u64 0, .int .u64 0, .int .u64 0, .int .u64 0, .int .u64 0, .bool false, .int .i64 0, .int .i64 0, .int .i64 0, .int .i64 0, .int .i64 0, .int .i64 0, .int .i64 0, .int .i64 0, .int .i64 0, .int .i64 0, .int .i64 0, .int .i64 0] from by rw [← hw5, ← hgh]; exact Blk.new w4 _ _); obtain ⟨w6, hw6⟩ : ∃ W, w5.setRow gh xs = W := ⟨_, rfl⟩; replace b4 := hide b4)
        | ((with_reducible refine wpList_store_row (o := ⟨none, .store 30 (.tmp 11) (.tmp 43), _, _, _, _⟩) rfl 30 (.tmp 11) (.tmp 43) rfl gh xs rfl rfl 30 _ k5.out.eq xinfo.out xsz.out xone.out ?_); rw [hw6]))
      have hsgh := hide (show GB ≤ gh from by rw [← hgh, ← hGB]; exact b4.out.size)
      have k6 := hide (show Blk w6 gh 30 (emptyH q).cells from by rw [← hw6, hxs]; exact k5.out.row _)
      have b6 := hide (show Below GB w3 w6 from by rw [← hw6, ← hw5]; exact below_row ((b4.out.mono (by rw [hGB]; exact Nat.le_refl _)).alloc (by rw [hgh]; exact hsgh.out) _) hsgh.out _)
      obtain ⟨H1, hH1⟩ : ∃ x : Hd, { emptyH q with c0 := n, c1 := out.length, c2 := cs.length } = x := ⟨_, rfl⟩
      have hnI : IntKind.u64.wrap (n : Int) = (n : Int) := by have := hn.out; have := hl.out; rw [IntKind.wrap_u64]; omega
      have hoI : IntKind.u64.wrap (out.length : Int) = (out.length : Int) := by have := hof.out; rw [IntKind.wrap_u64]; omega
      have hcI : IntKind.u64.wrap (cs.length : Int) = (cs.length : Int) := by have := hcf.out; rw [IntKind.wrap_u64]; omega
      have g8 : w6.cell? ⟨gh, 8, none⟩ = some (.int .u64 0) := k6.out.cell 8
      have g9 : w6.cell? ⟨gh, 9, none⟩ = some (.int .u64 0) := k6.out.cell 9
      have g10 : w6.cell? ⟨gh, 10, none⟩ = some (.int .u64 0) := k6.out.cell 10
      have gf := k6.out.free
      obtain ⟨w7, hw7⟩ : ∃ W, ((w6.setCell ⟨gh, 8, none⟩ (.int .u64 (n : Int))).setCell ⟨gh, 9, none⟩ (.int .u64 (out.length : Int))).setCell ⟨gh, 10, none⟩ (.int .u64 (cs.length : Int)) = W := ⟨_, rfl⟩
      have k7 := hide (show Blk w7 gh 30 H1.cells from by rw [← hw7, ← hH1]; exact ((k6.out.set 8 _).set 9 _).set 10 _)
      have b7 := hide (show Below GB w3 w7 from by rw [← hw7]; exact ((b6.out.setCell hsgh.out _).setCell hsgh.out _).setCell hsgh.out _)
      obtain ⟨ga, hga⟩ : ∃ x, w7.heap.size = x := ⟨_, rfl⟩
      obtain ⟨w8, hw8⟩ : ∃ W, w7.alloc (.cells (madeCells #[.int .u8 0] 127) 5) = W := ⟨_, rfl⟩
      have hmr := run_make_row' (P := Tryz.prog) 22 5 (.int .u8 0) 1 Tryz.underlying22 (by kernel_rfl) rfl .i64 .i64 127 (by omega) (by omega) w7
      rw [hga, hw8] at hmr
      replace hmr : (Instr.makeSlice 22 (.int .i64 127) (.int .i64 127)).run Tryz.prog w7 = .ok (.slice (some ⟨ga, 0, none⟩) 127 127) w8 := hmr
      have hs8 : w8.heap.size = ga + 1 := by rw [← hw8]; simp [hga]
      obtain ⟨w9, hw9⟩ : ∃ W, w8.alloc (.cells #[.slice (some ⟨ga, 0, none⟩) 127 127] 22) = W := ⟨_, rfl⟩
      obtain ⟨zb, hzb⟩ : ∃ x, List.replicate 127 (0 : UInt8) = x := ⟨_, rfl⟩
      have hzl : zb.length = 127 := by rw [← hzb]; simp
      have hM0 := hide (show BdM GB G gh (ga + 1) w3 w9 q H1 (some ⟨ga, 0, none⟩) 127 zb from by
        have hg7 : GB ≤ ga := by rw [← hga]; exact Nat.le_trans hsgh.out (Nat.le_of_lt k7.out.lt)
        have hb8 : Below GB w7 w8 := by rw [← hw8]; exact (Below.refl _ w7).alloc (by rw [hga]; exact hg7) _
        have hb9 : Below GB w8 w9 := by rw [← hw9]; exact (Below.refl _ w8).alloc (by rw [hs8]; omega) _
        have hghl : gh < ga := by rw [← hga]; exact k7.out.lt
        have h8 : Ow w8 GB 5 (some ⟨ga, 0, none⟩) 127 127 (zb.map bv) := by
          have h := Ow.lit w7 (base := GB) (e := 5) (madeCells #[.int .u8 0] 127) (by rw [hga]; exact hg7) (by rw [size_madeCells]; simp [maxLen])
          rw [hga, hw8, made_zeros, hzb] at h
          have hz : (madeCells #[.int .u8 0] 127).size = 127 := by rw [size_madeCells]
          rw [hz] at h
          exact h
        have k78 : Blk w8 gh 30 H1.cells := by rw [← hw8]; exact k7.out.alloc _
        have k9 : Blk w9 gh 30 H1.cells := by rw [← hw9]; exact k78.alloc _
        have kb : Blk w9 (ga + 1) 22 #[.slice (some ⟨ga, 0, none⟩) 127 127] := by rw [← hw9, ← hs8]; exact Blk.new w8 _ _
        have b9 := (b7.out.trans hb8).trans hb9
        exact ⟨k3.out.below b9 hGs.out, k9, by rw [hzl]; exact kb, by rw [hzl, ← hw9]; exact h8.alloc _, b9, hGs.out, hsgh.out, by omega⟩)
      clear k5 hw5
      go_upto_region 13 with fail
      obtain ⟨gb, hgb⟩ : ∃ x, ga + 1 = x := ⟨_, rfl⟩
      rw [hgb] at hM0 ⊢
      replace hzl := hide hzl
      clear hw7 hw8 hw9 g8 g9 g10 gf hmr hs8 hga k6 k7 b6 b7 hgb
      have hp1 := hide (dpart_any gb GB (some ⟨ga, 0, none⟩) 127 zb R A4 c4 GB w9 hM0.out.bx hM0.out.ow hM0.out.size (hRd.out w9 hM0.out.bel) (by rw [hzl.out]; omega))
      go_upto_region 14 with (go_at_call 41; (with_reducible refine hp1.out.mono ?_); rintro e m1 hP; obtain ⟨rfl, Ab1, cb1, hM1⟩ := hM0.out.part hP; clear hP; rw [hzl.out]; have x0 : m1.cell? ⟨gh, 0, none⟩ = some (.int .u64 (H1.r0 : Int)) := hM1.hd.cell 0; have x1 : m1.cell? ⟨gh, 1, none⟩ = some (.int .u64 (H1.r1 : Int)) := hM1.hd.cell 1; have xf := hM1.hd.free; replace hM1 := hide hM1)
      obtain ⟨n1, hn1⟩ : ∃ W, (m1.setCell ⟨gh, 0, none⟩ (.int .u64 ((127 : Nat) : Int))).setCell ⟨gh, 1, none⟩ (.int .u64 (R.length : Int)) = W := ⟨_, rfl⟩
      obtain ⟨H2, hH2⟩ : ∃ x : Hd, { H1 with r0 := 127, r1 := R.length } = x := ⟨_, rfl⟩
      obtain ⟨B1, hB1⟩ : ∃ x, zb ++ R = x := ⟨_, rfl⟩
      have hB1l := hide (show B1.length = 127 + R.length from by rw [← hB1, List.length_append, hzl.out])
      have hN1 := hide (show BdM GB G gh gb w3 n1 q H2 Ab1 cb1 B1 from by
        have h := hM1.out.set2 0 (.int .u64 ((127 : Nat) : Int)) (.int .u64 (R.length : Int)) H2 (by rw [← hH2]; exact (hM1.out.hd.set 0 _).set 1 _)
        rw [hB1] at h
        rw [← hn1]
        exact h)
      rw [show (m1.setCell ⟨gh, 0, none⟩ (.int .u64 127)).setCell ⟨gh, 1, none⟩ (.int .u64 (R.length : Int)) = n1 from hn1]
      clear x0 x1 xf hn1 hM1 hp1
      obtain ⟨cm, nc, hcv, hrm, hbm, hcm⟩ := conv_str n1 q.mtx
      obtain ⟨gm, hgm⟩ : ∃ x, n1.heap.size = x := ⟨_, rfl⟩
      have hNc := hide (hN1.out.below hbm)
      rw [hgm] at hcv hrm
      have y11 : n1.cell? ⟨G, 11, none⟩ = some (.string ⟨q.mtx.toArray⟩) := hN1.out.sp.cell 11
      have y0 : nc.cell? ⟨G, 0, none⟩ = some (.bool q.gz) := hNc.out.sp.cell 0
      have hpk := ppacked_any (some ⟨gm, 0, none⟩) q.mtx.length cm q.mtx q.gz nc hrm hcm (by have := hM4'.out; omega)
      rw [hP0.out] at hpk
      replace hpk := hide hpk
      have hp2 := hide (fun (W : World) (A' : Option Addr) (c' : Nat) (m : BdM GB G gh gb w3 W q H2 Ab1 cb1 B1) (hr : Rd W W.heap.size A' Pm.length (Pm.map bv)) => dpart_any gb GB Ab1 cb1 B1 Pm A' c' W.heap.size W m.bx m.ow m.size hr (by have := hB1l.out; omega))
      clear hrm hbm hcm
      go_upto_region 15 with (first
        | (go_at_call 42; (with_reducible refine hpk.out.mono ?_); rintro e np ⟨Ap, cp, rfl, hop, hbp⟩; have hNp := hide (hNc.out.below hbp); have hpp := hide (hp2.out np Ap cp hNp.out hop.rd); clear hop hbp y0)
        | (go_at_call 41; (with_reducible refine hpp.out.mono ?_); rintro e m2 hP; obtain ⟨rfl, Ab2, cb2, hM2⟩ := hNp.out.part hP; clear hP; have x0 : m2.cell? ⟨gh, 2, none⟩ = some (.int .u64 (H2.m0 : Int)) := hM2.hd.cell 2; have x1 : m2.cell? ⟨gh, 3, none⟩ = some (.int .u64 (H2.m1 : Int)) := hM2.hd.cell 3; have xf := hM2.hd.free; replace hM2 := hide hM2))
      obtain ⟨n2, hn2⟩ : ∃ W, (m2.setCell ⟨gh, 2, none⟩ (.int .u64 (B1.length : Int))).setCell ⟨gh, 3, none⟩ (.int .u64 (Pm.length : Int)) = W := ⟨_, rfl⟩
      obtain ⟨H3, hH3⟩ : ∃ x : Hd, { H2 with m0 := B1.length, m1 := Pm.length } = x := ⟨_, rfl⟩
      obtain ⟨B2, hB2⟩ : ∃ x, B1 ++ Pm = x := ⟨_, rfl⟩
      have hB2l := hide (show B2.length = 127 + R.length + Pm.length from by rw [← hB2, List.length_append, hB1l.out])
      have hN2 := hide (show BdM GB G gh gb w3 n2 q H3 Ab2 cb2 B2 from by
        have h := hM2.out.set2 2 (.int .u64 (B1.length : Int)) (.int .u64 (Pm.length : Int)) H3 (by rw [← hH3]; exact (hM2.out.hd.set 2 _).set 3 _)
        rw [hB2] at h
        rw [← hn2]
        exact h)
      rw [hn2]
      have hp3 := hide (dpart_any gb GB Ab2 cb2 B2 Lv A5 c5 GB n2 hN2.out.bx hN2.out.ow hN2.out.size (hLd.out n2 hN2.out.bel) (by rw [hB2l.out]; omega))
      clear x0 x1 xf hn2 hM2 hpp hpk hp2 hNp hcv y11 hNc
      go_upto_region 16 with (go_at_call 41; (with_reducible refine hp3.out.mono ?_); rintro e m3 hP; obtain ⟨rfl, Ab3, cb3, hM3⟩ := hN2.out.part hP; clear hP; have x0 : m3.cell? ⟨gh, 4, none⟩ = some (.int .u64 (H3.l0 : Int)) := hM3.hd.cell 4; have x1 : m3.cell? ⟨gh, 5, none⟩ = some (.int .u64 (H3.l1 : Int)) := hM3.hd.cell 5; have xf := hM3.hd.free; replace hM3 := hide hM3)
      obtain ⟨n3, hn3⟩ : ∃ W, (m3.setCell ⟨gh, 4, none⟩ (.int .u64 (B2.length : Int))).setCell ⟨gh, 5, none⟩ (.int .u64 (Lv.length : Int)) = W := ⟨_, rfl⟩
      obtain ⟨H4, hH4⟩ : ∃ x : Hd, { H3 with l0 := B2.length, l1 := Lv.length } = x := ⟨_, rfl⟩
      obtain ⟨B3, hB3⟩ : ∃ x, B2 ++ Lv = x := ⟨_, rfl⟩
      have hB3l := hide (show B3.length = 127 + R.length + Pm.length + Lv.length from by rw [← hB3, List.length_append, hB2l.out])
      have hN3 := hide (show BdM GB G gh gb w3 n3 q H4 Ab3 cb3 B3 from by
        have h := hM3.out.set2 4 (.int .u64 (B2.length : Int)) (.int .u64 (Lv.length : Int)) H4 (by rw [← hH4]; exact (hM3.out.hd.set 4 _).set 5 _)
        rw [hB3] at h
        rw [← hn3]
        exact h)
      rw [hn3]
      have hca := catn_any A10 c10 GB cs n3 (hCat.out n3 hN3.out.bel) hN3.out.size hcf.out hD0.out (by omega)
      obtain ⟨D, hD⟩ : ∃ x, cs.flatten = x := ⟨_, rfl⟩
      rw [hD] at hca hDf
      replace hca := hide hca
      have hp4 := hide (fun (W : World) (A' : Option Addr) (c' : Nat) (m : BdM GB G gh gb w3 W q H4 Ab3 cb3 B3) (hr : Rd W W.heap.size A' D.length (D.map bv)) => dpart_any gb GB Ab3 cb3 B3 D A' c' W.heap.size W m.bx m.ow m.size hr (by have := hB3l.out; omega))
      clear x0 x1 xf hn3 hM3 hp3
      go_upto_region 17 with (first
        | (go_at_call 43; (with_reducible refine hca.out.mono ?_); rintro e np ⟨Ap, cp, rfl, hop, hbp⟩; have hNp := hide (hN3.out.below hbp); have hpp := hide (hp4.out np Ap cp hNp.out hop.rd); clear hop hbp)
        | (go_at_call 41; (with_reducible refine hpp.out.mono ?_); rintro e m4 hP; obtain ⟨rfl, Ab4, cb4, hM4⟩ := hNp.out.part hP; clear hP; have x0 : m4.cell? ⟨gh, 6, none⟩ = some (.int .u64 (H4.d0 : Int)) := hM4.hd.cell 6; have x1 : m4.cell? ⟨gh, 7, none⟩ = some (.int .u64 (H4.d1 : Int)) := hM4.hd.cell 7; have xf := hM4.hd.free; replace hM4 := hide hM4))
      obtain ⟨n4, hn4⟩ : ∃ W, (m4.setCell ⟨gh, 6, none⟩ (.int .u64 (B3.length : Int))).setCell ⟨gh, 7, none⟩ (.int .u64 (D.length : Int)) = W := ⟨_, rfl⟩
      obtain ⟨H5, hH5⟩ : ∃ x : Hd, { H4 with d0 := B3.length, d1 := D.length } = x := ⟨_, rfl⟩
      obtain ⟨B4, hB4⟩ : ∃ x, B3 ++ D = x := ⟨_, rfl⟩
      have hB4l := hide (show B4.length = 127 + R.length + Pm.length + Lv.length + D.length from by rw [← hB4, List.length_append, hB3l.out])
      have hN4 := hide (show BdM GB G gh gb w3 n4 q H5 Ab4 cb4 B4 from by
        have h := hM4.out.set2 6 (.int .u64 (B3.length : Int)) (.int .u64 (D.length : Int)) H5 (by rw [← hH5]; exact (hM4.out.hd.set 6 _).set 7 _)
        rw [hB4] at h
        rw [← hn4]
        exact h)
      rw [hn4]
      have hbd4 := hide (show bdLen q out cs = B4.length from by rw [hbl.out, hB4l.out, hD])
      have hH := hide (show bdHead q l.length out cs = H5 from by
        rw [hbh.out, ← hH5, ← hH4, ← hH3, ← hH2, ← hH1, hD, hB3l.out, hB2l.out, hB1l.out]
        rfl)
      have bG4 := hide (show Below G w n4 from bG3.out.trans (hN4.out.bel.mono (Nat.le_of_lt hGs.out)))
      clear x0 x1 xf hn4 hM4 hpp hca hp4 hNp
      obtain ⟨L4, hL4⟩ : ∃ x, B4.length = x := ⟨_, rfl⟩
      have z0 : n4.cell? ⟨gb, 0, none⟩ = some (.slice Ab4 L4 cb4) := by rw [← hL4]; exact hN4.out.bx.cell 0
      have hL4I : (L4 : Int) ≤ 9000000 := by have := hB4l.out; omega
      by_cases hlong : 4194304 < L4
      · have hld : decide ((4194304 : Int) < (L4 : Int)) = true := by rw [decide_eq_true_eq]; omega
        have hfin := hide (show BuildP q l d 0 G w (.returned (.tuple #[.slice none 0 0, .int .i64 5])) n4 from by
          obtain ⟨r, hr⟩ := RightR.ex (bdHead q l.length out cs) (bdLen q out cs : Int)
          have ho : bdOut q l.length out cs 0 r = ([], 5) := by rw [hbo.out, hbd4.out, hL4, if_pos hlong]
          exact hmk.out r n4 _ hr ⟨none, 0, by rw [ho]; rfl, by rw [ho]; exact ⟨rfl, fun j h => absurd h (Nat.not_lt_zero _)⟩, bG4.out⟩)
        replace hlong := hide hlong
        go_wp2
        go_ret2
        exact hfin.out
      · have hld : decide ((4194304 : Int) < (L4 : Int)) = false := by rw [decide_eq_false_iff_not]; omega
        obtain ⟨r, hr⟩ := RightR.ex H5 (L4 : Int)
        have hri := hide (fun W => right_any H5 (L4 : Int) W (by omega) r hr)
        have hinf := hide H5.info
        replace hr := hide hr
        replace hlong := hide hlong
        have hu8 : H5.c0 ≤ 18446744073709551615 ∧ H5.c1 ≤ 18446744073709551615 ∧ H5.c2 ≤ 18446744073709551615 := by
          rw [← hH5, ← hH4, ← hH3, ← hH2, ← hH1]
          have := hn.out
          have := hl.out
          have := hof.out
          have := hcf.out
          simp only
          omega
        have hkk : H5.Ok := by
          rw [← hH5, ← hH4, ← hH3, ← hH2, ← hH1]
          have := hB1l.out
          have := hB2l.out
          have := hB3l.out
          exact ⟨by simp only; omega⟩
        have hput := hide (fun W => puthead_any H5 hkk hu8 W)
        have hrest := hide (show headB H5 ++ B4.drop 127 = headB (bdHead q l.length out cs) ++ R ++ Pm ++ Lv ++ cs.flatten from by
          rw [hH.out, ← hB4, ← hB3, ← hB2, ← hB1, hD]
          have := hzl.out
          simp [List.drop_append, this])
        clear hkk hu8
        go_upto_region 20 with (first
          | (with_reducible refine wpList_load_row (o := ⟨some 82, .load 30 (.tmp 11), _, _, _, _⟩) rfl 30 (.tmp 11) rfl gh rfl 30 H5.cells (0, 0) _ hN4.out.hd.eq Tryz.underlying30 rfl hinf.out ?_)
          | (go_at_call 28; (with_reducible refine (hri.out n4).mono ?_); rintro e n5 ⟨rfl, hb5⟩; have hN5 := hide (hN4.out.below hb5); replace hb5 := hide hb5))
        have bG5 := hide (show Below G w n5 from bG3.out.trans (hN5.out.bel.mono (Nat.le_of_lt hGs.out)))
        by_cases hr0 : r = 0
        · subst hr0
          go_upto_region 22 with fail
          obtain ⟨gx, hAb, hgx, hgxl⟩ := hN5.out.ow.pos (by rw [hL4]; have := hB4l.out; omega)
          have hnew := hide (show ∀ W, UBd G w (headB H5 ++ B4.drop 127, 0) (.returned (.tuple #[.slice (some ⟨gx, 0, none⟩) L4 cb4, .int .i64 0])) W → BuildP q l d 0 G w (.returned (.tuple #[.slice (some ⟨gx, 0, none⟩) L4 cb4, .int .i64 0])) W from fun W h => by
            refine hmk.out 0 W _ (by rw [hH.out, hbd4.out, hL4]; exact hr.out) ?_
            rw [hbo.out, hbd4.out, hL4, if_neg hlong.out, if_neg (by simp), ← hrest.out]
            exact h)
          have hlast := hide (show (headB H5 ++ B4.drop 127).length = L4 from by rw [List.length_append, headB_len, List.length_drop, hL4]; have := hB4l.out; omega)
          subst hAb
          have hs0 : Blk n5.drew gb 22 #[.slice (some ⟨gx, 0, none⟩) L4 cb4] ∧ Blk n5.drew gh 30 H5.cells := ⟨by rw [← hL4]; exact hN5.out.bx, hN5.out.hd⟩
          have hN6 := hide (hN5.out.below (show Below n5.heap.size n5 n5.drew from ⟨rfl, rfl, rfl, Nat.le_refl _, fun _ _ => rfl⟩))
          refine wp_region_held_drew (S := fun W => Blk W gb 22 #[.slice (some ⟨gx, 0, none⟩) L4 cb4] ∧ Blk W gh 30 H5.cells) (by kernel_rfl) hs0 ?_
          obtain ⟨n6, hn6⟩ : ∃ W, n5.drew = W := ⟨_, rfl⟩
          rw [hn6] at hN6 ⊢
          clear hs0
          intro hS0
          refine gtake (i := 0) (d := 89) (v := .slice (some ⟨gx, 0, none⟩) L4 cb4) rfl rfl (by kernel_rfl) (by kernel_rfl) (by kernel_rfl) (fun _ _ _ h => h) (.inl ⟨rfl, fun W hW => by have h0 : W.cell? ⟨gb, 0, none⟩ = some (.slice (some ⟨gx, 0, none⟩) L4 cb4) := hW.1.cell 0; go_simp⟩) (by assumption) ?_
          simp only [Act.put, List.setIfInBounds_toArray, List.set_cons_zero, List.set_cons_succ]
          refine gtake (i := 1) (d := 90) (v := .agg H5.cells) rfl rfl (by kernel_rfl) (by kernel_rfl) (by kernel_rfl) (fun _ _ _ h => h) (yields_row rfl 30 (.tmp 11) rfl gh rfl 30 H5.cells _ (fun W hW => hW.2) Tryz.underlying30 rfl hinf.out) (by assumption) ?_
          simp only [Act.put, List.setIfInBounds_toArray, List.set_cons_zero, List.set_cons_succ]
          refine wpAnyH_ready (rs := [2]) (by kernel_rfl) (by simp) ?_
          refine AllReadyH.cons (o := ⟨some 91, _, _, _, _, _⟩) rfl (fun K hK => ?_) AllReadyH.nil
          rw [if_pos (by rfl)]
          go_simp
          go_at_call 26
          (with_reducible refine (hput.out n6).mono ?_)
          rintro e n7 ⟨A7, c7, rfl, ho7, hb7⟩
          have hN7 := hide (hN6.out.below hb7)
          have ho7 := hide ho7
          have hS7 : Blk n7 gb 22 #[.slice (some ⟨gx, 0, none⟩) L4 cb4] ∧ Blk n7 gh 30 H5.cells := ⟨by rw [← hL4]; exact hN7.out.bx, hN7.out.hd⟩
          clear hb7
          refine hK.out _ _ hS7 (fun _ => ?_)
          clear hK
          obtain ⟨g7, rfl, _, _⟩ := ho7.out.pos (by omega)
          obtain ⟨cur, hcur⟩ := hN7.out.ow.rowOf (g := gx) rfl
          have hrow := hN7.out.ow.headed (hs := headB H5) hcur (by rw [headB_len, hL4]; have := hB4l.out; omega)
          obtain ⟨n8, hn8⟩ : ∃ W, n7.setRow gx (cur.toList.take 0 ++ ((headB H5).map bv ++ cur.toList.drop (0 + ((headB H5).map bv).length))).toArray = W := ⟨_, rfl⟩
          have hO8 := hrow.2
          rw [hn8, headB_len] at hO8
          have hc8 : Chg (fun k => k = gx) n7 n8 := by rw [← hn8]; exact (Chg.refl (fun k => k = gx) n7).setRow (.inr rfl) _
          have hS8 : Blk n8 gb 22 #[.slice (some ⟨gx, 0, none⟩) L4 cb4] ∧ Blk n8 gh 30 H5.cells := ⟨hS7.1.chg hc8 (fun e => hN7.out.ow.ne hN7.out.bx (by decide) (by rw [e]; rfl)), hS7.2.chg hc8 (fun e => hN7.out.ow.ne hN7.out.hd (by decide) (by rw [e]; rfl))⟩
          have hb8 := hide (show Below G w n8 from (bG3.out.trans (hN7.out.bel.mono (Nat.le_of_lt hGs.out))).trans (hc8.to_below (Nat.le_trans (Nat.le_of_lt hGs.out) hN7.out.size) (fun k hk => by rw [hk]; exact Nat.le_trans (Nat.le_of_lt hGs.out) hgx)))
          refine wpAnyH_ready (rs := [3]) (by kernel_rfl) (by simp) ?_
          refine AllReadyH.cons (o := ⟨some 92, _, _, _, _, _⟩) rfl (fun K hK => ?_) AllReadyH.nil
          refine step_copy_own rfl (.tmp 89) (.tmp 91) 22 22 rfl 5 Tryz.underlying22 (by kernel_rfl) gx 0 L4 cb4 ⟨g7, 0, none⟩ 127 c7 rfl rfl cur 5 hcur ((headB H5).map bv) (by rw [List.length_map, headB_len]; have := hB4l.out; exact (Nat.min_eq_left (by omega)).symm) (fun j v hv => ho7.out.cells (g := g7) rfl j v hv) (by rw [List.length_map, Nat.zero_add]; exact hrow.1) (one_bv2 (headB H5)) ?_
          rw [hn8]
          refine hK.out _ _ hS8 (fun _ => ?_)
          clear hK
          refine wpAnyH_done (by kernel_rfl) ?_ _
          have z8 : n8.cell? ⟨gb, 0, none⟩ = some (.slice (some ⟨gx, 0, none⟩) L4 cb4) := hS8.1.cell 0
          have hfin := hide (hnew.out n8 ⟨some ⟨gx, 0, none⟩, cb4, by rw [hlast.out], by rw [hlast.out]; rw [hL4] at hO8; exact hO8.rd, hb8.out⟩)
          simp only [Act.put, List.setIfInBounds_toArray, List.set_cons_zero, List.set_cons_succ]
          go_wp2
          go_ret2
          exact hfin.out
        · have hrd : (r != 0) = true := by simp [hr0]
          have hfin := hide (show BuildP q l d 0 G w (.returned (.tuple #[.slice none 0 0, .int .i64 r])) n5 from by
            have ho : bdOut q l.length out cs 0 r = ([], r) := by rw [hbo.out, hbd4.out, hL4, if_neg hlong.out, if_pos hr0]
            exact hmk.out r n5 _ (by rw [hH.out, hbd4.out, hL4]; exact hr.out) ⟨none, 0, by rw [ho]; rfl, by rw [ho]; exact ⟨rfl, fun j h => absurd h (Nat.not_lt_zero _)⟩, bG5.out⟩)
          replace hr0 := hide hr0
          go_wp2
          go_ret2
          exact hfin.out
  · have hez : ((er : Int) == 0) = false := by simp; omega
    have hez2 : ((er : Int) != 0) = true := by simp; omega
    go_wp2_with (go_at_call 39; (with_reducible refine hen.out.mono ?_); rintro e w2 ⟨b2, ⟨he, rfl⟩ | ⟨he, _⟩⟩; (all_goals try (exact absurd he (by omega))); replace b2 := hide b2)
    go_ret2
    exact BuildP.bad (by omega) (b1.out.trans (b2.out.mono (by have := hs1.out; omega)))

end Go.Proofs.YtaapjampmnanmaaGreat
