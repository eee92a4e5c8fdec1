/- Layer 13 (arch): a part of an archive unpacked, and a directory read, by the program and by the reference, by value. The conditions: where the bytes lie, and how many they are. Layer 13 (arch): Find of the program, by value: the entry that a number has. The conditions: where the bytes lie, and how many they are. -/
import Derived.Test.YtaapjampmnanmaaGreatArchTl
import Derived.Test.YtaapjampmnanmaaGreatDirY
import Derived.Deep.DeepCutAuto
import Derived.Deep.LoopGhost
import Derived.WalkMore
namespace Go.Proofs.YtaapjampmnanmaaGreat
open Go.RowKit Go.Shelf
set_option linter.unusedVariables false
set_option linter.unusedSimpArgs false
def UnP (w : World) (r : Sum Nat (List UInt8)) (e : Ending) (w' : World) : Prop :=
  Below w.heap.size w w' ∧ ((∃ er, r = .inl er ∧ 1 ≤ er ∧ e = .returned (.tuple #[.slice none 0 0, .int .i64 (er : Int)])) ∨
    (∃ o A c, r = .inr o ∧ e = .returned (.tuple #[.slice A o.length c, .int .i64 0]) ∧ Rd w' w'.heap.size A o.length (o.map bv)))
theorem Ar.part_rd {w : World} {B k : Nat} {A : Option Addr} {bs : List UInt8} (h : Rd w B A k (bs.map bv)) {a n : Nat} (hw : a + n ≤ k) : Rd w B (Option.map (fun x => x.add a) A) n ((Ar.part bs a n).map bv) := by
  have := h.sub a n hw
  unfold Ar.part
  simpa using this
theorem Ar.part_rd0 {w : World} {B k : Nat} {A : Option Addr} {bs : List UInt8} (h : Rd w B A k (bs.map bv)) {a n : Nat} (hn : n = 0) : Rd w B A n ((Ar.part bs a n).map bv) := by
  have := h.none0 a n hn
  unfold Ar.part
  simpa using this
theorem Ar.unpack_in {bs : List UInt8} {a n : Nat} (pk : Int) (hm : bs.length ≤ 1048576) (hw : Within a n bs.length) : Ar.unpack bs a n pk = if pk = 1 then .inr (Ar.part bs a n) else Gz.all (8 * n + 1) 1048576 (n + 1) [] (Ar.part bs a n) := by
  unfold Ar.unpack
  rw [if_pos hw]
  split
  · rw [if_neg (by unfold Within at hw; omega)]
  · rfl
set_option maxHeartbeats 1000000 in
theorem unpack_any (A : Option Addr) (c : Nat) (bs : List UInt8) (a n : Nat) (pk : Int) (w : World) (hr : Rd w w.heap.size A bs.length (bs.map bv)) (hc : bs.length ≤ c) (hm : bs.length ≤ 1048576) :
    Calls Tryz.prog 33 #[.slice A bs.length c, .int .u64 (a : Int), .int .u64 (n : Int), .int .i64 pk] w (UnP w (Ar.unpack bs a n pk)) := by
  have hwt := hide (within_any a n bs.length w (by omega))
  have hL : IntKind.u64.wrap (bs.length : Int) = (bs.length : Int) := by rw [IntKind.wrap_u64]; omega
  have hL' : (bs.length : Int) % 18446744073709551616 = (bs.length : Int) := by omega
  by_cases hw : Within a n bs.length
  · have hun := Ar.unpack_in pk hm hw
    have hl := Ar.part_len hw
    have hd : decide (Within a n bs.length) = true := decide_eq_true hw
    rw [hd] at hwt
    have han : a + n ≤ bs.length := by have h1 := hw.1; have h2 := hw.2; omega
    have hW : IntKind.u64.wrap ((a : Int) + (n : Int)) = ((a + n : Nat) : Int) := by rw [IntKind.wrap_u64]; omega
    have hM : ((a : Int) + (n : Int)) % 18446744073709551616 = ((a + n : Nat) : Int) := by omega
    have hacI : (a : Int) ≤ ((a + n : Nat) : Int) := by omega
    have hncI : ((a + n : Nat) : Int) ≤ (c : Int) := by omega
    have hnI : (n : Int) ≤ 1048576 := by omega
    have hrA := hide (Ar.part_rd hr han)
    have hrB := hide (fun (h0 : n = 0) => Ar.part_rd0 (a := a) hr h0)
    obtain ⟨N, hN⟩ : ∃ N, bs.length = N := ⟨_, rfl⟩
    obtain ⟨ps, hps⟩ : ∃ ps, Ar.part bs a n = ps := ⟨_, rfl⟩
    rw [hps] at hl hrA hrB hun
    have han' := hide (show a + n ≤ c by omega)
    have hn' := hide (show n ≤ 1048576 by omega)
    rw [hN] at hwt hL hL' ⊢
    clear hr hc han hm hN hw hd hps
    by_cases hp : pk = 1
    · subst hp
      rw [hun, if_pos rfl]
      clear hun
      go_enter Tryz.func33, Tryz.ntmps33
      go_wp2_with (first
        | (go_at_call 30; (with_reducible refine hwt.out.mono ?_); rintro e w' ⟨rfl, rfl⟩)
        | (go_at_call 68; (with_reducible refine (clone_any _ n _ ps w _ hrA.out (Nat.le_refl _) (by have := hn'.out; omega)).mono ?_); rintro e w2 ⟨A2, c2, rfl, ho2, hb2⟩; replace ho2 := hide ho2; replace hb2 := hide hb2)
        | (go_at_call 68; (with_reducible refine (clone_any A n _ ps w _ (hrB.out (by have := han'.out; omega)) (Nat.le_refl _) (by have := hn'.out; omega)).mono ?_); rintro e w2 ⟨A2, c2, rfl, ho2, hb2⟩; replace ho2 := hide ho2; replace hb2 := hide hb2))
      all_goals
        go_ret2
        rw [← hl] at ho2 ⊢
        exact ⟨hb2.out, .inr ⟨ps, A2, c2, rfl, rfl, ho2.out.rd⟩⟩
    · rw [hun, if_neg hp]
      clear hun
      obtain ⟨R, hR⟩ : ∃ R, Gz.all (8 * n + 1) 1048576 (n + 1) [] ps = R := ⟨_, rfl⟩
      have hrC : Rd w w.heap.size (if c = a then A else Option.map (fun x => x.add a) A) n (ps.map bv) := by
        split
        · exact hrB.out (by have := han'.out; omega)
        · exact hrA.out
      have hu1 := hide (show Calls Tryz.prog 67 #[.slice (if c = a then A else Option.map (fun x => x.add a) A) n (c - a), .int .i64 1048576] w (UnPost w (Gz.all (8 * n + 1) 1048576 (n + 1) [] ps)) from
        unwrap_any _ n (c - a) 1048576 (8 * n + 1) (n + 1) ps w hrC (by have := han'.out; omega) hn'.out (Nat.le_refl _) (by omega) (by omega))
      rw [hR] at hu1 ⊢
      replace hrC := hide hrC
      clear hR
      go_enter Tryz.func33, Tryz.ntmps33
      go_wp2_with (first
        | (go_at_call 30; (with_reducible refine hwt.out.mono ?_); rintro e w' ⟨rfl, rfl⟩)
        | (go_at_call 67; (with_reducible refine hu1.out.mono ?_); rintro e w2 ⟨hb2, ⟨er, h1, h2, rfl⟩ | ⟨o, A2, c2, h1, rfl, ho2⟩⟩; all_goals replace hb2 := hide hb2))
      all_goals
        go_ret2
        first
          | exact ⟨hb2.out, .inl ⟨er, (by first | exact h1 | rfl), h2, rfl⟩⟩
          | exact ⟨hb2.out, .inr ⟨o, A2, c2, (by first | exact h1 | rfl), rfl, ho2.rd⟩⟩
  · have hun : Ar.unpack bs a n pk = .inl 8 := by unfold Ar.unpack; rw [if_neg hw]
    have hd : decide (Within a n bs.length) = false := decide_eq_false hw
    rw [hun]
    rw [hd] at hwt
    obtain ⟨N, hN⟩ : ∃ N, bs.length = N := ⟨_, rfl⟩
    rw [hN] at hwt hL hL' ⊢
    clear hr hc hm hN hw hd hun
    go_enter Tryz.func33, Tryz.ntmps33
    go_wp2_with (go_at_call 30; (with_reducible refine hwt.out.mono ?_); rintro e w' ⟨rfl, rfl⟩)
    go_ret2
    exact ⟨Below.refl _ _, .inl ⟨8, rfl, by omega, rfl⟩⟩
def DirP (B : Nat) (w : World) (r : List Ent × Nat) (e : Ending) (w' : World) : Prop :=
  Below B w w' ∧ ∃ A c, e = .returned (.tuple #[.slice A r.1.length c, .int .i64 (r.2 : Int)]) ∧ RdE w' w'.heap.size A r.1 ∧ (r.2 = 0 → RightE r.1)
set_option maxHeartbeats 1000000 in
theorem adir_any (A : Option Addr) (c : Nat) (bs : List UInt8) (h : Hd) (a n : Nat) (w : World) (hr : Rd w w.heap.size A bs.length (bs.map bv)) (hc : bs.length ≤ c) (hm : bs.length ≤ 1048576) (r : List Ent × Nat) (hd : DirR bs h.inn a n r) :
    Calls Tryz.prog 14 #[.slice A bs.length c, .agg h.cells, .int .u64 (a : Int), .int .u64 (n : Int)] w (DirP w.heap.size w r) := by
  obtain ⟨G, hG⟩ : ∃ G, w.heap.size = G := ⟨_, rfl⟩
  obtain ⟨w1, hw1⟩ : ∃ W, w.alloc (.cells h.cells 30) = W := ⟨_, rfl⟩
  have hk1 := hide (show Blk w1 G 30 h.cells from by rw [← hw1, ← hG]; exact Blk.new w _ _)
  have hb1 := hide (show Below G w w1 from by rw [← hw1, ← hG]; exact (Below.refl _ w).alloc (Nat.le_refl _) _)
  have hs1 := hide (show w1.heap.size = G + 1 from by rw [← hw1, ← hG]; simp)
  have hc1 : w1.cell? ⟨G, 12, none⟩ = some (.int .i64 h.inn) := by
    have := hk1.out.cell 12
    rw [show h.cells[12]? = some (.int .i64 h.inn) from rfl] at this
    exact this
  rw [hG] at hr
  have hu := hide (unpack_any A c bs a n h.inn w1 ((hr.below hb1.out).mono (by rw [hs1.out]; omega)) hc hm)
  obtain ⟨R, hR⟩ : ∃ R, Ar.unpack bs a n h.inn = R := ⟨_, rfl⟩
  rw [hR] at hu
  have hd1 := hide (fun e (he : R = .inl e) => hd.1 e (hR.trans he))
  have hd2 := hide (fun d (he : R = .inr d) => (⟨hd.2 d (hR.trans he), Ar.unpack_len (hR.trans he)⟩ : GetR d r ∧ d.length ≤ 1048576))
  rw [hG]
  clear hR hd hr hc hm
  go_enter Tryz.func14, Tryz.ntmps14
  go_wp2_with (first
    | (go_at_call 33; (with_reducible refine hu.out.mono ?_); rintro e w2 ⟨hb2, ⟨er, h1, h2, rfl⟩ | ⟨o, A2, c2, h1, rfl, ho2⟩⟩; all_goals replace hb2 := hide hb2)
    | (go_at_call 37; (with_reducible refine (dget_any A2 c2 o w2 ho2 (hd2.out o h1).2 r (hd2.out o h1).1).mono ?_); rintro e w3 ⟨A3, c3, rfl, ho3, hb3⟩; replace hb3 := hide hb3))
  all_goals go_ret2
  · obtain rfl := hd1.out er h1
    exact ⟨hb1.out.trans (hb2.out.mono (by rw [hs1.out]; omega)), none, 0, rfl, fun j hj => absurd hj (Nat.not_lt_zero _), fun h0 => by have h0 : er = 0 := h0; omega⟩
  · exact ⟨(hb1.out.trans (hb2.out.mono (by rw [hs1.out]; omega))).trans (hb3.out.mono (by have := hb2.out.size; have := hs1.out; omega)), A3, c3, rfl, ho3.rd, (hd2.out o h1).1.right⟩
end Go.Proofs.YtaapjampmnanmaaGreat
namespace Go.Proofs.YtaapjampmnanmaaGreat
open Go.RowKit Go.Shelf
set_option linter.unusedVariables false
set_option linter.unusedSimpArgs false
theorem info_hd (h : Hd) : (Tryz.prog.info? 30).map (·.size) = some h.cells.size := by kernel_rfl
theorem results_row_tmp2 {P : Program} {fn : Func} {p u v : Tmp} {ty : TypeId} (h : fn.results = #[.cell p ty, .tmp u, .tmp v]) (tmps : Array Value) (w : World) (g : Nat) (t : TypeId) (cs : Array Value) (fr : Nat × Nat) (d : TypeDesc)
    (hp : tmps.getD p undef = .pointer (some ⟨g, 0, none⟩)) (hg : w.heap[g]? = some (.cells cs t fr))
    (hu : P.underlying ty = some d) (hd : (match d with | .struct _ | .array _ _ => true | _ => false) = true) (hi : (P.info? ty).map (·.size) = some cs.size) :
    (results fn tmps).run P w = .ok (.tuple #[.agg cs, tmps.getD u undef, tmps.getD v undef]) w := by
  have hp' : tmps[p]?.getD undef = .pointer (some ⟨g, 0, none⟩) := by simpa using hp
  simp [results, h, hp', asAddr, run_loadVar_row w g t ty cs fr d hg hu hd hi]
def FiRel (w : World) (G : Nat) (bs : List UInt8) (h : Hd) (id : Nat) (r : Ent × Bool × Nat) (gk : Nat) (s9 s10 s11 s22 : Value) (wr : World) : Prop :=
  ∃ a n j : Nat, s9 = .int .u64 (a : Int) ∧ s10 = .int .u64 (n : Int) ∧ s11 = .int .i64 3 ∧ s22 = .int .i64 (j : Int) ∧ j + gk = 4 ∧ Hid (DownR bs h.inn h.l0 h.l1 id gk a n r) ∧ Hid (Below G w wr) ∧
    Hid (Blk wr G 30 h.cells) ∧ Hid (Blk wr (G + 1) 36 #[.int .u64 0, .int .u64 0, .int .u64 0, .int .u64 0])
set_option maxRecDepth 100000 in
set_option maxHeartbeats 4000000 in
theorem afind_any (A : Option Addr) (c : Nat) (bs : List UInt8) (h : Hd) (id : Nat) (w : World) (hr : Rd w w.heap.size A bs.length (bs.map bv)) (hc : bs.length ≤ c) (hm : bs.length ≤ 1048576) (hid : id ≤ 18446744073709551615) (hl1 : h.l1 ≤ 18446744073709551615) (r : Ent × Bool × Nat)
    (hD : DownR bs h.inn h.l0 h.l1 id 4 h.r0 h.r1 r) :
    Calls Tryz.prog 10 #[.slice A bs.length c, .agg h.cells, .int .u64 (id : Int)] w fun e w' => e = .returned (.tuple #[.agg r.1.cells, .bool r.2.1, .int .i64 (r.2.2 : Int)]) ∧ Below w.heap.size w w' := by
  obtain ⟨G, hG⟩ : ∃ G, w.heap.size = G := ⟨_, rfl⟩
  obtain ⟨w1, hw1⟩ : ∃ W, w.alloc (.cells h.cells 30) = W := ⟨_, rfl⟩
  have hs1 : w1.heap.size = G + 1 := by rw [← hw1, ← hG]; simp
  obtain ⟨w2, hw2⟩ : ∃ W, w1.alloc (.cells #[.int .u64 0, .int .u64 0, .int .u64 0, .int .u64 0] 36) = W := ⟨_, rfl⟩
  have hk2 := hide (show Blk w2 G 30 h.cells from by rw [← hw2, ← hw1, ← hG]; exact (Blk.new w _ _).alloc _)
  have he2 := hide (show Blk w2 (G + 1) 36 #[.int .u64 0, .int .u64 0, .int .u64 0, .int .u64 0] from by rw [← hw2, ← hs1]; exact Blk.new w1 _ _)
  have hb2 := hide (show Below G w w2 from by rw [← hw2]; refine Below.alloc ?_ (by rw [hs1]; omega) _; rw [← hw1, ← hG]; exact (Below.refl _ w).alloc (Nat.le_refl _) _)
  have hs2 := hide (show w2.heap.size = G + 2 from by rw [← hw2]; simp [hs1])
  have c0 : w2.cell? ⟨G, 0, none⟩ = some (.int .u64 (h.r0 : Int)) := by
    have := hk2.out.cell 0
    rw [show h.cells[0]? = some (.int .u64 (h.r0 : Int)) from rfl] at this
    exact this
  have c1 : w2.cell? ⟨G, 1, none⟩ = some (.int .u64 (h.r1 : Int)) := by
    have := hk2.out.cell 1
    rw [show h.cells[1]? = some (.int .u64 (h.r1 : Int)) from rfl] at this
    exact this
  have hdir := hide (fun (a n : Nat) (d : List Ent × Nat) (hd : DirR bs h.inn a n d) (W : World) (hb : Below G w W) => adir_any A c bs h a n W ((hr.below (by rw [hG]; exact hb)).mono (by rw [hG, ← hG]; exact hb.size)) hc hm d hd)
  rw [hG] at hr ⊢
  replace hr := hide hr
  replace hc := hide hc
  replace hm := hide hm
  replace hid := hide hid
  replace hl1 := hide hl1
  go_enter Tryz.func10, Tryz.ntmps10
  go_wp2
  go_step3
  go_wp2
  go_region
  clear c0 c1 hw1 hw2 hs1
  go_wp2
  go_step3
  go_wp2
  go_loopg [9, 10, 11, 22] 4 (fun gk s9 s10 s11 s22 wr => FiRel w G bs h id r gk s9 s10 s11 s22 wr)
  case atStart => exact ⟨_, _, 0, rfl, rfl, rfl, rfl, rfl, hide hD, hide (below_drewN hb2.out _), hide (hk2.out.drewN _), hide (he2.out.drewN _)⟩
  case round =>
    clear hD hk2 he2 hb2 hs2
    obtain ⟨a, n, j, rfl, rfl, rfl, rfl, hj, hD, hb, hk, he⟩ := hrel
    rcases gk with _ | g
    · obtain rfl : j = 4 := by omega
      obtain rfl := hD.out
      clear hdir
      go_wp2_with (with_reducible refine wpList_store_row (o := ⟨none, .store 36 (.tmp 6) (.tmp 69), _, _, _, _⟩) rfl 36 (.tmp 6) (.tmp 69) rfl (G + 1) #[.int .u64 0, .int .u64 0, .int .u64 0, .int .u64 0] rfl rfl 36 _ he.out.eq (info_ent _ _ _ _) rfl (ent_one 0 0 0 0) ?_)
      try rw [Exit.noGoto_ret]
      refine bodyPost_ret_by (results_row_tmp2 rfl _ _ (G + 1) 36 #[.int .u64 0, .int .u64 0, .int .u64 0, .int .u64 0] (0, 0) _ rfl (he.out.row _) Tryz.underlying36 rfl (info_ent _ _ _ _)) rfl ⟨rfl, below_row hb.out (by omega) _⟩
    · obtain ⟨⟨es, er⟩, hd, h1, h2⟩ := hD.out
      have hdd := hide (hdir.out a n (es, er) hd wr hb.out)
      have hjI : (j : Int) < 4 := by omega
      have hjw : IntKind.i64.wrap ((j : Int) + 1) = (j : Int) + 1 := by rw [IntKind.wrap_i64]; omega
      replace h1 := hide h1
      replace h2 := hide h2
      replace hd := hide hd
      clear hD
      rcases Nat.eq_zero_or_pos er with rfl | hpos
      · obtain ⟨⟨⟨xi, xo, xl, xr⟩, ok⟩, hf, h3, h4⟩ := h2.out rfl
        replace hf := hide hf
        replace h3 := hide h3
        replace h4 := hide h4
        clear h1 h2
        go_upto_region 9 with (first
          | (with_reducible refine wpList_load_row (o := ⟨some 26, .load 30 (.tmp 4), _, _, _, _⟩) rfl 30 (.tmp 4) rfl G rfl 30 h.cells (0, 0) _ hk.out.eq Tryz.underlying30 rfl (info_hd h) ?_)
          | (go_at_call 14; (with_reducible refine hdd.out.mono ?_); rintro e w3 ⟨hb3, A3, c3, he3, hr3, hR3⟩; obtain rfl : e = .returned (.tuple #[.slice A3 es.length c3, .int .i64 0]) := he3; replace hb3 := hide hb3; replace hr3 := hide hr3; replace hR3 := hide (hR3 rfl))
          | (go_at_call 29; ((with_reducible refine (dfind_any A3 c3 es id w3 w3.heap.size hr3.out (Nat.le_refl _) hR3.out.big (by have := hR3.out.few; unfold maxLen; omega) hid.out (⟨xi, xo, xl, xr⟩, ok) hf.out.no hf.out.yes).mono ?_); rintro e w4 ⟨he4, hb4⟩; obtain rfl : e = .returned (.tuple #[.agg #[.int .u64 (xi : Int), .int .u64 (xo : Int), .int .u64 (xl : Int), .int .u64 (xr : Int)], .bool ok]) := he4; replace hb4 := hide hb4; obtain ⟨g5, hg5⟩ : ∃ g, w4.heap.size = g := ⟨_, rfl⟩; obtain ⟨w5, hw5⟩ : ∃ W, w4.alloc (.cells #[.int .u64 0, .int .u64 0, .int .u64 0, .int .u64 0] 36) = W := ⟨_, rfl⟩; have k5 := hide (show Blk w5 g5 36 #[.int .u64 0, .int .u64 0, .int .u64 0, .int .u64 0] from by rw [← hw5, ← hg5]; exact Blk.new w4 _ _); obtain ⟨w6, hw6⟩ : ∃ W, w5.setRow g5 #[.int .u64 (xi : Int), .int .u64 (xo : Int), .int .u64 (xl : Int), .int .u64 (xr : Int)] = W := ⟨_, rfl⟩))
          | ((with_reducible refine wpList_store_row (o := ⟨none, .store 36 (.tmp 14) (.tmp 40), _, _, _, _⟩) rfl 36 (.tmp 14) (.tmp 40) rfl g5 #[.int .u64 (xi : Int), .int .u64 (xo : Int), .int .u64 (xl : Int), .int .u64 (xr : Int)] rfl rfl 36 _ k5.out.eq (info_ent _ _ _ _) rfl (ent_one _ _ _ _) ?_); rw [hw6]))
        have k6 := hide (show Blk w6 g5 36 #[.int .u64 (xi : Int), .int .u64 (xo : Int), .int .u64 (xl : Int), .int .u64 (xr : Int)] from by rw [← hw6]; exact k5.out.row _)
        have hsr := hide (show G + 2 ≤ wr.heap.size from he.out.lt)
        have b4 := hide (show Below G w w4 from (hb.out.trans (hb3.out.mono (by have := hsr.out; omega))).trans (hb4.out.mono (by have := hsr.out; have := hb3.out.size; omega)))
        have hg5G := hide (show G + 2 ≤ g5 from by have := hsr.out; have := hb3.out.size; have := hb4.out.size; omega)
        have b46 := hide (show Below g5 w4 w6 from by rw [← hw6]; exact below_row (by rw [← hw5, ← hg5]; exact (Below.refl _ w4).alloc (Nat.le_refl _) _) (Nat.le_refl _) _)
        have b6 := hide (show Below G w w6 from b4.out.trans (b46.out.mono (by have := hg5G.out; omega)))
        have b26 := hide (show Below (G + 2) wr w6 from ((hb3.out.mono hsr.out).trans (hb4.out.mono (by have := hsr.out; have := hb3.out.size; omega))).trans (b46.out.mono hg5G.out))
        have kh6 := hide (hk.out.below b26.out (by omega))
        have e6 := hide (he.out.below b26.out (by omega))
        have d1 : w6.cell? ⟨g5, 1, none⟩ = some (.int .u64 (xo : Int)) := k6.out.cell 1
        have d2 : w6.cell? ⟨g5, 2, none⟩ = some (.int .u64 (xl : Int)) := k6.out.cell 2
        have d3 : w6.cell? ⟨g5, 3, none⟩ = some (.int .u64 (xr : Int)) := k6.out.cell 3
        have d4 : w6.cell? ⟨G, 4, none⟩ = some (.int .u64 (h.l0 : Int)) := by
          have := kh6.out.cell 4
          rw [show h.cells[4]? = some (.int .u64 (h.l0 : Int)) from rfl] at this
          exact this
        have d5 : w6.cell? ⟨G, 5, none⟩ = some (.int .u64 (h.l1 : Int)) := by
          have := kh6.out.cell 5
          rw [show h.cells[5]? = some (.int .u64 (h.l1 : Int)) from rfl] at this
          exact this
        clear hw5 hw6 k5 hb3 hb4 hdd hr3 hR3 hk he
        cases ok with
        | false =>
          obtain rfl := h3.out rfl
          go_wp2_with (with_reducible refine wpList_store_row (o := ⟨none, .store 36 (.tmp 6) (.tmp 69), _, _, _, _⟩) rfl 36 (.tmp 6) (.tmp 69) rfl (G + 1) #[.int .u64 0, .int .u64 0, .int .u64 0, .int .u64 0] rfl rfl 36 _ e6.out.eq (info_ent _ _ _ _) rfl (ent_one _ _ _ _) ?_)
          try rw [Exit.noGoto_ret]
          refine bodyPost_ret_by (results_row_tmp2 rfl _ _ (G + 1) 36 #[.int .u64 0, .int .u64 0, .int .u64 0, .int .u64 0] (0, 0) _ rfl (e6.out.row _) Tryz.underlying36 rfl (info_ent _ _ _ _)) rfl ⟨rfl, below_row b6.out (by omega) _⟩
        | true =>
          rcases Nat.eq_zero_or_pos xr with rfl | hxr
          · by_cases hW : Within xo xl h.l1
            · have hwt := hide (show Calls Tryz.prog 30 #[.int .u64 (xo : Int), .int .u64 (xl : Int), .int .u64 (h.l1 : Int)] w6 fun e w' => e = .returned (.bool true) ∧ w6 = w' from by have := within_any xo xl h.l1 w6 hl1.out; rw [decide_eq_true hW] at this; exact this)
              have hdn := ((h4.out rfl).2 rfl).2 hW
              obtain ⟨s, hs⟩ : ∃ s, (h.l0 + xo) % 18446744073709551616 = s := ⟨_, rfl⟩
              rw [hs] at hdn
              have hsw : IntKind.u64.wrap ((h.l0 : Int) + (xo : Int)) = (s : Int) := by rw [IntKind.wrap_u64]; omega
              have hsm : ((h.l0 : Int) + (xo : Int)) % 18446744073709551616 = (s : Int) := by omega
              replace hdn := hide hdn
              replace hs := hide hs
              replace hW := hide hW
              go_upto_region 15 with (go_at_call 30; (with_reducible refine hwt.out.mono ?_); rintro e w7 ⟨rfl, rfl⟩)
              go_region
              go_wp2
              go_roundg g
              case measure => omega
              case rel => exact ⟨s, xl, j + 1, rfl, rfl, rfl, by simp, by omega, hdn, hide (below_drewN b6.out _), hide (kh6.out.drewN _), hide (e6.out.drewN _)⟩
            · obtain rfl := ((h4.out rfl).2 rfl).1 hW
              have hwt := hide (show Calls Tryz.prog 30 #[.int .u64 (xo : Int), .int .u64 (xl : Int), .int .u64 (h.l1 : Int)] w6 fun e w' => e = .returned (.bool false) ∧ w6 = w' from by have := within_any xo xl h.l1 w6 hl1.out; rw [decide_eq_false hW] at this; exact this)
              replace hW := hide hW
              go_wp2_with (first
                | (go_at_call 30; (with_reducible refine hwt.out.mono ?_); rintro e w7 ⟨rfl, rfl⟩)
                | (with_reducible refine wpList_store_row (o := ⟨none, .store 36 (.tmp 6) (.tmp 69), _, _, _, _⟩) rfl 36 (.tmp 6) (.tmp 69) rfl (G + 1) #[.int .u64 0, .int .u64 0, .int .u64 0, .int .u64 0] rfl rfl 36 _ e6.out.eq (info_ent _ _ _ _) rfl (ent_one _ _ _ _) ?_))
              try rw [Exit.noGoto_ret]
              refine bodyPost_ret_by (results_row_tmp2 rfl _ _ (G + 1) 36 #[.int .u64 0, .int .u64 0, .int .u64 0, .int .u64 0] (0, 0) _ rfl (e6.out.row _) Tryz.underlying36 rfl (info_ent _ _ _ _)) rfl ⟨rfl, below_row b6.out (by omega) _⟩
          · obtain rfl := (h4.out rfl).1 hxr
            have hxI : (0 : Int) < (xr : Int) := by omega
            go_wp2_with (first
              | (with_reducible refine wpList_load_row (o := ⟨some 49, .load 36 (.tmp 14), _, _, _, _⟩) rfl 36 (.tmp 14) rfl g5 rfl 36 #[.int .u64 (xi : Int), .int .u64 (xo : Int), .int .u64 (xl : Int), .int .u64 (xr : Int)] (0, 0) _ k6.out.eq Tryz.underlying36 rfl (info_ent _ _ _ _) ?_)
              | (with_reducible refine wpList_store_row (o := ⟨none, .store 36 (.tmp 6) (.tmp 49), _, _, _, _⟩) rfl 36 (.tmp 6) (.tmp 49) rfl (G + 1) #[.int .u64 (xi : Int), .int .u64 (xo : Int), .int .u64 (xl : Int), .int .u64 (xr : Int)] rfl rfl 36 _ e6.out.eq (info_ent _ _ _ _) rfl (ent_one _ _ _ _) ?_))
            try rw [Exit.noGoto_ret]
            refine bodyPost_ret_by (results_row_tmp2 rfl _ _ (G + 1) 36 #[.int .u64 (xi : Int), .int .u64 (xo : Int), .int .u64 (xl : Int), .int .u64 (xr : Int)] (0, 0) _ rfl (e6.out.row _) Tryz.underlying36 rfl (info_ent _ _ _ _)) rfl ⟨rfl, below_row b6.out (by omega) _⟩
      · obtain rfl := h1.out (by omega)
        have hne : ((er : Int) != 0) = true := by simp; omega
        clear h2
        go_wp2_with (first
          | (with_reducible refine wpList_load_row (o := ⟨some 26, .load 30 (.tmp 4), _, _, _, _⟩) rfl 30 (.tmp 4) rfl G rfl 30 h.cells (0, 0) _ hk.out.eq Tryz.underlying30 rfl (info_hd h) ?_)
          | (go_at_call 14; ((with_reducible refine hdd.out.mono ?_); rintro e w3 ⟨hb3, A3, c3, he3, hr3, hR3⟩; obtain rfl : e = .returned (.tuple #[.slice A3 es.length c3, .int .i64 er]) := he3; have b3 := hide (hb.out.trans (hb3.mono (by have := he.out.lt; omega))); have e3 := hide (he.out.below hb3 he.out.lt); clear hb3 hr3 hR3))
          | (with_reducible refine wpList_store_row (o := ⟨none, .store 36 (.tmp 6) (.tmp 34), _, _, _, _⟩) rfl 36 (.tmp 6) (.tmp 34) rfl (G + 1) #[.int .u64 0, .int .u64 0, .int .u64 0, .int .u64 0] rfl rfl 36 _ e3.out.eq (info_ent _ _ _ _) rfl (ent_one 0 0 0 0) ?_))
        try rw [Exit.noGoto_ret]
        refine bodyPost_ret_by (results_row_tmp2 rfl _ _ (G + 1) 36 #[.int .u64 0, .int .u64 0, .int .u64 0, .int .u64 0] (0, 0) _ rfl (e3.out.row _) Tryz.underlying36 rfl (info_ent _ _ _ _)) rfl ⟨rfl, below_row b3.out (by omega) _⟩
end Go.Proofs.YtaapjampmnanmaaGreat
