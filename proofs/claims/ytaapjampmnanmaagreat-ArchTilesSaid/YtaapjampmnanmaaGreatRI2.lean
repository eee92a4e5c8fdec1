/- Layer 4 (inflate), the document's answer: fixed, walked. There is no condition. Layer 4 (inflate), the document's answer: lengths, walked. The conditions: where things lie. Layer 4 (inflate), the document's answer: dynamic, walked. The conditions: where things lie. Layer 4 (inflate), the document's answer: Data, walked. The conditions: where the bytes lie, and how many they are. -/
import Derived.Test.YtaapjampmnanmaaGreatRI1
import Derived.Test.YtaapjampmnanmaaGreatHuffX
import Derived.Test.YtaapjampmnanmaaGreatDefX
import Derived.Deep.DeepCutAuto
import Derived.BigQuiet
import Derived.Test.YtaapjampmnanmaaGreatInfY
import Derived.Deep.RegionHeld3
namespace Go.Proofs.YtaapjampmnanmaaGreat
open Go.RowKit Go.Shelf
set_option linter.unusedVariables false
set_option linter.unusedSimpArgs false

theorem bk_res2 {fn : Func} {p q : Tmp} (h : fn.results = #[.cell p 180, .cell q 180]) (tmps : Array Value) (w : World) (g1 g2 : Nat) (cs1 cs2 : Array Value)
    (hp : tmps.getD p undef = .pointer (some ⟨g1, 0, none⟩)) (hq : tmps.getD q undef = .pointer (some ⟨g2, 0, none⟩)) (h1 : Blk w g1 180 cs1) (h2 : Blk w g2 180 cs2) (i1 : (Tryz.prog.info? 180).map (·.size) = some cs1.size) (i2 : (Tryz.prog.info? 180).map (·.size) = some cs2.size) :
    (results fn tmps).run Tryz.prog w = .ok (.tuple #[.agg cs1, .agg cs2]) w := by
  have hp' : tmps[p]?.getD undef = .pointer (some ⟨g1, 0, none⟩) := by simpa using hp
  have hq' : tmps[q]?.getD undef = .pointer (some ⟨g2, 0, none⟩) := by simpa using hq
  simp [results, h, hp', hq', asAddr, run_loadVar_row w g1 180 180 _ (0, 0) _ h1 Tryz.underlying180 rfl i1, run_loadVar_row w g2 180 180 _ (0, 0) _ h2 Tryz.underlying180 rfl i2]
theorem BookV.one {B : Nat} {w : World} {ls : List Nat} {cs : Array Value} (h : BookV B w ls cs) : cs.all (·.oneCell') = true := by obtain ⟨Ao, co, h1, _⟩ := h; exact h1.one
theorem BookV.brow {B : Nat} {w : World} {ls : List Nat} {cs : Array Value} (h : BookV B w ls cs) {g : Nat} {c0 c1 : Array Value} (hk : Blk w g 180 c0) : BookV B (w.setRow g c1) ls cs := by
  obtain ⟨Ao, co, h1, h2⟩ := h
  exact ⟨Ao, co, h1, fun s hs => (h2 s hs).chg ((Chg.refl (fun k => k = g) w).setRow (g := g) (.inr rfl) _) (by rintro k hk' rfl; exact (h2 s hs).ne hk (by decide) hk')⟩
theorem BookV.base {B B' : Nat} {w : World} {ls : List Nat} {cs : Array Value} (h : BookV B w ls cs) (hb : B' ≤ B) : BookV B' w ls cs := by
  obtain ⟨Ao, co, h1, h2⟩ := h
  exact ⟨Ao, co, h1, fun s hs => (h2 s hs).base_le (fun g hg => Nat.le_trans hb ((h2 s hs).blk_lt g hg).1)⟩
def RI.fillL (k j : Nat) : Nat := if j < k then fixL j else 0
def RI.fillD (k j : Nat) : Nat := if j < k then 5 else 0
theorem RI.fillL_up (k : Nat) : upd (RI.fillL k) k (fixL k) = RI.fillL (k + 1) := by
  funext j
  unfold upd RI.fillL
  split
  · rename_i h; subst h; rw [if_pos (by omega)]
  · by_cases h : j < k
    · rw [if_pos h, if_pos (by omega)]
    · rw [if_neg h, if_neg (by omega)]
theorem RI.fillD_up (k : Nat) : (List.range 32).map (fun j => jv (upd (RI.fillD k) (k % 32) 5 j)) = (List.range 32).map fun j => jv (RI.fillD (k + 1) j) := by
  refine List.map_congr_left fun j hj => ?_
  have hj : j < 32 := List.mem_range.1 hj
  unfold upd RI.fillD
  congr 1
  split
  · rw [if_pos (by omega)]
  · by_cases h : j < k
    · rw [if_pos h, if_pos (by omega)]
    · rw [if_neg h, if_neg (by omega)]
theorem RI.fillL_all : (List.range 288).map (fun j => jv (RI.fillL 288 j)) = (nz lsF).map iv := by
  rw [← lsF_rd]
  refine List.map_congr_left fun j hj => ?_
  rw [RI.fillL, if_pos (List.mem_range.1 hj)]
theorem RI.fillD_all : (List.range 32).map (fun j => jv (RI.fillD 288 j)) = (nz ls5).map iv := by rfl
theorem RI.fillL_no : (List.range 288).map (fun j => jv (RI.fillL 0 j)) = (List.range 288).map fun _ => jv 0 := List.map_congr_left fun j _ => by rw [RI.fillL, if_neg (by omega)]
theorem RI.fillD_no : (List.range 32).map (fun j => jv (RI.fillD 0 j)) = (List.range 32).map fun _ => jv 0 := List.map_congr_left fun j _ => by rw [RI.fillD, if_neg (by omega)]


theorem RI.made2 (W : World) (k : Nat) (hk : W.heap.size = k) (x y : Nat) (hx : x ≤ maxLen) (hy : y ≤ maxLen) :
    Ow ((W.alloc (.cells (madeCells #[.int .i64 0] x) 3)).alloc (.cells (madeCells #[.int .i64 0] y) 3)).drew k 3 (some ⟨k, 0, none⟩) x x ((List.range x).map fun _ => jv 0) ∧
    Ow ((W.alloc (.cells (madeCells #[.int .i64 0] x) 3)).alloc (.cells (madeCells #[.int .i64 0] y) 3)).drew k 3 (some ⟨k + 1, 0, none⟩) y y ((List.range y).map fun _ => jv 0) ∧
    Below k W ((W.alloc (.cells (madeCells #[.int .i64 0] x) 3)).alloc (.cells (madeCells #[.int .i64 0] y) 3)).drew := by
  subst hk
  refine ⟨Ow.drew (Ow.alloc (ow_made (Nat.le_refl _) hx (heap_alloc_new W _)) _), Ow.drew (ow_made (by omega) hy ?_), (((Below.refl _ W).alloc (Nat.le_refl _) _).alloc (by simp) _).drew⟩
  have h := heap_alloc_new (W.alloc (.cells (madeCells #[.int .i64 0] x) 3)) (.cells (madeCells #[.int .i64 0] y) 3)
  rwa [show (W.alloc (.cells (madeCells #[.int .i64 0] x) 3)).heap.size = W.heap.size + 1 from by simp] at h

def z32 : Array Value := #[.int .i64 0, .int .i64 0, .int .i64 0, .int .i64 0, .int .i64 0, .int .i64 0, .int .i64 0, .int .i64 0, .int .i64 0, .int .i64 0, .int .i64 0, .int .i64 0, .int .i64 0, .int .i64 0, .int .i64 0, .int .i64 0, .slice none 0 0, .slice none 0 0, .slice none 0 0, .slice none 0 0, .slice none 0 0, .slice none 0 0, .slice none 0 0, .slice none 0 0, .slice none 0 0, .slice none 0 0, .slice none 0 0, .slice none 0 0, .slice none 0 0, .slice none 0 0, .slice none 0 0, .slice none 0 0]
set_option maxRecDepth 100000 in
set_option maxHeartbeats 4000000 in
theorem ri_fixed (w : World) :
    Calls Tryz.prog 121 #[] w fun e w' => ∃ c1 c2, e = .returned (.tuple #[.agg c1, .agg c2]) ∧ BookV w.heap.size w' lsF c1 ∧ BookV w.heap.size w' (List.replicate 32 5) c2 ∧ Below w.heap.size w w' := by
  obtain ⟨G, hG⟩ : ∃ G, w.heap.size = G := ⟨_, rfl⟩
  have hm1 : ∀ W : World, (Instr.makeSlice 138 (.int .i64 288) (.int .i64 288)).run Tryz.prog W = .ok (.slice (some ⟨W.heap.size, 0, none⟩) 288 288) (W.alloc (.cells (madeCells #[.int .i64 0] 288) 3)) := fun W : World => run_make_row' 138 3 (.int .i64 0) 8 Tryz.underlying138 (by kernel_rfl) rfl .i64 .i64 288 (by omega) (by omega) W
  have hm2 : ∀ W : World, (Instr.makeSlice 138 (.int .i64 32) (.int .i64 32)).run Tryz.prog W = .ok (.slice (some ⟨W.heap.size, 0, none⟩) 32 32) (W.alloc (.cells (madeCells #[.int .i64 0] 32) 3)) := fun W : World => run_make_row' 138 3 (.int .i64 0) 8 Tryz.underlying138 (by kernel_rfl) rfl .i64 .i64 32 (by omega) (by omega) W
  obtain ⟨w1, hw1⟩ : ∃ W, w.alloc (.cells z32 180) = W := ⟨_, rfl⟩
  obtain ⟨w2, hw2⟩ : ∃ W, w1.alloc (.cells z32 180) = W := ⟨_, rfl⟩
  have z1 : w1.heap.size = G + 1 := by rw [← hw1, ← hG]; simp
  have z2 : w2.heap.size = G + 2 := by rw [← hw2]; simp [z1]
  have k1 := hide (show Blk w2 G 180 z32 from by rw [← hw2]; exact (show Blk w1 G _ _ from by rw [← hw1, ← hG]; exact Blk.new w _ _).alloc _)
  have k2 := hide (show Blk w2 (G + 1) 180 z32 from by rw [← hw2, ← z1]; exact Blk.new w1 _ _)
  have b2 := hide (show Below G w w2 from by rw [← hw2, ← hw1]; exact ((Below.refl G w).alloc (by omega) _).alloc (by simp; omega) _)
  unfold z32 at hw1 hw2
  rw [hG]
  go_enter Tryz.func121, Tryz.ntmps121
  go_upto_region 1 with fail
  have q12 := hide (RI.made2 w2 (G + 2) z2 288 32 (by decide) (by decide))
  have q21 := hide (RI.made2 w2 (G + 2) z2 32 288 (by decide) (by decide))
  go_cut [2, 3] (fun s2 s3 wx => ∃ ga gb : Nat, s2 = .slice (some ⟨ga, 0, none⟩) 288 288 ∧ s3 = .slice (some ⟨gb, 0, none⟩) 32 32 ∧ Hid (ga ≠ gb) ∧ Hid (Ow wx (G + 2) 3 (some ⟨ga, 0, none⟩) 288 288 ((List.range 288).map fun j => jv (RI.fillL 0 j))) ∧ Hid (Ow wx (G + 2) 3 (some ⟨gb, 0, none⟩) 32 32 ((List.range 32).map fun j => jv (RI.fillD 0 j))) ∧ Hid (Below (G + 2) w2 wx))
  case first =>
    go_region
    · go_wp2
      go_meet
      exact ⟨G + 2, G + 2 + 1, rfl, rfl, hide (by omega), by rw [RI.fillL_no]; exact q12.out.1, by rw [RI.fillD_no]; exact q12.out.2.1, q12.out.2.2⟩
    · go_wp2
      go_meet
      exact ⟨G + 2 + 1, G + 2, rfl, rfl, hide (by omega), by rw [RI.fillL_no]; exact q21.out.2.1, by rw [RI.fillD_no]; exact q21.out.1, q21.out.2.2⟩
  case rest =>
    obtain ⟨ga, gb, rfl, rfl, hab, o2, p2, bx⟩ := hcut
    clear hm1 hm2 hw1 hw2 q12 q21
    have z2 := hide z2
    go_wp2
    go_loopw [4] (fun s4 wr => ∃ k : Nat, k ≤ 288 ∧ s4 = .int .i64 (k : Int) ∧ Hid (Ow wr (G + 2) 3 (some ⟨ga, 0, none⟩) 288 288 ((List.range 288).map fun j => jv (RI.fillL k j))) ∧ Hid (Ow wr (G + 2) 3 (some ⟨gb, 0, none⟩) 32 32 ((List.range 32).map fun j => jv (RI.fillD k j))) ∧ Hid (Below (G + 2) w2 wr)) (fun s4 _ => 288 - (intOf s4).toNat)
    case atStart => exact ⟨0, by omega, rfl, o2, p2, bx⟩
    case round =>
      clear o2 p2 bx
      obtain ⟨k, hk, rfl, o, p, b⟩ := hrel
      by_cases hlt : k < 288
      · have hkI : (k : Int) < 288 := by omega
        obtain ⟨q, hq⟩ : ∃ q, k % 32 = q := ⟨_, rfl⟩
        have hqI : (k : Int) % 32 = (q : Int) := by omega
        have hq32 : q < 32 := by omega
        have hcf := hide (reffixed_any k wr (by omega))
        have f0 := o.out.free k
        have hc0 := o.out.cells (g := ga) rfl k (jv (RI.fillL k k)) (by simp [hlt])
        rw [Addr.add_mid, Nat.zero_add] at hc0
        have hset := o.out.set k (jv (fixL k))
        rw [map_upd (RI.fillL k) jv, RI.fillL_up] at hset
        have hg1 : Chg (fun i => i = ga) wr (wr.setCell ⟨ga, k, none⟩ (jv (fixL k))) := (Chg.refl (fun i => i = ga) wr).setCell (p := ⟨ga, k, none⟩) (.inr rfl) _
        obtain ⟨w3, hw3⟩ : ∃ W, wr.setCell ⟨ga, k, none⟩ (jv (fixL k)) = W := ⟨_, rfl⟩
        rw [hw3] at hset hg1
        have hga := (o.out.blk_lt ga rfl).1
        have hgb := (p.out.blk_lt gb rfl).1
        have hab' := hab.out
        have p3 := p.out.chg hg1 (fun g hg e => by simp [blk] at hg; omega)
        have b3 := b.out.trans (hg1.to_below (by have := b.out.size; have := z2.out; omega) (by rintro i rfl; exact hga))
        have f1 := p3.free q
        have hc1 := p3.cells (g := gb) rfl q (jv (RI.fillD k q)) (by simp [hq32])
        rw [Addr.add_mid, Nat.zero_add] at hc1
        have pset := p3.set q (jv 5)
        rw [map_upd (RI.fillD k) jv, ← hq, RI.fillD_up, hq] at pset
        have hg2 : Chg (fun i => i = gb) w3 (w3.setCell ⟨gb, q, none⟩ (jv 5)) := (Chg.refl (fun i => i = gb) w3).setCell (p := ⟨gb, q, none⟩) (.inr rfl) _
        have oset := hset.chg hg2 (fun g hg e => by simp [blk] at hg; omega)
        have b4 := hide (b3.trans (hg2.to_below (by have := b3.size; have := z2.out; omega) (by rintro i rfl; exact hgb)))
        have oset := hide oset
        have pset := hide pset
        unfold jv at hc0 hc1 hw3 b4 oset pset
        generalize RI.fillL k k = old1 at hc0
        generalize RI.fillD k q = old2 at hc1
        clear hset hg1 hg2 p3 b3 hq o p b hga hgb hab'
        go_wp2_with (go_at_call 136; (with_reducible refine (hcf.out).mono ?_); rintro e w' ⟨rfl, rfl⟩)
        go_roundw
        case rel => exact ⟨k + 1, by omega, by go_num, oset, pset, b4⟩
        case measure => simp [intOf] <;> omega
      · obtain rfl : k = 288 := by omega
        have hA := hide (make_any (some ⟨ga, 0, none⟩) 288 288 lsF wr wr.heap.size (by rw [← RI.fillL_all]; exact o.out.rd) (Nat.le_refl _) (by decide) lsF_le lsF_sum)
        have hC := hide (fun W (h : Below wr.heap.size wr W) => make_any (some ⟨gb, 0, none⟩) 32 32 ls5 W W.heap.size (by rw [← RI.fillD_all]; exact (p.out.below h).rd) (Nat.le_refl _) (by decide) ls5_le ls5_sum)
        have hGw := hide (show G + 2 ≤ wr.heap.size from by have := b.out.size; have := z2.out; omega)
        have k1r := hide (k1.out.below b.out (by omega))
        have k2r := hide (k2.out.below b.out (by omega))
        have br := hide (b2.out.trans (b.out.mono (by omega)))
        clear o p b k1 k2 b2
        go_wp2_with (first
          | (go_at_call 152; (with_reducible refine (hA.out).mono ?_); rintro e w3 ⟨c1, rfl, v3, b3⟩; have hC := hide (hC.out w3 b3); have v3 := hide v3; have k13 := hide (k1r.out.below b3 k1r.out.lt); have k23 := hide (k2r.out.below b3 k2r.out.lt); have b3 := hide (br.out.trans (b3.mono (by have := hGw.out; omega))))
          | (go_at_call 152; (with_reducible refine (hC.out).mono ?_); rintro e w4 ⟨c2, rfl, v4, b4⟩; have v34 := hide (v3.out.below b4); have v4 := hide v4; have k14 := hide (k13.out.below b4 k13.out.lt); have k24 := hide (k23.out.below b4 k23.out.lt); have hs3 := hide (show G ≤ w3.heap.size from by have := k13.out.lt; omega); have b4 := hide (b3.out.trans (b4.mono hs3.out));
             have i1 := hide (info_book' v3.out.size); have i2 := hide (info_book' v4.out.size); have e1 := hide (show (z32 : Array Value).size = c1.size from v3.out.size.symm); have e2 := hide (show (z32 : Array Value).size = c2.size from v4.out.size.symm); have n1 := hide v3.out.one; have n2 := hide v4.out.one;
             obtain ⟨w5, hw5⟩ : ∃ W, w4.setRow G c1 = W := ⟨_, rfl⟩; obtain ⟨w6, hw6⟩ : ∃ W, w5.setRow (G + 1) c2 = W := ⟨_, rfl⟩;
             have k15 := hide (show Blk w5 G 180 c1 from by rw [← hw5]; exact k14.out.row _); have k25 := hide (show Blk w5 (G + 1) 180 z32 from by rw [← hw5]; exact (setRow_other w4 G (G + 1) _ (by omega)).trans k24.out))
          | ((with_reducible refine wpList_store_row (o := ⟨none, .store 180 (.tmp 0) (.tmp 21), _, _, _, _⟩) rfl 180 (.tmp 0) (.tmp 21) rfl G c1 rfl rfl 180 _ k14.out.eq i1.out e1.out n1.out ?_); rw [hw5])
          | ((with_reducible refine wpList_store_row (o := ⟨none, .store 180 (.tmp 1) (.tmp 23), _, _, _, _⟩) rfl 180 (.tmp 1) (.tmp 23) rfl (G + 1) c2 rfl rfl 180 _ k25.out.eq i2.out e2.out n2.out ?_); rw [hw6]))
        refine bodyPost_ret_by (bk_res2 rfl _ _ G (G + 1) c1 c2 rfl rfl (by rw [← hw6]; exact (setRow_other w5 (G + 1) G _ (by omega)).trans k15.out) (by rw [← hw6]; exact k25.out.row _) i1.out i2.out) rfl ⟨c1, c2, rfl, ?_, ?_, ?_⟩
        · rw [← hw6, ← hw5]
          exact ((v34.out.brow k14.out).brow (by rw [hw5]; exact k25.out)).base (by have := hGw.out; omega)
        · rw [← hw6, ← hw5]
          exact ((v4.out.brow k14.out).brow (by rw [hw5]; exact k25.out)).base (by have := hs3.out; omega)
        · rw [← hw6, ← hw5]
          exact below_row (below_row b4.out (Nat.le_refl _) _) (by omega) _

end Go.Proofs.YtaapjampmnanmaaGreat

namespace Go.Proofs.YtaapjampmnanmaaGreat
open Go.RowKit Go.Shelf
set_option linter.unusedVariables false
set_option linter.unusedSimpArgs false

theorem KeepX.past {R : Nat → Prop} {w a b : World} (h : KeepX w a) (hc : Chg R a b) (hR : ∀ k, R k → w.heap.size ≤ k) : KeepX w b :=
  ⟨Nat.le_trans h.1 hc.size, fun k cs t fz x h1 h2 h3 => by
    have h4 := h.2 k cs t fz x h1 h2 h3
    rw [hc.block k (lt_of_block h4) (fun hr => by have := hR k hr; have := lt_of_block x; omega)]
    exact h4⟩
theorem SB.past {w W W' : World} {B G R : Nat} {c0 c1 c2 c3 c4 : Value} (h : SB w B G R c0 c1 c2 c3 c4 W) {A : Option Addr} {N c : Nat} {xs : List Value} (hi : Ow W w.heap.size 3 A N c xs) (hc : Chg (fun k => blk A = some k) W W') : SB w B G R c0 c1 c2 c3 c4 W' :=
  ⟨h.kG.chg hc (fun hx => hi.ne h.kG (by decide) hx), h.kR.chg hc (fun hx => hi.ne h.kR (by decide) hx), h.hG, h.hR, h.hne, h.hB, h.bl.trans (hc.to_below (Nat.le_trans h.hB h.kx.1) (fun k hk => Nat.le_trans h.hB (hi.blk_lt k hk).1)), h.kx.past hc (fun k hk => (hi.blk_lt k hk).1)⟩
theorem RSt.past {W W' : World} {B : Nat} {l : List Bool} {most a : Nat} {o : List UInt8} {e : Nat} {Al : Option Addr} {n cl : Nat} {Ao : Option Addr} {m co : Nat} (h : RSt W B l most a o e Al n cl Ao m co) {A : Option Addr} {N c base : Nat} {xs : List Value} (hi : Ow W base 3 A N c xs) (hb : B ≤ base) (hc : Chg (fun k => blk A = some k) W W') : RSt W' B l most a o e Al n cl Ao m co :=
  ⟨h.ha, h.hm, h.hmm, h.he, Nat.le_trans h.hB hc.size, h.hc, h.hn, h.hmost, h.rd.below (hc.to_below h.hB (fun k hk => Nat.le_trans hb (hi.blk_lt k hk).1)), h.ow.chg hc (fun k hk hk' => h.ow.ne_ow hi (by decide) k hk hk')⟩

/-- What a symbol of lengths tells: how often, and which; and what is left to read. -/
def RI.Next (l : List Bool) (ls : List Nat) (many g : Nat) (acc : List Nat) (o : List UInt8) (RR : Inf.R (List Nat)) (nn vv a e : Nat) : Prop :=
  (e = 0 → (if many - acc.length < nn then Inf.err 3 else Inf.lens l ls many g (acc ++ List.replicate nn vv)) a o = RR) ∧ (e ≠ 0 → RR = .inl e)
theorem RI.next_bits {l : List Bool} {ls : List Nat} {many g k d a a1 e1 y v : Nat} {acc : List Nat} {o : List UInt8} {RR : Inf.R (List Nat)} (h : RI.bits l k a 0 = (a1, e1, y))
    (hr : Inf.bind (Inf.bind (Inf.bits l k) fun k => Inf.ret (d + k, v)) (fun nv => if many - acc.length < nv.1 then Inf.err 3 else Inf.lens l ls many g (acc ++ List.replicate nv.1 nv.2)) a o = RR) : RI.Next l ls many g acc o RR (d + y) v a1 e1 := by
  have hr2 : Inf.bind (Inf.bits l k) (fun k => (fun nv : Nat × Nat => if many - acc.length < nv.1 then Inf.err 3 else Inf.lens l ls many g (acc ++ List.replicate nv.1 nv.2)) (d + k, v)) a o = RR := by
    rw [← hr]
    unfold Inf.bind
    cases Inf.bits l k a o <;> rfl
  have b := RI.bits_step (o := o) h (fun k => (fun nv : Nat × Nat => if many - acc.length < nv.1 then Inf.err 3 else Inf.lens l ls many g (acc ++ List.replicate nv.1 nv.2)) (d + k, v))
  rw [hr2] at b
  exact ⟨fun h0 => (b.1 h0).symm, fun h0 => (b.2 h0).1⟩
theorem RI.lens_next {l : List Bool} {ls : List Nat} {many g a a1 e1 y : Nat} {acc : List Nat} {o : List UInt8} {RR : Inf.R (List Nat)} (hl : acc.length < many) (h : RI.sym l ls a 0 = (a1, e1, y)) (hr : Inf.lens l ls many (g + 1) acc a o = RR) :
    (e1 ≠ 0 → y = 0 ∧ RR = .inl e1) ∧ (e1 = 0 → (y = 16 → acc = [] → RR = .inl 3) ∧
      (y = 16 → acc ≠ [] → ∀ a2 e2 k, RI.bits l 2 a1 0 = (a2, e2, k) → RI.Next l ls many g acc o RR (3 + k) (acc.getD (acc.length - 1) 0) a2 e2) ∧
      (y = 17 → ∀ a2 e2 k, RI.bits l 3 a1 0 = (a2, e2, k) → RI.Next l ls many g acc o RR (3 + k) 0 a2 e2) ∧
      (y = 18 → ∀ a2 e2 k, RI.bits l 7 a1 0 = (a2, e2, k) → RI.Next l ls many g acc o RR (11 + k) 0 a2 e2) ∧
      (y ≠ 16 → y ≠ 17 → y ≠ 18 → RI.Next l ls many g acc o RR 1 y a1 0)) := by
  have hu : Inf.bind (Inf.sym l ls) (fun s => Inf.bind (Inf.often l acc s) fun nv => if many - acc.length < nv.1 then Inf.err 3 else Inf.lens l ls many g (acc ++ List.replicate nv.1 nv.2)) a o = RR := by
    rw [← hr, Inf.lens, if_neg (by omega)]
  have b := RI.sym_step (o := o) h (fun s => Inf.bind (Inf.often l acc s) fun nv => if many - acc.length < nv.1 then Inf.err 3 else Inf.lens l ls many g (acc ++ List.replicate nv.1 nv.2))
  rw [hu] at b
  refine ⟨fun h0 => ⟨(b.2 h0).2, (b.2 h0).1⟩, fun h0 => ?_⟩
  have hb := b.1 h0
  refine ⟨fun hy hacc => ?_, fun hy hacc a2 e2 k hq => ?_, fun hy a2 e2 k hq => ?_, fun hy a2 e2 k hq => ?_, fun h1 h2 h3 => ?_⟩
  · rw [hb, Inf.bind_err (e := 3) (by unfold Inf.often; rw [if_pos hy, if_pos hacc]; rfl)]
  · refine RI.next_bits hq ?_
    rw [hb, hy]
    have e : Inf.often l acc 16 = Inf.bind (Inf.bits l 2) fun k => Inf.ret (3 + k, acc.getD (acc.length - 1) 0) := by unfold Inf.often; rw [if_pos rfl, if_neg hacc]
    rw [e]
  · refine RI.next_bits hq ?_
    rw [hb, hy]
    have e : Inf.often l acc 17 = Inf.bind (Inf.bits l 3) fun k => Inf.ret (3 + k, 0) := by unfold Inf.often; rw [if_neg (by decide), if_pos rfl]
    rw [e]
  · refine RI.next_bits hq ?_
    rw [hb, hy]
    have e : Inf.often l acc 18 = Inf.bind (Inf.bits l 7) fun k => Inf.ret (11 + k, 0) := by unfold Inf.often; rw [if_neg (by decide), if_neg (by decide), if_pos rfl]
    rw [e]
  · refine ⟨fun _ => ?_, fun h => absurd rfl h⟩
    rw [hb]
    have e : Inf.often l acc y = Inf.ret (1, y) := by unfold Inf.often; rw [if_neg h1, if_neg h2, if_neg h3]
    rw [e]
    rfl

def RI.lis (r : Inf.R (List Nat)) (a : Nat) (o : List UInt8) (e : Nat) (A : Option Addr) (N c base : Nat) (W : World) : Prop :=
  match r with | .inl er => e = er ∧ er ≠ 0 | .inr (acc, a', o') => e = 0 ∧ a = a' ∧ o = o' ∧ acc.length = N ∧ Ow W base 3 A N c (acc.map jv)
def LPost (w : World) (B : Nat) (l : List Bool) (most : Nat) (o : List UInt8) (Al : Option Addr) (n cl : Nat) (Ao : Option Addr) (m co : Nat) (r : Inf.R (List Nat)) (x : Ending) (w' : World) : Prop :=
  ∃ a e A N c, x = .returned (.tuple #[.agg #[.slice Al n cl, .int .i64 (a : Nat), .slice Ao m co, .int .i64 (most : Nat), .int .i64 (e : Nat)], .slice A N c]) ∧ RSt w' B l most a o e Al n cl Ao m co ∧ Below w.heap.size w w' ∧ RI.lis r a o e A N c w.heap.size w'
theorem LPost.done {w W W' : World} {B G R : Nat} {l : List Bool} {most a : Nat} {o : List UInt8} {e : Nat} {Al : Option Addr} {n cl : Nat} {Ao : Option Addr} {m co : Nat} {c0 c1 c2 c3 c4 : Value} {r : Inf.R (List Nat)} {fn : Func} {p u : Tmp} {tmps : Array Value} {A : Option Addr} {N c : Nat} {e4 : Value} (hfn : fn.results = #[.cell p 173, .tmp u])
    (f : SB w w.heap.size G R c0 c1 c2 c3 c4 W) (st : RSt W B l most a o e Al n cl Ao m co) (hb : B ≤ w.heap.size) (hp : tmps.getD p undef = .pointer (some ⟨R, 0, none⟩)) (hu : tmps.getD u undef = .slice A N c) (hw : W.setRow R #[.slice Al n cl, .int .i64 (a : Nat), .slice Ao m co, .int .i64 (most : Nat), e4] = W') (he4 : e4 = .int .i64 (e : Nat))
    (hQ : RI.lis r a o e A N c w.heap.size W) :
    bodyPost Tryz.prog fn (LPost w B l most o Al n cl Ao m co r) .ret { tmps := tmps, defers := [] } W' := by
  subst he4 hw
  refine bodyPost_ret_by (st_res hfn _ _ R _ _ _ _ _ hp (f.kR.row _)) rfl ⟨a, e, A, N, c, by rw [hu], ?_, ?_, ?_⟩
  · exact st.row f.kR (Nat.le_trans hb f.hR) _
  · exact below_row f.bl f.hR _
  · cases r with
    | inl er => exact hQ
    | inr x =>
      obtain ⟨acc, a', o'⟩ := x
      obtain ⟨h1, h2, h3, h4, h5⟩ := hQ
      exact ⟨h1, h2, h3, h4, h5.chg ((Chg.refl (fun k => k = R) W).setRow (g := R) (.inr rfl) _) (by rintro k hk rfl; exact h5.ne f.kR (by decide) hk)⟩

set_option maxRecDepth 100000 in
set_option maxHeartbeats 8000000 in
theorem ri_lengths {w : World} {B B0 : Nat} {l : List Bool} {most a : Nat} {o : List UInt8} {Al : Option Addr} {n cl : Nat} {Ao : Option Addr} {m co : Nat} (h : RSt w B l most a o 0 Al n cl Ao m co) {ls : List Nat} {bc : Array Value} (hv : BookV B0 w ls bc) (hls : ls.length ≤ 19) (hsl : Huf.sum ls ≤ 32768) (many : Nat) (hmany : many ≤ 1000) :
    Calls Tryz.prog 157 #[.agg #[.slice Al n cl, .int .i64 (a : Nat), .slice Ao m co, .int .i64 (most : Nat), .int .i64 0], .agg bc, .int .i64 (many : Nat)] w (LPost w B l most o Al n cl Ao m co (Inf.lens l ls many (many + 1) [] a o)) := by
  obtain ⟨G, hG⟩ : ∃ G, w.heap.size = G := ⟨_, rfl⟩
  obtain ⟨w1, hw1⟩ : ∃ W, w.alloc (.cells #[.slice Al n cl, .int .i64 (a : Nat), .slice Ao m co, .int .i64 (most : Nat), .int .i64 0] 173) = W := ⟨_, rfl⟩
  obtain ⟨w2, hw2⟩ : ∃ W, w1.alloc (.cells bc 180) = W := ⟨_, rfl⟩
  obtain ⟨w3, hw3⟩ : ∃ W, w2.alloc (.cells #[.slice none 0 0, .int .i64 0, .slice none 0 0, .int .i64 0, .int .i64 0] 173) = W := ⟨_, rfl⟩
  have z1 : w1.heap.size = G + 1 := by rw [← hw1, ← hG]; simp
  have z2 : w2.heap.size = G + 1 + 1 := by rw [← hw2, ← z1]; simp
  have b3 : Below w.heap.size w w3 := by rw [← hw3, ← hw2, ← hw1]; exact (((Below.refl _ w).alloc (Nat.le_refl _) _).alloc (by simp) _).alloc (by simp; omega) _
  have s3 := hide (h.below b3)
  have f3 := hide (show SB w w.heap.size G (G + 1 + 1) (.slice Al n cl) (.int .i64 (a : Nat)) (.slice Ao m co) (.int .i64 (most : Nat)) (.int .i64 0) w3 from
    ⟨by rw [← hw3, ← hw2]; exact ((show Blk w1 G _ _ from by rw [← hw1, ← hG]; exact Blk.new w _ _).alloc _).alloc _, by rw [← hw3, ← z2]; exact Blk.new w2 _ _, by omega, by omega, by omega, Nat.le_refl _, b3, KeepX.below b3⟩)
  have k3 := hide (show Blk w3 (G + 1) 180 bc from by rw [← hw3]; exact (show Blk w2 (G + 1) _ _ from by rw [← hw2, ← z1]; exact Blk.new w1 _ _).alloc _)
  have hv3 := hide (fun W (hb : Below w.heap.size w W) => hv.below hb)
  have hib := hide (info_book' hv.size)
  have hBw := hide h.hB
  have hBG := hide (show B ≤ G from by have := h.hB; omega)
  obtain ⟨RR, hRR⟩ : ∃ R, Inf.lens l ls many (many + 1) [] a o = R := ⟨_, rfl⟩
  rw [hRR]
  replace hRR := hide hRR
  replace hls := hide hls
  replace hsl := hide hsl
  clear h hv b3
  go_enter Tryz.func157, Tryz.ntmps157
  go_wp2
  go_loopg [8, 9, 10, 11, 12, 13, 14] (many + 1) (fun gk s8 s9 s10 s11 s12 s13 s14 wr => ∃ (acc : List Nat) (a' e' N c : Nat) (A : Option Addr), s8 = .slice A N c ∧ N ≤ many ∧ Hid (acc.length = N) ∧ Hid (RSt wr B l most a' o e' Al n cl Ao m co) ∧ Hid (SB w w.heap.size G (G + 1 + 1) (.slice Al n cl) (.int .i64 (a' : Nat)) (.slice Ao m co) (.int .i64 (most : Nat)) (.int .i64 (e' : Nat)) wr) ∧ Hid (Blk wr (G + 1) 180 bc) ∧ Hid (Ow wr w.heap.size 3 A N c (acc.map jv)) ∧ Hid ((e' = 0 → Inf.lens l ls many gk acc a' o = RR ∧ many < gk + N) ∧ (e' ≠ 0 → RR = .inl e')))
  case atStart => exact ⟨[], a, 0, 0, 0, none, rfl, Nat.zero_le _, hide rfl, s3, f3, k3, hide (Ow.nil _ _ _), hide ⟨fun _ => ⟨hRR.out, by omega⟩, fun h => absurd rfl h⟩⟩
  case round =>
    clear s3 f3 k3 hRR
    obtain ⟨acc, a3, e3, N, c, A, rfl, hN, hacc, s3, f3, k3, oA, hr3⟩ := hrel
    have d4 := f3.out.kG.cell 4
    simp only [List.getElem?_toArray, List.getElem?_cons_succ, List.getElem?_cons_zero] at d4
    by_cases hgo : N < many ∧ e3 = 0
    · obtain ⟨hlt, rfl⟩ := hgo
      have hltI : (N : Int) < (many : Int) := by omega
      obtain ⟨hle, hF⟩ := hr3.out.1 rfl
      obtain ⟨g, rfl⟩ : ∃ g, gk = g + 1 := ⟨gk - 1, by omega⟩
      obtain ⟨⟨a1, e1, y⟩, hq1⟩ : ∃ r, RI.sym l ls a3 0 = r := ⟨_, rfl⟩
      have hnx := hide (RI.lens_next (by rw [hacc.out]; exact hlt) hq1 hle)
      have hy := RI.sym_lt hq1
      have hy2 : y ≤ 19 := by have := hls.out; omega
      have hc1 := hide (c_sym s3.out (E := 0) rfl (hv3.out _ f3.out.bl) hsl.out hq1)
      replace hF := hide hF
      replace hle := hide hle
      replace hr3 := hide hr3
      replace hy := hide hy
      replace hq1 := hide hq1
      go_upto_region 5 with (first
        | (with_reducible refine wpList_load_row (o := ⟨some 25, .load 173 (.tmp 3), _, _, _, _⟩) rfl 173 (.tmp 3) rfl G rfl 173 _ (0, 0) _ f3.out.kG.eq Tryz.underlying173 rfl (st_infos _ _ _ _ _) ?_)
        | (with_reducible refine wpList_load_row (o := ⟨some 26, .load 180 (.tmp 4), _, _, _, _⟩) rfl 180 (.tmp 4) rfl (G + 1) rfl 180 bc (0, 0) _ k3.out.eq Tryz.underlying180 rfl hib.out ?_)
        | (go_at_call 153; (with_reducible refine (hc1.out).mono ?_); rintro e w5 ⟨rfl, s5, b5⟩; have s5 := hide s5; have f5 := hide (f3.out.below b5); have k5 := hide (k3.out.below b5 k3.out.lt); have o5 := hide (oA.out.below b5); clear b5;
           obtain ⟨T, hT⟩ : ∃ T, w5.heap.size = T := ⟨_, rfl⟩; have hTG := hide (show T ≠ G ∧ T ≠ G + 1 + 1 ∧ w.heap.size ≤ T ∧ T ≠ G + 1 from ⟨by have := f5.out.kG.lt; omega, by have := f5.out.kR.lt; omega, by have := f5.out.kG.lt; have := f5.out.hG; omega, by have := k5.out.lt; omega⟩);
           obtain ⟨w6, hw6⟩ : ∃ W, w5.alloc (.cells #[.slice none 0 0, .int .i64 0, .slice none 0 0, .int .i64 0, .int .i64 0] 173) = W := ⟨_, rfl⟩; have kT6 := hide (show Blk w6 T 173 #[.slice none 0 0, .int .i64 0, .slice none 0 0, .int .i64 0, .int .i64 0] from by rw [← hw6, ← hT]; exact Blk.new w5 _ _); have b6 := (show Below w5.heap.size w5 w6 from by rw [← hw6]; exact (Below.refl _ w5).alloc (Nat.le_refl _) _); have f6 := hide (f5.out.below b6); have s6 := hide (s5.out.below b6); have k6 := hide (k5.out.below b6 k5.out.lt); have o6 := hide (o5.out.below b6); clear b6;
           obtain ⟨w7, hw7⟩ : ∃ W, w6.setRow T #[.slice Al n cl, .int .i64 (a1 : Nat), .slice Ao m co, .int .i64 (most : Nat), .int .i64 (e1 : Nat)] = W := ⟨_, rfl⟩; have kT7 := hide (show Blk w7 T 173 #[.slice Al n cl, .int .i64 (a1 : Nat), .slice Ao m co, .int .i64 (most : Nat), .int .i64 (e1 : Nat)] from by rw [← hw7]; exact kT6.out.row _); have f7 := hide (show SB w w.heap.size G (G + 1 + 1) (.slice Al n cl) (.int .i64 (a3 : Nat)) (.slice Ao m co) (.int .i64 (most : Nat)) (.int .i64 0) w7 from by rw [← hw7]; exact f6.out.other hTG.out.2.2.1 hTG.out.1 hTG.out.2.1 _);
           have s7 := hide (show RSt w7 B l most a1 o e1 Al n cl Ao m co from by rw [← hw7]; exact s6.out.row kT6.out (Nat.le_trans hBw.out hTG.out.2.2.1) _); have k7 := hide (show Blk w7 (G + 1) 180 bc from by rw [← hw7]; exact (setRow_other w6 T (G + 1) _ (Ne.symm hTG.out.2.2.2)).trans k6.out); have o7 := hide (show Ow w7 w.heap.size 3 A N c (acc.map jv) from by rw [← hw7]; exact o6.out.chg ((Chg.refl (fun k => k = T) w6).setRow (g := T) (.inr rfl) _) (by rintro k hk rfl; exact o6.out.ne kT6.out (by decide) hk));
           obtain ⟨w8, hw8⟩ : ∃ W, w7.setRow G #[.slice Al n cl, .int .i64 (a1 : Nat), .slice Ao m co, .int .i64 (most : Nat), .int .i64 (e1 : Nat)] = W := ⟨_, rfl⟩; have sw8 := hide (show RSt w8 B l most a1 o e1 Al n cl Ao m co from by rw [← hw8]; exact s7.out.row f7.out.kG hBG.out _); have fw8 := hide (show SB w w.heap.size G (G + 1 + 1) (.slice Al n cl) (.int .i64 (a1 : Nat)) (.slice Ao m co) (.int .i64 (most : Nat)) (.int .i64 (e1 : Nat)) w8 from by rw [← hw8]; exact f7.out.row _ _ _ _ _); have k8 := hide (show Blk w8 (G + 1) 180 bc from by rw [← hw8]; exact (setRow_other w7 G (G + 1) _ (by omega)).trans k7.out); have o8 := hide (show Ow w8 w.heap.size 3 A N c (acc.map jv) from by rw [← hw8]; exact o7.out.chg ((Chg.refl (fun k => k = G) w7).setRow (g := G) (.inr rfl) _) (by rintro k hk rfl; exact o7.out.ne f7.out.kG (by decide) hk)))
        | ((with_reducible refine wpList_store_row (o := ⟨none, .store 173 (.tmp 9) (.tmp 28), _, _, _, _⟩) rfl 173 (.tmp 9) (.tmp 28) rfl T #[.slice Al n cl, .int .i64 (a1 : Nat), .slice Ao m co, .int .i64 (most : Nat), .int .i64 (e1 : Nat)] rfl rfl 173 _ kT6.out.eq (st_infos _ _ _ _ _) (st_hold _ _ _ _ _ _ _ _ _ _) (st_one _ _ _ _ _ _ _ _ _) ?_); rw [hw7])
        | (with_reducible refine wpList_load_row (o := ⟨some 30, .load 173 (.tmp 9), _, _, _, _⟩) rfl 173 (.tmp 9) rfl T rfl 173 _ (0, 0) _ kT7.out.eq Tryz.underlying173 rfl (st_infos _ _ _ _ _) ?_)
        | ((with_reducible refine wpList_store_row (o := ⟨none, .store 173 (.tmp 3) (.tmp 30), _, _, _, _⟩) rfl 173 (.tmp 3) (.tmp 30) rfl G #[.slice Al n cl, .int .i64 (a1 : Nat), .slice Ao m co, .int .i64 (most : Nat), .int .i64 (e1 : Nat)] rfl rfl 173 _ f7.out.kG.eq (st_infos _ _ _ _ _) (st_hold _ _ _ _ _ _ _ _ _ _) (st_one _ _ _ _ _ _ _ _ _) ?_); rw [hw8]))
      clear s3 f3 k3 oA hc1 d4 s5 f5 k5 o5 kT6 f6 s6 k6 o6 kT7 f7 s7 k7 o7
      by_cases he1 : e1 = 0
      · obtain ⟨n16a, n16b, n17, n18, nel⟩ := hnx.out.2 he1
        rcases (show y = 16 ∨ y = 17 ∨ y = 18 ∨ (y ≠ 16 ∧ y ≠ 17 ∧ y ≠ 18) by omega) with hy3 | hy3 | hy3 | ⟨hya, hyb, hyc⟩
        · by_cases hA0 : acc = []
          · have hRe := hide (n16a hy3 hA0)
            have hN0 : N = 0 := by rw [← hacc.out, hA0]; rfl
            subst hy3
            subst hN0
            have hf := hide (c_fail sw8.out rfl 3 (by decide) (K := 3) rfl)
            rw [if_pos he1] at hf
            clear n16a n16b n17 n18 nel hnx hA0
            replace he1 := hide he1
            go_wp2_with (first
              | (with_reducible refine wpList_load_row (o := ⟨some 37, .load 173 (.tmp 3), _, _, _, _⟩) rfl 173 (.tmp 3) rfl G rfl 173 _ (0, 0) _ fw8.out.kG.eq Tryz.underlying173 rfl (st_infos _ _ _ _ _) ?_)
              | (go_at_call 124; (with_reducible refine (hf.out).mono ?_); rintro e w20 ⟨rfl, s20, b20⟩; have s20 := hide s20; have f20 := hide (fw8.out.below b20); clear b20; obtain ⟨w21, hw21⟩ : ∃ W, w20.setRow (G + 1 + 1) #[.slice Al n cl, .int .i64 (a1 : Nat), .slice Ao m co, .int .i64 (most : Nat), .int .i64 ((3 : Nat) : Int)] = W := ⟨_, rfl⟩)
              | ((with_reducible refine wpList_store_row (o := ⟨none, .store 173 (.tmp 6) (.tmp 38), _, _, _, _⟩) rfl 173 (.tmp 6) (.tmp 38) rfl (G + 1 + 1) #[.slice Al n cl, .int .i64 (a1 : Nat), .slice Ao m co, .int .i64 (most : Nat), .int .i64 ((3 : Nat) : Int)] rfl rfl 173 _ f20.out.kR.eq (st_infos _ _ _ _ _) (st_hold _ _ _ _ _ _ _ _ _ _) (st_one _ _ _ _ _ _ _ _ _) ?_); rw [hw21]))
            exact LPost.done (A := none) (N := 0) (c := 0) rfl f20.out s20.out hBw.out rfl rfl hw21 rfl (by rw [hRe.out]; exact ⟨rfl, by decide⟩)
          · have hN0 : 0 < N := by rw [← hacc.out]; exact List.length_pos_iff.2 hA0
            have hNb : ((N : Int) == 0) = false := by simp; omega
            obtain ⟨⟨a2, e2, k⟩, hq2⟩ : ∃ r, RI.bits l 2 a1 e1 = r := ⟨_, rfl⟩
            have hRx := hide (n16b hy3 hA0 a2 e2 k (by have h := hq2; rw [he1] at h; exact h))
            have hk := RI.bits_lt hq2
            subst hy3
            have hcb := hide (c_bits sw8.out rfl 2 (by decide) (K := 2) rfl hq2)
            have hkw : IntKind.i64.wrap (3 + (k : Int)) = 3 + (k : Int) := by rw [IntKind.wrap_i64]; omega
            obtain ⟨q, hq⟩ : ∃ q, N - 1 = q := ⟨_, rfl⟩
            have hqI : (N : Int) - 1 = (q : Int) := by omega
            have hqw : IntKind.i64.wrap (q : Int) = (q : Int) := by rw [IntKind.wrap_i64]; omega
            have hq0 : (0 : Int) ≤ (q : Int) := by omega
            have hqN : (q : Int) < (N : Int) := by omega
            have hql : q < acc.length := by rw [hacc.out]; omega
            obtain ⟨v, hv⟩ : ∃ v, acc.getD (acc.length - 1) 0 = v := ⟨_, rfl⟩
            rw [hv] at hRx
            rw [hacc.out, hq] at hv
            clear n16a n16b n17 n18 nel hnx
            replace he1 := hide he1
            replace hA0 := hide hA0
            obtain ⟨ga, rfl, _, _⟩ := o8.out.pos hN0
            have hcl := hide (fun (W : World) (hh : Ow W w.heap.size 3 (some ⟨ga, 0, none⟩) N c (acc.map jv)) => (show W.cell? ⟨ga, q, none⟩ = some (.int .i64 (v : Int)) from by
              have h := hh.cells (g := ga) rfl q (jv v) (by rw [List.getElem?_map, List.getElem?_eq_getElem hql, ← hv, List.getD_eq_getElem?_getD, List.getElem?_eq_getElem hql]; rfl)
              rwa [Addr.add_mid, Nat.zero_add] at h))
            replace hql := hide hql
            replace hv := hide hv
            replace hq := hide hq
            go_upto_region 11 with (first
            | (with_reducible refine wpList_load_row (o := ⟨some 40, .load 173 (.tmp 3), _, _, _, _⟩) rfl 173 (.tmp 3) rfl G rfl 173 _ (0, 0) _ fw8.out.kG.eq Tryz.underlying173 rfl (st_infos _ _ _ _ _) ?_)
            | (go_at_call 119; (with_reducible refine (hcb.out).mono ?_); rintro e w9 ⟨rfl, s9, b9⟩; have s9 := hide s9; have f9 := hide (fw8.out.below b9); have k9 := hide (k8.out.below b9 k8.out.lt); have o9 := hide (o8.out.below b9); clear b9; obtain ⟨w10, hw10⟩ : ∃ W, w9.setRow G #[.slice Al n cl, .int .i64 (a2 : Nat), .slice Ao m co, .int .i64 (most : Nat), .int .i64 (e2 : Nat)] = W := ⟨_, rfl⟩; have sw10 := hide (show RSt w10 B l most a2 o e2 Al n cl Ao m co from by rw [← hw10]; exact s9.out.row f9.out.kG hBG.out _); have fw10 := hide (show SB w w.heap.size G (G + 1 + 1) (.slice Al n cl) (.int .i64 (a2 : Nat)) (.slice Ao m co) (.int .i64 (most : Nat)) (.int .i64 (e2 : Nat)) w10 from by rw [← hw10]; exact f9.out.row _ _ _ _ _); have k10 := hide (show Blk w10 (G + 1) 180 bc from by rw [← hw10]; exact (setRow_other w9 G (G + 1) _ (by omega)).trans k9.out); have o10 := hide (show Ow w10 w.heap.size 3 (some ⟨ga, 0, none⟩) N c (acc.map jv) from by rw [← hw10]; exact o9.out.chg ((Chg.refl (fun k => k = G) w9).setRow (g := G) (.inr rfl) _) (by rintro k hk rfl; exact o9.out.ne f9.out.kG (by decide) hk)))
            | ((with_reducible refine wpList_store_row (o := ⟨none, .store 173 (.tmp 3) (.tmp 42), _, _, _, _⟩) rfl 173 (.tmp 3) (.tmp 42) rfl G #[.slice Al n cl, .int .i64 (a2 : Nat), .slice Ao m co, .int .i64 (most : Nat), .int .i64 (e2 : Nat)] rfl rfl 173 _ f9.out.kG.eq (st_infos _ _ _ _ _) (st_hold _ _ _ _ _ _ _ _ _ _) (st_one _ _ _ _ _ _ _ _ _) ?_); rw [hw10]))
            have zq := hcl.out w10 o10.out
            clear sw8 fw8 k8 o8 hcb s9 f9 k9 o9
            go_quiet (fail)
            have b11 := below_drewN (Below.refl w10.heap.size w10) nq
            have sw11 := hide (sw10.out.below b11)
            have fw11 := hide (fw10.out.below b11)
            have k11 := hide (k10.out.below b11 k10.out.lt)
            have o11 := hide (o10.out.below b11)
            generalize w10.drewN nq = w11 at sw11 fw11 k11 o11 ⊢
            clear sw10 fw10 k10 o10 zq hcl b11
            go_upto_region 18 with fail
            have hsub : IntKind.i64.wrap ((many : Int) - (N : Int)) = (many : Int) - (N : Int) := by rw [IntKind.wrap_i64]; omega
            have ee := fw11.out.kG.cell 4
            simp only [List.getElem?_toArray, List.getElem?_cons_succ, List.getElem?_cons_zero] at ee
            by_cases hE : e2 = 0
            · have hez : ((e2 : Int) == 0) = true := by simp; omega
              by_cases hbig : many - N < (3 + k)
              · have hbI : (many : Int) - (N : Int) < (3 + (k : Int)) := by omega
                have hRe := hide (show RR = .inl 3 from by have := hRx.out.1 hE; rw [if_pos (by rw [hacc.out]; exact hbig)] at this; exact this.symm)
                have hf := hide (c_fail sw11.out rfl 3 (by decide) (K := 3) rfl)
                rw [if_pos hE] at hf
                replace hE := hide hE
                clear hRx hbig
                go_wp2_with (first
                  | (with_reducible refine wpList_load_row (o := ⟨some 81, .load 173 (.tmp 3), _, _, _, _⟩) rfl 173 (.tmp 3) rfl G rfl 173 _ (0, 0) _ fw11.out.kG.eq Tryz.underlying173 rfl (st_infos _ _ _ _ _) ?_)
                  | (go_at_call 124; (with_reducible refine (hf.out).mono ?_); rintro e w20 ⟨rfl, s20, b20⟩; have s20 := hide s20; have f20 := hide (fw11.out.below b20); clear b20; obtain ⟨w21, hw21⟩ : ∃ W, w20.setRow (G + 1 + 1) #[.slice Al n cl, .int .i64 (a2 : Nat), .slice Ao m co, .int .i64 (most : Nat), .int .i64 ((3 : Nat) : Int)] = W := ⟨_, rfl⟩)
                  | ((with_reducible refine wpList_store_row (o := ⟨none, .store 173 (.tmp 6) (.tmp 82), _, _, _, _⟩) rfl 173 (.tmp 6) (.tmp 82) rfl (G + 1 + 1) #[.slice Al n cl, .int .i64 (a2 : Nat), .slice Ao m co, .int .i64 (most : Nat), .int .i64 ((3 : Nat) : Int)] rfl rfl 173 _ f20.out.kR.eq (st_infos _ _ _ _ _) (st_hold _ _ _ _ _ _ _ _ _ _) (st_one _ _ _ _ _ _ _ _ _) ?_); rw [hw21]))
                exact LPost.done (A := none) (N := 0) (c := 0) rfl f20.out s20.out hBw.out rfl rfl hw21 rfl (by rw [hRe.out]; exact ⟨rfl, by decide⟩)
              · have hbI : ¬ (many : Int) - (N : Int) < (3 + (k : Int)) := by omega
                have hbI2 : (3 + (k : Int)) ≤ (many : Int) - (N : Int) := by omega
                have hbN : N + (3 + k) ≤ many := by omega
                have hR4 := hide (show Inf.lens l ls many g (acc ++ List.replicate ((3 + k)) (v)) a2 o = RR from by have := hRx.out.1 hE; rwa [if_neg (by rw [hacc.out]; exact hbig)] at this)
                replace hE := hide hE
                clear hRx hbig
                go_wp2
                clear hbI hbI2 hsub
                go_loopw [8, 14] (fun s8 s14 wr => ∃ (i M : Nat) (A : Option Addr) (c : Nat), i ≤ (3 + k) ∧ s14 = .int .i64 (i : Int) ∧ s8 = .slice A M c ∧ M ≤ many ∧ Hid (M = N + i) ∧ Hid (Ow wr w.heap.size 3 A M c ((acc ++ List.replicate i (v)).map jv)) ∧ Hid (RSt wr B l most a2 o e2 Al n cl Ao m co) ∧ Hid (SB w w.heap.size G (G + 1 + 1) (.slice Al n cl) (.int .i64 (a2 : Nat)) (.slice Ao m co) (.int .i64 (most : Nat)) (.int .i64 (e2 : Nat)) wr) ∧ Hid (Blk wr (G + 1) 180 bc)) (fun _ i _ => (3 + k) - (intOf i).toNat)
                case atStart => exact ⟨0, N, some ⟨ga, 0, none⟩, c, Nat.zero_le _, rfl, rfl, hN, hide rfl, hide (by simpa using o11.out), sw11, fw11, k11⟩
                case round =>
                  clear ee sw11 fw11 k11 o11
                  obtain ⟨i, M, A, c, hi, rfl, rfl, hMm, hM, oi, si, fi, ki⟩ := hrel
                  have ee := fi.out.kG.cell 4
                  simp only [List.getElem?_toArray, List.getElem?_cons_succ, List.getElem?_cons_zero] at ee
                  by_cases hlt : i < (3 + k)
                  · have hltI : (i : Int) < (3 + (k : Int)) := by omega
                    have hii : IntKind.i64.wrap ((i : Int) + 1) = (i : Int) + 1 := by rw [IntKind.wrap_i64]; omega
                    have hsn := hide (show (acc ++ List.replicate i (v)).map jv ++ [jv (v)] = (acc ++ List.replicate (i + 1) (v)).map jv from by rw [List.replicate_succ', ← List.append_assoc, List.map_append (l₁ := acc ++ List.replicate i (v))]; rfl)
                    have hbase := hide fi.out.kx.1
                    have hM1 := hide (show M + 1 ≤ many from by have := hM.out; omega)
                    go_wp2_with (at_builtin; refine wpList_append_one wr rfl (.tmp 93) (.tmp 95) rfl elem_int rfl oi.out (jv (v)) 3 _ rfl rfl (by simp only [maxLen]; omega) (by omega) hbase.out ?_; intro A4 c4 w4 ho4 hg4 hn4; have s4' := hide (si.out.past oi.out hBw.out hg4); have f4' := hide (fi.out.past oi.out hg4); have k4' := hide (ki.out.chg hg4 (fun hx => oi.out.ne ki.out (by decide) hx)); rw [hsn.out] at ho4; have ho4 := hide ho4; clear hg4 hn4)
                    go_roundw
                    case rel => exact ⟨i + 1, M + 1, A4, c4, by omega, by go_num, rfl, hM1.out, hide (by have := hM.out; omega), ho4, s4', f4', k4'⟩
                    case measure => simp [intOf] <;> omega
                  · obtain rfl : i = (3 + k) := by omega
                    have hacc2 := hide (show (acc ++ List.replicate ((3 + k)) (v)).length = M from by rw [List.length_append, List.length_replicate, hacc.out, hM.out])
                    have hF2 := hide (show many < g + M from by have := hF.out; have := hM.out; omega)
                    have hnl : ¬ (((3 + k) : Nat) : Int) < (3 + (k : Int)) := by omega
                    go_wp2
                    go_roundg g
                    case rel => exact ⟨acc ++ List.replicate ((3 + k)) (v), a2, e2, M, c, A, rfl, hMm, hacc2, si, fi, ki, oi, hide ⟨fun _ => ⟨hR4.out, hF2.out⟩, fun h => absurd hE.out h⟩⟩
                    case measure => omega
            · have hez : ((e2 : Int) == 0) = false := by simp; omega
              have hRe := hide (hRx.out.2 hE)
              have hnp : (0 : Int) < (3 + (k : Int)) := by omega
              replace hE := hide hE
              clear hRx
              go_wp2
              refine wp_loop_rounds 1 ?_
              rw [rounds_succ]
              go_wp2
              go_roundg g
              case rel => exact ⟨acc, a2, e2, N, c, some ⟨ga, 0, none⟩, rfl, hN, hacc, sw11, fw11, k11, o11, hide ⟨fun h => absurd h hE.out, fun _ => hRe.out⟩⟩
              case measure => omega
        · obtain ⟨⟨a2, e2, k⟩, hq2⟩ : ∃ r, RI.bits l 3 a1 e1 = r := ⟨_, rfl⟩
          have hRx := hide (n17 hy3 a2 e2 k (by have h := hq2; rw [he1] at h; exact h))
          have hk := RI.bits_lt hq2
          subst hy3
          have hcb := hide (c_bits sw8.out rfl 3 (by decide) (K := 3) rfl hq2)
          have hkw : IntKind.i64.wrap (3 + (k : Int)) = 3 + (k : Int) := by rw [IntKind.wrap_i64]; omega
          clear n16a n16b n17 n18 nel hnx
          replace he1 := hide he1
          go_upto_region 18 with (first
          | (with_reducible refine wpList_load_row (o := ⟨some 55, .load 173 (.tmp 3), _, _, _, _⟩) rfl 173 (.tmp 3) rfl G rfl 173 _ (0, 0) _ fw8.out.kG.eq Tryz.underlying173 rfl (st_infos _ _ _ _ _) ?_)
          | (go_at_call 119; (with_reducible refine (hcb.out).mono ?_); rintro e w9 ⟨rfl, s9, b9⟩; have s9 := hide s9; have f9 := hide (fw8.out.below b9); have k9 := hide (k8.out.below b9 k8.out.lt); have o9 := hide (o8.out.below b9); clear b9; obtain ⟨w10, hw10⟩ : ∃ W, w9.setRow G #[.slice Al n cl, .int .i64 (a2 : Nat), .slice Ao m co, .int .i64 (most : Nat), .int .i64 (e2 : Nat)] = W := ⟨_, rfl⟩; have sw10 := hide (show RSt w10 B l most a2 o e2 Al n cl Ao m co from by rw [← hw10]; exact s9.out.row f9.out.kG hBG.out _); have fw10 := hide (show SB w w.heap.size G (G + 1 + 1) (.slice Al n cl) (.int .i64 (a2 : Nat)) (.slice Ao m co) (.int .i64 (most : Nat)) (.int .i64 (e2 : Nat)) w10 from by rw [← hw10]; exact f9.out.row _ _ _ _ _); have k10 := hide (show Blk w10 (G + 1) 180 bc from by rw [← hw10]; exact (setRow_other w9 G (G + 1) _ (by omega)).trans k9.out); have o10 := hide (show Ow w10 w.heap.size 3 A N c (acc.map jv) from by rw [← hw10]; exact o9.out.chg ((Chg.refl (fun k => k = G) w9).setRow (g := G) (.inr rfl) _) (by rintro k hk rfl; exact o9.out.ne f9.out.kG (by decide) hk)))
          | ((with_reducible refine wpList_store_row (o := ⟨none, .store 173 (.tmp 3) (.tmp 57), _, _, _, _⟩) rfl 173 (.tmp 3) (.tmp 57) rfl G #[.slice Al n cl, .int .i64 (a2 : Nat), .slice Ao m co, .int .i64 (most : Nat), .int .i64 (e2 : Nat)] rfl rfl 173 _ f9.out.kG.eq (st_infos _ _ _ _ _) (st_hold _ _ _ _ _ _ _ _ _ _) (st_one _ _ _ _ _ _ _ _ _) ?_); rw [hw10]))
          clear sw8 fw8 k8 o8 hcb s9 f9 k9 o9
          have hsub : IntKind.i64.wrap ((many : Int) - (N : Int)) = (many : Int) - (N : Int) := by rw [IntKind.wrap_i64]; omega
          have ee := fw10.out.kG.cell 4
          simp only [List.getElem?_toArray, List.getElem?_cons_succ, List.getElem?_cons_zero] at ee
          by_cases hE : e2 = 0
          · have hez : ((e2 : Int) == 0) = true := by simp; omega
            by_cases hbig : many - N < (3 + k)
            · have hbI : (many : Int) - (N : Int) < (3 + (k : Int)) := by omega
              have hRe := hide (show RR = .inl 3 from by have := hRx.out.1 hE; rw [if_pos (by rw [hacc.out]; exact hbig)] at this; exact this.symm)
              have hf := hide (c_fail sw10.out rfl 3 (by decide) (K := 3) rfl)
              rw [if_pos hE] at hf
              replace hE := hide hE
              clear hRx hbig
              go_wp2_with (first
                | (with_reducible refine wpList_load_row (o := ⟨some 81, .load 173 (.tmp 3), _, _, _, _⟩) rfl 173 (.tmp 3) rfl G rfl 173 _ (0, 0) _ fw10.out.kG.eq Tryz.underlying173 rfl (st_infos _ _ _ _ _) ?_)
                | (go_at_call 124; (with_reducible refine (hf.out).mono ?_); rintro e w20 ⟨rfl, s20, b20⟩; have s20 := hide s20; have f20 := hide (fw10.out.below b20); clear b20; obtain ⟨w21, hw21⟩ : ∃ W, w20.setRow (G + 1 + 1) #[.slice Al n cl, .int .i64 (a2 : Nat), .slice Ao m co, .int .i64 (most : Nat), .int .i64 ((3 : Nat) : Int)] = W := ⟨_, rfl⟩)
                | ((with_reducible refine wpList_store_row (o := ⟨none, .store 173 (.tmp 6) (.tmp 82), _, _, _, _⟩) rfl 173 (.tmp 6) (.tmp 82) rfl (G + 1 + 1) #[.slice Al n cl, .int .i64 (a2 : Nat), .slice Ao m co, .int .i64 (most : Nat), .int .i64 ((3 : Nat) : Int)] rfl rfl 173 _ f20.out.kR.eq (st_infos _ _ _ _ _) (st_hold _ _ _ _ _ _ _ _ _ _) (st_one _ _ _ _ _ _ _ _ _) ?_); rw [hw21]))
              exact LPost.done (A := none) (N := 0) (c := 0) rfl f20.out s20.out hBw.out rfl rfl hw21 rfl (by rw [hRe.out]; exact ⟨rfl, by decide⟩)
            · have hbI : ¬ (many : Int) - (N : Int) < (3 + (k : Int)) := by omega
              have hbI2 : (3 + (k : Int)) ≤ (many : Int) - (N : Int) := by omega
              have hbN : N + (3 + k) ≤ many := by omega
              have hR4 := hide (show Inf.lens l ls many g (acc ++ List.replicate ((3 + k)) (0)) a2 o = RR from by have := hRx.out.1 hE; rwa [if_neg (by rw [hacc.out]; exact hbig)] at this)
              replace hE := hide hE
              clear hRx hbig
              go_wp2
              clear hbI hbI2 hsub
              go_loopw [8, 14] (fun s8 s14 wr => ∃ (i M : Nat) (A : Option Addr) (c : Nat), i ≤ (3 + k) ∧ s14 = .int .i64 (i : Int) ∧ s8 = .slice A M c ∧ M ≤ many ∧ Hid (M = N + i) ∧ Hid (Ow wr w.heap.size 3 A M c ((acc ++ List.replicate i (0)).map jv)) ∧ Hid (RSt wr B l most a2 o e2 Al n cl Ao m co) ∧ Hid (SB w w.heap.size G (G + 1 + 1) (.slice Al n cl) (.int .i64 (a2 : Nat)) (.slice Ao m co) (.int .i64 (most : Nat)) (.int .i64 (e2 : Nat)) wr) ∧ Hid (Blk wr (G + 1) 180 bc)) (fun _ i _ => (3 + k) - (intOf i).toNat)
              case atStart => exact ⟨0, N, A, c, Nat.zero_le _, rfl, rfl, hN, hide rfl, hide (by simpa using o10.out), sw10, fw10, k10⟩
              case round =>
                clear ee sw10 fw10 k10 o10
                obtain ⟨i, M, A, c, hi, rfl, rfl, hMm, hM, oi, si, fi, ki⟩ := hrel
                have ee := fi.out.kG.cell 4
                simp only [List.getElem?_toArray, List.getElem?_cons_succ, List.getElem?_cons_zero] at ee
                by_cases hlt : i < (3 + k)
                · have hltI : (i : Int) < (3 + (k : Int)) := by omega
                  have hii : IntKind.i64.wrap ((i : Int) + 1) = (i : Int) + 1 := by rw [IntKind.wrap_i64]; omega
                  have hsn := hide (show (acc ++ List.replicate i (0)).map jv ++ [jv (0)] = (acc ++ List.replicate (i + 1) (0)).map jv from by rw [List.replicate_succ', ← List.append_assoc, List.map_append (l₁ := acc ++ List.replicate i (0))]; rfl)
                  have hbase := hide fi.out.kx.1
                  have hM1 := hide (show M + 1 ≤ many from by have := hM.out; omega)
                  go_wp2_with (at_builtin; refine wpList_append_one wr rfl (.tmp 93) (.tmp 95) rfl elem_int rfl oi.out (jv (0)) 3 _ rfl rfl (by simp only [maxLen]; omega) (by omega) hbase.out ?_; intro A4 c4 w4 ho4 hg4 hn4; have s4' := hide (si.out.past oi.out hBw.out hg4); have f4' := hide (fi.out.past oi.out hg4); have k4' := hide (ki.out.chg hg4 (fun hx => oi.out.ne ki.out (by decide) hx)); rw [hsn.out] at ho4; have ho4 := hide ho4; clear hg4 hn4)
                  go_roundw
                  case rel => exact ⟨i + 1, M + 1, A4, c4, by omega, by go_num, rfl, hM1.out, hide (by have := hM.out; omega), ho4, s4', f4', k4'⟩
                  case measure => simp [intOf] <;> omega
                · obtain rfl : i = (3 + k) := by omega
                  have hacc2 := hide (show (acc ++ List.replicate ((3 + k)) (0)).length = M from by rw [List.length_append, List.length_replicate, hacc.out, hM.out])
                  have hF2 := hide (show many < g + M from by have := hF.out; have := hM.out; omega)
                  have hnl : ¬ (((3 + k) : Nat) : Int) < (3 + (k : Int)) := by omega
                  go_wp2
                  go_roundg g
                  case rel => exact ⟨acc ++ List.replicate ((3 + k)) (0), a2, e2, M, c, A, rfl, hMm, hacc2, si, fi, ki, oi, hide ⟨fun _ => ⟨hR4.out, hF2.out⟩, fun h => absurd hE.out h⟩⟩
                  case measure => omega
          · have hez : ((e2 : Int) == 0) = false := by simp; omega
            have hRe := hide (hRx.out.2 hE)
            have hnp : (0 : Int) < (3 + (k : Int)) := by omega
            replace hE := hide hE
            clear hRx
            go_wp2
            refine wp_loop_rounds 1 ?_
            rw [rounds_succ]
            go_wp2
            go_roundg g
            case rel => exact ⟨acc, a2, e2, N, c, A, rfl, hN, hacc, sw10, fw10, k10, o10, hide ⟨fun h => absurd h hE.out, fun _ => hRe.out⟩⟩
            case measure => omega
        · obtain ⟨⟨a2, e2, k⟩, hq2⟩ : ∃ r, RI.bits l 7 a1 e1 = r := ⟨_, rfl⟩
          have hRx := hide (n18 hy3 a2 e2 k (by have h := hq2; rw [he1] at h; exact h))
          have hk := RI.bits_lt hq2
          subst hy3
          have hcb := hide (c_bits sw8.out rfl 7 (by decide) (K := 7) rfl hq2)
          have hkw : IntKind.i64.wrap (11 + (k : Int)) = 11 + (k : Int) := by rw [IntKind.wrap_i64]; omega
          clear n16a n16b n17 n18 nel hnx
          replace he1 := hide he1
          go_upto_region 18 with (first
          | (with_reducible refine wpList_load_row (o := ⟨some 64, .load 173 (.tmp 3), _, _, _, _⟩) rfl 173 (.tmp 3) rfl G rfl 173 _ (0, 0) _ fw8.out.kG.eq Tryz.underlying173 rfl (st_infos _ _ _ _ _) ?_)
          | (go_at_call 119; (with_reducible refine (hcb.out).mono ?_); rintro e w9 ⟨rfl, s9, b9⟩; have s9 := hide s9; have f9 := hide (fw8.out.below b9); have k9 := hide (k8.out.below b9 k8.out.lt); have o9 := hide (o8.out.below b9); clear b9; obtain ⟨w10, hw10⟩ : ∃ W, w9.setRow G #[.slice Al n cl, .int .i64 (a2 : Nat), .slice Ao m co, .int .i64 (most : Nat), .int .i64 (e2 : Nat)] = W := ⟨_, rfl⟩; have sw10 := hide (show RSt w10 B l most a2 o e2 Al n cl Ao m co from by rw [← hw10]; exact s9.out.row f9.out.kG hBG.out _); have fw10 := hide (show SB w w.heap.size G (G + 1 + 1) (.slice Al n cl) (.int .i64 (a2 : Nat)) (.slice Ao m co) (.int .i64 (most : Nat)) (.int .i64 (e2 : Nat)) w10 from by rw [← hw10]; exact f9.out.row _ _ _ _ _); have k10 := hide (show Blk w10 (G + 1) 180 bc from by rw [← hw10]; exact (setRow_other w9 G (G + 1) _ (by omega)).trans k9.out); have o10 := hide (show Ow w10 w.heap.size 3 A N c (acc.map jv) from by rw [← hw10]; exact o9.out.chg ((Chg.refl (fun k => k = G) w9).setRow (g := G) (.inr rfl) _) (by rintro k hk rfl; exact o9.out.ne f9.out.kG (by decide) hk)))
          | ((with_reducible refine wpList_store_row (o := ⟨none, .store 173 (.tmp 3) (.tmp 66), _, _, _, _⟩) rfl 173 (.tmp 3) (.tmp 66) rfl G #[.slice Al n cl, .int .i64 (a2 : Nat), .slice Ao m co, .int .i64 (most : Nat), .int .i64 (e2 : Nat)] rfl rfl 173 _ f9.out.kG.eq (st_infos _ _ _ _ _) (st_hold _ _ _ _ _ _ _ _ _ _) (st_one _ _ _ _ _ _ _ _ _) ?_); rw [hw10]))
          clear sw8 fw8 k8 o8 hcb s9 f9 k9 o9
          have hsub : IntKind.i64.wrap ((many : Int) - (N : Int)) = (many : Int) - (N : Int) := by rw [IntKind.wrap_i64]; omega
          have ee := fw10.out.kG.cell 4
          simp only [List.getElem?_toArray, List.getElem?_cons_succ, List.getElem?_cons_zero] at ee
          by_cases hE : e2 = 0
          · have hez : ((e2 : Int) == 0) = true := by simp; omega
            by_cases hbig : many - N < (11 + k)
            · have hbI : (many : Int) - (N : Int) < (11 + (k : Int)) := by omega
              have hRe := hide (show RR = .inl 3 from by have := hRx.out.1 hE; rw [if_pos (by rw [hacc.out]; exact hbig)] at this; exact this.symm)
              have hf := hide (c_fail sw10.out rfl 3 (by decide) (K := 3) rfl)
              rw [if_pos hE] at hf
              replace hE := hide hE
              clear hRx hbig
              go_wp2_with (first
                | (with_reducible refine wpList_load_row (o := ⟨some 81, .load 173 (.tmp 3), _, _, _, _⟩) rfl 173 (.tmp 3) rfl G rfl 173 _ (0, 0) _ fw10.out.kG.eq Tryz.underlying173 rfl (st_infos _ _ _ _ _) ?_)
                | (go_at_call 124; (with_reducible refine (hf.out).mono ?_); rintro e w20 ⟨rfl, s20, b20⟩; have s20 := hide s20; have f20 := hide (fw10.out.below b20); clear b20; obtain ⟨w21, hw21⟩ : ∃ W, w20.setRow (G + 1 + 1) #[.slice Al n cl, .int .i64 (a2 : Nat), .slice Ao m co, .int .i64 (most : Nat), .int .i64 ((3 : Nat) : Int)] = W := ⟨_, rfl⟩)
                | ((with_reducible refine wpList_store_row (o := ⟨none, .store 173 (.tmp 6) (.tmp 82), _, _, _, _⟩) rfl 173 (.tmp 6) (.tmp 82) rfl (G + 1 + 1) #[.slice Al n cl, .int .i64 (a2 : Nat), .slice Ao m co, .int .i64 (most : Nat), .int .i64 ((3 : Nat) : Int)] rfl rfl 173 _ f20.out.kR.eq (st_infos _ _ _ _ _) (st_hold _ _ _ _ _ _ _ _ _ _) (st_one _ _ _ _ _ _ _ _ _) ?_); rw [hw21]))
              exact LPost.done (A := none) (N := 0) (c := 0) rfl f20.out s20.out hBw.out rfl rfl hw21 rfl (by rw [hRe.out]; exact ⟨rfl, by decide⟩)
            · have hbI : ¬ (many : Int) - (N : Int) < (11 + (k : Int)) := by omega
              have hbI2 : (11 + (k : Int)) ≤ (many : Int) - (N : Int) := by omega
              have hbN : N + (11 + k) ≤ many := by omega
              have hR4 := hide (show Inf.lens l ls many g (acc ++ List.replicate ((11 + k)) (0)) a2 o = RR from by have := hRx.out.1 hE; rwa [if_neg (by rw [hacc.out]; exact hbig)] at this)
              replace hE := hide hE
              clear hRx hbig
              go_wp2
              clear hbI hbI2 hsub
              go_loopw [8, 14] (fun s8 s14 wr => ∃ (i M : Nat) (A : Option Addr) (c : Nat), i ≤ (11 + k) ∧ s14 = .int .i64 (i : Int) ∧ s8 = .slice A M c ∧ M ≤ many ∧ Hid (M = N + i) ∧ Hid (Ow wr w.heap.size 3 A M c ((acc ++ List.replicate i (0)).map jv)) ∧ Hid (RSt wr B l most a2 o e2 Al n cl Ao m co) ∧ Hid (SB w w.heap.size G (G + 1 + 1) (.slice Al n cl) (.int .i64 (a2 : Nat)) (.slice Ao m co) (.int .i64 (most : Nat)) (.int .i64 (e2 : Nat)) wr) ∧ Hid (Blk wr (G + 1) 180 bc)) (fun _ i _ => (11 + k) - (intOf i).toNat)
              case atStart => exact ⟨0, N, A, c, Nat.zero_le _, rfl, rfl, hN, hide rfl, hide (by simpa using o10.out), sw10, fw10, k10⟩
              case round =>
                clear ee sw10 fw10 k10 o10
                obtain ⟨i, M, A, c, hi, rfl, rfl, hMm, hM, oi, si, fi, ki⟩ := hrel
                have ee := fi.out.kG.cell 4
                simp only [List.getElem?_toArray, List.getElem?_cons_succ, List.getElem?_cons_zero] at ee
                by_cases hlt : i < (11 + k)
                · have hltI : (i : Int) < (11 + (k : Int)) := by omega
                  have hii : IntKind.i64.wrap ((i : Int) + 1) = (i : Int) + 1 := by rw [IntKind.wrap_i64]; omega
                  have hsn := hide (show (acc ++ List.replicate i (0)).map jv ++ [jv (0)] = (acc ++ List.replicate (i + 1) (0)).map jv from by rw [List.replicate_succ', ← List.append_assoc, List.map_append (l₁ := acc ++ List.replicate i (0))]; rfl)
                  have hbase := hide fi.out.kx.1
                  have hM1 := hide (show M + 1 ≤ many from by have := hM.out; omega)
                  go_wp2_with (at_builtin; refine wpList_append_one wr rfl (.tmp 93) (.tmp 95) rfl elem_int rfl oi.out (jv (0)) 3 _ rfl rfl (by simp only [maxLen]; omega) (by omega) hbase.out ?_; intro A4 c4 w4 ho4 hg4 hn4; have s4' := hide (si.out.past oi.out hBw.out hg4); have f4' := hide (fi.out.past oi.out hg4); have k4' := hide (ki.out.chg hg4 (fun hx => oi.out.ne ki.out (by decide) hx)); rw [hsn.out] at ho4; have ho4 := hide ho4; clear hg4 hn4)
                  go_roundw
                  case rel => exact ⟨i + 1, M + 1, A4, c4, by omega, by go_num, rfl, hM1.out, hide (by have := hM.out; omega), ho4, s4', f4', k4'⟩
                  case measure => simp [intOf] <;> omega
                · obtain rfl : i = (11 + k) := by omega
                  have hacc2 := hide (show (acc ++ List.replicate ((11 + k)) (0)).length = M from by rw [List.length_append, List.length_replicate, hacc.out, hM.out])
                  have hF2 := hide (show many < g + M from by have := hF.out; have := hM.out; omega)
                  have hnl : ¬ (((11 + k) : Nat) : Int) < (11 + (k : Int)) := by omega
                  go_wp2
                  go_roundg g
                  case rel => exact ⟨acc ++ List.replicate ((11 + k)) (0), a2, e2, M, c, A, rfl, hMm, hacc2, si, fi, ki, oi, hide ⟨fun _ => ⟨hR4.out, hF2.out⟩, fun h => absurd hE.out h⟩⟩
                  case measure => omega
          · have hez : ((e2 : Int) == 0) = false := by simp; omega
            have hRe := hide (hRx.out.2 hE)
            have hnp : (0 : Int) < (11 + (k : Int)) := by omega
            replace hE := hide hE
            clear hRx
            go_wp2
            refine wp_loop_rounds 1 ?_
            rw [rounds_succ]
            go_wp2
            go_roundg g
            case rel => exact ⟨acc, a2, e2, N, c, A, rfl, hN, hacc, sw10, fw10, k10, o10, hide ⟨fun h => absurd h hE.out, fun _ => hRe.out⟩⟩
            case measure => omega
        · have hRx := hide (show RI.Next l ls many g acc o RR 1 y a1 e1 from by rw [he1]; exact nel hya hyb hyc)
          have hy16 : ((y : Int) == 16) = false := by simp; omega
          have hy17 : ((y : Int) == 17) = false := by simp; omega
          have hy18 : ((y : Int) == 18) = false := by simp; omega
          clear n16a n16b n17 n18 nel hnx
          replace he1 := hide he1
          go_upto_region 18 with fail
          have hsub : IntKind.i64.wrap ((many : Int) - (N : Int)) = (many : Int) - (N : Int) := by rw [IntKind.wrap_i64]; omega
          have ee := fw8.out.kG.cell 4
          simp only [List.getElem?_toArray, List.getElem?_cons_succ, List.getElem?_cons_zero] at ee
          by_cases hE : e1 = 0
          · have hez : ((e1 : Int) == 0) = true := by simp; omega
            by_cases hbig : many - N < 1
            · exact absurd hbig (by omega)
            · have hbI : ¬ (many : Int) - (N : Int) < (1 : Int) := by omega
              have hbI2 : (1 : Int) ≤ (many : Int) - (N : Int) := by omega
              have hbN : N + 1 ≤ many := by omega
              have hR4 := hide (show Inf.lens l ls many g (acc ++ List.replicate (1) (y)) a1 o = RR from by have := hRx.out.1 hE; rwa [if_neg (by rw [hacc.out]; exact hbig)] at this)
              replace hE := hide hE
              clear hRx hbig
              go_wp2
              clear hbI hbI2 hsub
              go_loopw [8, 14] (fun s8 s14 wr => ∃ (i M : Nat) (A : Option Addr) (c : Nat), i ≤ 1 ∧ s14 = .int .i64 (i : Int) ∧ s8 = .slice A M c ∧ M ≤ many ∧ Hid (M = N + i) ∧ Hid (Ow wr w.heap.size 3 A M c ((acc ++ List.replicate i (y)).map jv)) ∧ Hid (RSt wr B l most a1 o e1 Al n cl Ao m co) ∧ Hid (SB w w.heap.size G (G + 1 + 1) (.slice Al n cl) (.int .i64 (a1 : Nat)) (.slice Ao m co) (.int .i64 (most : Nat)) (.int .i64 (e1 : Nat)) wr) ∧ Hid (Blk wr (G + 1) 180 bc)) (fun _ i _ => 1 - (intOf i).toNat)
              case atStart => exact ⟨0, N, A, c, Nat.zero_le _, rfl, rfl, hN, hide rfl, hide (by simpa using o8.out), sw8, fw8, k8⟩
              case round =>
                clear ee sw8 fw8 k8 o8
                obtain ⟨i, M, A, c, hi, rfl, rfl, hMm, hM, oi, si, fi, ki⟩ := hrel
                have ee := fi.out.kG.cell 4
                simp only [List.getElem?_toArray, List.getElem?_cons_succ, List.getElem?_cons_zero] at ee
                by_cases hlt : i < 1
                · have hltI : (i : Int) < (1 : Int) := by omega
                  have hii : IntKind.i64.wrap ((i : Int) + 1) = (i : Int) + 1 := by rw [IntKind.wrap_i64]; omega
                  have hsn := hide (show (acc ++ List.replicate i (y)).map jv ++ [jv (y)] = (acc ++ List.replicate (i + 1) (y)).map jv from by rw [List.replicate_succ', ← List.append_assoc, List.map_append (l₁ := acc ++ List.replicate i (y))]; rfl)
                  have hbase := hide fi.out.kx.1
                  have hM1 := hide (show M + 1 ≤ many from by have := hM.out; omega)
                  go_wp2_with (at_builtin; refine wpList_append_one wr rfl (.tmp 93) (.tmp 95) rfl elem_int rfl oi.out (jv (y)) 3 _ rfl rfl (by simp only [maxLen]; omega) (by omega) hbase.out ?_; intro A4 c4 w4 ho4 hg4 hn4; have s4' := hide (si.out.past oi.out hBw.out hg4); have f4' := hide (fi.out.past oi.out hg4); have k4' := hide (ki.out.chg hg4 (fun hx => oi.out.ne ki.out (by decide) hx)); rw [hsn.out] at ho4; have ho4 := hide ho4; clear hg4 hn4)
                  go_roundw
                  case rel => exact ⟨i + 1, M + 1, A4, c4, by omega, by go_num, rfl, hM1.out, hide (by have := hM.out; omega), ho4, s4', f4', k4'⟩
                  case measure => simp [intOf] <;> omega
                · obtain rfl : i = 1 := by omega
                  have hacc2 := hide (show (acc ++ List.replicate (1) (y)).length = M from by rw [List.length_append, List.length_replicate, hacc.out, hM.out])
                  have hF2 := hide (show many < g + M from by have := hF.out; have := hM.out; omega)
                  have hnl : ¬ ((1 : Nat) : Int) < (1 : Int) := by omega
                  go_wp2
                  go_roundg g
                  case rel => exact ⟨acc ++ List.replicate (1) (y), a1, e1, M, c, A, rfl, hMm, hacc2, si, fi, ki, oi, hide ⟨fun _ => ⟨hR4.out, hF2.out⟩, fun h => absurd hE.out h⟩⟩
                  case measure => omega
          · have hez : ((e1 : Int) == 0) = false := by simp; omega
            have hRe := hide (hRx.out.2 hE)
            have hnp : (0 : Int) < (1 : Int) := by omega
            replace hE := hide hE
            clear hRx
            go_wp2
            refine wp_loop_rounds 1 ?_
            rw [rounds_succ]
            go_wp2
            go_roundg g
            case rel => exact ⟨acc, a1, e1, N, c, A, rfl, hN, hacc, sw8, fw8, k8, o8, hide ⟨fun h => absurd h hE.out, fun _ => hRe.out⟩⟩
            case measure => omega
      · obtain ⟨hy0, hRe0⟩ := hnx.out.1 he1
        subst hy0
        have hRx := hide (show RI.Next l ls many g acc o RR 1 0 a1 e1 from ⟨fun h => absurd h he1, fun _ => hRe0⟩)
        clear hnx
        replace he1 := hide he1
        go_upto_region 18 with fail
        have hsub : IntKind.i64.wrap ((many : Int) - (N : Int)) = (many : Int) - (N : Int) := by rw [IntKind.wrap_i64]; omega
        have ee := fw8.out.kG.cell 4
        simp only [List.getElem?_toArray, List.getElem?_cons_succ, List.getElem?_cons_zero] at ee
        by_cases hE : e1 = 0
        · exact absurd hE he1.out
        · have hez : ((e1 : Int) == 0) = false := by simp; omega
          have hRe := hide (hRx.out.2 hE)
          have hnp : (0 : Int) < (1 : Int) := by omega
          replace hE := hide hE
          clear hRx
          go_wp2
          refine wp_loop_rounds 1 ?_
          rw [rounds_succ]
          go_wp2
          go_roundg g
          case rel => exact ⟨acc, a1, e1, N, c, A, rfl, hN, hacc, sw8, fw8, k8, o8, hide ⟨fun h => absurd h hE.out, fun _ => hRe.out⟩⟩
          case measure => omega
    · have hcond : ¬ (N : Int) < (many : Int) ∨ (N : Int) < (many : Int) ∧ ((e3 : Int) == 0) = false := by
        by_cases h1 : N < many
        · exact .inr ⟨by omega, by simp; omega⟩
        · exact .inl (by omega)
      have hfin := hide (show RI.lis RR a3 o e3 A N c w.heap.size wr from by
        by_cases h0 : e3 = 0
        · obtain ⟨h1, h2⟩ := hr3.out.1 h0
          obtain ⟨g, rfl⟩ : ∃ g, gk = g + 1 := ⟨gk - 1, by omega⟩
          rw [Inf.lens, if_pos (by rw [hacc.out]; omega)] at h1
          rw [← h1]
          exact ⟨h0, rfl, rfl, hacc.out, oA.out⟩
        · rw [hr3.out.2 h0]
          exact ⟨rfl, h0⟩)
      obtain ⟨w9, hw9⟩ : ∃ W, wr.setRow (G + 1 + 1) #[.slice Al n cl, .int .i64 (a3 : Nat), .slice Ao m co, .int .i64 (most : Nat), .int .i64 (e3 : Nat)] = W := ⟨_, rfl⟩
      replace hgo := hide hgo
      replace hr3 := hide hr3
      rcases hcond with hcond | ⟨hcond, hz⟩
      all_goals (
        go_wp2_with (first
          | (with_reducible refine wpList_load_row (o := ⟨some 97, .load 173 (.tmp 3), _, _, _, _⟩) rfl 173 (.tmp 3) rfl G rfl 173 _ (0, 0) _ f3.out.kG.eq Tryz.underlying173 rfl (st_infos _ _ _ _ _) ?_)
          | ((with_reducible refine wpList_store_row (o := ⟨none, .store 173 (.tmp 6) (.tmp 97), _, _, _, _⟩) rfl 173 (.tmp 6) (.tmp 97) rfl (G + 1 + 1) #[.slice Al n cl, .int .i64 (a3 : Nat), .slice Ao m co, .int .i64 (most : Nat), .int .i64 (e3 : Nat)] rfl rfl 173 _ f3.out.kR.eq (st_infos _ _ _ _ _) (st_hold _ _ _ _ _ _ _ _ _ _) (st_one _ _ _ _ _ _ _ _ _) ?_); rw [hw9]))
        exact LPost.done rfl f3.out s3.out hBw.out rfl rfl hw9 rfl hfin.out)

end Go.Proofs.YtaapjampmnanmaaGreat

namespace Go.Proofs.YtaapjampmnanmaaGreat
open Go.RowKit Go.Shelf
set_option linter.unusedVariables false
set_option linter.unusedSimpArgs false

/-- The two books that dynamic hands on, as they are made: empty. -/
structure KBs (g : Nat) (W : World) : Prop where
  k1 : Blk W g 180 z32
  k2 : Blk W (g + 1) 180 z32
theorem KBs.below {g : Nat} {W W' : World} (h : KBs g W) (hb : Below W.heap.size W W') : KBs g W' := ⟨h.k1.below hb h.k1.lt, h.k2.below hb h.k2.lt⟩
theorem KBs.row {g T : Nat} {W : World} {c0 c1 : Array Value} (h : KBs g W) (hk : Blk W T 173 c0) : KBs g (W.setRow T c1) :=
  ⟨(setRow_other W T g _ (fun e => h.k1.same hk (by decide) e)).trans h.k1, (setRow_other W T (g + 1) _ (fun e => h.k2.same hk (by decide) e)).trans h.k2⟩
theorem KBs.calm {g gl : Nat} {W W' : World} {cs : Array Value} (h : KBs g W) (hk : Blk W gl 3 cs) (hc : Chg (fun k => k = gl) W W') : KBs g W' :=
  ⟨h.k1.chg hc (fun e => h.k1.same hk (by decide) e), h.k2.chg hc (fun e => h.k2.same hk (by decide) e)⟩
theorem SB.calm {w W W' : World} {B G R gl : Nat} {c0 c1 c2 c3 c4 : Value} {cs : Array Value} (h : SB w B G R c0 c1 c2 c3 c4 W) (hk : Blk W gl 3 cs) (hg : w.heap.size ≤ gl) (hc : Chg (fun k => k = gl) W W') : SB w B G R c0 c1 c2 c3 c4 W' :=
  ⟨h.kG.chg hc (fun e => h.kG.same hk (by decide) e), h.kR.chg hc (fun e => h.kR.same hk (by decide) e), h.hG, h.hR, h.hne, h.hB, h.bl.trans (hc.to_below (Nat.le_trans h.hB h.kx.1) (by rintro k rfl; exact Nat.le_trans h.hB hg)), h.kx.past hc (by rintro k rfl; exact hg)⟩
theorem RSt.calm {W W' : World} {B : Nat} {l : List Bool} {most a : Nat} {o : List UInt8} {e : Nat} {Al : Option Addr} {n cl : Nat} {Ao : Option Addr} {m co gl : Nat} {cs : Array Value} (h : RSt W B l most a o e Al n cl Ao m co) (hk : Blk W gl 3 cs) (hg : B ≤ gl) (hc : Chg (fun k => k = gl) W W') : RSt W' B l most a o e Al n cl Ao m co :=
  ⟨h.ha, h.hm, h.hmm, h.he, Nat.le_trans h.hB hc.size, h.hc, h.hn, h.hmost, h.rd.below (hc.to_below h.hB (by rintro k rfl; exact hg)), h.ow.chg hc (by rintro k hk' rfl; exact h.ow.ne hk (by decide) hk')⟩
theorem ri_order (w : World) : Calls Tryz.prog 155 #[] w fun e w' => e = .returned (.slice (some ⟨w.heap.size, 0, none⟩) 19 19) ∧ Blk w' w.heap.size 3 orderA ∧ Below w.heap.size w w' := by
  go_enter Tryz.func155, Tryz.ntmps155
  go_wp2
  go_ret
  exact ⟨rfl, Blk.new w 3 orderA, (Below.refl _ w).alloc (Nat.le_refl _) _⟩
theorem st_res3 {fn : Func} {p q r : Tmp} (h : fn.results = #[.cell p 173, .cell q 180, .cell r 180]) (tmps : Array Value) (w : World) (g g1 g2 : Nat) (c0 c1 c2 c3 c4 : Value) (cs1 cs2 : Array Value)
    (hp : tmps.getD p undef = .pointer (some ⟨g, 0, none⟩)) (hq : tmps.getD q undef = .pointer (some ⟨g1, 0, none⟩)) (hr : tmps.getD r undef = .pointer (some ⟨g2, 0, none⟩)) (h0 : Blk w g 173 #[c0, c1, c2, c3, c4]) (h1 : Blk w g1 180 cs1) (h2 : Blk w g2 180 cs2) (i1 : cs1.size = 32) (i2 : cs2.size = 32) :
    (results fn tmps).run Tryz.prog w = .ok (.tuple #[.agg #[c0, c1, c2, c3, c4], .agg cs1, .agg cs2]) w := by
  have hp' : tmps[p]?.getD undef = .pointer (some ⟨g, 0, none⟩) := by simpa using hp
  have hq' : tmps[q]?.getD undef = .pointer (some ⟨g1, 0, none⟩) := by simpa using hq
  have hr' : tmps[r]?.getD undef = .pointer (some ⟨g2, 0, none⟩) := by simpa using hr
  simp [results, h, hp', hq', hr', asAddr, run_loadVar_row w g 173 173 _ (0, 0) _ h0 Tryz.underlying173 rfl (st_infos _ _ _ _ _), run_loadVar_row w g1 180 180 _ (0, 0) _ h1 Tryz.underlying180 rfl (info_book' i1), run_loadVar_row w g2 180 180 _ (0, 0) _ h2 Tryz.underlying180 rfl (info_book' i2)]
theorem RI.lis.row {r : Inf.R (List Nat)} {a : Nat} {o : List UInt8} {e : Nat} {A : Option Addr} {N c base base' g : Nat} {W : World} {cs cs' : Array Value} (h : RI.lis r a o e A N c base W) (hb : base' ≤ base) (hk : Blk W g 173 cs) : RI.lis r a o e A N c base' (W.setRow g cs') := by
  cases r with
  | inl er => exact h
  | inr x =>
    obtain ⟨acc, a', o'⟩ := x
    obtain ⟨h1, h2, h3, h4, h5⟩ := h
    exact ⟨h1, h2, h3, h4, (h5.chg ((Chg.refl (fun k => k = g) W).setRow (g := g) (.inr rfl) _) (by rintro k hk' rfl; exact h5.ne hk (by decide) hk')).base_le (fun k hk' => Nat.le_trans hb (h5.blk_lt k hk').1)⟩
theorem z32_size : z32.size = 32 := rfl
theorem z32_one : z32.all (·.oneCell') = true := by simp [z32, Value.oneCell']

theorem RSt.brow {W : World} {B : Nat} {l : List Bool} {most a : Nat} {o : List UInt8} {e : Nat} {Al : Option Addr} {n cl : Nat} {Ao : Option Addr} {m co : Nat} (h : RSt W B l most a o e Al n cl Ao m co) {g : Nat} {cs : Array Value} (hk : Blk W g 180 cs) (hg : B ≤ g) (cs' : Array Value) : RSt (W.setRow g cs') B l most a o e Al n cl Ao m co := by
  have hc : Chg (fun k => k = g) W (W.setRow g cs') := (Chg.refl (fun k => k = g) W).setRow (g := g) (.inr rfl) _
  exact ⟨h.ha, h.hm, h.hmm, h.he, Nat.le_trans h.hB hc.size, h.hc, h.hn, h.hmost, h.rd.below (hc.to_below h.hB (by rintro i rfl; exact hg)), h.ow.chg hc (by rintro k hk' rfl; exact h.ow.ne hk (by decide) hk')⟩
def RI.dis (r : Inf.R (List Nat × List Nat)) (a : Nat) (o : List UInt8) (e : Nat) (c1 c2 : Array Value) (base : Nat) (W : World) : Prop :=
  match r with | .inl er => e = er ∧ er ≠ 0 ∧ c1 = z32 ∧ c2 = z32 | .inr (x, a', o') => e = 0 ∧ a = a' ∧ o = o' ∧ BookV base W x.1 c1 ∧ BookV base W x.2 c2 ∧ x.1.length ≤ 288 ∧ x.2.length ≤ 288 ∧ Huf.sum x.1 ≤ 32768 ∧ Huf.sum x.2 ≤ 32768
def DynPost (w : World) (B : Nat) (l : List Bool) (most : Nat) (o : List UInt8) (Al : Option Addr) (n cl : Nat) (Ao : Option Addr) (m co : Nat) (r : Inf.R (List Nat × List Nat)) (x : Ending) (w' : World) : Prop :=
  ∃ a e c1 c2, x = .returned (.tuple #[.agg #[.slice Al n cl, .int .i64 (a : Nat), .slice Ao m co, .int .i64 (most : Nat), .int .i64 (e : Nat)], .agg c1, .agg c2]) ∧ RSt w' B l most a o e Al n cl Ao m co ∧ Below w.heap.size w w' ∧ RI.dis r a o e c1 c2 w.heap.size w'
/-- The end in an error: the books are empty. -/
theorem DynPost.bad {w W W1 W2 W3 : World} {B G R g : Nat} {l : List Bool} {most a : Nat} {o : List UInt8} {e er : Nat} {Al : Option Addr} {n cl : Nat} {Ao : Option Addr} {m co : Nat} {c0 c1 c2 c3 c4 : Value} {fn : Func} {p q r : Tmp} {tmps : Array Value} {e4 : Value} (hfn : fn.results = #[.cell p 173, .cell q 180, .cell r 180])
    (f : SB w w.heap.size G R c0 c1 c2 c3 c4 W) (st : RSt W B l most a o e Al n cl Ao m co) (hk : KBs g W) (hb : B ≤ w.heap.size) (hg : w.heap.size ≤ g) (hp : tmps.getD p undef = .pointer (some ⟨R, 0, none⟩)) (hq : tmps.getD q undef = .pointer (some ⟨g, 0, none⟩)) (hr : tmps.getD r undef = .pointer (some ⟨g + 1, 0, none⟩))
    (h1 : W.setRow R #[.slice Al n cl, .int .i64 (a : Nat), .slice Ao m co, .int .i64 (most : Nat), e4] = W1) (h2 : W1.setRow g z32 = W2) (h3 : W2.setRow (g + 1) z32 = W3) (he4 : e4 = .int .i64 (e : Nat)) (he : e = er) (he0 : er ≠ 0) :
    bodyPost Tryz.prog fn (DynPost w B l most o Al n cl Ao m co (.inl er)) .ret { tmps := tmps, defers := [] } W3 := by
  subst he4 h1 h2 h3 he
  have hR1 : R ≠ g := fun x => f.kR.same hk.k1 (by decide) x
  have hR2 : R ≠ g + 1 := fun x => f.kR.same hk.k2 (by decide) x
  have j1 := hk.row (T := R) (c1 := #[.slice Al n cl, .int .i64 (a : Nat), .slice Ao m co, .int .i64 (most : Nat), .int .i64 (e : Nat)]) f.kR
  have j2 : Blk ((W.setRow R #[.slice Al n cl, .int .i64 (a : Nat), .slice Ao m co, .int .i64 (most : Nat), .int .i64 (e : Nat)]).setRow g z32) (g + 1) 180 z32 := (setRow_other _ g (g + 1) _ (by omega)).trans j1.k2
  have k0 : Blk (((W.setRow R #[.slice Al n cl, .int .i64 (a : Nat), .slice Ao m co, .int .i64 (most : Nat), .int .i64 (e : Nat)]).setRow g z32).setRow (g + 1) z32) R 173 _ := (setRow_other _ (g + 1) R _ hR2).trans ((setRow_other _ g R _ hR1).trans (f.kR.row _))
  have sR := st.row f.kR (Nat.le_trans hb f.hR) #[.slice Al n cl, .int .i64 (a : Nat), .slice Ao m co, .int .i64 (most : Nat), .int .i64 (e : Nat)]
  refine bodyPost_ret_by (st_res3 hfn _ _ R g (g + 1) _ _ _ _ _ z32 z32 hp hq hr k0 ((setRow_other _ (g + 1) g _ (by omega)).trans (j1.k1.row _)) (j2.row _) z32_size z32_size) rfl ⟨a, e, z32, z32, rfl, ?_, ?_, rfl, he0, rfl, rfl⟩
  · exact (sR.brow j1.k1 (Nat.le_trans hb hg) _).brow j2 (by omega) _
  · exact below_row (below_row (below_row f.bl f.hR _) hg _) (by omega) _
theorem DynPost.ok {w W W1 W2 W3 : World} {B G R g b1 b2 : Nat} {l : List Bool} {most a : Nat} {o : List UInt8} {Al : Option Addr} {n cl : Nat} {Ao : Option Addr} {m co : Nat} {d0 d1 d2 d3 d4 : Value} {fn : Func} {p q r : Tmp} {tmps : Array Value} {near far : List Nat} {c1 c2 : Array Value} (hfn : fn.results = #[.cell p 173, .cell q 180, .cell r 180])
    (f : SB w w.heap.size G R d0 d1 d2 d3 d4 W) (st : RSt W B l most a o 0 Al n cl Ao m co) (hk : KBs g W) (hb : B ≤ w.heap.size) (hg : w.heap.size ≤ g) (v1 : BookV b1 W near c1) (v2 : BookV b2 W far c2) (hb1 : w.heap.size ≤ b1) (hb2 : w.heap.size ≤ b2) (hl1 : near.length ≤ 288) (hl2 : far.length ≤ 288) (hs1 : Huf.sum near ≤ 32768) (hs2 : Huf.sum far ≤ 32768)
    (hp : tmps.getD p undef = .pointer (some ⟨R, 0, none⟩)) (hq : tmps.getD q undef = .pointer (some ⟨g, 0, none⟩)) (hr : tmps.getD r undef = .pointer (some ⟨g + 1, 0, none⟩))
    (h1 : W.setRow R #[.slice Al n cl, .int .i64 (a : Nat), .slice Ao m co, .int .i64 (most : Nat), .int .i64 0] = W1) (h2 : W1.setRow g c1 = W2) (h3 : W2.setRow (g + 1) c2 = W3) :
    bodyPost Tryz.prog fn (DynPost w B l most o Al n cl Ao m co (.inr ((near, far), a, o))) .ret { tmps := tmps, defers := [] } W3 := by
  subst h1 h2 h3
  have hR1 : R ≠ g := fun x => f.kR.same hk.k1 (by decide) x
  have hR2 : R ≠ g + 1 := fun x => f.kR.same hk.k2 (by decide) x
  have j1 := hk.row (T := R) (c1 := #[.slice Al n cl, .int .i64 (a : Nat), .slice Ao m co, .int .i64 (most : Nat), .int .i64 0]) f.kR
  have j2 : Blk ((W.setRow R #[.slice Al n cl, .int .i64 (a : Nat), .slice Ao m co, .int .i64 (most : Nat), .int .i64 0]).setRow g c1) (g + 1) 180 z32 := (setRow_other _ g (g + 1) _ (by omega)).trans j1.k2
  have k0 : Blk (((W.setRow R #[.slice Al n cl, .int .i64 (a : Nat), .slice Ao m co, .int .i64 (most : Nat), .int .i64 0]).setRow g c1).setRow (g + 1) c2) R 173 _ := (setRow_other _ (g + 1) R _ hR2).trans ((setRow_other _ g R _ hR1).trans (f.kR.row _))
  have sR := st.row f.kR (Nat.le_trans hb f.hR) #[.slice Al n cl, .int .i64 (a : Nat), .slice Ao m co, .int .i64 (most : Nat), .int .i64 0]
  refine bodyPost_ret_by (st_res3 hfn _ _ R g (g + 1) _ _ _ _ _ c1 c2 hp hq hr k0 ((setRow_other _ (g + 1) g _ (by omega)).trans (j1.k1.row _)) (j2.row _) v1.size v2.size) rfl ⟨a, 0, c1, c2, rfl, ?_, ?_, rfl, rfl, rfl, ?_, ?_, hl1, hl2, hs1, hs2⟩
  · exact (sR.brow j1.k1 (Nat.le_trans hb hg) _).brow j2 (by omega) _
  · exact below_row (below_row (below_row f.bl f.hR _) hg _) (by omega) _
  · exact (((v1.row f.kR).brow j1.k1).brow j2).base hb1
  · exact (((v2.row f.kR).brow j1.k1).brow j2).base hb2

/-- What dynamic does behind the lengths of lengths. -/
def RI.cont (l : List Bool) (x y : Nat) (c : List Nat) : Inf.M (List Nat × List Nat) := Inf.bind (Inf.need c false) fun _ => Inf.bind (Inf.lens l c (x + y + 258) (x + y + 259) []) fun ls =>
  if ls.getD 256 0 = 0 then Inf.err 3
  else Inf.bind (Inf.need (ls.take (x + 257)) false) fun _ => Inf.bind (Inf.need (ls.drop (x + 257)) true) fun _ => Inf.ret (ls.take (x + 257), ls.drop (x + 257))
theorem RI.dyn_start {l : List Bool} {a a1 e1 x a2 e2 y : Nat} {o : List UInt8} {RR : Inf.R (List Nat × List Nat)} (hr : Inf.dynamic l a o = RR) (h1 : RI.bits l 5 a 0 = (a1, e1, x)) (h2 : RI.bits l 5 a1 e1 = (a2, e2, y)) :
    (e2 ≠ 0 → RR = .inl e2) ∧ (e2 = 0 → (29 < x ∨ 29 < y → RR = .inl 3) ∧ (¬ (29 < x ∨ 29 < y) → ∀ a4 e4 z, RI.bits l 4 a2 0 = (a4, e4, z) → (e4 ≠ 0 → RR = .inl e4) ∧ (e4 = 0 → Inf.bind (Inf.three l (z + 4) 0 (List.replicate 19 0)) (RI.cont l x y) a4 o = RR))) := by
  have hu : Inf.bind (Inf.bits l 5) (fun x => Inf.bind (Inf.bits l 5) fun y => if 29 < x ∨ 29 < y then Inf.err 3 else Inf.bind (Inf.bits l 4) fun m => Inf.bind (Inf.three l (m + 4) 0 (List.replicate 19 0)) (RI.cont l x y)) a o = RR := hr
  have b1 := RI.bits_step (o := o) h1 (fun x => Inf.bind (Inf.bits l 5) fun y => if 29 < x ∨ 29 < y then Inf.err 3 else Inf.bind (Inf.bits l 4) fun m => Inf.bind (Inf.three l (m + 4) 0 (List.replicate 19 0)) (RI.cont l x y))
  rw [hu] at b1
  by_cases he1 : e1 = 0
  · have hb := b1.1 he1
    subst he1
    have b2 := RI.bits_step (o := o) h2 (fun y => if 29 < x ∨ 29 < y then (Inf.err 3 : Inf.M (List Nat × List Nat)) else Inf.bind (Inf.bits l 4) fun m => Inf.bind (Inf.three l (m + 4) 0 (List.replicate 19 0)) (RI.cont l x y))
    rw [← hb] at b2
    refine ⟨fun h => (b2.2 h).1, fun h => ?_⟩
    have hb2 := b2.1 h
    refine ⟨fun hc => by rw [hb2, if_pos hc]; rfl, fun hc a4 e4 z hz => ?_⟩
    rw [if_neg hc] at hb2
    have b3 := RI.bits_step (o := o) hz (fun m => Inf.bind (Inf.three l (m + 4) 0 (List.replicate 19 0)) (RI.cont l x y))
    rw [← hb2] at b3
    exact ⟨fun h => (b3.2 h).1, fun h => (b3.1 h).symm⟩
  · obtain ⟨r1, _, _⟩ := RI.bits_off h2 he1
    subst r1
    exact ⟨fun _ => (b1.2 he1).1, fun h => absurd h he1⟩
theorem RI.three_next {α : Type} {l : List Bool} {k i a a1 e1 y : Nat} {acc : List Nat} {o : List UInt8} {f : List Nat → Inf.M α} {RR : Inf.R α} (h : RI.bits l 3 a 0 = (a1, e1, y)) (hr : Inf.bind (Inf.three l (k + 1) i acc) f a o = RR) :
    (e1 = 0 → Inf.bind (Inf.three l k (i + 1) (acc.set (Inf.order.getD i 0) y)) f a1 o = RR) ∧ (e1 ≠ 0 → RR = .inl e1) := by
  rw [Inf.three, Inf.bind_assoc] at hr
  have b := RI.bits_step (o := o) h (fun v => Inf.bind (Inf.three l k (i + 1) (acc.set (Inf.order.getD i 0) v)) f)
  rw [hr] at b
  exact ⟨fun h => (b.1 h).symm, fun h => (b.2 h).1⟩

theorem rtake {P : Program} {ops : Array Oper} {md : Region.Mode} {Q : Exit → Act → World → Prop} {S : World → Prop} {i d : Nat} {oi : Oper} {v : Value} {fuel : Nat} {listed : Array Bool} {a : Act} {w : World} (hi : ops[i]? = some oi) (hd : oi.dst = some d)
    (hs : Region.noSelect ops = true) (hf : Region.free md ops listed i = true) (hr : (Region.ready md ops listed).contains i = true)
    (hQ : ∀ c a w, Q (.panic c) (a.put (some d) v) w → Q (.panic c) a w) (hy : YieldsIf P ops S oi v a) (hS : S w)
    (h : wpAnyH P md ops Q S fuel (listed.setIfInBounds i true) (a.put (some d) v) w) : wpAnyH P md ops Q S (fuel + 1) listed a w :=
  wpAnyH_take hi hs hf hr (by rw [hd]; exact hQ) hy hS (by rw [hd]; exact h)
section
variable {P : Program} {ops : Array Oper} {md : Region.Mode} {Q : Exit → Act → World → Prop} {S S' : World → Prop}
end

/-- What is left to read of the lengths of lengths. -/
def RI.TL (l : List Bool) (f : List Nat → Inf.M (List Nat × List Nat)) (mm i : Nat) (acc : List Nat) (a e : Nat) (o : List UInt8) (RR : Inf.R (List Nat × List Nat)) : Prop :=
  (e = 0 → Inf.bind (Inf.three l (mm - i) i acc) f a o = RR) ∧ (e ≠ 0 → RR = .inl e)
theorem RI.TL.next {l : List Bool} {f : List Nat → Inf.M (List Nat × List Nat)} {mm i a e a5 e5 v : Nat} {acc : List Nat} {o : List UInt8} {RR : Inf.R (List Nat × List Nat)} (h : RI.TL l f mm i acc a e o RR) (hi : i < mm) (hq : RI.bits l 3 a e = (a5, e5, v)) : RI.TL l f mm (i + 1) (acc.set (Inf.order.getD i 0) v) a5 e5 o RR := by
  by_cases he : e = 0
  · subst he
    have h1 := h.1 rfl
    rw [show mm - i = mm - (i + 1) + 1 from by omega] at h1
    exact RI.three_next hq h1
  · obtain ⟨r1, _, _⟩ := RI.bits_off hq he
    subst r1
    exact ⟨fun h0 => absurd h0 he, h.2⟩

set_option maxRecDepth 100000 in
set_option maxHeartbeats 16000000 in
theorem ri_dynamic {w : World} {B : Nat} {l : List Bool} {most a : Nat} {o : List UInt8} {Al : Option Addr} {n cl : Nat} {Ao : Option Addr} {m co : Nat} (h : RSt w B l most a o 0 Al n cl Ao m co) :
    Calls Tryz.prog 123 #[.agg #[.slice Al n cl, .int .i64 (a : Nat), .slice Ao m co, .int .i64 (most : Nat), .int .i64 0]] w (DynPost w B l most o Al n cl Ao m co (Inf.dynamic l a o)) := by
  obtain ⟨G, hG⟩ : ∃ G, w.heap.size = G := ⟨_, rfl⟩
  obtain ⟨w1, hw1⟩ : ∃ W, w.alloc (.cells #[.slice Al n cl, .int .i64 (a : Nat), .slice Ao m co, .int .i64 (most : Nat), .int .i64 0] 173) = W := ⟨_, rfl⟩
  obtain ⟨w2, hw2⟩ : ∃ W, w1.alloc (.cells #[.slice none 0 0, .int .i64 0, .slice none 0 0, .int .i64 0, .int .i64 0] 173) = W := ⟨_, rfl⟩
  obtain ⟨w3, hw3⟩ : ∃ W, w2.alloc (.cells #[.int .i64 0, .int .i64 0, .int .i64 0, .int .i64 0, .int .i64 0, .int .i64 0, .int .i64 0, .int .i64 0, .int .i64 0, .int .i64 0, .int .i64 0, .int .i64 0, .int .i64 0, .int .i64 0, .int .i64 0, .int .i64 0, .slice none 0 0, .slice none 0 0, .slice none 0 0, .slice none 0 0, .slice none 0 0, .slice none 0 0, .slice none 0 0, .slice none 0 0, .slice none 0 0, .slice none 0 0, .slice none 0 0, .slice none 0 0, .slice none 0 0, .slice none 0 0, .slice none 0 0, .slice none 0 0] 180) = W := ⟨_, rfl⟩
  obtain ⟨w4, hw4⟩ : ∃ W, w3.alloc (.cells #[.int .i64 0, .int .i64 0, .int .i64 0, .int .i64 0, .int .i64 0, .int .i64 0, .int .i64 0, .int .i64 0, .int .i64 0, .int .i64 0, .int .i64 0, .int .i64 0, .int .i64 0, .int .i64 0, .int .i64 0, .int .i64 0, .slice none 0 0, .slice none 0 0, .slice none 0 0, .slice none 0 0, .slice none 0 0, .slice none 0 0, .slice none 0 0, .slice none 0 0, .slice none 0 0, .slice none 0 0, .slice none 0 0, .slice none 0 0, .slice none 0 0, .slice none 0 0, .slice none 0 0, .slice none 0 0] 180) = W := ⟨_, rfl⟩
  have z1 : w1.heap.size = G + 1 := by rw [← hw1, ← hG]; simp
  have z2 : w2.heap.size = G + 1 + 1 := by rw [← hw2, ← z1]; simp
  have z3 : w3.heap.size = G + 1 + 1 + 1 := by rw [← hw3, ← z2]; simp
  have b4 : Below w.heap.size w w4 := by rw [← hw4, ← hw3, ← hw2, ← hw1]; exact ((((Below.refl _ w).alloc (Nat.le_refl _) _).alloc (by simp) _).alloc (by simp; omega) _).alloc (by simp; omega) _
  have s4 := hide (h.below b4)
  have f4 := hide (show SB w w.heap.size G (G + 1) (.slice Al n cl) (.int .i64 (a : Nat)) (.slice Ao m co) (.int .i64 (most : Nat)) (.int .i64 0) w4 from
    ⟨by rw [← hw4, ← hw3, ← hw2]; exact (((show Blk w1 G _ _ from by rw [← hw1, ← hG]; exact Blk.new w _ _).alloc _).alloc _).alloc _, by rw [← hw4, ← hw3]; exact ((show Blk w2 (G + 1) _ _ from by rw [← hw2, ← z1]; exact Blk.new w1 _ _).alloc _).alloc _, by omega, by omega, by omega, Nat.le_refl _, b4, KeepX.below b4⟩)
  have k4 := hide (show KBs (G + 1 + 1) w4 from ⟨by rw [← hw4]; exact (show Blk w3 (G + 1 + 1) 180 #[.int .i64 0, .int .i64 0, .int .i64 0, .int .i64 0, .int .i64 0, .int .i64 0, .int .i64 0, .int .i64 0, .int .i64 0, .int .i64 0, .int .i64 0, .int .i64 0, .int .i64 0, .int .i64 0, .int .i64 0, .int .i64 0, .slice none 0 0, .slice none 0 0, .slice none 0 0, .slice none 0 0, .slice none 0 0, .slice none 0 0, .slice none 0 0, .slice none 0 0, .slice none 0 0, .slice none 0 0, .slice none 0 0, .slice none 0 0, .slice none 0 0, .slice none 0 0, .slice none 0 0, .slice none 0 0] from by rw [← hw3, ← z2]; exact Blk.new w2 _ _).alloc _, by rw [← hw4, ← z3]; exact Blk.new w3 _ _⟩)
  have hBw := hide h.hB
  have hBG := hide (show B ≤ G from by have := h.hB; omega)
  have zi := hide (show (Tryz.prog.info? 180).map (·.size) = some (#[.int .i64 0, .int .i64 0, .int .i64 0, .int .i64 0, .int .i64 0, .int .i64 0, .int .i64 0, .int .i64 0, .int .i64 0, .int .i64 0, .int .i64 0, .int .i64 0, .int .i64 0, .int .i64 0, .int .i64 0, .int .i64 0, .slice none 0 0, .slice none 0 0, .slice none 0 0, .slice none 0 0, .slice none 0 0, .slice none 0 0, .slice none 0 0, .slice none 0 0, .slice none 0 0, .slice none 0 0, .slice none 0 0, .slice none 0 0, .slice none 0 0, .slice none 0 0, .slice none 0 0, .slice none 0 0] : Array Value).size from info_book)
  have zl := hide (show z32.size = (#[.int .i64 0, .int .i64 0, .int .i64 0, .int .i64 0, .int .i64 0, .int .i64 0, .int .i64 0, .int .i64 0, .int .i64 0, .int .i64 0, .int .i64 0, .int .i64 0, .int .i64 0, .int .i64 0, .int .i64 0, .int .i64 0, .slice none 0 0, .slice none 0 0, .slice none 0 0, .slice none 0 0, .slice none 0 0, .slice none 0 0, .slice none 0 0, .slice none 0 0, .slice none 0 0, .slice none 0 0, .slice none 0 0, .slice none 0 0, .slice none 0 0, .slice none 0 0, .slice none 0 0, .slice none 0 0] : Array Value).size from rfl)
  have zo := hide (show (#[.int .i64 0, .int .i64 0, .int .i64 0, .int .i64 0, .int .i64 0, .int .i64 0, .int .i64 0, .int .i64 0, .int .i64 0, .int .i64 0, .int .i64 0, .int .i64 0, .int .i64 0, .int .i64 0, .int .i64 0, .int .i64 0, .slice none 0 0, .slice none 0 0, .slice none 0 0, .slice none 0 0, .slice none 0 0, .slice none 0 0, .slice none 0 0, .slice none 0 0, .slice none 0 0, .slice none 0 0, .slice none 0 0, .slice none 0 0, .slice none 0 0, .slice none 0 0, .slice none 0 0, .slice none 0 0] : Array Value).all (·.oneCell') = true from z32_one)
  obtain ⟨RR, hRR⟩ : ∃ R, Inf.dynamic l a o = R := ⟨_, rfl⟩
  rw [hRR]
  obtain ⟨⟨a1, e1, x⟩, hq1⟩ : ∃ r, RI.bits l 5 a 0 = r := ⟨_, rfl⟩
  obtain ⟨⟨a2, e2, y⟩, hq2⟩ : ∃ r, RI.bits l 5 a1 e1 = r := ⟨_, rfl⟩
  have hst := hide (RI.dyn_start hRR hq1 hq2)
  have hx := RI.bits_lt hq1
  have hy := RI.bits_lt hq2
  have hc1 := hide (c_bits s4.out (E := 0) rfl 5 (by decide) (K := 5) rfl hq1)
  have hn := hide h.hn
  have hmk : ∀ W : World, (Instr.makeSlice 138 (.int .i64 19) (.int .i64 19)).run Tryz.prog W = .ok (.slice (some ⟨W.heap.size, 0, none⟩) 19 19) (W.alloc (.cells (madeCells #[.int .i64 0] 19) 3)) := fun W => run_make_row' 138 3 (.int .i64 0) 8 Tryz.underlying138 (by kernel_rfl) rfl .i64 .i64 19 (by omega) (by omega) W
  replace hRR := hide hRR
  clear h b4
  go_enter Tryz.func123, Tryz.ntmps123
  go_upto_region 3 with (first
    | (with_reducible refine wpList_load_row (o := ⟨some 14, .load 173 (.tmp 1), _, _, _, _⟩) rfl 173 (.tmp 1) rfl G rfl 173 _ (0, 0) _ f4.out.kG.eq Tryz.underlying173 rfl (st_infos _ _ _ _ _) ?_)
    | (go_at_call 119; (with_reducible refine (hc1.out).mono ?_); rintro e w5 ⟨rfl, s5, b5⟩; have s5 := hide s5; have f5 := hide (f4.out.below b5); have k5 := hide (k4.out.below b5); clear b5; obtain ⟨w6, hw6⟩ : ∃ W, w5.setRow G #[.slice Al n cl, .int .i64 (a1 : Nat), .slice Ao m co, .int .i64 (most : Nat), .int .i64 (e1 : Nat)] = W := ⟨_, rfl⟩; have s6 := hide (show RSt w6 B l most a1 o e1 Al n cl Ao m co from by rw [← hw6]; exact s5.out.row f5.out.kG hBG.out _); have f6 := hide (show SB w w.heap.size G (G + 1) (.slice Al n cl) (.int .i64 (a1 : Nat)) (.slice Ao m co) (.int .i64 (most : Nat)) (.int .i64 (e1 : Nat)) w6 from by rw [← hw6]; exact f5.out.row _ _ _ _ _); have k6 := hide (show KBs (G + 1 + 1) w6 from by rw [← hw6]; exact k5.out.row f5.out.kG); have hc2 := hide (c_bits s6.out rfl 5 (by decide) (K := 5) rfl hq2))
    | ((with_reducible refine wpList_store_row (o := ⟨none, .store 173 (.tmp 1) (.tmp 16), _, _, _, _⟩) rfl 173 (.tmp 1) (.tmp 16) rfl G #[.slice Al n cl, .int .i64 (a1 : Nat), .slice Ao m co, .int .i64 (most : Nat), .int .i64 (e1 : Nat)] rfl rfl 173 _ f5.out.kG.eq (st_infos _ _ _ _ _) (st_hold _ _ _ _ _ _ _ _ _ _) (st_one _ _ _ _ _ _ _ _ _) ?_); rw [hw6])
    | (with_reducible refine wpList_load_row (o := ⟨some 19, .load 173 (.tmp 1), _, _, _, _⟩) rfl 173 (.tmp 1) rfl G rfl 173 _ (0, 0) _ f6.out.kG.eq Tryz.underlying173 rfl (st_infos _ _ _ _ _) ?_)
    | (go_at_call 119; (with_reducible refine (hc2.out).mono ?_); rintro e w7 ⟨rfl, s7, b7⟩; have s7 := hide s7; have f7 := hide (f6.out.below b7); have k7 := hide (k6.out.below b7); clear b7; obtain ⟨w8, hw8⟩ : ∃ W, w7.setRow G #[.slice Al n cl, .int .i64 (a2 : Nat), .slice Ao m co, .int .i64 (most : Nat), .int .i64 (e2 : Nat)] = W := ⟨_, rfl⟩; have s8 := hide (show RSt w8 B l most a2 o e2 Al n cl Ao m co from by rw [← hw8]; exact s7.out.row f7.out.kG hBG.out _); have f8 := hide (show SB w w.heap.size G (G + 1) (.slice Al n cl) (.int .i64 (a2 : Nat)) (.slice Ao m co) (.int .i64 (most : Nat)) (.int .i64 (e2 : Nat)) w8 from by rw [← hw8]; exact f7.out.row _ _ _ _ _); have k8 := hide (show KBs (G + 1 + 1) w8 from by rw [← hw8]; exact k7.out.row f7.out.kG))
    | ((with_reducible refine wpList_store_row (o := ⟨none, .store 173 (.tmp 1) (.tmp 21), _, _, _, _⟩) rfl 173 (.tmp 1) (.tmp 21) rfl G #[.slice Al n cl, .int .i64 (a2 : Nat), .slice Ao m co, .int .i64 (most : Nat), .int .i64 (e2 : Nat)] rfl rfl 173 _ f7.out.kG.eq (st_infos _ _ _ _ _) (st_hold _ _ _ _ _ _ _ _ _ _) (st_one _ _ _ _ _ _ _ _ _) ?_); rw [hw8]))
  clear s4 f4 k4 s5 f5 k5 s6 f6 k6 s7 f7 k7 hc1 hc2 hw1 hw2 hw3 hw4
  have ee := f8.out.kG.cell 4
  simp only [List.getElem?_toArray, List.getElem?_cons_succ, List.getElem?_cons_zero] at ee
  replace hq1 := hide hq1
  replace hq2 := hide hq2
  by_cases he2 : e2 = 0
  · by_cases hc : 29 < x ∨ 29 < y
    · have hRe := hide ((hst.out.2 he2).1 hc)
      have hf := hide (c_fail s8.out rfl 3 (by decide) (K := 3) rfl)
      obtain ⟨e3, he3⟩ : ∃ e3, (if e2 = 0 then 3 else e2) = e3 := ⟨_, rfl⟩
      rw [he3] at hf
      rw [if_pos he2] at he3
      have hbad := hide (show e3 ≠ 0 from by omega)
      rw [he3] at hRe
      have hez : ((e2 : Int) == 0) = true := by simp; omega
      have hcI : (29 : Int) < (x : Int) ∨ ((x : Int) ≤ 29 ∧ (29 : Int) < (y : Int)) := by omega
      have hq4 : RI.bits l 4 a2 e3 = (a2, e3, 0) := by unfold RI.bits; rw [if_neg hbad.out]
      have htl := hide (show RI.TL l (RI.cont l x y) (0 + 4) 0 (List.replicate 19 0) a2 e3 o RR from ⟨fun h => absurd h hbad.out, fun _ => hRe.out⟩)
      replace he2 := hide he2
      replace he3 := hide he3
      replace hc := hide hc
      clear hst
      rcases hcI with hcI | ⟨hcI1, hcI⟩
      all_goals (
        go_upto_region 5 with (first
          | (with_reducible refine wpList_load_row (o := ⟨some 34, .load 173 (.tmp 1), _, _, _, _⟩) rfl 173 (.tmp 1) rfl G rfl 173 _ (0, 0) _ f8.out.kG.eq Tryz.underlying173 rfl (st_infos _ _ _ _ _) ?_)
          | (go_at_call 124; (with_reducible refine (hf.out).mono ?_); rintro e w9 ⟨rfl, s9, b9⟩; have s9 := hide s9; have f9 := hide (f8.out.below b9); have k9 := hide (k8.out.below b9); clear b9; obtain ⟨w10, hw10⟩ : ∃ W, w9.setRow G #[.slice Al n cl, .int .i64 (a2 : Nat), .slice Ao m co, .int .i64 (most : Nat), .int .i64 (e3 : Nat)] = W := ⟨_, rfl⟩; have s10 := hide (show RSt w10 B l most a2 o e3 Al n cl Ao m co from by rw [← hw10]; exact s9.out.row f9.out.kG hBG.out _); have f10 := hide (show SB w w.heap.size G (G + 1) (.slice Al n cl) (.int .i64 (a2 : Nat)) (.slice Ao m co) (.int .i64 (most : Nat)) (.int .i64 (e3 : Nat)) w10 from by rw [← hw10]; exact f9.out.row _ _ _ _ _); have k10 := hide (show KBs (G + 1 + 1) w10 from by rw [← hw10]; exact k9.out.row f9.out.kG))
          | ((with_reducible refine wpList_store_row (o := ⟨none, .store 173 (.tmp 1) (.tmp 35), _, _, _, _⟩) rfl 173 (.tmp 1) (.tmp 35) rfl G #[.slice Al n cl, .int .i64 (a2 : Nat), .slice Ao m co, .int .i64 (most : Nat), .int .i64 (e3 : Nat)] rfl rfl 173 _ f9.out.kG.eq (st_infos _ _ _ _ _) (st_hold _ _ _ _ _ _ _ _ _ _) (st_one _ _ _ _ _ _ _ _ _) ?_); rw [hw10]))
        clear s8 f8 k8 hf s9 f9 k9
        have hc4 := hide (c_bits s10.out rfl 4 (by decide) (K := 4) rfl hq4)
        go_upto_region 6 with (first
          | (with_reducible refine wpList_load_row (o := ⟨some 37, .load 173 (.tmp 1), _, _, _, _⟩) rfl 173 (.tmp 1) rfl G rfl 173 _ (0, 0) _ f10.out.kG.eq Tryz.underlying173 rfl (st_infos _ _ _ _ _) ?_)
          | (go_at_call 119; (with_reducible refine (hc4.out).mono ?_); rintro e w11 ⟨rfl, s11, b11⟩; have s11 := hide s11; have f11 := hide (f10.out.below b11); have k11 := hide (k10.out.below b11); clear b11; obtain ⟨w12, hw12⟩ : ∃ W, w11.setRow G #[.slice Al n cl, .int .i64 (a2 : Nat), .slice Ao m co, .int .i64 (most : Nat), .int .i64 (e3 : Nat)] = W := ⟨_, rfl⟩; have s12 := hide (show RSt w12 B l most a2 o e3 Al n cl Ao m co from by rw [← hw12]; exact s11.out.row f11.out.kG hBG.out _); have f12 := hide (show SB w w.heap.size G (G + 1) (.slice Al n cl) (.int .i64 (a2 : Nat)) (.slice Ao m co) (.int .i64 (most : Nat)) (.int .i64 (e3 : Nat)) w12 from by rw [← hw12]; exact f11.out.row _ _ _ _ _); have k12 := hide (show KBs (G + 1 + 1) w12 from by rw [← hw12]; exact k11.out.row f11.out.kG))
          | ((with_reducible refine wpList_store_row (o := ⟨none, .store 173 (.tmp 1) (.tmp 39), _, _, _, _⟩) rfl 173 (.tmp 1) (.tmp 39) rfl G #[.slice Al n cl, .int .i64 (a2 : Nat), .slice Ao m co, .int .i64 (most : Nat), .int .i64 (e3 : Nat)] rfl rfl 173 _ f11.out.kG.eq (st_infos _ _ _ _ _) (st_hold _ _ _ _ _ _ _ _ _ _) (st_one _ _ _ _ _ _ _ _ _) ?_); rw [hw12]))
        obtain ⟨v5, hv5⟩ : ∃ W, w12.alloc (.cells (madeCells #[.int .i64 0] 19) 3) = W := ⟨_, rfl⟩
        obtain ⟨gl, hgl⟩ : ∃ g, w12.heap.size = g := ⟨_, rfl⟩
        have bv5 := (show Below w12.heap.size w12 v5 from by rw [← hv5]; exact (Below.refl _ w12).alloc (Nat.le_refl _) _)
        have sv5 := hide (s12.out.below bv5)
        have fv5 := hide (f12.out.below bv5)
        have kv5 := hide (k12.out.below bv5)
        have lv5 := hide (show Blk v5 gl 3 ((List.replicate 19 0).map jv).toArray from by rw [← hv5, ← hgl, ← made_ints]; exact Blk.new w12 _ _)
        have hgw := hide (show w.heap.size ≤ gl ∧ gl ≠ G ∧ gl ≠ G + 1 ∧ gl ≠ G + 1 + 1 ∧ gl ≠ G + 1 + 1 + 1 from by have h1 := f12.out.kG.lt; have h2 := f12.out.kR.lt; have h3 := k12.out.k1.lt; have h4 := k12.out.k2.lt; exact ⟨by omega, by omega, by omega, by omega, by omega⟩)
        clear s10 f10 k10 hc4 s11 f11 k11 s12 f12 k12 bv5 ee
        obtain ⟨MM, hMM⟩ : ∃ M, 0 + 4 = M := ⟨_, rfl⟩
        have hMI : IntKind.i64.wrap ((0 : Int) + 4) = (MM : Int) := by rw [IntKind.wrap_i64]; omega
        have hMI2 : (0 : Int) + 4 = (MM : Int) := by omega
        have hM19 : MM ≤ 19 := by omega
        rw [hMM] at htl
        replace hMM := hide hMM
        go_wp2
        clear hv5 hgl
        go_loopw [9, 10, 11] (fun s9 s10 s11 wr => ∃ (i a' e' : Nat) (acc : List Nat), i ≤ MM ∧ s9 = .int .i64 (i : Int) ∧ Hid (acc.length = 19) ∧ Hid (∀ y ∈ acc, y ≤ 15) ∧ Hid (RSt wr B l most a' o e' Al n cl Ao m co) ∧ Hid (SB w w.heap.size G (G + 1) (.slice Al n cl) (.int .i64 (a' : Nat)) (.slice Ao m co) (.int .i64 (most : Nat)) (.int .i64 (e' : Nat)) wr) ∧ Hid (KBs (G + 1 + 1) wr) ∧ Hid (Blk wr gl 3 (acc.map jv).toArray) ∧ Hid (RI.TL l (RI.cont l x y) MM i acc a' e' o RR) ∧ Hid (e' ≠ 0)) (fun s9 _ _ _ => MM - (intOf s9).toNat)
        case atStart => exact ⟨0, a2, e3, List.replicate 19 0, Nat.zero_le _, rfl, hide (by simp), hide (by intro y hy; rw [(List.mem_replicate.1 hy).2]; exact Nat.zero_le _), sv5, fv5, kv5, lv5, htl, hide hbad.out⟩
        case round =>
          clear sv5 fv5 kv5 lv5 htl
          obtain ⟨i, a5, e5, acc, hi, rfl, hal, h15, s30, f30, k30, l30, ht, hbd⟩ := hrel
          obtain ⟨w30, rfl⟩ : ∃ W, W = wr := ⟨_, rfl⟩
          by_cases hlt : i < MM
          · have hltI : (i : Int) < (MM : Int) := by omega
            have hiI : (i : Int) ≤ 18 := by omega
            have hi0 : (0 : Int) ≤ (i : Int) := by omega
            have hii : IntKind.i64.wrap ((i : Int) + 1) = (i : Int) + 1 := by rw [IntKind.wrap_i64]; omega
            obtain ⟨⟨a6, e6, v⟩, hq6⟩ : ∃ r, RI.bits l 3 a5 e5 = r := ⟨_, rfl⟩
            have hv8 := RI.bits_lt hq6
            have hnx := hide (ht.out.next hlt hq6)
            have hbd6 := hide (show e6 ≠ 0 from by rw [(RI.bits_off hq6 hbd.out).1]; exact hbd.out)
            have hq19 := Inf.order_le i (by omega)
            have hcO := order_at i (by omega)
            have hc6 := hide (c_bits s30.out rfl 3 (by decide) (K := 3) rfl hq6)
            generalize Inf.order.getD i 0 = q at *
            have hqI : (q : Int) ≤ 18 := by omega
            have hq0 : (0 : Int) ≤ (q : Int) := by omega
            replace hcO := hide hcO
            replace hq6 := hide hq6
            go_wp2_with (first
              | (with_reducible refine wpList_load_row (o := ⟨some 49, .load 173 (.tmp 1), _, _, _, _⟩) rfl 173 (.tmp 1) rfl G rfl 173 _ (0, 0) _ f30.out.kG.eq Tryz.underlying173 rfl (st_infos _ _ _ _ _) ?_)
              | (go_at_call 119; (with_reducible refine (hc6.out).mono ?_); rintro e w31 ⟨rfl, s31, b31⟩; have s31 := hide s31; have f31 := hide (f30.out.below b31); have k31 := hide (k30.out.below b31); have l31 := hide (l30.out.below b31 l30.out.lt); clear b31;
                 obtain ⟨T, hT⟩ : ∃ T, w31.heap.size = T := ⟨_, rfl⟩; have hTG := hide (show T ≠ G ∧ T ≠ G + 1 ∧ w.heap.size ≤ T ∧ T ≠ gl from ⟨by have := f31.out.kG.lt; omega, by have := f31.out.kR.lt; omega, by have := f31.out.kG.lt; have := f31.out.hG; omega, by have := l31.out.lt; omega⟩);
                 obtain ⟨w32, hw32⟩ : ∃ W, w31.alloc (.cells #[.slice none 0 0, .int .i64 0, .slice none 0 0, .int .i64 0, .int .i64 0] 173) = W := ⟨_, rfl⟩; have kT := hide (show Blk w32 T 173 #[.slice none 0 0, .int .i64 0, .slice none 0 0, .int .i64 0, .int .i64 0] from by rw [← hw32, ← hT]; exact Blk.new w31 _ _); have b32 := (show Below w31.heap.size w31 w32 from by rw [← hw32]; exact (Below.refl _ w31).alloc (Nat.le_refl _) _); have s32 := hide (s31.out.below b32); have f32 := hide (f31.out.below b32); have k32 := hide (k31.out.below b32); have l32 := hide (l31.out.below b32 l31.out.lt); clear b32;
                 obtain ⟨w33, hw33⟩ : ∃ W, w32.setRow T #[.slice Al n cl, .int .i64 (a6 : Nat), .slice Ao m co, .int .i64 (most : Nat), .int .i64 (e6 : Nat)] = W := ⟨_, rfl⟩; have kT3 := hide (show Blk w33 T 173 #[.slice Al n cl, .int .i64 (a6 : Nat), .slice Ao m co, .int .i64 (most : Nat), .int .i64 (e6 : Nat)] from by rw [← hw33]; exact kT.out.row _); have s33 := hide (show RSt w33 B l most a6 o e6 Al n cl Ao m co from by rw [← hw33]; exact s32.out.row kT.out (Nat.le_trans hBw.out hTG.out.2.2.1) _); have f33 := hide (show SB w w.heap.size G (G + 1) (.slice Al n cl) (.int .i64 (a5 : Nat)) (.slice Ao m co) (.int .i64 (most : Nat)) (.int .i64 (e5 : Nat)) w33 from by rw [← hw33]; exact f32.out.other hTG.out.2.2.1 hTG.out.1 hTG.out.2.1 _); have k33 := hide (show KBs (G + 1 + 1) w33 from by rw [← hw33]; exact k32.out.row kT.out); have l33 := hide (show Blk w33 gl 3 (acc.map jv).toArray from by rw [← hw33]; exact (setRow_other w32 T gl _ (Ne.symm hTG.out.2.2.2)).trans l32.out);
                 obtain ⟨w34, hw34⟩ : ∃ W, w33.setRow G #[.slice Al n cl, .int .i64 (a6 : Nat), .slice Ao m co, .int .i64 (most : Nat), .int .i64 (e6 : Nat)] = W := ⟨_, rfl⟩; have s34 := hide (show RSt w34 B l most a6 o e6 Al n cl Ao m co from by rw [← hw34]; exact s33.out.row f33.out.kG hBG.out _); have f34 := hide (show SB w w.heap.size G (G + 1) (.slice Al n cl) (.int .i64 (a6 : Nat)) (.slice Ao m co) (.int .i64 (most : Nat)) (.int .i64 (e6 : Nat)) w34 from by rw [← hw34]; exact f33.out.row _ _ _ _ _); have k34 := hide (show KBs (G + 1 + 1) w34 from by rw [← hw34]; exact k33.out.row f33.out.kG); have l34 := hide (show Blk w34 gl 3 (acc.map jv).toArray from by rw [← hw34]; exact (setRow_other w33 G gl _ hgw.out.2.1).trans l33.out); have hor := hide (ri_order w34))
              | ((with_reducible refine wpList_store_row (o := ⟨none, .store 173 (.tmp 10) (.tmp 51), _, _, _, _⟩) rfl 173 (.tmp 10) (.tmp 51) rfl T #[.slice Al n cl, .int .i64 (a6 : Nat), .slice Ao m co, .int .i64 (most : Nat), .int .i64 (e6 : Nat)] rfl rfl 173 _ kT.out.eq (st_infos _ _ _ _ _) (st_hold _ _ _ _ _ _ _ _ _ _) (st_one _ _ _ _ _ _ _ _ _) ?_); rw [hw33])
              | (with_reducible refine wpList_load_row (o := ⟨some 53, .load 173 (.tmp 10), _, _, _, _⟩) rfl 173 (.tmp 10) rfl T rfl 173 _ (0, 0) _ kT3.out.eq Tryz.underlying173 rfl (st_infos _ _ _ _ _) ?_)
              | ((with_reducible refine wpList_store_row (o := ⟨none, .store 173 (.tmp 1) (.tmp 53), _, _, _, _⟩) rfl 173 (.tmp 1) (.tmp 53) rfl G #[.slice Al n cl, .int .i64 (a6 : Nat), .slice Ao m co, .int .i64 (most : Nat), .int .i64 (e6 : Nat)] rfl rfl 173 _ f33.out.kG.eq (st_infos _ _ _ _ _) (st_hold _ _ _ _ _ _ _ _ _ _) (st_one _ _ _ _ _ _ _ _ _) ?_); rw [hw34])
              | (go_at_call 155; (with_reducible refine (hor.out).mono ?_); rintro e w35 ⟨rfl, kO, b35⟩; have cO : w35.cell? ⟨w34.heap.size, i, none⟩ = some (.int .i64 (q : Int)) := (by rw [kO.cell]; exact hcO.out); have s35 := hide (s34.out.below b35); have f35 := hide (f34.out.below b35); have k35 := hide (k34.out.below b35); have l35 := (l34.out.below b35 l34.out.lt); clear kO b35; have fl := l35.free q; obtain ⟨z, cl5⟩ : ∃ z, w35.cell? ⟨gl, q, none⟩ = some z := (by rw [l35.cell, List.getElem?_toArray, List.getElem?_map, List.getElem?_eq_getElem (by rw [hal.out]; omega)]; exact ⟨_, rfl⟩); have l35 := hide l35))
            obtain ⟨w36, hw36⟩ : ∃ W, w35.setCell ⟨gl, q, none⟩ (.int .i64 (v : Int)) = W := ⟨_, rfl⟩
            rw [hw36]
            have hch := (show Chg (fun k => k = gl) w35 w36 from by rw [← hw36]; exact (Chg.refl (fun k => k = gl) w35).setCell (p := ⟨gl, q, none⟩) (.inr rfl) _)
            have s36 := hide (s35.out.calm l35.out (Nat.le_trans hBw.out hgw.out.1) hch)
            have f36 := hide (f35.out.calm l35.out hgw.out.1 hch)
            have k36 := hide (k35.out.calm l35.out hch)
            have l36 := hide (show Blk w36 gl 3 ((acc.set q v).map jv).toArray from by
              have := l35.out.set q (.int .i64 (v : Int))
              rw [hw36] at this
              rw [List.map_set, ← List.setIfInBounds_toArray]
              exact this)
            have hal6 := hide (show (acc.set q v).length = 19 from by rw [List.length_set]; exact hal.out)
            have h156 := hide (show ∀ y ∈ acc.set q v, y ≤ 15 from fun y hy => by
              rcases List.mem_or_eq_of_mem_set hy with h | h
              · exact h15.out y h
              · omega)
            clear hch hw36 s35 f35 k35 l35
            go_roundw
            case rel => exact ⟨i + 1, a6, e6, acc.set q v, by omega, by go_num, hal6, h156, s36, f36, k36, l36, hnx, hbd6⟩
            case measure => simp [intOf] <;> omega
          · obtain rfl : i = MM := by omega
            have ee := f30.out.kG.cell 4
            simp only [List.getElem?_toArray, List.getElem?_cons_succ, List.getElem?_cons_zero] at ee
            have hez : ((e5 : Int) == 0) = false := by simp; have := hbd.out; omega
            have hez2 : ((e5 : Int) != 0) = true := by simp; have := hbd.out; omega
            have hRe := hide (ht.out.2 hbd.out)
            obtain ⟨u1, hu1⟩ : ∃ W, w30.setRow (G + 1) #[.slice Al n cl, .int .i64 (a5 : Nat), .slice Ao m co, .int .i64 (most : Nat), .int .i64 (e5 : Nat)] = W := ⟨_, rfl⟩
            obtain ⟨u2, hu2⟩ : ∃ W, u1.setRow (G + 1 + 1) #[.int .i64 0, .int .i64 0, .int .i64 0, .int .i64 0, .int .i64 0, .int .i64 0, .int .i64 0, .int .i64 0, .int .i64 0, .int .i64 0, .int .i64 0, .int .i64 0, .int .i64 0, .int .i64 0, .int .i64 0, .int .i64 0, .slice none 0 0, .slice none 0 0, .slice none 0 0, .slice none 0 0, .slice none 0 0, .slice none 0 0, .slice none 0 0, .slice none 0 0, .slice none 0 0, .slice none 0 0, .slice none 0 0, .slice none 0 0, .slice none 0 0, .slice none 0 0, .slice none 0 0, .slice none 0 0] = W := ⟨_, rfl⟩
            obtain ⟨u3, hu3⟩ : ∃ W, u2.setRow (G + 1 + 1 + 1) #[.int .i64 0, .int .i64 0, .int .i64 0, .int .i64 0, .int .i64 0, .int .i64 0, .int .i64 0, .int .i64 0, .int .i64 0, .int .i64 0, .int .i64 0, .int .i64 0, .int .i64 0, .int .i64 0, .int .i64 0, .int .i64 0, .slice none 0 0, .slice none 0 0, .slice none 0 0, .slice none 0 0, .slice none 0 0, .slice none 0 0, .slice none 0 0, .slice none 0 0, .slice none 0 0, .slice none 0 0, .slice none 0 0, .slice none 0 0, .slice none 0 0, .slice none 0 0, .slice none 0 0, .slice none 0 0] = W := ⟨_, rfl⟩
            have ku1 := hide (show Blk u1 (G + 1 + 1) 180 z32 ∧ Blk u1 (G + 1 + 1 + 1) 180 z32 from by rw [← hu1]; exact ⟨(k30.out.row f30.out.kR).k1, (k30.out.row f30.out.kR).k2⟩)
            have ku2 := hide (show Blk u2 (G + 1 + 1 + 1) 180 z32 from by rw [← hu2]; exact (setRow_other u1 (G + 1 + 1) (G + 1 + 1 + 1) _ (by omega)).trans ku1.out.2)
            go_wp2_with (first
              | (with_reducible refine wpList_load_row (o := ⟨some 74, .load 173 (.tmp 1), _, _, _, _⟩) rfl 173 (.tmp 1) rfl G rfl 173 _ (0, 0) _ f30.out.kG.eq Tryz.underlying173 rfl (st_infos _ _ _ _ _) ?_)
              | ((with_reducible refine wpList_store_row (o := ⟨none, .store 173 (.tmp 2) (.tmp 74), _, _, _, _⟩) rfl 173 (.tmp 2) (.tmp 74) rfl (G + 1) #[.slice Al n cl, .int .i64 (a5 : Nat), .slice Ao m co, .int .i64 (most : Nat), .int .i64 (e5 : Nat)] rfl rfl 173 _ f30.out.kR.eq (st_infos _ _ _ _ _) (st_hold _ _ _ _ _ _ _ _ _ _) (st_one _ _ _ _ _ _ _ _ _) ?_); rw [hu1])
              | ((with_reducible refine wpList_store_row (o := ⟨none, .store 180 (.tmp 3) (.tmp 75), _, _, _, _⟩) rfl 180 (.tmp 3) (.tmp 75) rfl (G + 1 + 1) #[.int .i64 0, .int .i64 0, .int .i64 0, .int .i64 0, .int .i64 0, .int .i64 0, .int .i64 0, .int .i64 0, .int .i64 0, .int .i64 0, .int .i64 0, .int .i64 0, .int .i64 0, .int .i64 0, .int .i64 0, .int .i64 0, .slice none 0 0, .slice none 0 0, .slice none 0 0, .slice none 0 0, .slice none 0 0, .slice none 0 0, .slice none 0 0, .slice none 0 0, .slice none 0 0, .slice none 0 0, .slice none 0 0, .slice none 0 0, .slice none 0 0, .slice none 0 0, .slice none 0 0, .slice none 0 0] rfl rfl 180 _ ku1.out.1.eq zi.out zl.out zo.out ?_); rw [hu2])
              | ((with_reducible refine wpList_store_row (o := ⟨none, .store 180 (.tmp 4) (.tmp 76), _, _, _, _⟩) rfl 180 (.tmp 4) (.tmp 76) rfl (G + 1 + 1 + 1) #[.int .i64 0, .int .i64 0, .int .i64 0, .int .i64 0, .int .i64 0, .int .i64 0, .int .i64 0, .int .i64 0, .int .i64 0, .int .i64 0, .int .i64 0, .int .i64 0, .int .i64 0, .int .i64 0, .int .i64 0, .int .i64 0, .slice none 0 0, .slice none 0 0, .slice none 0 0, .slice none 0 0, .slice none 0 0, .slice none 0 0, .slice none 0 0, .slice none 0 0, .slice none 0 0, .slice none 0 0, .slice none 0 0, .slice none 0 0, .slice none 0 0, .slice none 0 0, .slice none 0 0, .slice none 0 0] rfl rfl 180 _ ku2.out.eq zi.out zl.out zo.out ?_); rw [hu3]))
            rw [hRe.out]
            exact DynPost.bad rfl f30.out s30.out k30.out hBw.out (by omega) rfl rfl rfl hu1 hu2 hu3 rfl rfl hbd.out)
    · obtain ⟨⟨a4, e4, zz⟩, hq4⟩ : ∃ r, RI.bits l 4 a2 e2 = r := ⟨_, rfl⟩
      have hz16 := RI.bits_lt hq4
      have hst2 := (hst.out.2 he2).2 hc a4 e4 zz (by have h := hq4; rw [he2] at h; exact h)
      have htl := hide (show RI.TL l (RI.cont l x y) (zz + 4) 0 (List.replicate 19 0) a4 e4 o RR from ⟨fun h => hst2.2 h, hst2.1⟩)
      have hx29 : ¬ (29 : Int) < (x : Int) := by omega
      have hy29 : ¬ (29 : Int) < (y : Int) := by omega
      have hx29n : x ≤ 29 := by omega
      have hy29n : y ≤ 29 := by omega
      have hez : ((e2 : Int) == 0) = true := by simp; omega
      replace he2 := hide he2
      replace hc := hide hc
      clear hst hst2
      have hc4 := hide (c_bits s8.out rfl 4 (by decide) (K := 4) rfl hq4)
      go_upto_region 6 with (first
        | (with_reducible refine wpList_load_row (o := ⟨some 37, .load 173 (.tmp 1), _, _, _, _⟩) rfl 173 (.tmp 1) rfl G rfl 173 _ (0, 0) _ f8.out.kG.eq Tryz.underlying173 rfl (st_infos _ _ _ _ _) ?_)
        | (go_at_call 119; (with_reducible refine (hc4.out).mono ?_); rintro e w9 ⟨rfl, s9, b9⟩; have s9 := hide s9; have f9 := hide (f8.out.below b9); have k9 := hide (k8.out.below b9); clear b9; obtain ⟨w10, hw10⟩ : ∃ W, w9.setRow G #[.slice Al n cl, .int .i64 (a4 : Nat), .slice Ao m co, .int .i64 (most : Nat), .int .i64 (e4 : Nat)] = W := ⟨_, rfl⟩; have s10 := hide (show RSt w10 B l most a4 o e4 Al n cl Ao m co from by rw [← hw10]; exact s9.out.row f9.out.kG hBG.out _); have f10 := hide (show SB w w.heap.size G (G + 1) (.slice Al n cl) (.int .i64 (a4 : Nat)) (.slice Ao m co) (.int .i64 (most : Nat)) (.int .i64 (e4 : Nat)) w10 from by rw [← hw10]; exact f9.out.row _ _ _ _ _); have k10 := hide (show KBs (G + 1 + 1) w10 from by rw [← hw10]; exact k9.out.row f9.out.kG))
        | ((with_reducible refine wpList_store_row (o := ⟨none, .store 173 (.tmp 1) (.tmp 39), _, _, _, _⟩) rfl 173 (.tmp 1) (.tmp 39) rfl G #[.slice Al n cl, .int .i64 (a4 : Nat), .slice Ao m co, .int .i64 (most : Nat), .int .i64 (e4 : Nat)] rfl rfl 173 _ f9.out.kG.eq (st_infos _ _ _ _ _) (st_hold _ _ _ _ _ _ _ _ _ _) (st_one _ _ _ _ _ _ _ _ _) ?_); rw [hw10]))
      obtain ⟨v5, hv5⟩ : ∃ W, w10.alloc (.cells (madeCells #[.int .i64 0] 19) 3) = W := ⟨_, rfl⟩
      obtain ⟨gl, hgl⟩ : ∃ g, w10.heap.size = g := ⟨_, rfl⟩
      have bv5 := (show Below w10.heap.size w10 v5 from by rw [← hv5]; exact (Below.refl _ w10).alloc (Nat.le_refl _) _)
      have sv5 := hide (s10.out.below bv5)
      have fv5 := hide (f10.out.below bv5)
      have kv5 := hide (k10.out.below bv5)
      have lv5 := hide (show Blk v5 gl 3 ((List.replicate 19 0).map jv).toArray from by rw [← hv5, ← hgl, ← made_ints]; exact Blk.new w10 _ _)
      have hgw := hide (show w.heap.size ≤ gl ∧ gl ≠ G ∧ gl ≠ G + 1 ∧ gl ≠ G + 1 + 1 ∧ gl ≠ G + 1 + 1 + 1 from by have h1 := f10.out.kG.lt; have h2 := f10.out.kR.lt; have h3 := k10.out.k1.lt; have h4 := k10.out.k2.lt; exact ⟨by omega, by omega, by omega, by omega, by omega⟩)
      clear s8 f8 k8 hc4 s9 f9 k9 s10 f10 k10 bv5 ee
      obtain ⟨MM, hMM⟩ : ∃ M, zz + 4 = M := ⟨_, rfl⟩
      have hMI : IntKind.i64.wrap ((zz : Int) + 4) = (MM : Int) := by rw [IntKind.wrap_i64]; omega
      have hMI2 : (zz : Int) + 4 = (MM : Int) := by omega
      have hM19 : MM ≤ 19 := by omega
      rw [hMM] at htl
      replace hMM := hide hMM
      go_wp2
      clear hv5 hgl
      go_loopw [9, 10, 11] (fun s9 s10 s11 wr => ∃ (i a' e' : Nat) (acc : List Nat), i ≤ MM ∧ s9 = .int .i64 (i : Int) ∧ Hid (acc.length = 19) ∧ Hid (∀ y ∈ acc, y ≤ 15) ∧ Hid (RSt wr B l most a' o e' Al n cl Ao m co) ∧ Hid (SB w w.heap.size G (G + 1) (.slice Al n cl) (.int .i64 (a' : Nat)) (.slice Ao m co) (.int .i64 (most : Nat)) (.int .i64 (e' : Nat)) wr) ∧ Hid (KBs (G + 1 + 1) wr) ∧ Hid (Blk wr gl 3 (acc.map jv).toArray) ∧ Hid (RI.TL l (RI.cont l x y) MM i acc a' e' o RR) ∧ Hid (True)) (fun s9 _ _ _ => MM - (intOf s9).toNat)
      case atStart => exact ⟨0, a4, e4, List.replicate 19 0, Nat.zero_le _, rfl, hide (by simp), hide (by intro y hy; rw [(List.mem_replicate.1 hy).2]; exact Nat.zero_le _), sv5, fv5, kv5, lv5, htl, hide trivial⟩
      case round =>
        clear sv5 fv5 kv5 lv5 htl
        obtain ⟨i, a5, e5, acc, hi, rfl, hal, h15, s30, f30, k30, l30, ht, hbd⟩ := hrel
        obtain ⟨w30, rfl⟩ : ∃ W, W = wr := ⟨_, rfl⟩
        by_cases hlt : i < MM
        · have hltI : (i : Int) < (MM : Int) := by omega
          have hiI : (i : Int) ≤ 18 := by omega
          have hi0 : (0 : Int) ≤ (i : Int) := by omega
          have hii : IntKind.i64.wrap ((i : Int) + 1) = (i : Int) + 1 := by rw [IntKind.wrap_i64]; omega
          obtain ⟨⟨a6, e6, v⟩, hq6⟩ : ∃ r, RI.bits l 3 a5 e5 = r := ⟨_, rfl⟩
          have hv8 := RI.bits_lt hq6
          have hnx := hide (ht.out.next hlt hq6)
          have hbd6 := hide (show True from trivial)
          have hq19 := Inf.order_le i (by omega)
          have hcO := order_at i (by omega)
          have hc6 := hide (c_bits s30.out rfl 3 (by decide) (K := 3) rfl hq6)
          generalize Inf.order.getD i 0 = q at *
          have hqI : (q : Int) ≤ 18 := by omega
          have hq0 : (0 : Int) ≤ (q : Int) := by omega
          replace hcO := hide hcO
          replace hq6 := hide hq6
          go_wp2_with (first
            | (with_reducible refine wpList_load_row (o := ⟨some 49, .load 173 (.tmp 1), _, _, _, _⟩) rfl 173 (.tmp 1) rfl G rfl 173 _ (0, 0) _ f30.out.kG.eq Tryz.underlying173 rfl (st_infos _ _ _ _ _) ?_)
            | (go_at_call 119; (with_reducible refine (hc6.out).mono ?_); rintro e w31 ⟨rfl, s31, b31⟩; have s31 := hide s31; have f31 := hide (f30.out.below b31); have k31 := hide (k30.out.below b31); have l31 := hide (l30.out.below b31 l30.out.lt); clear b31;
               obtain ⟨T, hT⟩ : ∃ T, w31.heap.size = T := ⟨_, rfl⟩; have hTG := hide (show T ≠ G ∧ T ≠ G + 1 ∧ w.heap.size ≤ T ∧ T ≠ gl from ⟨by have := f31.out.kG.lt; omega, by have := f31.out.kR.lt; omega, by have := f31.out.kG.lt; have := f31.out.hG; omega, by have := l31.out.lt; omega⟩);
               obtain ⟨w32, hw32⟩ : ∃ W, w31.alloc (.cells #[.slice none 0 0, .int .i64 0, .slice none 0 0, .int .i64 0, .int .i64 0] 173) = W := ⟨_, rfl⟩; have kT := hide (show Blk w32 T 173 #[.slice none 0 0, .int .i64 0, .slice none 0 0, .int .i64 0, .int .i64 0] from by rw [← hw32, ← hT]; exact Blk.new w31 _ _); have b32 := (show Below w31.heap.size w31 w32 from by rw [← hw32]; exact (Below.refl _ w31).alloc (Nat.le_refl _) _); have s32 := hide (s31.out.below b32); have f32 := hide (f31.out.below b32); have k32 := hide (k31.out.below b32); have l32 := hide (l31.out.below b32 l31.out.lt); clear b32;
               obtain ⟨w33, hw33⟩ : ∃ W, w32.setRow T #[.slice Al n cl, .int .i64 (a6 : Nat), .slice Ao m co, .int .i64 (most : Nat), .int .i64 (e6 : Nat)] = W := ⟨_, rfl⟩; have kT3 := hide (show Blk w33 T 173 #[.slice Al n cl, .int .i64 (a6 : Nat), .slice Ao m co, .int .i64 (most : Nat), .int .i64 (e6 : Nat)] from by rw [← hw33]; exact kT.out.row _); have s33 := hide (show RSt w33 B l most a6 o e6 Al n cl Ao m co from by rw [← hw33]; exact s32.out.row kT.out (Nat.le_trans hBw.out hTG.out.2.2.1) _); have f33 := hide (show SB w w.heap.size G (G + 1) (.slice Al n cl) (.int .i64 (a5 : Nat)) (.slice Ao m co) (.int .i64 (most : Nat)) (.int .i64 (e5 : Nat)) w33 from by rw [← hw33]; exact f32.out.other hTG.out.2.2.1 hTG.out.1 hTG.out.2.1 _); have k33 := hide (show KBs (G + 1 + 1) w33 from by rw [← hw33]; exact k32.out.row kT.out); have l33 := hide (show Blk w33 gl 3 (acc.map jv).toArray from by rw [← hw33]; exact (setRow_other w32 T gl _ (Ne.symm hTG.out.2.2.2)).trans l32.out);
               obtain ⟨w34, hw34⟩ : ∃ W, w33.setRow G #[.slice Al n cl, .int .i64 (a6 : Nat), .slice Ao m co, .int .i64 (most : Nat), .int .i64 (e6 : Nat)] = W := ⟨_, rfl⟩; have s34 := hide (show RSt w34 B l most a6 o e6 Al n cl Ao m co from by rw [← hw34]; exact s33.out.row f33.out.kG hBG.out _); have f34 := hide (show SB w w.heap.size G (G + 1) (.slice Al n cl) (.int .i64 (a6 : Nat)) (.slice Ao m co) (.int .i64 (most : Nat)) (.int .i64 (e6 : Nat)) w34 from by rw [← hw34]; exact f33.out.row _ _ _ _ _); have k34 := hide (show KBs (G + 1 + 1) w34 from by rw [← hw34]; exact k33.out.row f33.out.kG); have l34 := hide (show Blk w34 gl 3 (acc.map jv).toArray from by rw [← hw34]; exact (setRow_other w33 G gl _ hgw.out.2.1).trans l33.out); have hor := hide (ri_order w34))
            | ((with_reducible refine wpList_store_row (o := ⟨none, .store 173 (.tmp 10) (.tmp 51), _, _, _, _⟩) rfl 173 (.tmp 10) (.tmp 51) rfl T #[.slice Al n cl, .int .i64 (a6 : Nat), .slice Ao m co, .int .i64 (most : Nat), .int .i64 (e6 : Nat)] rfl rfl 173 _ kT.out.eq (st_infos _ _ _ _ _) (st_hold _ _ _ _ _ _ _ _ _ _) (st_one _ _ _ _ _ _ _ _ _) ?_); rw [hw33])
            | (with_reducible refine wpList_load_row (o := ⟨some 53, .load 173 (.tmp 10), _, _, _, _⟩) rfl 173 (.tmp 10) rfl T rfl 173 _ (0, 0) _ kT3.out.eq Tryz.underlying173 rfl (st_infos _ _ _ _ _) ?_)
            | ((with_reducible refine wpList_store_row (o := ⟨none, .store 173 (.tmp 1) (.tmp 53), _, _, _, _⟩) rfl 173 (.tmp 1) (.tmp 53) rfl G #[.slice Al n cl, .int .i64 (a6 : Nat), .slice Ao m co, .int .i64 (most : Nat), .int .i64 (e6 : Nat)] rfl rfl 173 _ f33.out.kG.eq (st_infos _ _ _ _ _) (st_hold _ _ _ _ _ _ _ _ _ _) (st_one _ _ _ _ _ _ _ _ _) ?_); rw [hw34])
            | (go_at_call 155; (with_reducible refine (hor.out).mono ?_); rintro e w35 ⟨rfl, kO, b35⟩; have cO : w35.cell? ⟨w34.heap.size, i, none⟩ = some (.int .i64 (q : Int)) := (by rw [kO.cell]; exact hcO.out); have s35 := hide (s34.out.below b35); have f35 := hide (f34.out.below b35); have k35 := hide (k34.out.below b35); have l35 := (l34.out.below b35 l34.out.lt); clear kO b35; have fl := l35.free q; obtain ⟨z, cl5⟩ : ∃ z, w35.cell? ⟨gl, q, none⟩ = some z := (by rw [l35.cell, List.getElem?_toArray, List.getElem?_map, List.getElem?_eq_getElem (by rw [hal.out]; omega)]; exact ⟨_, rfl⟩); have l35 := hide l35))
          obtain ⟨w36, hw36⟩ : ∃ W, w35.setCell ⟨gl, q, none⟩ (.int .i64 (v : Int)) = W := ⟨_, rfl⟩
          rw [hw36]
          have hch := (show Chg (fun k => k = gl) w35 w36 from by rw [← hw36]; exact (Chg.refl (fun k => k = gl) w35).setCell (p := ⟨gl, q, none⟩) (.inr rfl) _)
          have s36 := hide (s35.out.calm l35.out (Nat.le_trans hBw.out hgw.out.1) hch)
          have f36 := hide (f35.out.calm l35.out hgw.out.1 hch)
          have k36 := hide (k35.out.calm l35.out hch)
          have l36 := hide (show Blk w36 gl 3 ((acc.set q v).map jv).toArray from by
            have := l35.out.set q (.int .i64 (v : Int))
            rw [hw36] at this
            rw [List.map_set, ← List.setIfInBounds_toArray]
            exact this)
          have hal6 := hide (show (acc.set q v).length = 19 from by rw [List.length_set]; exact hal.out)
          have h156 := hide (show ∀ y ∈ acc.set q v, y ≤ 15 from fun y hy => by
            rcases List.mem_or_eq_of_mem_set hy with h | h
            · exact h15.out y h
            · omega)
          clear hch hw36 s35 f35 k35 l35
          go_roundw
          case rel => exact ⟨i + 1, a6, e6, acc.set q v, by omega, by go_num, hal6, h156, s36, f36, k36, l36, hnx, hbd6⟩
          case measure => simp [intOf] <;> omega
        · obtain rfl : i = MM := by omega
          have ee := f30.out.kG.cell 4
          simp only [List.getElem?_toArray, List.getElem?_cons_succ, List.getElem?_cons_zero] at ee
          by_cases h5 : e5 = 0
          · subst h5
            have hcont := hide (show RI.cont l x y acc a5 o = RR from by have := ht.out.1 rfl; rwa [Nat.sub_self] at this)
            have hrd := Rd.blk l30.out
            rw [List.length_map, hal.out, ← nz_jv] at hrd
            by_cases hf : Huf.fits acc false
            · have hR := hide (refright_any (some ⟨gl, 0, none⟩) 19 19 acc false w30 _ hrd (by decide) h15.out 0 ⟨fun _ => rfl, fun h => absurd hf h⟩)
              have hsum := hide (show Huf.sum acc ≤ 32768 from by rcases hf with h | ⟨h, _⟩ <;> omega)
              have hcont2 := hide (show Inf.bind (Inf.lens l acc (x + y + 258) (x + y + 259) []) (fun ls => if ls.getD 256 0 = 0 then Inf.err 3 else Inf.bind (Inf.need (ls.take (x + 257)) false) fun _ => Inf.bind (Inf.need (ls.drop (x + 257)) true) fun _ => Inf.ret (ls.take (x + 257), ls.drop (x + 257))) a5 o = RR from by rw [← hcont.out]; unfold RI.cont; rw [Inf.bind_ok (show Inf.need acc false a5 o = .inr ((), a5, o) from if_pos hf)])
              have hmake := hide (fun W (h : Below w30.heap.size w30 W) => make_any (some ⟨gl, 0, none⟩) 19 19 acc W w30.heap.size (hrd.below h) h.size (by decide) h15.out hsum.out)
              clear hcont hrd ht
              have hal0 := hide hal.out
              obtain ⟨K, hK⟩ : ∃ K, x + 257 = K := ⟨_, rfl⟩
              obtain ⟨M, hM⟩ : ∃ M, x + y + 258 = M := ⟨_, rfl⟩
              rw [hK, show x + y + 259 = M + 1 from by omega, hM] at hcont2
              have hxy : IntKind.i64.wrap ((x : Int) + (y : Int)) = (x : Int) + (y : Int) := by rw [IntKind.wrap_i64]; omega
              have hMw : IntKind.i64.wrap ((x : Int) + (y : Int) + 258) = (M : Int) := by rw [IntKind.wrap_i64]; omega
              have hMw2 : (x : Int) + (y : Int) + 258 = (M : Int) := by omega
              have hMw3 : IntKind.i64.wrap (M : Int) = (M : Int) := by rw [IntKind.wrap_i64]; omega
              have hKw3 : IntKind.i64.wrap (K : Int) = (K : Int) := by rw [IntKind.wrap_i64]; omega
              have hKw : IntKind.i64.wrap ((x : Int) + 257) = (K : Int) := by rw [IntKind.wrap_i64]; omega
              have hKw2 : (x : Int) + 257 = (K : Int) := by omega
              have hM4 : M ≤ 400 := by omega
              have hKM : K < M := by omega
              have hK2 : 257 ≤ K := by omega
              have hK3 : K ≤ 286 := by omega
              have hMJ : M - K ≤ 30 := by omega
              replace hf := hide hf
              replace hK := hide hK
              replace hM := hide hM
              go_upto_region 17 with (go_at_call 156; (with_reducible refine (hR.out).mono ?_); rintro e w' ⟨rfl, rfl⟩)
              go_cut [12] (fun s12 wx => ∃ (a9 e9 N9 c9 : Nat) (A9 : Option Addr), s12 = .slice A9 N9 c9 ∧ Hid (RSt wx B l most a9 o e9 Al n cl Ao m co) ∧ Hid (SB w w.heap.size G (G + 1) (.slice Al n cl) (.int .i64 (a9 : Nat)) (.slice Ao m co) (.int .i64 (most : Nat)) (.int .i64 (e9 : Nat)) wx) ∧ Hid (KBs (G + 1 + 1) wx) ∧ Hid (RI.lis (Inf.lens l acc M (M + 1) [] a5 o) a9 o e9 A9 N9 c9 w.heap.size wx))
              case first =>
                have sd := hide (s30.out.below (below_drewN (Below.refl _ w30) 1))
                have fd := hide (f30.out.below (below_drewN (Below.refl _ w30) 1))
                have kd := hide (k30.out.below (below_drewN (Below.refl _ w30) 1))
                have hmk2 := hide (hmake.out w30.drew (below_drewN (Below.refl _ w30) 1))
                refine wp_region_held_drew (S := fun _ => True) (by kernel_rfl) trivial ?_
                obtain ⟨wd, hwd⟩ : ∃ W, w30.drew = W := ⟨_, rfl⟩
                rw [show w30.drewN 1 = wd from hwd] at sd fd kd
                rw [hwd] at hmk2 ⊢
                intro hS0
                refine rtake (i := 1) (d := 79) (v := .slice (some ⟨gl, 0, none⟩) 19 19) rfl rfl (by kernel_rfl) (by kernel_rfl) (by kernel_rfl) (fun _ _ _ h => h) (.inl ⟨rfl, fun W _ => by go_simp⟩) trivial ?_
                simp only [Act.put, List.setIfInBounds_toArray, List.set_cons_zero, List.set_cons_succ]
                refine rtake (i := 3) (d := 81) (v := .int .i64 (x : Int)) rfl rfl (by kernel_rfl) (by kernel_rfl) (by kernel_rfl) (fun _ _ _ h => h) (.inl ⟨rfl, fun W _ => by go_simp⟩) trivial ?_
                simp only [Act.put, List.setIfInBounds_toArray, List.set_cons_zero, List.set_cons_succ]
                refine rtake (i := 4) (d := 82) (v := .int .i64 (y : Int)) rfl rfl (by kernel_rfl) (by kernel_rfl) (by kernel_rfl) (fun _ _ _ h => h) (.inl ⟨rfl, fun W _ => by go_simp⟩) trivial ?_
                simp only [Act.put, List.setIfInBounds_toArray, List.set_cons_zero, List.set_cons_succ]
                refine rtake (i := 5) (d := 83) (v := .int .i64 ((x : Int) + (y : Int))) rfl rfl (by kernel_rfl) (by kernel_rfl) (by kernel_rfl) (fun _ _ _ h => h) (.inl ⟨rfl, fun W _ => by go_simp⟩) trivial ?_
                simp only [Act.put, List.setIfInBounds_toArray, List.set_cons_zero, List.set_cons_succ]
                refine rtake (i := 6) (d := 84) (v := .int .i64 (M : Int)) rfl rfl (by kernel_rfl) (by kernel_rfl) (by kernel_rfl) (fun _ _ _ h => h) (.inl ⟨rfl, fun W _ => by go_simp⟩) trivial ?_
                simp only [Act.put, List.setIfInBounds_toArray, List.set_cons_zero, List.set_cons_succ]
                refine wpAnyH_ready (rs := [0, 2]) (by kernel_rfl) (by simp) ?_
                refine AllReadyH.cons (o := ⟨some 78, _, _, _, _, _⟩) rfl (fun K_ hK => ?_) (AllReadyH.cons (o := ⟨some 80, _, _, _, _, _⟩) rfl (fun K_ hK => ?_) AllReadyH.nil)
                · rw [if_pos (by rfl)]
                  refine wp_load_row 173 (.tmp 1) rfl G rfl 173 #[.slice Al n cl, .int .i64 (a5 : Nat), .slice Ao m co, .int .i64 (most : Nat), .int .i64 0] (0, 0) _ fd.out.kG.eq Tryz.underlying173 rfl (st_infos _ _ _ _ _) ?_
                  refine hK.out _ _ trivial (fun _ => ?_)
                  clear hK
                  refine wpAnyH_ready (rs := [2]) (by kernel_rfl) (by simp) ?_
                  refine AllReadyH.cons (o := ⟨some 80, _, _, _, _, _⟩) rfl (fun K_ hK => ?_) AllReadyH.nil
                  rw [if_pos (by rfl)]
                  go_simp

                  go_at_call 152
                  (with_reducible refine (hmk2.out).mono ?_)
                  rintro e w41 ⟨bc, rfl, hv, b41⟩
                  have hv := hide hv
                  have s41 := hide (sd.out.below b41)
                  have f41 := hide (fd.out.below b41)
                  have k41 := hide (kd.out.below b41)
                  have hln := hide (ri_lengths s41.out hv.out (by rw [hal.out]; exact Nat.le_refl _) hsum.out M (by omega))
                  clear b41
                  refine hK.out _ _ trivial (fun _ => ?_)
                  clear hK
                  refine wpAnyH_ready (rs := [7]) (by kernel_rfl) (by simp) ?_
                  refine AllReadyH.cons (o := ⟨some 85, _, _, _, _, _⟩) rfl (fun K_ hK => ?_) AllReadyH.nil
                  rw [if_pos (by rfl)]
                  go_simp
                  go_at_call 157
                  (with_reducible refine (hln.out).mono ?_)
                  rintro e w42 ⟨a9, e9, A9, N9, c9, rfl, s42, b42, hl9⟩
                  have s42 := hide s42
                  have f42 := hide (f41.out.below b42)
                  have k42 := hide (k41.out.below b42)
                  have hb41 := hide (show w.heap.size ≤ w41.heap.size from f41.out.kx.1)
                  have hl9 := hide hl9
                  clear b42
                  refine hK.out _ _ trivial (fun _ => ?_)
                  clear hK
                  refine rtake (i := 8) (d := 77) (v := .tuple #[.agg #[.slice Al n cl, .int .i64 (a9 : Nat), .slice Ao m co, .int .i64 (most : Nat), .int .i64 (e9 : Nat)], .slice A9 N9 c9]) rfl rfl (by kernel_rfl) (by kernel_rfl) (by kernel_rfl) (fun _ _ _ h => h) (.inl ⟨rfl, fun W _ => by go_simp⟩) trivial ?_
                  simp only [Act.put, List.setIfInBounds_toArray, List.set_cons_zero, List.set_cons_succ]
                  refine rtake (i := 9) (d := 86) (v := .agg #[.slice Al n cl, .int .i64 (a9 : Nat), .slice Ao m co, .int .i64 (most : Nat), .int .i64 (e9 : Nat)]) rfl rfl (by kernel_rfl) (by kernel_rfl) (by kernel_rfl) (fun _ _ _ h => h) (.inl ⟨rfl, fun W _ => by go_simp⟩) trivial ?_
                  simp only [Act.put, List.setIfInBounds_toArray, List.set_cons_zero, List.set_cons_succ]
                  refine rtake (i := 10) (d := 87) (v := .slice A9 N9 c9) rfl rfl (by kernel_rfl) (by kernel_rfl) (by kernel_rfl) (fun _ _ _ h => h) (.inl ⟨rfl, fun W _ => by go_simp⟩) trivial ?_
                  simp only [Act.put, List.setIfInBounds_toArray, List.set_cons_zero, List.set_cons_succ]
                  obtain ⟨w43, hw43⟩ : ∃ W, w42.setRow G #[.slice Al n cl, .int .i64 (a9 : Nat), .slice Ao m co, .int .i64 (most : Nat), .int .i64 (e9 : Nat)] = W := ⟨_, rfl⟩
                  have s43 := hide (show RSt w43 B l most a9 o e9 Al n cl Ao m co from by rw [← hw43]; exact s42.out.row f42.out.kG hBG.out _)
                  have f43 := hide (show SB w w.heap.size G (G + 1) (.slice Al n cl) (.int .i64 (a9 : Nat)) (.slice Ao m co) (.int .i64 (most : Nat)) (.int .i64 (e9 : Nat)) w43 from by rw [← hw43]; exact f42.out.row _ _ _ _ _)
                  have k43 := hide (show KBs (G + 1 + 1) w43 from by rw [← hw43]; exact k42.out.row f42.out.kG)
                  have hl43 := hide (show RI.lis (Inf.lens l acc M (M + 1) [] a5 o) a9 o e9 A9 N9 c9 w.heap.size w43 from by rw [← hw43]; exact RI.lis.row hl9.out hb41.out f42.out.kG)
                  refine wpAnyH_ready (rs := [11]) (by kernel_rfl) (by simp) ?_
                  refine AllReadyH.cons (o := ⟨none, .store 173 (.tmp 1) (.tmp 86), _, _, _, _⟩) rfl (fun K_ hK => ?_) AllReadyH.nil
                  rw [if_pos (by rfl)]
                  refine wp_store_row 173 (.tmp 1) (.tmp 86) rfl G #[.slice Al n cl, .int .i64 (a9 : Nat), .slice Ao m co, .int .i64 (most : Nat), .int .i64 (e9 : Nat)] rfl rfl 173 _ f42.out.kG.eq (st_infos _ _ _ _ _) (st_hold _ _ _ _ _ _ _ _ _ _) (st_one _ _ _ _ _ _ _ _ _) ?_
                  rw [hw43]
                  refine hK.out _ _ trivial (fun _ => ?_)
                  clear hK
                  refine rtake (i := 12) (d := 12) (v := .slice A9 N9 c9) rfl rfl (by kernel_rfl) (by kernel_rfl) (by kernel_rfl) (fun _ _ _ h => h) (.inl ⟨rfl, fun W _ => by go_simp⟩) trivial ?_
                  simp only [Act.put, List.setIfInBounds_toArray, List.set_cons_zero, List.set_cons_succ]
                  refine wpAnyH_done (by kernel_rfl) ?_ _
                  go_wp2
                  go_meet
                  exact ⟨a9, e9, N9, c9, A9, rfl, s43, f43, k43, hl43⟩
                · rw [if_pos (by rfl)]
                  go_simp
                  go_at_call 152
                  (with_reducible refine (hmk2.out).mono ?_)
                  rintro e w41 ⟨bc, rfl, hv, b41⟩
                  have hv := hide hv
                  have s41 := hide (sd.out.below b41)
                  have f41 := hide (fd.out.below b41)
                  have k41 := hide (kd.out.below b41)
                  have hln := hide (ri_lengths s41.out hv.out (by rw [hal.out]; exact Nat.le_refl _) hsum.out M (by omega))
                  clear b41
                  refine hK.out _ _ trivial (fun _ => ?_)
                  clear hK
                  refine wpAnyH_ready (rs := [0]) (by kernel_rfl) (by simp) ?_
                  refine AllReadyH.cons (o := ⟨some 78, _, _, _, _, _⟩) rfl (fun K_ hK => ?_) AllReadyH.nil
                  rw [if_pos (by rfl)]
                  refine wp_load_row 173 (.tmp 1) rfl G rfl 173 #[.slice Al n cl, .int .i64 (a5 : Nat), .slice Ao m co, .int .i64 (most : Nat), .int .i64 0] (0, 0) _ f41.out.kG.eq Tryz.underlying173 rfl (st_infos _ _ _ _ _) ?_
                  refine hK.out _ _ trivial (fun _ => ?_)
                  clear hK
                  refine wpAnyH_ready (rs := [7]) (by kernel_rfl) (by simp) ?_
                  refine AllReadyH.cons (o := ⟨some 85, _, _, _, _, _⟩) rfl (fun K_ hK => ?_) AllReadyH.nil
                  rw [if_pos (by rfl)]
                  go_simp
                  go_at_call 157
                  (with_reducible refine (hln.out).mono ?_)
                  rintro e w42 ⟨a9, e9, A9, N9, c9, rfl, s42, b42, hl9⟩
                  have s42 := hide s42
                  have f42 := hide (f41.out.below b42)
                  have k42 := hide (k41.out.below b42)
                  have hb41 := hide (show w.heap.size ≤ w41.heap.size from f41.out.kx.1)
                  have hl9 := hide hl9
                  clear b42
                  refine hK.out _ _ trivial (fun _ => ?_)
                  clear hK
                  refine rtake (i := 8) (d := 77) (v := .tuple #[.agg #[.slice Al n cl, .int .i64 (a9 : Nat), .slice Ao m co, .int .i64 (most : Nat), .int .i64 (e9 : Nat)], .slice A9 N9 c9]) rfl rfl (by kernel_rfl) (by kernel_rfl) (by kernel_rfl) (fun _ _ _ h => h) (.inl ⟨rfl, fun W _ => by go_simp⟩) trivial ?_
                  simp only [Act.put, List.setIfInBounds_toArray, List.set_cons_zero, List.set_cons_succ]
                  refine rtake (i := 9) (d := 86) (v := .agg #[.slice Al n cl, .int .i64 (a9 : Nat), .slice Ao m co, .int .i64 (most : Nat), .int .i64 (e9 : Nat)]) rfl rfl (by kernel_rfl) (by kernel_rfl) (by kernel_rfl) (fun _ _ _ h => h) (.inl ⟨rfl, fun W _ => by go_simp⟩) trivial ?_
                  simp only [Act.put, List.setIfInBounds_toArray, List.set_cons_zero, List.set_cons_succ]
                  refine rtake (i := 10) (d := 87) (v := .slice A9 N9 c9) rfl rfl (by kernel_rfl) (by kernel_rfl) (by kernel_rfl) (fun _ _ _ h => h) (.inl ⟨rfl, fun W _ => by go_simp⟩) trivial ?_
                  simp only [Act.put, List.setIfInBounds_toArray, List.set_cons_zero, List.set_cons_succ]
                  obtain ⟨w43, hw43⟩ : ∃ W, w42.setRow G #[.slice Al n cl, .int .i64 (a9 : Nat), .slice Ao m co, .int .i64 (most : Nat), .int .i64 (e9 : Nat)] = W := ⟨_, rfl⟩
                  have s43 := hide (show RSt w43 B l most a9 o e9 Al n cl Ao m co from by rw [← hw43]; exact s42.out.row f42.out.kG hBG.out _)
                  have f43 := hide (show SB w w.heap.size G (G + 1) (.slice Al n cl) (.int .i64 (a9 : Nat)) (.slice Ao m co) (.int .i64 (most : Nat)) (.int .i64 (e9 : Nat)) w43 from by rw [← hw43]; exact f42.out.row _ _ _ _ _)
                  have k43 := hide (show KBs (G + 1 + 1) w43 from by rw [← hw43]; exact k42.out.row f42.out.kG)
                  have hl43 := hide (show RI.lis (Inf.lens l acc M (M + 1) [] a5 o) a9 o e9 A9 N9 c9 w.heap.size w43 from by rw [← hw43]; exact RI.lis.row hl9.out hb41.out f42.out.kG)
                  refine wpAnyH_ready (rs := [11]) (by kernel_rfl) (by simp) ?_
                  refine AllReadyH.cons (o := ⟨none, .store 173 (.tmp 1) (.tmp 86), _, _, _, _⟩) rfl (fun K_ hK => ?_) AllReadyH.nil
                  rw [if_pos (by rfl)]
                  refine wp_store_row 173 (.tmp 1) (.tmp 86) rfl G #[.slice Al n cl, .int .i64 (a9 : Nat), .slice Ao m co, .int .i64 (most : Nat), .int .i64 (e9 : Nat)] rfl rfl 173 _ f42.out.kG.eq (st_infos _ _ _ _ _) (st_hold _ _ _ _ _ _ _ _ _ _) (st_one _ _ _ _ _ _ _ _ _) ?_
                  rw [hw43]
                  refine hK.out _ _ trivial (fun _ => ?_)
                  clear hK
                  refine rtake (i := 12) (d := 12) (v := .slice A9 N9 c9) rfl rfl (by kernel_rfl) (by kernel_rfl) (by kernel_rfl) (fun _ _ _ h => h) (.inl ⟨rfl, fun W _ => by go_simp⟩) trivial ?_
                  simp only [Act.put, List.setIfInBounds_toArray, List.set_cons_zero, List.set_cons_succ]
                  refine wpAnyH_done (by kernel_rfl) ?_ _
                  go_wp2
                  go_meet
                  exact ⟨a9, e9, N9, c9, A9, rfl, s43, f43, k43, hl43⟩
              case rest =>
                obtain ⟨a9, e9, N9, c9, A9, rfl, s50, f50, k50, hl9⟩ := hcut
                have e9c := f50.out.kG.cell 4
                simp only [List.getElem?_toArray, List.getElem?_cons_succ, List.getElem?_cons_zero] at e9c
                clear s30 f30 k30 l30 ee hR hmake h15 hal hbd
                obtain ⟨LR, hLR⟩ : ∃ r, Inf.lens l acc M (M + 1) [] a5 o = r := ⟨_, rfl⟩
                rw [hLR] at hl9
                by_cases he9 : e9 = 0
                · obtain ⟨ls, a', o', rfl⟩ : ∃ ls a' o', LR = .inr (ls, a', o') := by
                    cases LR with
                    | inl er => exact absurd hl9.out.1 (by have := hl9.out.2; omega)
                    | inr q => obtain ⟨ls, a', o'⟩ := q; exact ⟨ls, a', o', rfl⟩
                  obtain ⟨_, ra, ro, rN, oL⟩ := hl9.out
                  subst ra
                  subst ro
                  subst rN
                  obtain ⟨hlsl, hls15⟩ := Inf.lens_is (by rw [hal0.out]; exact Nat.le_refl _) _ _ _ _ _ _ _ hLR (Nat.zero_le _) (fun y hy => by cases hy)
                  have hR9 : (if ls.getD 256 0 = 0 then Inf.err 3 else Inf.bind (Inf.need (ls.take K) false) fun _ => Inf.bind (Inf.need (ls.drop K) true) fun _ => Inf.ret (ls.take K, ls.drop K)) a9 o = RR := by
                    rw [← hcont2.out, Inf.bind_ok hLR]
                  obtain ⟨ga, rfl, hga, _⟩ := oL.pos (by omega)
                  rw [hlsl] at oL ⊢
                  have hMc : M ≤ c9 := by
                    rcases oL.form with ⟨h, _⟩ | ⟨_, _, _, _, h, _⟩
                    · cases h
                    · exact h
                  have hcm : c9 ≤ 9223372036854775807 := by
                    rcases oL.form with ⟨h, _⟩ | ⟨_, _, _, _, _, h⟩
                    · cases h
                    · exact h
                  have hKc : K < c9 := by omega
                  have hKcI : (K : Int) < (c9 : Int) := by omega
                  have hKMI : (K : Int) < (M : Int) := by omega
                  have hKM2 : (K : Int) ≤ (M : Int) := by omega
                  have hMcI : (M : Int) ≤ (c9 : Int) := by omega
                  have hMI256 : (256 : Int) < (M : Int) := by omega
                  have hcK : c9 ≠ K := by omega
                  obtain ⟨x256, hx256⟩ : ∃ x, ls.getD 256 0 = x := ⟨_, rfl⟩
                  have c256 : wc.cell? ⟨ga, 256, none⟩ = some (.int .i64 (x256 : Int)) := by
                    have h := oL.cells (g := ga) rfl 256 (jv x256) (by rw [List.getElem?_map, ← hx256, List.getD_eq_getElem?_getD, List.getElem?_eq_getElem (by omega)]; rfl)
                    rwa [Addr.add_mid] at h
                  rw [hx256] at hR9
                  have hrd := oL.rd
                  obtain ⟨J, hJ⟩ : ∃ J, M - K = J := ⟨_, rfl⟩
                  have hA := hrd.part K (by omega)
                  have hB := hrd.past K (by omega)
                  rw [← nz_jv] at hA hB
                  rw [hJ] at hB
                  rw [Option.map_some, Addr.add_mid, Nat.zero_add] at hB
                  have hl1 : (ls.take K).length = K := by rw [List.length_take]; omega
                  have hl2 : (ls.drop K).length = J := by rw [List.length_drop]; omega
                  have h151 : ∀ y ∈ ls.take K, y ≤ 15 := fun y hy => hls15 y (List.mem_of_mem_take hy)
                  have h152 : ∀ y ∈ ls.drop K, y ≤ 15 := fun y hy => hls15 y (List.mem_of_mem_drop hy)
                  have he9z : ((e9 : Int) != 0) = false := by simp; omega
                  have hfl := hide (c_fail s50.out (E := 0) (by rw [he9]; rfl) 3 (by decide) (K := 3) rfl)
                  obtain ⟨e3, he3⟩ : ∃ e3 : Nat, (if e9 = 0 then 3 else e9) = e3 := ⟨_, rfl⟩
                  rw [he3] at hfl
                  rw [if_pos he9] at he3
                  have hbd3 := hide (show e3 ≠ 0 from by omega)
                  have he3h := hide he3
                  replace hLR := hide hLR
                  replace hl9 := hide hl9
                  clear oL
                  by_cases hx0 : x256 = 0
                  · have hRe := hide (show RR = .inl e3 from by rw [if_pos hx0] at hR9; rw [← hR9, ← he3h.out]; rfl)
                    have hxz : ((x256 : Int) == 0) = true := by simp; omega
                    replace he9 := hide he9
                    clear hR9 hx0 hrd hA hB hls15 h151 h152 he3
                    go_wp2_with (first
                      | (go_at_call 156; (with_reducible refine (hr1.out).mono ?_); rintro e w' ⟨rfl, rfl⟩)
                      | (go_at_call 156; (with_reducible refine (hr2.out).mono ?_); rintro e w' ⟨rfl, rfl⟩)
                      | (with_reducible refine wpList_load_row (o := ⟨some 114, .load 173 (.tmp 1), _, _, _, _⟩) rfl 173 (.tmp 1) rfl G rfl 173 _ (0, 0) _ f50.out.kG.eq Tryz.underlying173 rfl (st_infos _ _ _ _ _) ?_)
                      | (go_at_call 124; (with_reducible refine (hfl.out).mono ?_); rintro e w51 ⟨rfl, s51, b51⟩; have s51 := hide s51; have f51 := hide (f50.out.below b51); have k51 := hide (k50.out.below b51); clear b51; obtain ⟨u1, hu1⟩ : ∃ W, w51.setRow (G + 1) #[.slice Al n cl, .int .i64 (a9 : Nat), .slice Ao m co, .int .i64 (most : Nat), .int .i64 (e3 : Nat)] = W := ⟨_, rfl⟩; obtain ⟨u2, hu2⟩ : ∃ W, u1.setRow (G + 1 + 1) #[.int .i64 0, .int .i64 0, .int .i64 0, .int .i64 0, .int .i64 0, .int .i64 0, .int .i64 0, .int .i64 0, .int .i64 0, .int .i64 0, .int .i64 0, .int .i64 0, .int .i64 0, .int .i64 0, .int .i64 0, .int .i64 0, .slice none 0 0, .slice none 0 0, .slice none 0 0, .slice none 0 0, .slice none 0 0, .slice none 0 0, .slice none 0 0, .slice none 0 0, .slice none 0 0, .slice none 0 0, .slice none 0 0, .slice none 0 0, .slice none 0 0, .slice none 0 0, .slice none 0 0, .slice none 0 0] = W := ⟨_, rfl⟩; obtain ⟨u3, hu3⟩ : ∃ W, u2.setRow (G + 1 + 1 + 1) #[.int .i64 0, .int .i64 0, .int .i64 0, .int .i64 0, .int .i64 0, .int .i64 0, .int .i64 0, .int .i64 0, .int .i64 0, .int .i64 0, .int .i64 0, .int .i64 0, .int .i64 0, .int .i64 0, .int .i64 0, .int .i64 0, .slice none 0 0, .slice none 0 0, .slice none 0 0, .slice none 0 0, .slice none 0 0, .slice none 0 0, .slice none 0 0, .slice none 0 0, .slice none 0 0, .slice none 0 0, .slice none 0 0, .slice none 0 0, .slice none 0 0, .slice none 0 0, .slice none 0 0, .slice none 0 0] = W := ⟨_, rfl⟩;
                         have ku1 := hide (show Blk u1 (G + 1 + 1) 180 z32 ∧ Blk u1 (G + 1 + 1 + 1) 180 z32 from by rw [← hu1]; exact ⟨(k51.out.row f51.out.kR).k1, (k51.out.row f51.out.kR).k2⟩); have ku2 := hide (show Blk u2 (G + 1 + 1 + 1) 180 z32 from by rw [← hu2]; exact (setRow_other u1 (G + 1 + 1) (G + 1 + 1 + 1) _ (by omega)).trans ku1.out.2))
                      | ((with_reducible refine wpList_store_row (o := ⟨none, .store 173 (.tmp 2) (.tmp 115), _, _, _, _⟩) rfl 173 (.tmp 2) (.tmp 115) rfl (G + 1) #[.slice Al n cl, .int .i64 (a9 : Nat), .slice Ao m co, .int .i64 (most : Nat), .int .i64 (e3 : Nat)] rfl rfl 173 _ f51.out.kR.eq (st_infos _ _ _ _ _) (st_hold _ _ _ _ _ _ _ _ _ _) (st_one _ _ _ _ _ _ _ _ _) ?_); rw [hu1])
                      | ((with_reducible refine wpList_store_row (o := ⟨none, .store 180 (.tmp 3) (.tmp 116), _, _, _, _⟩) rfl 180 (.tmp 3) (.tmp 116) rfl (G + 1 + 1) #[.int .i64 0, .int .i64 0, .int .i64 0, .int .i64 0, .int .i64 0, .int .i64 0, .int .i64 0, .int .i64 0, .int .i64 0, .int .i64 0, .int .i64 0, .int .i64 0, .int .i64 0, .int .i64 0, .int .i64 0, .int .i64 0, .slice none 0 0, .slice none 0 0, .slice none 0 0, .slice none 0 0, .slice none 0 0, .slice none 0 0, .slice none 0 0, .slice none 0 0, .slice none 0 0, .slice none 0 0, .slice none 0 0, .slice none 0 0, .slice none 0 0, .slice none 0 0, .slice none 0 0, .slice none 0 0] rfl rfl 180 _ ku1.out.1.eq zi.out zl.out zo.out ?_); rw [hu2])
                      | ((with_reducible refine wpList_store_row (o := ⟨none, .store 180 (.tmp 4) (.tmp 117), _, _, _, _⟩) rfl 180 (.tmp 4) (.tmp 117) rfl (G + 1 + 1 + 1) #[.int .i64 0, .int .i64 0, .int .i64 0, .int .i64 0, .int .i64 0, .int .i64 0, .int .i64 0, .int .i64 0, .int .i64 0, .int .i64 0, .int .i64 0, .int .i64 0, .int .i64 0, .int .i64 0, .int .i64 0, .int .i64 0, .slice none 0 0, .slice none 0 0, .slice none 0 0, .slice none 0 0, .slice none 0 0, .slice none 0 0, .slice none 0 0, .slice none 0 0, .slice none 0 0, .slice none 0 0, .slice none 0 0, .slice none 0 0, .slice none 0 0, .slice none 0 0, .slice none 0 0, .slice none 0 0] rfl rfl 180 _ ku2.out.eq zi.out zl.out zo.out ?_); rw [hu3]))
                    rw [hRe.out]
                    exact DynPost.bad rfl f51.out s51.out k51.out hBw.out (by omega) rfl rfl rfl hu1 hu2 hu3 rfl rfl hbd3.out
                  · rw [if_neg hx0] at hR9
                    have hxz : ((x256 : Int) == 0) = false := by simp; omega
                    by_cases f1 : Huf.fits (ls.take K) false
                    · have hR10 := (Inf.bind_ok (f := fun _ => Inf.bind (Inf.need (ls.drop K) true) fun _ => Inf.ret (ls.take K, ls.drop K)) (show Inf.need (ls.take K) false a9 o = .inr ((), a9, o) from if_pos f1)).symm.trans hR9
                      have hr1 := hide (refright_any (some ⟨ga, 0, none⟩) K c9 (ls.take K) false wc _ hA (by omega) h151 0 ⟨fun _ => rfl, fun h => absurd f1 h⟩)
                      by_cases f2 : Huf.fits (ls.drop K) true
                      · have hRok := hide (show RR = .inr ((ls.take K, ls.drop K), a9, o) from by rw [← hR10, Inf.bind_ok (f := fun _ => Inf.ret (ls.take K, ls.drop K)) (show Inf.need (ls.drop K) true a9 o = .inr ((), a9, o) from if_pos f2)]; rfl)
                        have hr2 := hide (refright_any (some ⟨ga, K, none⟩) J (c9 - K) (ls.drop K) true wc _ hB (by omega) h152 0 ⟨fun _ => rfl, fun h => absurd f2 h⟩)
                        have hs1 := hide (show Huf.sum (ls.take K) ≤ 32768 from by rcases f1 with h | ⟨h, _⟩ <;> omega)
                        have hs2 := hide (show Huf.sum (ls.drop K) ≤ 32768 from by rcases f2 with h | ⟨h, _⟩ <;> omega)
                        have hm1 := hide (fun W (h : Below wc.heap.size wc W) => make_any (some ⟨ga, 0, none⟩) K c9 (ls.take K) W wc.heap.size (hA.below h) h.size (by omega) h151 hs1.out)
                        have hm2 := hide (fun W (h : Below wc.heap.size wc W) => make_any (some ⟨ga, K, none⟩) J (c9 - K) (ls.drop K) W wc.heap.size (hB.below h) h.size (by omega) h152 hs2.out)
                        have hl1 := hide hl1
                        have hl2 := hide hl2
                        have he9h := hide he9
                        have hJI : (M : Int) - (K : Int) = (J : Int) := by omega
                        clear hR9 hR10 hx0 hrd hA hB hls15 h151 h152 he3 f1 f2
                        go_upto_region 22 with (first
                          | (go_at_call 156; (with_reducible refine (hr1.out).mono ?_); rintro e w' ⟨rfl, rfl⟩)
                          | (go_at_call 156; (with_reducible refine (hr2.out).mono ?_); rintro e w' ⟨rfl, rfl⟩))
                        subst he9
                        have sd := hide (s50.out.below (below_drewN (Below.refl _ wc) 1))
                        have fd := hide (f50.out.below (below_drewN (Below.refl _ wc) 1))
                        have kd := hide (k50.out.below (below_drewN (Below.refl _ wc) 1))
                        have bd := hide (below_drewN (Below.refl wc.heap.size wc) 1)
                        have hbw := hide (show w.heap.size ≤ wc.heap.size from f50.out.kx.1)
                        refine wp_region_held_drew (S := fun _ => True) (by kernel_rfl) trivial ?_
                        obtain ⟨wd, hwd⟩ : ∃ W, wc.drew = W := ⟨_, rfl⟩
                        rw [show wc.drewN 1 = wd from hwd] at sd fd kd bd
                        rw [hwd]
                        intro hS0
                        refine rtake (i := 1) (d := 119) (v := .slice (some ⟨ga, 0, none⟩) M c9) rfl rfl (by kernel_rfl) (by kernel_rfl) (by kernel_rfl) (fun _ _ _ h => h) (.inl ⟨rfl, fun W _ => by go_simp⟩) trivial ?_
                        simp only [Act.put, List.setIfInBounds_toArray, List.set_cons_zero, List.set_cons_succ]
                        refine rtake (i := 2) (d := 120) (v := .int .i64 (x : Int)) rfl rfl (by kernel_rfl) (by kernel_rfl) (by kernel_rfl) (fun _ _ _ h => h) (.inl ⟨rfl, fun W _ => by go_simp⟩) trivial ?_
                        simp only [Act.put, List.setIfInBounds_toArray, List.set_cons_zero, List.set_cons_succ]
                        refine rtake (i := 3) (d := 121) (v := .int .i64 (K : Int)) rfl rfl (by kernel_rfl) (by kernel_rfl) (by kernel_rfl) (fun _ _ _ h => h) (.inl ⟨rfl, fun W _ => by go_simp⟩) trivial ?_
                        simp only [Act.put, List.setIfInBounds_toArray, List.set_cons_zero, List.set_cons_succ]
                        refine rtake (i := 4) (d := 122) (v := .slice (some ⟨ga, 0, none⟩) K c9) rfl rfl (by kernel_rfl) (by kernel_rfl) (by kernel_rfl) (fun _ _ _ h => h) (Or.inl ⟨by rfl, by (intro W _; go_simp; exact fun h => absurd h (by omega))⟩) trivial ?_
                        simp only [Act.put, List.setIfInBounds_toArray, List.set_cons_zero, List.set_cons_succ]
                        refine rtake (i := 6) (d := 124) (v := .slice (some ⟨ga, 0, none⟩) M c9) rfl rfl (by kernel_rfl) (by kernel_rfl) (by kernel_rfl) (fun _ _ _ h => h) (.inl ⟨rfl, fun W _ => by go_simp⟩) trivial ?_
                        simp only [Act.put, List.setIfInBounds_toArray, List.set_cons_zero, List.set_cons_succ]
                        refine rtake (i := 7) (d := 125) (v := .int .i64 (x : Int)) rfl rfl (by kernel_rfl) (by kernel_rfl) (by kernel_rfl) (fun _ _ _ h => h) (.inl ⟨rfl, fun W _ => by go_simp⟩) trivial ?_
                        simp only [Act.put, List.setIfInBounds_toArray, List.set_cons_zero, List.set_cons_succ]
                        refine rtake (i := 8) (d := 126) (v := .int .i64 (K : Int)) rfl rfl (by kernel_rfl) (by kernel_rfl) (by kernel_rfl) (fun _ _ _ h => h) (.inl ⟨rfl, fun W _ => by go_simp⟩) trivial ?_
                        simp only [Act.put, List.setIfInBounds_toArray, List.set_cons_zero, List.set_cons_succ]
                        refine rtake (i := 9) (d := 127) (v := .slice (some ⟨ga, K, none⟩) J (c9 - K)) rfl rfl (by kernel_rfl) (by kernel_rfl) (by kernel_rfl) (fun _ _ _ h => h) (.inl ⟨rfl, fun W _ => by go_simp⟩) trivial ?_
                        simp only [Act.put, List.setIfInBounds_toArray, List.set_cons_zero, List.set_cons_succ]
                        refine wpAnyH_ready (rs := [0, 5]) (by kernel_rfl) (by simp) ?_
                        refine AllReadyH.cons (o := ⟨some 118, _, _, _, _, _⟩) rfl (fun K_ hK => ?_) (AllReadyH.cons (o := ⟨some 123, _, _, _, _, _⟩) rfl (fun K_ hK => ?_) AllReadyH.nil)
                        · rw [if_pos (by rfl)]
                          refine wp_load_row 173 (.tmp 1) rfl G rfl 173 #[.slice Al n cl, .int .i64 (a9 : Nat), .slice Ao m co, .int .i64 (most : Nat), .int .i64 0] (0, 0) _ fd.out.kG.eq Tryz.underlying173 rfl (st_infos _ _ _ _ _) ?_
                          refine hK.out _ _ trivial (fun _ => ?_)
                          clear hK
                          refine wpAnyH_ready (rs := [5]) (by kernel_rfl) (by simp) ?_
                          refine AllReadyH.cons (o := ⟨some 123, _, _, _, _, _⟩) rfl (fun K_ hK => ?_) AllReadyH.nil
                          rw [if_pos (by rfl)]
                          go_simp
                          go_at_call 152
                          (with_reducible refine ((hm1.out wd bd.out).mono ?_))
                          rintro e w61 ⟨c1, rfl, v1, b61⟩
                          have v1 := hide v1
                          have s61 := hide (sd.out.below b61)
                          have f61 := hide (fd.out.below b61)
                          have k61 := hide (kd.out.below b61)
                          have bd61 := hide (bd.out.trans (b61.mono bd.out.size))
                          clear b61
                          refine hK.out _ _ trivial (fun _ => ?_)
                          clear hK
                          refine wpAnyH_ready (rs := [10]) (by kernel_rfl) (by simp) ?_
                          refine AllReadyH.cons (o := ⟨some 128, _, _, _, _, _⟩) rfl (fun K_ hK => ?_) AllReadyH.nil
                          rw [if_pos (by rfl)]
                          go_simp
                          go_at_call 152
                          (with_reducible refine ((hm2.out w61 bd61.out).mono ?_))
                          rintro e w62 ⟨c2, rfl, v2, b62⟩
                          have v12 := hide (v1.out.below b62)
                          have v2 := hide v2
                          have s62 := hide (s61.out.below b62)
                          have f62 := hide (f61.out.below b62)
                          have k62 := hide (k61.out.below b62)
                          clear b62
                          refine hK.out _ _ trivial (fun _ => ?_)
                          clear hK
                          obtain ⟨w63, hw63⟩ : ∃ W, w62.setRow (G + 1) #[.slice Al n cl, .int .i64 (a9 : Nat), .slice Ao m co, .int .i64 (most : Nat), .int .i64 0] = W := ⟨_, rfl⟩
                          obtain ⟨w64, hw64⟩ : ∃ W, w63.setRow (G + 1 + 1) c1 = W := ⟨_, rfl⟩
                          obtain ⟨w65, hw65⟩ : ∃ W, w64.setRow (G + 1 + 1 + 1) c2 = W := ⟨_, rfl⟩
                          have c1z := hide v12.out.size
                          have c2z := hide v2.out.size
                          have c1o := hide v12.out.one
                          have c2o := hide v2.out.one
                          have kw3 := hide (show Blk w63 (G + 1 + 1) 180 z32 ∧ Blk w63 (G + 1 + 1 + 1) 180 z32 from by rw [← hw63]; exact ⟨(k62.out.row f62.out.kR).k1, (k62.out.row f62.out.kR).k2⟩)
                          have kw4 := hide (show Blk w64 (G + 1 + 1 + 1) 180 z32 from by rw [← hw64]; exact (setRow_other w63 (G + 1 + 1) (G + 1 + 1 + 1) _ (by omega)).trans kw3.out.2)
                          refine wpAnyH_ready (rs := [11]) (by kernel_rfl) (by simp) ?_
                          refine AllReadyH.cons (o := ⟨none, .store 173 (.tmp 2) (.tmp 118), _, _, _, _⟩) rfl (fun K_ hK => ?_) AllReadyH.nil
                          rw [if_pos (by rfl)]
                          refine wp_store_row 173 (.tmp 2) (.tmp 118) rfl (G + 1) #[.slice Al n cl, .int .i64 (a9 : Nat), .slice Ao m co, .int .i64 (most : Nat), .int .i64 0] rfl rfl 173 _ f62.out.kR.eq (st_infos _ _ _ _ _) (st_hold _ _ _ _ _ _ _ _ _ _) (st_one _ _ _ _ _ _ _ _ _) ?_
                          rw [hw63]
                          refine hK.out _ _ trivial (fun _ => ?_)
                          clear hK
                          refine wpAnyH_ready (rs := [12]) (by kernel_rfl) (by simp) ?_
                          refine AllReadyH.cons (o := ⟨none, .store 180 (.tmp 3) (.tmp 123), _, _, _, _⟩) rfl (fun K_ hK => ?_) AllReadyH.nil
                          rw [if_pos (by rfl)]
                          refine wp_store_row 180 (.tmp 3) (.tmp 123) rfl (G + 1 + 1) c1 rfl rfl 180 _ kw3.out.1.eq (info_book' c1z.out) (show z32.size = c1.size from c1z.out.symm) c1o.out ?_
                          rw [hw64]
                          refine hK.out _ _ trivial (fun _ => ?_)
                          clear hK
                          refine wpAnyH_ready (rs := [13]) (by kernel_rfl) (by simp) ?_
                          refine AllReadyH.cons (o := ⟨none, .store 180 (.tmp 4) (.tmp 128), _, _, _, _⟩) rfl (fun K_ hK => ?_) AllReadyH.nil
                          rw [if_pos (by rfl)]
                          refine wp_store_row 180 (.tmp 4) (.tmp 128) rfl (G + 1 + 1 + 1) c2 rfl rfl 180 _ kw4.out.eq (info_book' c2z.out) (show z32.size = c2.size from c2z.out.symm) c2o.out ?_
                          rw [hw65]
                          refine hK.out _ _ trivial (fun _ => ?_)
                          clear hK
                          refine wpAnyH_done (by kernel_rfl) ?_ _
                          go_wp2
                          rw [hRok.out]
                          exact DynPost.ok rfl f62.out s62.out k62.out hBw.out (by omega) v12.out v2.out (by have := hbw.out; have := f61.out.kx.1; have := bd.out.size; omega) (by have := f61.out.kx.1; omega) (by rw [hl1.out]; omega) (by rw [hl2.out]; omega) hs1.out hs2.out rfl rfl rfl hw63 hw64 hw65
                        · rw [if_pos (by rfl)]
                          go_simp
                          go_at_call 152
                          (with_reducible refine ((hm1.out wd bd.out).mono ?_))
                          rintro e w61 ⟨c1, rfl, v1, b61⟩
                          have v1 := hide v1
                          have s61 := hide (sd.out.below b61)
                          have f61 := hide (fd.out.below b61)
                          have k61 := hide (kd.out.below b61)
                          have bd61 := hide (bd.out.trans (b61.mono bd.out.size))
                          clear b61
                          refine hK.out _ _ trivial (fun _ => ?_)
                          clear hK

                          refine wpAnyH_ready (rs := [0, 10]) (by kernel_rfl) (by simp) ?_
                          refine AllReadyH.cons (o := ⟨some 118, _, _, _, _, _⟩) rfl (fun K_ hK => ?_) (AllReadyH.cons (o := ⟨some 128, _, _, _, _, _⟩) rfl (fun K_ hK => ?_) AllReadyH.nil)
                          · rw [if_pos (by rfl)]
                            refine wp_load_row 173 (.tmp 1) rfl G rfl 173 #[.slice Al n cl, .int .i64 (a9 : Nat), .slice Ao m co, .int .i64 (most : Nat), .int .i64 0] (0, 0) _ f61.out.kG.eq Tryz.underlying173 rfl (st_infos _ _ _ _ _) ?_
                            refine hK.out _ _ trivial (fun _ => ?_)
                            clear hK
                            refine wpAnyH_ready (rs := [10]) (by kernel_rfl) (by simp) ?_
                            refine AllReadyH.cons (o := ⟨some 128, _, _, _, _, _⟩) rfl (fun K_ hK => ?_) AllReadyH.nil
                            rw [if_pos (by rfl)]
                            go_simp
                            go_at_call 152
                            (with_reducible refine ((hm2.out w61 bd61.out).mono ?_))
                            rintro e w62 ⟨c2, rfl, v2, b62⟩
                            have v12 := hide (v1.out.below b62)
                            have v2 := hide v2
                            have s62 := hide (s61.out.below b62)
                            have f62 := hide (f61.out.below b62)
                            have k62 := hide (k61.out.below b62)
                            clear b62
                            refine hK.out _ _ trivial (fun _ => ?_)
                            clear hK
                            obtain ⟨w63, hw63⟩ : ∃ W, w62.setRow (G + 1) #[.slice Al n cl, .int .i64 (a9 : Nat), .slice Ao m co, .int .i64 (most : Nat), .int .i64 0] = W := ⟨_, rfl⟩
                            obtain ⟨w64, hw64⟩ : ∃ W, w63.setRow (G + 1 + 1) c1 = W := ⟨_, rfl⟩
                            obtain ⟨w65, hw65⟩ : ∃ W, w64.setRow (G + 1 + 1 + 1) c2 = W := ⟨_, rfl⟩
                            have c1z := hide v12.out.size
                            have c2z := hide v2.out.size
                            have c1o := hide v12.out.one
                            have c2o := hide v2.out.one
                            have kw3 := hide (show Blk w63 (G + 1 + 1) 180 z32 ∧ Blk w63 (G + 1 + 1 + 1) 180 z32 from by rw [← hw63]; exact ⟨(k62.out.row f62.out.kR).k1, (k62.out.row f62.out.kR).k2⟩)
                            have kw4 := hide (show Blk w64 (G + 1 + 1 + 1) 180 z32 from by rw [← hw64]; exact (setRow_other w63 (G + 1 + 1) (G + 1 + 1 + 1) _ (by omega)).trans kw3.out.2)
                            refine wpAnyH_ready (rs := [11]) (by kernel_rfl) (by simp) ?_
                            refine AllReadyH.cons (o := ⟨none, .store 173 (.tmp 2) (.tmp 118), _, _, _, _⟩) rfl (fun K_ hK => ?_) AllReadyH.nil
                            rw [if_pos (by rfl)]
                            refine wp_store_row 173 (.tmp 2) (.tmp 118) rfl (G + 1) #[.slice Al n cl, .int .i64 (a9 : Nat), .slice Ao m co, .int .i64 (most : Nat), .int .i64 0] rfl rfl 173 _ f62.out.kR.eq (st_infos _ _ _ _ _) (st_hold _ _ _ _ _ _ _ _ _ _) (st_one _ _ _ _ _ _ _ _ _) ?_
                            rw [hw63]
                            refine hK.out _ _ trivial (fun _ => ?_)
                            clear hK
                            refine wpAnyH_ready (rs := [12]) (by kernel_rfl) (by simp) ?_
                            refine AllReadyH.cons (o := ⟨none, .store 180 (.tmp 3) (.tmp 123), _, _, _, _⟩) rfl (fun K_ hK => ?_) AllReadyH.nil
                            rw [if_pos (by rfl)]
                            refine wp_store_row 180 (.tmp 3) (.tmp 123) rfl (G + 1 + 1) c1 rfl rfl 180 _ kw3.out.1.eq (info_book' c1z.out) (show z32.size = c1.size from c1z.out.symm) c1o.out ?_
                            rw [hw64]
                            refine hK.out _ _ trivial (fun _ => ?_)
                            clear hK
                            refine wpAnyH_ready (rs := [13]) (by kernel_rfl) (by simp) ?_
                            refine AllReadyH.cons (o := ⟨none, .store 180 (.tmp 4) (.tmp 128), _, _, _, _⟩) rfl (fun K_ hK => ?_) AllReadyH.nil
                            rw [if_pos (by rfl)]
                            refine wp_store_row 180 (.tmp 4) (.tmp 128) rfl (G + 1 + 1 + 1) c2 rfl rfl 180 _ kw4.out.eq (info_book' c2z.out) (show z32.size = c2.size from c2z.out.symm) c2o.out ?_
                            rw [hw65]
                            refine hK.out _ _ trivial (fun _ => ?_)
                            clear hK
                            refine wpAnyH_done (by kernel_rfl) ?_ _
                            go_wp2
                            rw [hRok.out]
                            exact DynPost.ok rfl f62.out s62.out k62.out hBw.out (by omega) v12.out v2.out (by have := hbw.out; have := f61.out.kx.1; have := bd.out.size; omega) (by have := f61.out.kx.1; omega) (by rw [hl1.out]; omega) (by rw [hl2.out]; omega) hs1.out hs2.out rfl rfl rfl hw63 hw64 hw65
                          · rw [if_pos (by rfl)]
                            go_simp
                            go_at_call 152
                            (with_reducible refine ((hm2.out w61 bd61.out).mono ?_))
                            rintro e w62 ⟨c2, rfl, v2, b62⟩
                            have v12 := hide (v1.out.below b62)
                            have v2 := hide v2
                            have s62 := hide (s61.out.below b62)
                            have f62 := hide (f61.out.below b62)
                            have k62 := hide (k61.out.below b62)
                            clear b62
                            refine hK.out _ _ trivial (fun _ => ?_)
                            clear hK
                            refine wpAnyH_ready (rs := [0]) (by kernel_rfl) (by simp) ?_
                            refine AllReadyH.cons (o := ⟨some 118, _, _, _, _, _⟩) rfl (fun K_ hK => ?_) AllReadyH.nil
                            rw [if_pos (by rfl)]
                            refine wp_load_row 173 (.tmp 1) rfl G rfl 173 #[.slice Al n cl, .int .i64 (a9 : Nat), .slice Ao m co, .int .i64 (most : Nat), .int .i64 0] (0, 0) _ f62.out.kG.eq Tryz.underlying173 rfl (st_infos _ _ _ _ _) ?_
                            refine hK.out _ _ trivial (fun _ => ?_)
                            clear hK
                            obtain ⟨w63, hw63⟩ : ∃ W, w62.setRow (G + 1) #[.slice Al n cl, .int .i64 (a9 : Nat), .slice Ao m co, .int .i64 (most : Nat), .int .i64 0] = W := ⟨_, rfl⟩
                            obtain ⟨w64, hw64⟩ : ∃ W, w63.setRow (G + 1 + 1) c1 = W := ⟨_, rfl⟩
                            obtain ⟨w65, hw65⟩ : ∃ W, w64.setRow (G + 1 + 1 + 1) c2 = W := ⟨_, rfl⟩
                            have c1z := hide v12.out.size
                            have c2z := hide v2.out.size
                            have c1o := hide v12.out.one
                            have c2o := hide v2.out.one
                            have kw3 := hide (show Blk w63 (G + 1 + 1) 180 z32 ∧ Blk w63 (G + 1 + 1 + 1) 180 z32 from by rw [← hw63]; exact ⟨(k62.out.row f62.out.kR).k1, (k62.out.row f62.out.kR).k2⟩)
                            have kw4 := hide (show Blk w64 (G + 1 + 1 + 1) 180 z32 from by rw [← hw64]; exact (setRow_other w63 (G + 1 + 1) (G + 1 + 1 + 1) _ (by omega)).trans kw3.out.2)
                            refine wpAnyH_ready (rs := [11]) (by kernel_rfl) (by simp) ?_
                            refine AllReadyH.cons (o := ⟨none, .store 173 (.tmp 2) (.tmp 118), _, _, _, _⟩) rfl (fun K_ hK => ?_) AllReadyH.nil
                            rw [if_pos (by rfl)]
                            refine wp_store_row 173 (.tmp 2) (.tmp 118) rfl (G + 1) #[.slice Al n cl, .int .i64 (a9 : Nat), .slice Ao m co, .int .i64 (most : Nat), .int .i64 0] rfl rfl 173 _ f62.out.kR.eq (st_infos _ _ _ _ _) (st_hold _ _ _ _ _ _ _ _ _ _) (st_one _ _ _ _ _ _ _ _ _) ?_
                            rw [hw63]
                            refine hK.out _ _ trivial (fun _ => ?_)
                            clear hK
                            refine wpAnyH_ready (rs := [12]) (by kernel_rfl) (by simp) ?_
                            refine AllReadyH.cons (o := ⟨none, .store 180 (.tmp 3) (.tmp 123), _, _, _, _⟩) rfl (fun K_ hK => ?_) AllReadyH.nil
                            rw [if_pos (by rfl)]
                            refine wp_store_row 180 (.tmp 3) (.tmp 123) rfl (G + 1 + 1) c1 rfl rfl 180 _ kw3.out.1.eq (info_book' c1z.out) (show z32.size = c1.size from c1z.out.symm) c1o.out ?_
                            rw [hw64]
                            refine hK.out _ _ trivial (fun _ => ?_)
                            clear hK
                            refine wpAnyH_ready (rs := [13]) (by kernel_rfl) (by simp) ?_
                            refine AllReadyH.cons (o := ⟨none, .store 180 (.tmp 4) (.tmp 128), _, _, _, _⟩) rfl (fun K_ hK => ?_) AllReadyH.nil
                            rw [if_pos (by rfl)]
                            refine wp_store_row 180 (.tmp 4) (.tmp 128) rfl (G + 1 + 1 + 1) c2 rfl rfl 180 _ kw4.out.eq (info_book' c2z.out) (show z32.size = c2.size from c2z.out.symm) c2o.out ?_
                            rw [hw65]
                            refine hK.out _ _ trivial (fun _ => ?_)
                            clear hK
                            refine wpAnyH_done (by kernel_rfl) ?_ _
                            go_wp2
                            rw [hRok.out]
                            exact DynPost.ok rfl f62.out s62.out k62.out hBw.out (by omega) v12.out v2.out (by have := hbw.out; have := f61.out.kx.1; have := bd.out.size; omega) (by have := f61.out.kx.1; omega) (by rw [hl1.out]; omega) (by rw [hl2.out]; omega) hs1.out hs2.out rfl rfl rfl hw63 hw64 hw65
                      · have hRe := hide (show RR = .inl e3 from by rw [← hR10, ← he3h.out]; exact Inf.bind_err (show Inf.need (ls.drop K) true a9 o = .inl 3 from if_neg f2))
                        have hr2 := hide (refright_any (some ⟨ga, K, none⟩) J (c9 - K) (ls.drop K) true wc _ hB (by omega) h152 3 ⟨fun h => absurd h f2, fun _ => rfl⟩)
                        replace he9 := hide he9
                        clear hR9 hR10 hx0 hrd hA hB hls15 h151 h152 he3 f1 f2
                        go_wp2_with (first
                          | (go_at_call 156; (with_reducible refine (hr1.out).mono ?_); rintro e w' ⟨rfl, rfl⟩)
                          | (go_at_call 156; (with_reducible refine (hr2.out).mono ?_); rintro e w' ⟨rfl, rfl⟩)
                          | (with_reducible refine wpList_load_row (o := ⟨some 114, .load 173 (.tmp 1), _, _, _, _⟩) rfl 173 (.tmp 1) rfl G rfl 173 _ (0, 0) _ f50.out.kG.eq Tryz.underlying173 rfl (st_infos _ _ _ _ _) ?_)
                          | (go_at_call 124; (with_reducible refine (hfl.out).mono ?_); rintro e w51 ⟨rfl, s51, b51⟩; have s51 := hide s51; have f51 := hide (f50.out.below b51); have k51 := hide (k50.out.below b51); clear b51; obtain ⟨u1, hu1⟩ : ∃ W, w51.setRow (G + 1) #[.slice Al n cl, .int .i64 (a9 : Nat), .slice Ao m co, .int .i64 (most : Nat), .int .i64 (e3 : Nat)] = W := ⟨_, rfl⟩; obtain ⟨u2, hu2⟩ : ∃ W, u1.setRow (G + 1 + 1) #[.int .i64 0, .int .i64 0, .int .i64 0, .int .i64 0, .int .i64 0, .int .i64 0, .int .i64 0, .int .i64 0, .int .i64 0, .int .i64 0, .int .i64 0, .int .i64 0, .int .i64 0, .int .i64 0, .int .i64 0, .int .i64 0, .slice none 0 0, .slice none 0 0, .slice none 0 0, .slice none 0 0, .slice none 0 0, .slice none 0 0, .slice none 0 0, .slice none 0 0, .slice none 0 0, .slice none 0 0, .slice none 0 0, .slice none 0 0, .slice none 0 0, .slice none 0 0, .slice none 0 0, .slice none 0 0] = W := ⟨_, rfl⟩; obtain ⟨u3, hu3⟩ : ∃ W, u2.setRow (G + 1 + 1 + 1) #[.int .i64 0, .int .i64 0, .int .i64 0, .int .i64 0, .int .i64 0, .int .i64 0, .int .i64 0, .int .i64 0, .int .i64 0, .int .i64 0, .int .i64 0, .int .i64 0, .int .i64 0, .int .i64 0, .int .i64 0, .int .i64 0, .slice none 0 0, .slice none 0 0, .slice none 0 0, .slice none 0 0, .slice none 0 0, .slice none 0 0, .slice none 0 0, .slice none 0 0, .slice none 0 0, .slice none 0 0, .slice none 0 0, .slice none 0 0, .slice none 0 0, .slice none 0 0, .slice none 0 0, .slice none 0 0] = W := ⟨_, rfl⟩;
                             have ku1 := hide (show Blk u1 (G + 1 + 1) 180 z32 ∧ Blk u1 (G + 1 + 1 + 1) 180 z32 from by rw [← hu1]; exact ⟨(k51.out.row f51.out.kR).k1, (k51.out.row f51.out.kR).k2⟩); have ku2 := hide (show Blk u2 (G + 1 + 1 + 1) 180 z32 from by rw [← hu2]; exact (setRow_other u1 (G + 1 + 1) (G + 1 + 1 + 1) _ (by omega)).trans ku1.out.2))
                          | ((with_reducible refine wpList_store_row (o := ⟨none, .store 173 (.tmp 2) (.tmp 115), _, _, _, _⟩) rfl 173 (.tmp 2) (.tmp 115) rfl (G + 1) #[.slice Al n cl, .int .i64 (a9 : Nat), .slice Ao m co, .int .i64 (most : Nat), .int .i64 (e3 : Nat)] rfl rfl 173 _ f51.out.kR.eq (st_infos _ _ _ _ _) (st_hold _ _ _ _ _ _ _ _ _ _) (st_one _ _ _ _ _ _ _ _ _) ?_); rw [hu1])
                          | ((with_reducible refine wpList_store_row (o := ⟨none, .store 180 (.tmp 3) (.tmp 116), _, _, _, _⟩) rfl 180 (.tmp 3) (.tmp 116) rfl (G + 1 + 1) #[.int .i64 0, .int .i64 0, .int .i64 0, .int .i64 0, .int .i64 0, .int .i64 0, .int .i64 0, .int .i64 0, .int .i64 0, .int .i64 0, .int .i64 0, .int .i64 0, .int .i64 0, .int .i64 0, .int .i64 0, .int .i64 0, .slice none 0 0, .slice none 0 0, .slice none 0 0, .slice none 0 0, .slice none 0 0, .slice none 0 0, .slice none 0 0, .slice none 0 0, .slice none 0 0, .slice none 0 0, .slice none 0 0, .slice none 0 0, .slice none 0 0, .slice none 0 0, .slice none 0 0, .slice none 0 0] rfl rfl 180 _ ku1.out.1.eq zi.out zl.out zo.out ?_); rw [hu2])
                          | ((with_reducible refine wpList_store_row (o := ⟨none, .store 180 (.tmp 4) (.tmp 117), _, _, _, _⟩) rfl 180 (.tmp 4) (.tmp 117) rfl (G + 1 + 1 + 1) #[.int .i64 0, .int .i64 0, .int .i64 0, .int .i64 0, .int .i64 0, .int .i64 0, .int .i64 0, .int .i64 0, .int .i64 0, .int .i64 0, .int .i64 0, .int .i64 0, .int .i64 0, .int .i64 0, .int .i64 0, .int .i64 0, .slice none 0 0, .slice none 0 0, .slice none 0 0, .slice none 0 0, .slice none 0 0, .slice none 0 0, .slice none 0 0, .slice none 0 0, .slice none 0 0, .slice none 0 0, .slice none 0 0, .slice none 0 0, .slice none 0 0, .slice none 0 0, .slice none 0 0, .slice none 0 0] rfl rfl 180 _ ku2.out.eq zi.out zl.out zo.out ?_); rw [hu3]))
                        rw [hRe.out]
                        exact DynPost.bad rfl f51.out s51.out k51.out hBw.out (by omega) rfl rfl rfl hu1 hu2 hu3 rfl rfl hbd3.out
                    · have hRe := hide (show RR = .inl e3 from by rw [← hR9, ← he3h.out]; exact Inf.bind_err (show Inf.need (ls.take K) false a9 o = .inl 3 from if_neg f1))
                      have hr1 := hide (refright_any (some ⟨ga, 0, none⟩) K c9 (ls.take K) false wc _ hA (by omega) h151 3 ⟨fun h => absurd h f1, fun _ => rfl⟩)
                      replace he9 := hide he9
                      clear hR9 hx0 hrd hA hB hls15 h151 h152 he3 f1
                      go_wp2_with (first
                        | (go_at_call 156; (with_reducible refine (hr1.out).mono ?_); rintro e w' ⟨rfl, rfl⟩)
                        | (go_at_call 156; (with_reducible refine (hr2.out).mono ?_); rintro e w' ⟨rfl, rfl⟩)
                        | (with_reducible refine wpList_load_row (o := ⟨some 114, .load 173 (.tmp 1), _, _, _, _⟩) rfl 173 (.tmp 1) rfl G rfl 173 _ (0, 0) _ f50.out.kG.eq Tryz.underlying173 rfl (st_infos _ _ _ _ _) ?_)
                        | (go_at_call 124; (with_reducible refine (hfl.out).mono ?_); rintro e w51 ⟨rfl, s51, b51⟩; have s51 := hide s51; have f51 := hide (f50.out.below b51); have k51 := hide (k50.out.below b51); clear b51; obtain ⟨u1, hu1⟩ : ∃ W, w51.setRow (G + 1) #[.slice Al n cl, .int .i64 (a9 : Nat), .slice Ao m co, .int .i64 (most : Nat), .int .i64 (e3 : Nat)] = W := ⟨_, rfl⟩; obtain ⟨u2, hu2⟩ : ∃ W, u1.setRow (G + 1 + 1) #[.int .i64 0, .int .i64 0, .int .i64 0, .int .i64 0, .int .i64 0, .int .i64 0, .int .i64 0, .int .i64 0, .int .i64 0, .int .i64 0, .int .i64 0, .int .i64 0, .int .i64 0, .int .i64 0, .int .i64 0, .int .i64 0, .slice none 0 0, .slice none 0 0, .slice none 0 0, .slice none 0 0, .slice none 0 0, .slice none 0 0, .slice none 0 0, .slice none 0 0, .slice none 0 0, .slice none 0 0, .slice none 0 0, .slice none 0 0, .slice none 0 0, .slice none 0 0, .slice none 0 0, .slice none 0 0] = W := ⟨_, rfl⟩; obtain ⟨u3, hu3⟩ : ∃ W, u2.setRow (G + 1 + 1 + 1) #[.int .i64 0, .int .i64 0, .int .i64 0, .int .i64 0, .int .i64 0, .int .i64 0, .int .i64 0, .int .i64 0, .int .i64 0, .int .i64 0, .int .i64 0, .int .i64 0, .int .i64 0, .int .i64 0, .int .i64 0, .int .i64 0, .slice none 0 0, .slice none 0 0, .slice none 0 0, .slice none 0 0, .slice none 0 0, .slice none 0 0, .slice none 0 0, .slice none 0 0, .slice none 0 0, .slice none 0 0, .slice none 0 0, .slice none 0 0, .slice none 0 0, .slice none 0 0, .slice none 0 0, .slice none 0 0] = W := ⟨_, rfl⟩;
                           have ku1 := hide (show Blk u1 (G + 1 + 1) 180 z32 ∧ Blk u1 (G + 1 + 1 + 1) 180 z32 from by rw [← hu1]; exact ⟨(k51.out.row f51.out.kR).k1, (k51.out.row f51.out.kR).k2⟩); have ku2 := hide (show Blk u2 (G + 1 + 1 + 1) 180 z32 from by rw [← hu2]; exact (setRow_other u1 (G + 1 + 1) (G + 1 + 1 + 1) _ (by omega)).trans ku1.out.2))
                        | ((with_reducible refine wpList_store_row (o := ⟨none, .store 173 (.tmp 2) (.tmp 115), _, _, _, _⟩) rfl 173 (.tmp 2) (.tmp 115) rfl (G + 1) #[.slice Al n cl, .int .i64 (a9 : Nat), .slice Ao m co, .int .i64 (most : Nat), .int .i64 (e3 : Nat)] rfl rfl 173 _ f51.out.kR.eq (st_infos _ _ _ _ _) (st_hold _ _ _ _ _ _ _ _ _ _) (st_one _ _ _ _ _ _ _ _ _) ?_); rw [hu1])
                        | ((with_reducible refine wpList_store_row (o := ⟨none, .store 180 (.tmp 3) (.tmp 116), _, _, _, _⟩) rfl 180 (.tmp 3) (.tmp 116) rfl (G + 1 + 1) #[.int .i64 0, .int .i64 0, .int .i64 0, .int .i64 0, .int .i64 0, .int .i64 0, .int .i64 0, .int .i64 0, .int .i64 0, .int .i64 0, .int .i64 0, .int .i64 0, .int .i64 0, .int .i64 0, .int .i64 0, .int .i64 0, .slice none 0 0, .slice none 0 0, .slice none 0 0, .slice none 0 0, .slice none 0 0, .slice none 0 0, .slice none 0 0, .slice none 0 0, .slice none 0 0, .slice none 0 0, .slice none 0 0, .slice none 0 0, .slice none 0 0, .slice none 0 0, .slice none 0 0, .slice none 0 0] rfl rfl 180 _ ku1.out.1.eq zi.out zl.out zo.out ?_); rw [hu2])
                        | ((with_reducible refine wpList_store_row (o := ⟨none, .store 180 (.tmp 4) (.tmp 117), _, _, _, _⟩) rfl 180 (.tmp 4) (.tmp 117) rfl (G + 1 + 1 + 1) #[.int .i64 0, .int .i64 0, .int .i64 0, .int .i64 0, .int .i64 0, .int .i64 0, .int .i64 0, .int .i64 0, .int .i64 0, .int .i64 0, .int .i64 0, .int .i64 0, .int .i64 0, .int .i64 0, .int .i64 0, .int .i64 0, .slice none 0 0, .slice none 0 0, .slice none 0 0, .slice none 0 0, .slice none 0 0, .slice none 0 0, .slice none 0 0, .slice none 0 0, .slice none 0 0, .slice none 0 0, .slice none 0 0, .slice none 0 0, .slice none 0 0, .slice none 0 0, .slice none 0 0, .slice none 0 0] rfl rfl 180 _ ku2.out.eq zi.out zl.out zo.out ?_); rw [hu3]))
                      rw [hRe.out]
                      exact DynPost.bad rfl f51.out s51.out k51.out hBw.out (by omega) rfl rfl rfl hu1 hu2 hu3 rfl rfl hbd3.out
                · obtain ⟨er, rfl⟩ : ∃ er, LR = .inl er := by
                    cases LR with
                    | inl er => exact ⟨er, rfl⟩
                    | inr q => obtain ⟨ls, a', o'⟩ := q; exact absurd hl9.out.1 he9
                  obtain ⟨h1, h2⟩ := hl9.out
                  have hRe := hide (show RR = .inl e9 from by rw [← hcont2.out, Inf.bind_err hLR, ← h1])
                  have hbd9 := hide he9
                  have hez2 : ((e9 : Int) != 0) = true := by simp; omega
                  clear he9 hl9 h1 h2
                  replace hLR := hide hLR
                  obtain ⟨u1, hu1⟩ : ∃ W, wc.setRow (G + 1) #[.slice Al n cl, .int .i64 (a9 : Nat), .slice Ao m co, .int .i64 (most : Nat), .int .i64 (e9 : Nat)] = W := ⟨_, rfl⟩
                  obtain ⟨u2, hu2⟩ : ∃ W, u1.setRow (G + 1 + 1) #[.int .i64 0, .int .i64 0, .int .i64 0, .int .i64 0, .int .i64 0, .int .i64 0, .int .i64 0, .int .i64 0, .int .i64 0, .int .i64 0, .int .i64 0, .int .i64 0, .int .i64 0, .int .i64 0, .int .i64 0, .int .i64 0, .slice none 0 0, .slice none 0 0, .slice none 0 0, .slice none 0 0, .slice none 0 0, .slice none 0 0, .slice none 0 0, .slice none 0 0, .slice none 0 0, .slice none 0 0, .slice none 0 0, .slice none 0 0, .slice none 0 0, .slice none 0 0, .slice none 0 0, .slice none 0 0] = W := ⟨_, rfl⟩
                  obtain ⟨u3, hu3⟩ : ∃ W, u2.setRow (G + 1 + 1 + 1) #[.int .i64 0, .int .i64 0, .int .i64 0, .int .i64 0, .int .i64 0, .int .i64 0, .int .i64 0, .int .i64 0, .int .i64 0, .int .i64 0, .int .i64 0, .int .i64 0, .int .i64 0, .int .i64 0, .int .i64 0, .int .i64 0, .slice none 0 0, .slice none 0 0, .slice none 0 0, .slice none 0 0, .slice none 0 0, .slice none 0 0, .slice none 0 0, .slice none 0 0, .slice none 0 0, .slice none 0 0, .slice none 0 0, .slice none 0 0, .slice none 0 0, .slice none 0 0, .slice none 0 0, .slice none 0 0] = W := ⟨_, rfl⟩
                  have ku1 := hide (show Blk u1 (G + 1 + 1) 180 z32 ∧ Blk u1 (G + 1 + 1 + 1) 180 z32 from by rw [← hu1]; exact ⟨(k50.out.row f50.out.kR).k1, (k50.out.row f50.out.kR).k2⟩)
                  have ku2 := hide (show Blk u2 (G + 1 + 1 + 1) 180 z32 from by rw [← hu2]; exact (setRow_other u1 (G + 1 + 1) (G + 1 + 1 + 1) _ (by omega)).trans ku1.out.2)
                  go_wp2_with (first
                    | (with_reducible refine wpList_load_row (o := ⟨some 91, .load 173 (.tmp 1), _, _, _, _⟩) rfl 173 (.tmp 1) rfl G rfl 173 _ (0, 0) _ f50.out.kG.eq Tryz.underlying173 rfl (st_infos _ _ _ _ _) ?_)
                    | ((with_reducible refine wpList_store_row (o := ⟨none, .store 173 (.tmp 2) (.tmp 91), _, _, _, _⟩) rfl 173 (.tmp 2) (.tmp 91) rfl (G + 1) #[.slice Al n cl, .int .i64 (a9 : Nat), .slice Ao m co, .int .i64 (most : Nat), .int .i64 (e9 : Nat)] rfl rfl 173 _ f50.out.kR.eq (st_infos _ _ _ _ _) (st_hold _ _ _ _ _ _ _ _ _ _) (st_one _ _ _ _ _ _ _ _ _) ?_); rw [hu1])
                    | ((with_reducible refine wpList_store_row (o := ⟨none, .store 180 (.tmp 3) (.tmp 92), _, _, _, _⟩) rfl 180 (.tmp 3) (.tmp 92) rfl (G + 1 + 1) #[.int .i64 0, .int .i64 0, .int .i64 0, .int .i64 0, .int .i64 0, .int .i64 0, .int .i64 0, .int .i64 0, .int .i64 0, .int .i64 0, .int .i64 0, .int .i64 0, .int .i64 0, .int .i64 0, .int .i64 0, .int .i64 0, .slice none 0 0, .slice none 0 0, .slice none 0 0, .slice none 0 0, .slice none 0 0, .slice none 0 0, .slice none 0 0, .slice none 0 0, .slice none 0 0, .slice none 0 0, .slice none 0 0, .slice none 0 0, .slice none 0 0, .slice none 0 0, .slice none 0 0, .slice none 0 0] rfl rfl 180 _ ku1.out.1.eq zi.out zl.out zo.out ?_); rw [hu2])
                    | ((with_reducible refine wpList_store_row (o := ⟨none, .store 180 (.tmp 4) (.tmp 93), _, _, _, _⟩) rfl 180 (.tmp 4) (.tmp 93) rfl (G + 1 + 1 + 1) #[.int .i64 0, .int .i64 0, .int .i64 0, .int .i64 0, .int .i64 0, .int .i64 0, .int .i64 0, .int .i64 0, .int .i64 0, .int .i64 0, .int .i64 0, .int .i64 0, .int .i64 0, .int .i64 0, .int .i64 0, .int .i64 0, .slice none 0 0, .slice none 0 0, .slice none 0 0, .slice none 0 0, .slice none 0 0, .slice none 0 0, .slice none 0 0, .slice none 0 0, .slice none 0 0, .slice none 0 0, .slice none 0 0, .slice none 0 0, .slice none 0 0, .slice none 0 0, .slice none 0 0, .slice none 0 0] rfl rfl 180 _ ku2.out.eq zi.out zl.out zo.out ?_); rw [hu3]))
                  rw [hRe.out]
                  exact DynPost.bad rfl f50.out s50.out k50.out hBw.out (by omega) rfl rfl rfl hu1 hu2 hu3 rfl rfl hbd9.out
            · have hR := hide (refright_any (some ⟨gl, 0, none⟩) 19 19 acc false w30 _ hrd (by decide) h15.out 3 ⟨fun h => absurd h hf, fun _ => rfl⟩)
              have hRe3 : RR = .inl 3 := by rw [← hcont.out]; exact Inf.bind_err (show Inf.need acc false a5 o = .inl 3 from if_neg hf)
              have hfl := hide (c_fail s30.out (E := 0) rfl 3 (by decide) (K := 3) rfl)
              rw [if_pos rfl] at hfl
              obtain ⟨e3, he3⟩ : ∃ e3 : Nat, 3 = e3 := ⟨_, rfl⟩
              rw [he3] at hfl hRe3
              have hRe := hide hRe3
              have hbd3 := hide (show e3 ≠ 0 from by omega)
              have hez : ((e3 : Int) == 0) = false := by simp; omega
              have hez2 : ((e3 : Int) != 0) = true := by simp; omega
              replace he3 := hide he3
              replace hf := hide hf
              clear hrd hcont hRe3
              go_upto_region 15 with (first
                | (go_at_call 156; (with_reducible refine (hR.out).mono ?_); rintro e w' ⟨rfl, rfl⟩)
                | (with_reducible refine wpList_load_row (o := ⟨some 69, .load 173 (.tmp 1), _, _, _, _⟩) rfl 173 (.tmp 1) rfl G rfl 173 _ (0, 0) _ f30.out.kG.eq Tryz.underlying173 rfl (st_infos _ _ _ _ _) ?_)
                | (go_at_call 124; (with_reducible refine (hfl.out).mono ?_); rintro e w31 ⟨rfl, s31, b31⟩; have s31 := hide s31; have f31 := hide (f30.out.below b31); have k31 := hide (k30.out.below b31); clear b31; obtain ⟨w32, hw32⟩ : ∃ W, w31.setRow G #[.slice Al n cl, .int .i64 (a5 : Nat), .slice Ao m co, .int .i64 (most : Nat), .int .i64 (e3 : Nat)] = W := ⟨_, rfl⟩; have s32 := hide (show RSt w32 B l most a5 o e3 Al n cl Ao m co from by rw [← hw32]; exact s31.out.row f31.out.kG hBG.out _); have f32 := hide (show SB w w.heap.size G (G + 1) (.slice Al n cl) (.int .i64 (a5 : Nat)) (.slice Ao m co) (.int .i64 (most : Nat)) (.int .i64 (e3 : Nat)) w32 from by rw [← hw32]; exact f31.out.row _ _ _ _ _); have k32 := hide (show KBs (G + 1 + 1) w32 from by rw [← hw32]; exact k31.out.row f31.out.kG))
                | ((with_reducible refine wpList_store_row (o := ⟨none, .store 173 (.tmp 1) (.tmp 70), _, _, _, _⟩) rfl 173 (.tmp 1) (.tmp 70) rfl G #[.slice Al n cl, .int .i64 (a5 : Nat), .slice Ao m co, .int .i64 (most : Nat), .int .i64 (e3 : Nat)] rfl rfl 173 _ f31.out.kG.eq (st_infos _ _ _ _ _) (st_hold _ _ _ _ _ _ _ _ _ _) (st_one _ _ _ _ _ _ _ _ _) ?_); rw [hw32]))
              have e3c := f32.out.kG.cell 4
              simp only [List.getElem?_toArray, List.getElem?_cons_succ, List.getElem?_cons_zero] at e3c
              obtain ⟨u1, hu1⟩ : ∃ W, w32.setRow (G + 1) #[.slice Al n cl, .int .i64 (a5 : Nat), .slice Ao m co, .int .i64 (most : Nat), .int .i64 (e3 : Nat)] = W := ⟨_, rfl⟩
              obtain ⟨u2, hu2⟩ : ∃ W, u1.setRow (G + 1 + 1) #[.int .i64 0, .int .i64 0, .int .i64 0, .int .i64 0, .int .i64 0, .int .i64 0, .int .i64 0, .int .i64 0, .int .i64 0, .int .i64 0, .int .i64 0, .int .i64 0, .int .i64 0, .int .i64 0, .int .i64 0, .int .i64 0, .slice none 0 0, .slice none 0 0, .slice none 0 0, .slice none 0 0, .slice none 0 0, .slice none 0 0, .slice none 0 0, .slice none 0 0, .slice none 0 0, .slice none 0 0, .slice none 0 0, .slice none 0 0, .slice none 0 0, .slice none 0 0, .slice none 0 0, .slice none 0 0] = W := ⟨_, rfl⟩
              obtain ⟨u3, hu3⟩ : ∃ W, u2.setRow (G + 1 + 1 + 1) #[.int .i64 0, .int .i64 0, .int .i64 0, .int .i64 0, .int .i64 0, .int .i64 0, .int .i64 0, .int .i64 0, .int .i64 0, .int .i64 0, .int .i64 0, .int .i64 0, .int .i64 0, .int .i64 0, .int .i64 0, .int .i64 0, .slice none 0 0, .slice none 0 0, .slice none 0 0, .slice none 0 0, .slice none 0 0, .slice none 0 0, .slice none 0 0, .slice none 0 0, .slice none 0 0, .slice none 0 0, .slice none 0 0, .slice none 0 0, .slice none 0 0, .slice none 0 0, .slice none 0 0, .slice none 0 0] = W := ⟨_, rfl⟩
              have ku1 := hide (show Blk u1 (G + 1 + 1) 180 z32 ∧ Blk u1 (G + 1 + 1 + 1) 180 z32 from by rw [← hu1]; exact ⟨(k32.out.row f32.out.kR).k1, (k32.out.row f32.out.kR).k2⟩)
              have ku2 := hide (show Blk u2 (G + 1 + 1 + 1) 180 z32 from by rw [← hu2]; exact (setRow_other u1 (G + 1 + 1) (G + 1 + 1 + 1) _ (by omega)).trans ku1.out.2)
              go_wp2_with (first
                | (with_reducible refine wpList_load_row (o := ⟨some 74, .load 173 (.tmp 1), _, _, _, _⟩) rfl 173 (.tmp 1) rfl G rfl 173 _ (0, 0) _ f32.out.kG.eq Tryz.underlying173 rfl (st_infos _ _ _ _ _) ?_)
                | ((with_reducible refine wpList_store_row (o := ⟨none, .store 173 (.tmp 2) (.tmp 74), _, _, _, _⟩) rfl 173 (.tmp 2) (.tmp 74) rfl (G + 1) #[.slice Al n cl, .int .i64 (a5 : Nat), .slice Ao m co, .int .i64 (most : Nat), .int .i64 (e3 : Nat)] rfl rfl 173 _ f32.out.kR.eq (st_infos _ _ _ _ _) (st_hold _ _ _ _ _ _ _ _ _ _) (st_one _ _ _ _ _ _ _ _ _) ?_); rw [hu1])
                | ((with_reducible refine wpList_store_row (o := ⟨none, .store 180 (.tmp 3) (.tmp 75), _, _, _, _⟩) rfl 180 (.tmp 3) (.tmp 75) rfl (G + 1 + 1) #[.int .i64 0, .int .i64 0, .int .i64 0, .int .i64 0, .int .i64 0, .int .i64 0, .int .i64 0, .int .i64 0, .int .i64 0, .int .i64 0, .int .i64 0, .int .i64 0, .int .i64 0, .int .i64 0, .int .i64 0, .int .i64 0, .slice none 0 0, .slice none 0 0, .slice none 0 0, .slice none 0 0, .slice none 0 0, .slice none 0 0, .slice none 0 0, .slice none 0 0, .slice none 0 0, .slice none 0 0, .slice none 0 0, .slice none 0 0, .slice none 0 0, .slice none 0 0, .slice none 0 0, .slice none 0 0] rfl rfl 180 _ ku1.out.1.eq zi.out zl.out zo.out ?_); rw [hu2])
                | ((with_reducible refine wpList_store_row (o := ⟨none, .store 180 (.tmp 4) (.tmp 76), _, _, _, _⟩) rfl 180 (.tmp 4) (.tmp 76) rfl (G + 1 + 1 + 1) #[.int .i64 0, .int .i64 0, .int .i64 0, .int .i64 0, .int .i64 0, .int .i64 0, .int .i64 0, .int .i64 0, .int .i64 0, .int .i64 0, .int .i64 0, .int .i64 0, .int .i64 0, .int .i64 0, .int .i64 0, .int .i64 0, .slice none 0 0, .slice none 0 0, .slice none 0 0, .slice none 0 0, .slice none 0 0, .slice none 0 0, .slice none 0 0, .slice none 0 0, .slice none 0 0, .slice none 0 0, .slice none 0 0, .slice none 0 0, .slice none 0 0, .slice none 0 0, .slice none 0 0, .slice none 0 0] rfl rfl 180 _ ku2.out.eq zi.out zl.out zo.out ?_); rw [hu3]))
              rw [hRe.out]
              exact DynPost.bad rfl f32.out s32.out k32.out hBw.out (by omega) rfl rfl rfl hu1 hu2 hu3 rfl rfl hbd3.out
          · have hbd := hide h5
            clear h5
            have hez : ((e5 : Int) == 0) = false := by simp; have := hbd.out; omega
            have hez2 : ((e5 : Int) != 0) = true := by simp; have := hbd.out; omega
            have hRe := hide (ht.out.2 hbd.out)
            obtain ⟨u1, hu1⟩ : ∃ W, w30.setRow (G + 1) #[.slice Al n cl, .int .i64 (a5 : Nat), .slice Ao m co, .int .i64 (most : Nat), .int .i64 (e5 : Nat)] = W := ⟨_, rfl⟩
            obtain ⟨u2, hu2⟩ : ∃ W, u1.setRow (G + 1 + 1) #[.int .i64 0, .int .i64 0, .int .i64 0, .int .i64 0, .int .i64 0, .int .i64 0, .int .i64 0, .int .i64 0, .int .i64 0, .int .i64 0, .int .i64 0, .int .i64 0, .int .i64 0, .int .i64 0, .int .i64 0, .int .i64 0, .slice none 0 0, .slice none 0 0, .slice none 0 0, .slice none 0 0, .slice none 0 0, .slice none 0 0, .slice none 0 0, .slice none 0 0, .slice none 0 0, .slice none 0 0, .slice none 0 0, .slice none 0 0, .slice none 0 0, .slice none 0 0, .slice none 0 0, .slice none 0 0] = W := ⟨_, rfl⟩
            obtain ⟨u3, hu3⟩ : ∃ W, u2.setRow (G + 1 + 1 + 1) #[.int .i64 0, .int .i64 0, .int .i64 0, .int .i64 0, .int .i64 0, .int .i64 0, .int .i64 0, .int .i64 0, .int .i64 0, .int .i64 0, .int .i64 0, .int .i64 0, .int .i64 0, .int .i64 0, .int .i64 0, .int .i64 0, .slice none 0 0, .slice none 0 0, .slice none 0 0, .slice none 0 0, .slice none 0 0, .slice none 0 0, .slice none 0 0, .slice none 0 0, .slice none 0 0, .slice none 0 0, .slice none 0 0, .slice none 0 0, .slice none 0 0, .slice none 0 0, .slice none 0 0, .slice none 0 0] = W := ⟨_, rfl⟩
            have ku1 := hide (show Blk u1 (G + 1 + 1) 180 z32 ∧ Blk u1 (G + 1 + 1 + 1) 180 z32 from by rw [← hu1]; exact ⟨(k30.out.row f30.out.kR).k1, (k30.out.row f30.out.kR).k2⟩)
            have ku2 := hide (show Blk u2 (G + 1 + 1 + 1) 180 z32 from by rw [← hu2]; exact (setRow_other u1 (G + 1 + 1) (G + 1 + 1 + 1) _ (by omega)).trans ku1.out.2)
            go_wp2_with (first
              | (with_reducible refine wpList_load_row (o := ⟨some 74, .load 173 (.tmp 1), _, _, _, _⟩) rfl 173 (.tmp 1) rfl G rfl 173 _ (0, 0) _ f30.out.kG.eq Tryz.underlying173 rfl (st_infos _ _ _ _ _) ?_)
              | ((with_reducible refine wpList_store_row (o := ⟨none, .store 173 (.tmp 2) (.tmp 74), _, _, _, _⟩) rfl 173 (.tmp 2) (.tmp 74) rfl (G + 1) #[.slice Al n cl, .int .i64 (a5 : Nat), .slice Ao m co, .int .i64 (most : Nat), .int .i64 (e5 : Nat)] rfl rfl 173 _ f30.out.kR.eq (st_infos _ _ _ _ _) (st_hold _ _ _ _ _ _ _ _ _ _) (st_one _ _ _ _ _ _ _ _ _) ?_); rw [hu1])
              | ((with_reducible refine wpList_store_row (o := ⟨none, .store 180 (.tmp 3) (.tmp 75), _, _, _, _⟩) rfl 180 (.tmp 3) (.tmp 75) rfl (G + 1 + 1) #[.int .i64 0, .int .i64 0, .int .i64 0, .int .i64 0, .int .i64 0, .int .i64 0, .int .i64 0, .int .i64 0, .int .i64 0, .int .i64 0, .int .i64 0, .int .i64 0, .int .i64 0, .int .i64 0, .int .i64 0, .int .i64 0, .slice none 0 0, .slice none 0 0, .slice none 0 0, .slice none 0 0, .slice none 0 0, .slice none 0 0, .slice none 0 0, .slice none 0 0, .slice none 0 0, .slice none 0 0, .slice none 0 0, .slice none 0 0, .slice none 0 0, .slice none 0 0, .slice none 0 0, .slice none 0 0] rfl rfl 180 _ ku1.out.1.eq zi.out zl.out zo.out ?_); rw [hu2])
              | ((with_reducible refine wpList_store_row (o := ⟨none, .store 180 (.tmp 4) (.tmp 76), _, _, _, _⟩) rfl 180 (.tmp 4) (.tmp 76) rfl (G + 1 + 1 + 1) #[.int .i64 0, .int .i64 0, .int .i64 0, .int .i64 0, .int .i64 0, .int .i64 0, .int .i64 0, .int .i64 0, .int .i64 0, .int .i64 0, .int .i64 0, .int .i64 0, .int .i64 0, .int .i64 0, .int .i64 0, .int .i64 0, .slice none 0 0, .slice none 0 0, .slice none 0 0, .slice none 0 0, .slice none 0 0, .slice none 0 0, .slice none 0 0, .slice none 0 0, .slice none 0 0, .slice none 0 0, .slice none 0 0, .slice none 0 0, .slice none 0 0, .slice none 0 0, .slice none 0 0, .slice none 0 0] rfl rfl 180 _ ku2.out.eq zi.out zl.out zo.out ?_); rw [hu3]))
            rw [hRe.out]
            exact DynPost.bad rfl f30.out s30.out k30.out hBw.out (by omega) rfl rfl rfl hu1 hu2 hu3 rfl rfl hbd.out
  · have hez : ((e2 : Int) == 0) = false := by simp; omega
    have hRe := hide (hst.out.1 he2)
    have hbad := hide he2
    have hq4 : RI.bits l 4 a2 e2 = (a2, e2, 0) := by unfold RI.bits; rw [if_neg he2]
    have htl := hide (show RI.TL l (RI.cont l x y) (0 + 4) 0 (List.replicate 19 0) a2 e2 o RR from ⟨fun h => absurd h hbad.out, fun _ => hRe.out⟩)
    replace he2 := hide he2
    clear hst
    have hc4 := hide (c_bits s8.out rfl 4 (by decide) (K := 4) rfl hq4)
    go_upto_region 6 with (first
      | (with_reducible refine wpList_load_row (o := ⟨some 37, .load 173 (.tmp 1), _, _, _, _⟩) rfl 173 (.tmp 1) rfl G rfl 173 _ (0, 0) _ f8.out.kG.eq Tryz.underlying173 rfl (st_infos _ _ _ _ _) ?_)
      | (go_at_call 119; (with_reducible refine (hc4.out).mono ?_); rintro e w9 ⟨rfl, s9, b9⟩; have s9 := hide s9; have f9 := hide (f8.out.below b9); have k9 := hide (k8.out.below b9); clear b9; obtain ⟨w10, hw10⟩ : ∃ W, w9.setRow G #[.slice Al n cl, .int .i64 (a2 : Nat), .slice Ao m co, .int .i64 (most : Nat), .int .i64 (e2 : Nat)] = W := ⟨_, rfl⟩; have s10 := hide (show RSt w10 B l most a2 o e2 Al n cl Ao m co from by rw [← hw10]; exact s9.out.row f9.out.kG hBG.out _); have f10 := hide (show SB w w.heap.size G (G + 1) (.slice Al n cl) (.int .i64 (a2 : Nat)) (.slice Ao m co) (.int .i64 (most : Nat)) (.int .i64 (e2 : Nat)) w10 from by rw [← hw10]; exact f9.out.row _ _ _ _ _); have k10 := hide (show KBs (G + 1 + 1) w10 from by rw [← hw10]; exact k9.out.row f9.out.kG))
      | ((with_reducible refine wpList_store_row (o := ⟨none, .store 173 (.tmp 1) (.tmp 39), _, _, _, _⟩) rfl 173 (.tmp 1) (.tmp 39) rfl G #[.slice Al n cl, .int .i64 (a2 : Nat), .slice Ao m co, .int .i64 (most : Nat), .int .i64 (e2 : Nat)] rfl rfl 173 _ f9.out.kG.eq (st_infos _ _ _ _ _) (st_hold _ _ _ _ _ _ _ _ _ _) (st_one _ _ _ _ _ _ _ _ _) ?_); rw [hw10]))
    obtain ⟨v5, hv5⟩ : ∃ W, w10.alloc (.cells (madeCells #[.int .i64 0] 19) 3) = W := ⟨_, rfl⟩
    obtain ⟨gl, hgl⟩ : ∃ g, w10.heap.size = g := ⟨_, rfl⟩
    have bv5 := (show Below w10.heap.size w10 v5 from by rw [← hv5]; exact (Below.refl _ w10).alloc (Nat.le_refl _) _)
    have sv5 := hide (s10.out.below bv5)
    have fv5 := hide (f10.out.below bv5)
    have kv5 := hide (k10.out.below bv5)
    have lv5 := hide (show Blk v5 gl 3 ((List.replicate 19 0).map jv).toArray from by rw [← hv5, ← hgl, ← made_ints]; exact Blk.new w10 _ _)
    have hgw := hide (show w.heap.size ≤ gl ∧ gl ≠ G ∧ gl ≠ G + 1 ∧ gl ≠ G + 1 + 1 ∧ gl ≠ G + 1 + 1 + 1 from by have h1 := f10.out.kG.lt; have h2 := f10.out.kR.lt; have h3 := k10.out.k1.lt; have h4 := k10.out.k2.lt; exact ⟨by omega, by omega, by omega, by omega, by omega⟩)
    clear s8 f8 k8 hc4 s9 f9 k9 s10 f10 k10 bv5 ee
    obtain ⟨MM, hMM⟩ : ∃ M, 0 + 4 = M := ⟨_, rfl⟩
    have hMI : IntKind.i64.wrap ((0 : Int) + 4) = (MM : Int) := by rw [IntKind.wrap_i64]; omega
    have hMI2 : (0 : Int) + 4 = (MM : Int) := by omega
    have hM19 : MM ≤ 19 := by omega
    rw [hMM] at htl
    replace hMM := hide hMM
    go_wp2
    clear hv5 hgl
    go_loopw [9, 10, 11] (fun s9 s10 s11 wr => ∃ (i a' e' : Nat) (acc : List Nat), i ≤ MM ∧ s9 = .int .i64 (i : Int) ∧ Hid (acc.length = 19) ∧ Hid (∀ y ∈ acc, y ≤ 15) ∧ Hid (RSt wr B l most a' o e' Al n cl Ao m co) ∧ Hid (SB w w.heap.size G (G + 1) (.slice Al n cl) (.int .i64 (a' : Nat)) (.slice Ao m co) (.int .i64 (most : Nat)) (.int .i64 (e' : Nat)) wr) ∧ Hid (KBs (G + 1 + 1) wr) ∧ Hid (Blk wr gl 3 (acc.map jv).toArray) ∧ Hid (RI.TL l (RI.cont l x y) MM i acc a' e' o RR) ∧ Hid (e' ≠ 0)) (fun s9 _ _ _ => MM - (intOf s9).toNat)
    case atStart => exact ⟨0, a2, e2, List.replicate 19 0, Nat.zero_le _, rfl, hide (by simp), hide (by intro y hy; rw [(List.mem_replicate.1 hy).2]; exact Nat.zero_le _), sv5, fv5, kv5, lv5, htl, hide hbad.out⟩
    case round =>
      clear sv5 fv5 kv5 lv5 htl
      obtain ⟨i, a5, e5, acc, hi, rfl, hal, h15, s30, f30, k30, l30, ht, hbd⟩ := hrel
      obtain ⟨w30, rfl⟩ : ∃ W, W = wr := ⟨_, rfl⟩
      by_cases hlt : i < MM
      · have hltI : (i : Int) < (MM : Int) := by omega
        have hiI : (i : Int) ≤ 18 := by omega
        have hi0 : (0 : Int) ≤ (i : Int) := by omega
        have hii : IntKind.i64.wrap ((i : Int) + 1) = (i : Int) + 1 := by rw [IntKind.wrap_i64]; omega
        obtain ⟨⟨a6, e6, v⟩, hq6⟩ : ∃ r, RI.bits l 3 a5 e5 = r := ⟨_, rfl⟩
        have hv8 := RI.bits_lt hq6
        have hnx := hide (ht.out.next hlt hq6)
        have hbd6 := hide (show e6 ≠ 0 from by rw [(RI.bits_off hq6 hbd.out).1]; exact hbd.out)
        have hq19 := Inf.order_le i (by omega)
        have hcO := order_at i (by omega)
        have hc6 := hide (c_bits s30.out rfl 3 (by decide) (K := 3) rfl hq6)
        generalize Inf.order.getD i 0 = q at *
        have hqI : (q : Int) ≤ 18 := by omega
        have hq0 : (0 : Int) ≤ (q : Int) := by omega
        replace hcO := hide hcO
        replace hq6 := hide hq6
        go_wp2_with (first
          | (with_reducible refine wpList_load_row (o := ⟨some 49, .load 173 (.tmp 1), _, _, _, _⟩) rfl 173 (.tmp 1) rfl G rfl 173 _ (0, 0) _ f30.out.kG.eq Tryz.underlying173 rfl (st_infos _ _ _ _ _) ?_)
          | (go_at_call 119; (with_reducible refine (hc6.out).mono ?_); rintro e w31 ⟨rfl, s31, b31⟩; have s31 := hide s31; have f31 := hide (f30.out.below b31); have k31 := hide (k30.out.below b31); have l31 := hide (l30.out.below b31 l30.out.lt); clear b31;
             obtain ⟨T, hT⟩ : ∃ T, w31.heap.size = T := ⟨_, rfl⟩; have hTG := hide (show T ≠ G ∧ T ≠ G + 1 ∧ w.heap.size ≤ T ∧ T ≠ gl from ⟨by have := f31.out.kG.lt; omega, by have := f31.out.kR.lt; omega, by have := f31.out.kG.lt; have := f31.out.hG; omega, by have := l31.out.lt; omega⟩);
             obtain ⟨w32, hw32⟩ : ∃ W, w31.alloc (.cells #[.slice none 0 0, .int .i64 0, .slice none 0 0, .int .i64 0, .int .i64 0] 173) = W := ⟨_, rfl⟩; have kT := hide (show Blk w32 T 173 #[.slice none 0 0, .int .i64 0, .slice none 0 0, .int .i64 0, .int .i64 0] from by rw [← hw32, ← hT]; exact Blk.new w31 _ _); have b32 := (show Below w31.heap.size w31 w32 from by rw [← hw32]; exact (Below.refl _ w31).alloc (Nat.le_refl _) _); have s32 := hide (s31.out.below b32); have f32 := hide (f31.out.below b32); have k32 := hide (k31.out.below b32); have l32 := hide (l31.out.below b32 l31.out.lt); clear b32;
             obtain ⟨w33, hw33⟩ : ∃ W, w32.setRow T #[.slice Al n cl, .int .i64 (a6 : Nat), .slice Ao m co, .int .i64 (most : Nat), .int .i64 (e6 : Nat)] = W := ⟨_, rfl⟩; have kT3 := hide (show Blk w33 T 173 #[.slice Al n cl, .int .i64 (a6 : Nat), .slice Ao m co, .int .i64 (most : Nat), .int .i64 (e6 : Nat)] from by rw [← hw33]; exact kT.out.row _); have s33 := hide (show RSt w33 B l most a6 o e6 Al n cl Ao m co from by rw [← hw33]; exact s32.out.row kT.out (Nat.le_trans hBw.out hTG.out.2.2.1) _); have f33 := hide (show SB w w.heap.size G (G + 1) (.slice Al n cl) (.int .i64 (a5 : Nat)) (.slice Ao m co) (.int .i64 (most : Nat)) (.int .i64 (e5 : Nat)) w33 from by rw [← hw33]; exact f32.out.other hTG.out.2.2.1 hTG.out.1 hTG.out.2.1 _); have k33 := hide (show KBs (G + 1 + 1) w33 from by rw [← hw33]; exact k32.out.row kT.out); have l33 := hide (show Blk w33 gl 3 (acc.map jv).toArray from by rw [← hw33]; exact (setRow_other w32 T gl _ (Ne.symm hTG.out.2.2.2)).trans l32.out);
             obtain ⟨w34, hw34⟩ : ∃ W, w33.setRow G #[.slice Al n cl, .int .i64 (a6 : Nat), .slice Ao m co, .int .i64 (most : Nat), .int .i64 (e6 : Nat)] = W := ⟨_, rfl⟩; have s34 := hide (show RSt w34 B l most a6 o e6 Al n cl Ao m co from by rw [← hw34]; exact s33.out.row f33.out.kG hBG.out _); have f34 := hide (show SB w w.heap.size G (G + 1) (.slice Al n cl) (.int .i64 (a6 : Nat)) (.slice Ao m co) (.int .i64 (most : Nat)) (.int .i64 (e6 : Nat)) w34 from by rw [← hw34]; exact f33.out.row _ _ _ _ _); have k34 := hide (show KBs (G + 1 + 1) w34 from by rw [← hw34]; exact k33.out.row f33.out.kG); have l34 := hide (show Blk w34 gl 3 (acc.map jv).toArray from by rw [← hw34]; exact (setRow_other w33 G gl _ hgw.out.2.1).trans l33.out); have hor := hide (ri_order w34))
          | ((with_reducible refine wpList_store_row (o := ⟨none, .store 173 (.tmp 10) (.tmp 51), _, _, _, _⟩) rfl 173 (.tmp 10) (.tmp 51) rfl T #[.slice Al n cl, .int .i64 (a6 : Nat), .slice Ao m co, .int .i64 (most : Nat), .int .i64 (e6 : Nat)] rfl rfl 173 _ kT.out.eq (st_infos _ _ _ _ _) (st_hold _ _ _ _ _ _ _ _ _ _) (st_one _ _ _ _ _ _ _ _ _) ?_); rw [hw33])
          | (with_reducible refine wpList_load_row (o := ⟨some 53, .load 173 (.tmp 10), _, _, _, _⟩) rfl 173 (.tmp 10) rfl T rfl 173 _ (0, 0) _ kT3.out.eq Tryz.underlying173 rfl (st_infos _ _ _ _ _) ?_)
          | ((with_reducible refine wpList_store_row (o := ⟨none, .store 173 (.tmp 1) (.tmp 53), _, _, _, _⟩) rfl 173 (.tmp 1) (.tmp 53) rfl G #[.slice Al n cl, .int .i64 (a6 : Nat), .slice Ao m co, .int .i64 (most : Nat), .int .i64 (e6 : Nat)] rfl rfl 173 _ f33.out.kG.eq (st_infos _ _ _ _ _) (st_hold _ _ _ _ _ _ _ _ _ _) (st_one _ _ _ _ _ _ _ _ _) ?_); rw [hw34])
          | (go_at_call 155; (with_reducible refine (hor.out).mono ?_); rintro e w35 ⟨rfl, kO, b35⟩; have cO : w35.cell? ⟨w34.heap.size, i, none⟩ = some (.int .i64 (q : Int)) := (by rw [kO.cell]; exact hcO.out); have s35 := hide (s34.out.below b35); have f35 := hide (f34.out.below b35); have k35 := hide (k34.out.below b35); have l35 := (l34.out.below b35 l34.out.lt); clear kO b35; have fl := l35.free q; obtain ⟨z, cl5⟩ : ∃ z, w35.cell? ⟨gl, q, none⟩ = some z := (by rw [l35.cell, List.getElem?_toArray, List.getElem?_map, List.getElem?_eq_getElem (by rw [hal.out]; omega)]; exact ⟨_, rfl⟩); have l35 := hide l35))
        obtain ⟨w36, hw36⟩ : ∃ W, w35.setCell ⟨gl, q, none⟩ (.int .i64 (v : Int)) = W := ⟨_, rfl⟩
        rw [hw36]
        have hch := (show Chg (fun k => k = gl) w35 w36 from by rw [← hw36]; exact (Chg.refl (fun k => k = gl) w35).setCell (p := ⟨gl, q, none⟩) (.inr rfl) _)
        have s36 := hide (s35.out.calm l35.out (Nat.le_trans hBw.out hgw.out.1) hch)
        have f36 := hide (f35.out.calm l35.out hgw.out.1 hch)
        have k36 := hide (k35.out.calm l35.out hch)
        have l36 := hide (show Blk w36 gl 3 ((acc.set q v).map jv).toArray from by
          have := l35.out.set q (.int .i64 (v : Int))
          rw [hw36] at this
          rw [List.map_set, ← List.setIfInBounds_toArray]
          exact this)
        have hal6 := hide (show (acc.set q v).length = 19 from by rw [List.length_set]; exact hal.out)
        have h156 := hide (show ∀ y ∈ acc.set q v, y ≤ 15 from fun y hy => by
          rcases List.mem_or_eq_of_mem_set hy with h | h
          · exact h15.out y h
          · omega)
        clear hch hw36 s35 f35 k35 l35
        go_roundw
        case rel => exact ⟨i + 1, a6, e6, acc.set q v, by omega, by go_num, hal6, h156, s36, f36, k36, l36, hnx, hbd6⟩
        case measure => simp [intOf] <;> omega
      · obtain rfl : i = MM := by omega
        have ee := f30.out.kG.cell 4
        simp only [List.getElem?_toArray, List.getElem?_cons_succ, List.getElem?_cons_zero] at ee
        have hez : ((e5 : Int) == 0) = false := by simp; have := hbd.out; omega
        have hez2 : ((e5 : Int) != 0) = true := by simp; have := hbd.out; omega
        have hRe := hide (ht.out.2 hbd.out)
        obtain ⟨u1, hu1⟩ : ∃ W, w30.setRow (G + 1) #[.slice Al n cl, .int .i64 (a5 : Nat), .slice Ao m co, .int .i64 (most : Nat), .int .i64 (e5 : Nat)] = W := ⟨_, rfl⟩
        obtain ⟨u2, hu2⟩ : ∃ W, u1.setRow (G + 1 + 1) #[.int .i64 0, .int .i64 0, .int .i64 0, .int .i64 0, .int .i64 0, .int .i64 0, .int .i64 0, .int .i64 0, .int .i64 0, .int .i64 0, .int .i64 0, .int .i64 0, .int .i64 0, .int .i64 0, .int .i64 0, .int .i64 0, .slice none 0 0, .slice none 0 0, .slice none 0 0, .slice none 0 0, .slice none 0 0, .slice none 0 0, .slice none 0 0, .slice none 0 0, .slice none 0 0, .slice none 0 0, .slice none 0 0, .slice none 0 0, .slice none 0 0, .slice none 0 0, .slice none 0 0, .slice none 0 0] = W := ⟨_, rfl⟩
        obtain ⟨u3, hu3⟩ : ∃ W, u2.setRow (G + 1 + 1 + 1) #[.int .i64 0, .int .i64 0, .int .i64 0, .int .i64 0, .int .i64 0, .int .i64 0, .int .i64 0, .int .i64 0, .int .i64 0, .int .i64 0, .int .i64 0, .int .i64 0, .int .i64 0, .int .i64 0, .int .i64 0, .int .i64 0, .slice none 0 0, .slice none 0 0, .slice none 0 0, .slice none 0 0, .slice none 0 0, .slice none 0 0, .slice none 0 0, .slice none 0 0, .slice none 0 0, .slice none 0 0, .slice none 0 0, .slice none 0 0, .slice none 0 0, .slice none 0 0, .slice none 0 0, .slice none 0 0] = W := ⟨_, rfl⟩
        have ku1 := hide (show Blk u1 (G + 1 + 1) 180 z32 ∧ Blk u1 (G + 1 + 1 + 1) 180 z32 from by rw [← hu1]; exact ⟨(k30.out.row f30.out.kR).k1, (k30.out.row f30.out.kR).k2⟩)
        have ku2 := hide (show Blk u2 (G + 1 + 1 + 1) 180 z32 from by rw [← hu2]; exact (setRow_other u1 (G + 1 + 1) (G + 1 + 1 + 1) _ (by omega)).trans ku1.out.2)
        go_wp2_with (first
          | (with_reducible refine wpList_load_row (o := ⟨some 74, .load 173 (.tmp 1), _, _, _, _⟩) rfl 173 (.tmp 1) rfl G rfl 173 _ (0, 0) _ f30.out.kG.eq Tryz.underlying173 rfl (st_infos _ _ _ _ _) ?_)
          | ((with_reducible refine wpList_store_row (o := ⟨none, .store 173 (.tmp 2) (.tmp 74), _, _, _, _⟩) rfl 173 (.tmp 2) (.tmp 74) rfl (G + 1) #[.slice Al n cl, .int .i64 (a5 : Nat), .slice Ao m co, .int .i64 (most : Nat), .int .i64 (e5 : Nat)] rfl rfl 173 _ f30.out.kR.eq (st_infos _ _ _ _ _) (st_hold _ _ _ _ _ _ _ _ _ _) (st_one _ _ _ _ _ _ _ _ _) ?_); rw [hu1])
          | ((with_reducible refine wpList_store_row (o := ⟨none, .store 180 (.tmp 3) (.tmp 75), _, _, _, _⟩) rfl 180 (.tmp 3) (.tmp 75) rfl (G + 1 + 1) #[.int .i64 0, .int .i64 0, .int .i64 0, .int .i64 0, .int .i64 0, .int .i64 0, .int .i64 0, .int .i64 0, .int .i64 0, .int .i64 0, .int .i64 0, .int .i64 0, .int .i64 0, .int .i64 0, .int .i64 0, .int .i64 0, .slice none 0 0, .slice none 0 0, .slice none 0 0, .slice none 0 0, .slice none 0 0, .slice none 0 0, .slice none 0 0, .slice none 0 0, .slice none 0 0, .slice none 0 0, .slice none 0 0, .slice none 0 0, .slice none 0 0, .slice none 0 0, .slice none 0 0, .slice none 0 0] rfl rfl 180 _ ku1.out.1.eq zi.out zl.out zo.out ?_); rw [hu2])
          | ((with_reducible refine wpList_store_row (o := ⟨none, .store 180 (.tmp 4) (.tmp 76), _, _, _, _⟩) rfl 180 (.tmp 4) (.tmp 76) rfl (G + 1 + 1 + 1) #[.int .i64 0, .int .i64 0, .int .i64 0, .int .i64 0, .int .i64 0, .int .i64 0, .int .i64 0, .int .i64 0, .int .i64 0, .int .i64 0, .int .i64 0, .int .i64 0, .int .i64 0, .int .i64 0, .int .i64 0, .int .i64 0, .slice none 0 0, .slice none 0 0, .slice none 0 0, .slice none 0 0, .slice none 0 0, .slice none 0 0, .slice none 0 0, .slice none 0 0, .slice none 0 0, .slice none 0 0, .slice none 0 0, .slice none 0 0, .slice none 0 0, .slice none 0 0, .slice none 0 0, .slice none 0 0] rfl rfl 180 _ ku2.out.eq zi.out zl.out zo.out ?_); rw [hu3]))
        rw [hRe.out]
        exact DynPost.bad rfl f30.out s30.out k30.out hBw.out (by omega) rfl rfl rfl hu1 hu2 hu3 rfl rfl hbd.out

end Go.Proofs.YtaapjampmnanmaaGreat

namespace Go.Proofs.YtaapjampmnanmaaGreat
open Go.RowKit Go.Shelf
set_option linter.unusedVariables false
set_option linter.unusedSimpArgs false

/-- Data's own block: its state. -/
structure DS (w : World) (G : Nat) (c0 c1 c2 c3 c4 : Value) (W : World) : Prop where
  kG : Blk W G 173 #[c0, c1, c2, c3, c4]
  bl : Below G w W
  hs : G ≤ w.heap.size
section
variable {w W W' : World} {G : Nat} {c0 c1 c2 c3 c4 : Value}
theorem DS.below (h : DS w G c0 c1 c2 c3 c4 W) (hb : Below W.heap.size W W') : DS w G c0 c1 c2 c3 c4 W' := ⟨h.kG.below hb h.kG.lt, h.bl.trans (hb.mono (Nat.le_of_lt h.kG.lt)), h.hs⟩
theorem DS.keep (h : DS w G c0 c1 c2 c3 c4 W) (hb : Below G W W') (hx : KeepX W W') : DS w G c0 c1 c2 c3 c4 W' := ⟨hx.row h.kG (by decide) (by decide) (by decide), h.bl.trans hb, h.hs⟩
theorem DS.row (h : DS w G c0 c1 c2 c3 c4 W) (d0 d1 d2 d3 d4 : Value) : DS w G d0 d1 d2 d3 d4 (W.setRow G #[d0, d1, d2, d3, d4]) := ⟨h.kG.row _, below_row h.bl (Nat.le_refl _) _, h.hs⟩
theorem DS.other (h : DS w G c0 c1 c2 c3 c4 W) {T : Nat} (hT : G < T) (cs : Array Value) : DS w G c0 c1 c2 c3 c4 (W.setRow T cs) := ⟨(setRow_other W T G _ (by omega)).trans h.kG, below_row h.bl (by omega) _, h.hs⟩
end
/-- What a block leaves. -/
def RI.Blo (l : List Bool) (most F g a : Nat) (f : Nat) (RR r : Inf.R Unit) : Prop :=
  (∀ er, r = .inl er → RR = .inl er) ∧ (∀ a3 o3, r = .inr ((), a3, o3) → a < a3 ∧ (if f = 1 then Inf.ret () else Inf.blocks l most F g) a3 o3 = RR)
theorem RI.blo_of {l : List Bool} {most F g a f : Nat} {RR r : Inf.R Unit} (hM : ∀ a3 o3, r = .inr ((), a3, o3) → a < a3) (h : (match r with | .inl er => .inl er | .inr (_, a3, o3) => (if (f == 1) then Inf.ret () else Inf.blocks l most F g) a3 o3) = RR) : RI.Blo l most F g a f RR r := by
  constructor
  · rintro er rfl
    exact h.symm
  · rintro a3 o3 rfl
    refine ⟨hM _ _ rfl, ?_⟩
    rw [← h]
    by_cases hf : f = 1
    · subst hf; rfl
    · have hb : (f == 1) = false := by simp; omega
      simp only [hb, if_neg hf]
      rfl
theorem RI.bind_blo {l : List Bool} {most F g a f : Nat} {p : Inf.M Unit} {a2 : Nat} {o : List UInt8} {RR : Inf.R Unit} (hM : ∀ a3 o3, p a2 o = .inr ((), a3, o3) → a < a3) (h : Inf.bind (Inf.bind p fun _ => Inf.ret (f == 1)) (fun fin => if fin then Inf.ret () else Inf.blocks l most F g) a2 o = RR) : RI.Blo l most F g a f RR (p a2 o) := by
  revert hM h
  unfold Inf.bind
  cases p a2 o with
  | inl er => intro hM h; exact RI.blo_of hM h
  | inr x => intro hM h; exact RI.blo_of hM h
theorem RI.bits_more {l : List Bool} {k a a1 y : Nat} (h : RI.bits l (k + 1) a 0 = (a1, 0, y)) : a < a1 := by
  unfold RI.bits at h
  rw [if_pos rfl] at h
  split at h
  · cases h; omega
  · cases h
theorem RI.block_next {l : List Bool} {most F g a a1 e1 f a2 e2 k : Nat} {o : List UInt8} {RR : Inf.R Unit} (hr : Inf.blocks l most F (g + 1) a o = RR) (h1 : RI.bits l 1 a 0 = (a1, e1, f)) (h2 : RI.bits l 2 a1 e1 = (a2, e2, k)) :
    (e2 ≠ 0 → RR = .inl e2) ∧ (e2 = 0 → (k = 0 → RI.Blo l most F g a f RR (Inf.stored l most a2 o)) ∧ (k = 1 → RI.Blo l most F g a f RR (Inf.symbols l most lsF (List.replicate 32 5) F a2 o)) ∧
      (k = 2 → (∀ er, Inf.dynamic l a2 o = .inl er → RR = .inl er) ∧ (∀ x a3 o3, Inf.dynamic l a2 o = .inr (x, a3, o3) → RI.Blo l most F g a f RR (Inf.symbols l most x.1 x.2 F a3 o3))) ∧
      (k ≠ 0 → k ≠ 1 → k ≠ 2 → RR = .inl 3)) := by
  have hu : Inf.bind (Inf.bits l 1) (fun fin => Inf.bind (Inf.bits l 2) fun k => Inf.bind (if k = 0 then Inf.bind (Inf.stored l most) fun _ => Inf.ret (fin == 1)
    else if k = 1 then Inf.bind (Inf.symbols l most lsF (List.replicate 32 5) F) fun _ => Inf.ret (fin == 1)
    else if k = 2 then Inf.bind (Inf.dynamic l) fun c => Inf.bind (Inf.symbols l most c.1 c.2 F) fun _ => Inf.ret (fin == 1)
    else Inf.err 3) fun fin => if fin then Inf.ret () else Inf.blocks l most F g) a o = RR := by
    rw [← hr, Inf.blocks]
    unfold Inf.block
    rw [Inf.bind_assoc]
    congr 1
    funext fin
    funext a' o'
    rw [Inf.bind_assoc]
  have b1 := RI.bits_step (o := o) h1 (fun fin => Inf.bind (Inf.bits l 2) fun k => Inf.bind (if k = 0 then Inf.bind (Inf.stored l most) fun _ => Inf.ret (fin == 1)
    else if k = 1 then Inf.bind (Inf.symbols l most lsF (List.replicate 32 5) F) fun _ => Inf.ret (fin == 1)
    else if k = 2 then Inf.bind (Inf.dynamic l) fun c => Inf.bind (Inf.symbols l most c.1 c.2 F) fun _ => Inf.ret (fin == 1)
    else Inf.err 3) fun fin => if fin then Inf.ret () else Inf.blocks l most F g)
  rw [hu] at b1
  by_cases he1 : e1 = 0
  · have hb := b1.1 he1
    subst he1
    have b2 := RI.bits_step (o := o) h2 (fun k => Inf.bind (if k = 0 then Inf.bind (Inf.stored l most) fun _ => Inf.ret (f == 1)
      else if k = 1 then Inf.bind (Inf.symbols l most lsF (List.replicate 32 5) F) fun _ => Inf.ret (f == 1)
      else if k = 2 then Inf.bind (Inf.dynamic l) fun c => Inf.bind (Inf.symbols l most c.1 c.2 F) fun _ => Inf.ret (f == 1)
      else Inf.err 3) fun fin => if fin then Inf.ret () else Inf.blocks l most F g)
    rw [← hb] at b2
    refine ⟨fun h => (b2.2 h).1, fun h => ?_⟩
    have hb2 := b2.1 h
    subst h
    have ha := Nat.lt_trans (RI.bits_more h1) (RI.bits_more h2)
    refine ⟨fun hk => ?_, fun hk => ?_, fun hk => ⟨fun er he => ?_, fun x a3 o3 he => ?_⟩, fun k0 k1 k2 => ?_⟩
    · rw [if_pos hk] at hb2
      exact RI.bind_blo (fun a3 o3 h3 => Nat.lt_of_lt_of_le ha ((Inf.Mono.stored most).1 l _ _ _ _ _ h3)) hb2.symm
    · rw [if_neg (by omega), if_pos hk] at hb2
      exact RI.bind_blo (fun a3 o3 h3 => Nat.lt_of_lt_of_le ha ((Inf.Mono.symbols most lsF (List.replicate 32 5) F).1 l _ _ _ _ _ h3)) hb2.symm
    · rw [if_neg (by omega), if_neg (by omega), if_pos hk, Inf.bind_assoc, Inf.bind_err he] at hb2
      exact hb2
    · rw [if_neg (by omega), if_neg (by omega), if_pos hk, Inf.bind_assoc, Inf.bind_ok he] at hb2
      exact RI.bind_blo (fun a4 o4 h4 => Nat.lt_of_lt_of_le ha (Nat.le_trans (Inf.Mono.dynamic.1 l _ _ _ _ _ he) ((Inf.Mono.symbols most x.1 x.2 F).1 l _ _ _ _ _ h4))) hb2.symm
    · rw [if_neg k0, if_neg k1, if_neg k2] at hb2
      exact hb2
  · obtain ⟨r1, _, _⟩ := RI.bits_off h2 he1
    subst r1
    exact ⟨fun _ => (b1.2 he1).1, fun h => absurd h he1⟩
/-- What is left to read of the blocks. -/
def RI.BL (l : List Bool) (most F n gk a : Nat) (o : List UInt8) (e f : Nat) (RR : Inf.R Unit) : Prop :=
  (e = 0 → (if f = 1 then Inf.ret () else Inf.blocks l most F gk) a o = RR ∧ (f = 1 ∨ n < a + gk)) ∧ (e ≠ 0 → RR = .inl e)
theorem RI.BL.next {l : List Bool} {most F n g a a3 e3 f : Nat} {o3 : List UInt8} {RR r : Inf.R Unit} (h : RI.Blo l most F g a f RR r) (hq : RI.is r a3 o3 e3) (hn : n < a + (g + 1)) : RI.BL l most F n g a3 o3 e3 f RR := by
  cases r with
  | inl er =>
    obtain ⟨rfl, h0⟩ := hq
    exact ⟨fun h => absurd h h0, fun _ => h.1 _ rfl⟩
  | inr x =>
    obtain ⟨⟨⟩, a', o'⟩ := x
    obtain ⟨rfl, rfl, rfl⟩ := hq
    exact ⟨fun _ => ⟨(h.2 _ _ rfl).2, .inr (by have := (h.2 _ _ rfl).1; omega)⟩, fun h0 => absurd rfl h0⟩
theorem RI.dis_size {r : Inf.R (List Nat × List Nat)} {a : Nat} {o : List UInt8} {e : Nat} {c1 c2 : Array Value} {base : Nat} {W : World} (h : RI.dis r a o e c1 c2 base W) : c1.size = 32 ∧ c2.size = 32 ∧ c1.all (·.oneCell') = true ∧ c2.all (·.oneCell') = true := by
  cases r with
  | inl er =>
    obtain ⟨_, _, rfl, rfl⟩ := h
    exact ⟨z32_size, z32_size, z32_one, z32_one⟩
  | inr x =>
    obtain ⟨⟨x1, x2⟩, a', o'⟩ := x
    obtain ⟨_, _, _, v1, v2, _⟩ := h
    exact ⟨v1.size, v2.size, v1.one, v2.one⟩
theorem RI.dis_below {r : Inf.R (List Nat × List Nat)} {a : Nat} {o : List UInt8} {e : Nat} {c1 c2 : Array Value} {base : Nat} {W W' : World} (h : RI.dis r a o e c1 c2 base W) (hb : Below W.heap.size W W') : RI.dis r a o e c1 c2 base W' := by
  cases r with
  | inl er => exact h
  | inr x =>
    obtain ⟨⟨x1, x2⟩, a', o'⟩ := x
    obtain ⟨h1, h2, h3, v1, v2, h4⟩ := h
    exact ⟨h1, h2, h3, v1.below hb, v2.below hb, h4⟩
theorem RI.dis_row {r : Inf.R (List Nat × List Nat)} {a : Nat} {o : List UInt8} {e : Nat} {c1 c2 : Array Value} {base : Nat} {W : World} (h : RI.dis r a o e c1 c2 base W) {T : Nat} {x0 x1 : Array Value} (hk : Blk W T 173 x0) : RI.dis r a o e c1 c2 base (W.setRow T x1) := by
  cases r with
  | inl er => exact h
  | inr x =>
    obtain ⟨⟨x1, x2⟩, a', o'⟩ := x
    obtain ⟨h1, h2, h3, v1, v2, h4⟩ := h
    exact ⟨h1, h2, h3, v1.row hk, v2.row hk, h4⟩
theorem RI.dis_brow {r : Inf.R (List Nat × List Nat)} {a : Nat} {o : List UInt8} {e : Nat} {c1 c2 : Array Value} {base : Nat} {W : World} (h : RI.dis r a o e c1 c2 base W) {T : Nat} {x0 x1 : Array Value} (hk : Blk W T 180 x0) : RI.dis r a o e c1 c2 base (W.setRow T x1) := by
  cases r with
  | inl er => exact h
  | inr x =>
    obtain ⟨⟨x1, x2⟩, a', o'⟩ := x
    obtain ⟨h1, h2, h3, v1, v2, h4⟩ := h
    exact ⟨h1, h2, h3, v1.brow hk, v2.brow hk, h4⟩
theorem RI.BL.off {l : List Bool} {most F n g a e f : Nat} {o : List UInt8} {RR : Inf.R Unit} (h : RR = .inl e) (he : e ≠ 0) : RI.BL l most F n g a o e f RR := ⟨fun h0 => absurd h0 he, fun _ => h⟩


set_option maxRecDepth 100000 in
set_option maxHeartbeats 8000000 in
theorem ri_data (A : Option Addr) (n c : Nat) (bs : List UInt8) (most F : Nat) (w : World) (hr : Rd w w.heap.size A n (bs.map bv)) (hn : n ≤ 131072) (hm : most ≤ 1048576) (hF : 8 * n < F) :
    Calls Tryz.prog 92 #[.slice A n c, .int .i64 (most : Nat)] w (InfPost w (Inf.data (Bit.bitsOf bs) most F)) := by
  have hB := hide (refbits_any A n c bs w w.heap.size hr (Nat.le_refl _) (by omega))
  obtain ⟨l, hl⟩ : ∃ l, Bit.bitsOf bs = l := ⟨_, rfl⟩
  obtain ⟨n8, hn8⟩ : ∃ k, 8 * n = k := ⟨_, rfl⟩
  rw [hl, hn8] at hB
  rw [hl]
  have h81 : n8 ≤ 1048576 := by omega
  have h88 : n8 % 8 = 0 := by omega
  rw [hn8] at hF
  obtain ⟨R0, hR0⟩ : ∃ R0, Inf.blocks l most F F 0 [] = R0 := ⟨_, rfl⟩
  have hfin := Inf.data_fin l most F
  rw [hR0] at hfin
  generalize Inf.data l most F = RR at *
  replace hfin := hide hfin
  replace hR0 := hide hR0
  have hmI : (most : Int) ≤ 1048576 := by omega
  have hm0 : (0 : Int) ≤ (most : Int) := by omega
  replace hm := hide hm
  replace hn := hide hn
  replace hF := hide hF
  replace h81 := hide h81
  replace h88 := hide h88
  clear hr hl hn8
  go_enter Tryz.func92, Tryz.ntmps92
  go_upto_region 5 with (first
    | (go_at_call 118; (with_reducible refine (hB.out).mono ?_); rintro e w1 ⟨Al, cl, rfl, ow1, b1⟩; have b1 := hide b1; have ow1 := hide ow1; obtain ⟨G, hG⟩ : ∃ G, w1.heap.size = G := ⟨_, rfl⟩;
       obtain ⟨w2, hw2⟩ : ∃ W, w1.alloc (.cells #[.slice none 0 0, .int .i64 0, .slice none 0 0, .int .i64 0, .int .i64 0] 173) = W := ⟨_, rfl⟩; have k2 := hide (show Blk w2 G 173 #[.slice none 0 0, .int .i64 0, .slice none 0 0, .int .i64 0, .int .i64 0] from by rw [← hw2, ← hG]; exact Blk.new w1 _ _); have d2 := hide (show DS w1 G (.slice none 0 0) (.int .i64 0) (.slice none 0 0) (.int .i64 0) (.int .i64 0) w2 from ⟨k2.out, by rw [← hw2]; exact (Below.refl G w1).alloc (Nat.le_of_eq hG.symm) _, Nat.le_of_eq hG.symm⟩);
       have s2 := hide (show RSt w2 G l most 0 [] 0 Al n8 cl none 0 0 from ⟨Nat.zero_le _, rfl, Nat.zero_le _, by decide, by have := d2.out.kG.lt; omega, (by rcases ow1.out.form with ⟨_, h, _⟩ | ⟨g, _, _, _, h, _⟩ <;> omega), h81.out, hm.out, by have h := ow1.out.rd; rw [hG] at h; exact h.below d2.out.bl, Ow.nil _ _ _⟩); clear k2;
       obtain ⟨w3, hw3⟩ : ∃ W, w2.setRow G #[.slice Al n8 cl, .int .i64 0, .slice none 0 0, .int .i64 (most : Nat), .int .i64 0] = W := ⟨_, rfl⟩; have s3 := hide (show RSt w3 G l most 0 [] 0 Al n8 cl none 0 0 from by rw [← hw3]; exact s2.out.row d2.out.kG (Nat.le_refl _) _); have d3 := hide (show DS w1 G (.slice Al n8 cl) (.int .i64 0) (.slice none 0 0) (.int .i64 (most : Nat)) (.int .i64 0) w3 from by rw [← hw3]; exact d2.out.row _ _ _ _ _))
    | ((with_reducible refine wpList_store_row (o := ⟨none, .store 173 (.tmp 7) (.tmp 24), _, _, _, _⟩) rfl 173 (.tmp 7) (.tmp 24) rfl G #[.slice Al n8 cl, .int .i64 0, .slice none 0 0, .int .i64 (most : Nat), .int .i64 0] rfl rfl 173 _ d2.out.kG.eq (st_infos _ _ _ _ _) (st_hold _ _ _ _ _ _ _ _ _ _) (st_one _ _ _ _ _ _ _ _ _) ?_); rw [hw3]))
  have hGw := hide (show w.heap.size ≤ G from by rw [← hG]; exact b1.out.size)
  clear s2 d2 hB ow1
  go_wp2
  go_loopg [8, 9, 10, 11, 12, 13, 14] F (fun gk s8 s9 s10 s11 s12 s13 s14 wr => ∃ (a' e' f' m' co' : Nat) (o' : List UInt8) (Ao' : Option Addr), s8 = .int .i64 (f' : Int) ∧ f' ≤ 1 ∧ Hid (RSt wr G l most a' o' e' Al n8 cl Ao' m' co') ∧ Hid (DS w1 G (.slice Al n8 cl) (.int .i64 (a' : Nat)) (.slice Ao' m' co') (.int .i64 (most : Nat)) (.int .i64 (e' : Nat)) wr) ∧ Hid (RI.BL l most F n8 gk a' o' e' f' R0))
  case atStart => exact ⟨0, 0, 0, 0, 0, [], none, rfl, by decide, s3, d3, hide ⟨fun _ => ⟨hR0.out, .inr (by rw [Nat.zero_add]; exact hF.out)⟩, fun h => absurd rfl h⟩⟩
  case round =>
    clear s3 d3 hR0
    obtain ⟨a5, e5, f5, m5, co5, o5, A5, rfl, hf5, s5, d5, hbl⟩ := hrel
    obtain ⟨w5, rfl⟩ : ∃ W, W = wr := ⟨_, rfl⟩
    have e5c := d5.out.kG.cell 4
    simp only [List.getElem?_toArray, List.getElem?_cons_succ, List.getElem?_cons_zero] at e5c
    by_cases hf1 : f5 = 1
    · subst hf1
      by_cases he5 : e5 = 0
      · subst he5
        have hRe := hide (show R0 = .inr ((), a5, o5) from by have h := (hbl.out.1 rfl).1; rw [if_pos rfl] at h; exact h.symm)
        clear hbl e5c
        have d4 := d5.out.kG.cell 4
        have d2 := d5.out.kG.cell 2
        have d1 := d5.out.kG.cell 1
        simp only [List.getElem?_toArray, List.getElem?_cons_succ, List.getElem?_cons_zero] at d4 d2 d1
        obtain ⟨Q, hQ⟩ : ∃ Q, (a5 + Bit.gap a5) / 8 = Q := ⟨_, rfl⟩
        have hA8 : (a5 : Int) ≤ 1048576 := by have := s5.out.ha; have := s5.out.hn; omega
        have hA0 : (0 : Int) ≤ (a5 : Int) := by omega
        have hq0 : (a5 + 7) / 8 = Q := by rw [← hQ]; unfold Bit.gap; omega
        have hq1 : IntKind.i64.wrap ((a5 : Int) + 7) = (a5 : Int) + 7 := by rw [IntKind.wrap_i64]; omega
        have hq2 : ((a5 : Int) + 7) / 8 = (Q : Int) := by omega
        have hq3 : IntKind.i64.wrap (Q : Int) = (Q : Int) := by rw [IntKind.wrap_i64]; omega
        have hq4 : ((a5 : Int) + 7).tdiv 8 = (Q : Int) := by rw [Int.tdiv_eq_ediv_of_nonneg (by omega)]; exact hq2
        go_upto_region 21 with fail
        go_quiet (fail)
        go_wp2
        go_ret3
        refine ⟨(b1.out.trans (d5.out.bl.mono hGw.out)).trans (below_drewN (Below.refl _ w5) nq), .inr ⟨o5, Q, A5, co5, by rw [hfin.out, hRe.out, ← hQ]; rfl, by rw [s5.out.hm]; rfl, by rw [s5.out.hm]; exact ((s5.out.ow).below (below_drewN (Below.refl _ w5) nq)).base_le (fun k hk => Nat.le_trans hGw.out ((s5.out.ow).blk_lt k hk).1)⟩⟩
      · have hRe := hide (hbl.out.2 he5)
        have hez2 : ((e5 : Int) != 0) = true := by simp; omega
        clear hbl
        have d4 := d5.out.kG.cell 4
        simp only [List.getElem?_toArray, List.getElem?_cons_succ, List.getElem?_cons_zero] at d4
        go_upto_region 20 with fail
        go_quiet (fail)
        go_wp2
        go_ret3
        refine ⟨(b1.out.trans (d5.out.bl.mono hGw.out)).trans (below_drewN (Below.refl _ w5) nq), .inl ⟨_, ?_, rfl⟩⟩
        rw [hfin.out, hRe.out]
        rfl
    · obtain rfl : f5 = 0 := by omega
      by_cases he5 : e5 = 0
      · subst he5
        obtain ⟨hRb, hnF⟩ := hbl.out.1 rfl
        rw [if_neg hf1] at hRb
        have hnF : n8 < a5 + gk := by rcases hnF with h | h <;> omega
        obtain ⟨g, rfl⟩ : ∃ g, gk = g + 1 := ⟨gk - 1, by have := s5.out.ha; omega⟩
        obtain ⟨⟨a6, e6, f4⟩, hq6⟩ : ∃ r, RI.bits l 1 a5 0 = r := ⟨_, rfl⟩
        obtain ⟨⟨a8, e8, k⟩, hq8⟩ : ∃ r, RI.bits l 2 a6 e6 = r := ⟨_, rfl⟩
        have hf4 := RI.bits_lt hq6
        have hk4 := RI.bits_lt hq8
        have hnx := hide (RI.block_next hRb hq6 hq8)
        have hc6 := hide (c_bits s5.out (E := 0) rfl 1 (by decide) (K := 1) rfl hq6)
        replace hq6 := hide hq6
        replace hq8 := hide hq8
        clear hRb hbl
        go_upto_region 9 with (first
          | (with_reducible refine wpList_load_row (o := ⟨some 33, .load 173 (.tmp 7), _, _, _, _⟩) rfl 173 (.tmp 7) rfl G rfl 173 _ (0, 0) _ d5.out.kG.eq Tryz.underlying173 rfl (st_infos _ _ _ _ _) ?_)
          | (go_at_call 119; (with_reducible refine (hc6.out).mono ?_); rintro e w6 ⟨rfl, s6, b6⟩; have s6 := hide s6; have d6 := hide (d5.out.below b6); clear b6; obtain ⟨w7, hw7⟩ : ∃ W, w6.setRow G #[.slice Al n8 cl, .int .i64 (a6 : Nat), .slice A5 m5 co5, .int .i64 (most : Nat), .int .i64 (e6 : Nat)] = W := ⟨_, rfl⟩; have s7 := hide (show RSt w7 G l most a6 o5 e6 Al n8 cl A5 m5 co5 from by rw [← hw7]; exact s6.out.row d6.out.kG (Nat.le_refl _) _); have d7 := hide (show DS w1 G (.slice Al n8 cl) (.int .i64 (a6 : Nat)) (.slice A5 m5 co5) (.int .i64 (most : Nat)) (.int .i64 (e6 : Nat)) w7 from by rw [← hw7]; exact d6.out.row _ _ _ _ _); have hc8 := hide (c_bits s7.out rfl 2 (by decide) (K := 2) rfl hq8.out))
          | ((with_reducible refine wpList_store_row (o := ⟨none, .store 173 (.tmp 7) (.tmp 35), _, _, _, _⟩) rfl 173 (.tmp 7) (.tmp 35) rfl G #[.slice Al n8 cl, .int .i64 (a6 : Nat), .slice A5 m5 co5, .int .i64 (most : Nat), .int .i64 (e6 : Nat)] rfl rfl 173 _ d6.out.kG.eq (st_infos _ _ _ _ _) (st_hold _ _ _ _ _ _ _ _ _ _) (st_one _ _ _ _ _ _ _ _ _) ?_); rw [hw7])
          | (with_reducible refine wpList_load_row (o := ⟨some 38, .load 173 (.tmp 7), _, _, _, _⟩) rfl 173 (.tmp 7) rfl G rfl 173 _ (0, 0) _ d7.out.kG.eq Tryz.underlying173 rfl (st_infos _ _ _ _ _) ?_)
          | (go_at_call 119; (with_reducible refine (hc8.out).mono ?_); rintro e w8 ⟨rfl, s8, b8⟩; have s8 := hide s8; have d8 := hide (d7.out.below b8); clear b8; obtain ⟨w9, hw9⟩ : ∃ W, w8.setRow G #[.slice Al n8 cl, .int .i64 (a8 : Nat), .slice A5 m5 co5, .int .i64 (most : Nat), .int .i64 (e8 : Nat)] = W := ⟨_, rfl⟩; have s9 := hide (show RSt w9 G l most a8 o5 e8 Al n8 cl A5 m5 co5 from by rw [← hw9]; exact s8.out.row d8.out.kG (Nat.le_refl _) _); have d9 := hide (show DS w1 G (.slice Al n8 cl) (.int .i64 (a8 : Nat)) (.slice A5 m5 co5) (.int .i64 (most : Nat)) (.int .i64 (e8 : Nat)) w9 from by rw [← hw9]; exact d8.out.row _ _ _ _ _))
          | ((with_reducible refine wpList_store_row (o := ⟨none, .store 173 (.tmp 7) (.tmp 40), _, _, _, _⟩) rfl 173 (.tmp 7) (.tmp 40) rfl G #[.slice Al n8 cl, .int .i64 (a8 : Nat), .slice A5 m5 co5, .int .i64 (most : Nat), .int .i64 (e8 : Nat)] rfl rfl 173 _ d8.out.kG.eq (st_infos _ _ _ _ _) (st_hold _ _ _ _ _ _ _ _ _ _) (st_one _ _ _ _ _ _ _ _ _) ?_); rw [hw9]))
        clear s5 d5 hc6 s6 d6 s7 d7 hc8 s8 d8 e5c hq6 hq8
        have e9c := d9.out.kG.cell 4
        simp only [List.getElem?_toArray, List.getElem?_cons_succ, List.getElem?_cons_zero] at e9c
        by_cases he8 : e8 = 0
        · have hez2 : ((e8 : Int) != 0) = false := by simp; omega
          obtain ⟨hn0, hn1, hn2, hn3⟩ := hnx.out.2 he8
          have hn0 := hide hn0
          have hn1 := hide hn1
          have hn2 := hide hn2
          have hn3 := hide hn3
          replace hnF := hide hnF
          subst he8
          clear hnx
          rcases (show k = 0 ∨ k = 1 ∨ k = 2 ∨ k = 3 by omega) with hk | hk | hk | hk
          · subst hk
            have hb := hide (hn0.out rfl)
            have hst := hide (ri_stored s9.out h88.out)
            clear hn0 hn1 hn2 hn3
            go_wp2_with (first
              | (with_reducible refine wpList_load_row (o := ⟨some 47, .load 173 (.tmp 7), _, _, _, _⟩) rfl 173 (.tmp 7) rfl G rfl 173 _ (0, 0) _ d9.out.kG.eq Tryz.underlying173 rfl (st_infos _ _ _ _ _) ?_)
              | (go_at_call 120; (with_reducible refine (hst.out).mono ?_); rintro e w20 ⟨a20, o20, e20, A20, m20, c20, rfl, s20, b20, x20, q20⟩; have s20 := hide s20; have d20 := hide (d9.out.keep b20 x20); have q20 := hide q20; clear b20 x20; obtain ⟨w21, hw21⟩ : ∃ W, w20.setRow G #[.slice Al n8 cl, .int .i64 (a20 : Nat), .slice A20 m20 c20, .int .i64 (most : Nat), .int .i64 (e20 : Nat)] = W := ⟨_, rfl⟩; have s21 := hide (show RSt w21 G l most a20 o20 e20 Al n8 cl A20 m20 c20 from by rw [← hw21]; exact s20.out.row d20.out.kG (Nat.le_refl _) _); have d21 := hide (show DS w1 G (.slice Al n8 cl) (.int .i64 (a20 : Nat)) (.slice A20 m20 c20) (.int .i64 (most : Nat)) (.int .i64 (e20 : Nat)) w21 from by rw [← hw21]; exact d20.out.row _ _ _ _ _))
              | ((with_reducible refine wpList_store_row (o := ⟨none, .store 173 (.tmp 7) (.tmp 48), _, _, _, _⟩) rfl 173 (.tmp 7) (.tmp 48) rfl G #[.slice Al n8 cl, .int .i64 (a20 : Nat), .slice A20 m20 c20, .int .i64 (most : Nat), .int .i64 (e20 : Nat)] rfl rfl 173 _ d20.out.kG.eq (st_infos _ _ _ _ _) (st_hold _ _ _ _ _ _ _ _ _ _) (st_one _ _ _ _ _ _ _ _ _) ?_); rw [hw21]))
            go_roundg g
            case rel => exact ⟨a20, e20, f4, m20, c20, o20, A20, rfl, by omega, s21, d21, hide (RI.BL.next hb.out q20.out hnF.out)⟩
            case measure => omega
          · subst hk
            have hb := hide (hn1.out rfl)
            have hfx := hide (ri_fixed w9)
            clear hn0 hn1 hn2 hn3
            go_upto_region 14 with (first
              | (go_at_call 121; (with_reducible refine (hfx.out).mono ?_); rintro e w10 ⟨c1, c2, rfl, v1, v2, b10⟩; have s10 := hide (s9.out.below b10); have d10 := hide (d9.out.below b10); have v1 := hide v1; have v2 := hide v2; clear b10;
                 obtain ⟨T, hT⟩ : ∃ T, w10.heap.size = T := ⟨_, rfl⟩; have hTG := hide (show G < T from by have := d10.out.kG.lt; omega);
                 obtain ⟨w11, hw11⟩ : ∃ W, w10.alloc (.cells #[.int .i64 0, .int .i64 0, .int .i64 0, .int .i64 0, .int .i64 0, .int .i64 0, .int .i64 0, .int .i64 0, .int .i64 0, .int .i64 0, .int .i64 0, .int .i64 0, .int .i64 0, .int .i64 0, .int .i64 0, .int .i64 0, .slice none 0 0, .slice none 0 0, .slice none 0 0, .slice none 0 0, .slice none 0 0, .slice none 0 0, .slice none 0 0, .slice none 0 0, .slice none 0 0, .slice none 0 0, .slice none 0 0, .slice none 0 0, .slice none 0 0, .slice none 0 0, .slice none 0 0, .slice none 0 0] 180) = W := ⟨_, rfl⟩; obtain ⟨w12, hw12⟩ : ∃ W, w11.alloc (.cells #[.int .i64 0, .int .i64 0, .int .i64 0, .int .i64 0, .int .i64 0, .int .i64 0, .int .i64 0, .int .i64 0, .int .i64 0, .int .i64 0, .int .i64 0, .int .i64 0, .int .i64 0, .int .i64 0, .int .i64 0, .int .i64 0, .slice none 0 0, .slice none 0 0, .slice none 0 0, .slice none 0 0, .slice none 0 0, .slice none 0 0, .slice none 0 0, .slice none 0 0, .slice none 0 0, .slice none 0 0, .slice none 0 0, .slice none 0 0, .slice none 0 0, .slice none 0 0, .slice none 0 0, .slice none 0 0] 180) = W := ⟨_, rfl⟩;
                 have z11 := (show w11.heap.size = T + 1 from by rw [← hw11, ← hT]; simp);
                 have b12 := (show Below w10.heap.size w10 w12 from by rw [← hw12, ← hw11]; exact ((Below.refl _ w10).alloc (Nat.le_refl _) _).alloc (by simp) _);
                 have k1 := hide (show Blk w12 T 180 z32 from by rw [← hw12]; exact (show Blk w11 T _ _ from by rw [← hw11, ← hT]; exact Blk.new w10 _ _).alloc _);
                 have k2 := hide (show Blk w12 (T + 1) 180 z32 from by rw [← hw12, ← z11]; exact Blk.new w11 _ _);
                 have s12 := hide (s10.out.below b12); have d12 := hide (d10.out.below b12); have v1 := hide (v1.out.below b12); have v2 := hide (v2.out.below b12); clear b12;
                 have i1 := hide (info_book' v1.out.size); have i2 := hide (info_book' v2.out.size); have e1 := hide (show (z32 : Array Value).size = c1.size from v1.out.size.symm); have e2 := hide (show (z32 : Array Value).size = c2.size from v2.out.size.symm); have n1 := hide v1.out.one; have n2 := hide v2.out.one;
                 obtain ⟨w13, hw13⟩ : ∃ W, w12.setRow T c1 = W := ⟨_, rfl⟩; obtain ⟨w14, hw14⟩ : ∃ W, w13.setRow (T + 1) c2 = W := ⟨_, rfl⟩;
                 have k13 := hide (show Blk w13 T 180 c1 from by rw [← hw13]; exact k1.out.row _); have k23 := hide (show Blk w13 (T + 1) 180 z32 from by rw [← hw13]; exact (setRow_other w12 T (T + 1) _ (by omega)).trans k2.out);
                 have s14 := hide (show RSt w14 G l most a8 o5 0 Al n8 cl A5 m5 co5 from by rw [← hw14]; refine RSt.brow ?_ k23.out (by have := hTG.out; omega) _; rw [← hw13]; exact s12.out.brow k1.out (by have := hTG.out; omega) _);
                 have d14 := hide (show DS w1 G (.slice Al n8 cl) (.int .i64 (a8 : Nat)) (.slice A5 m5 co5) (.int .i64 (most : Nat)) (.int .i64 0) w14 from by rw [← hw14]; refine DS.other ?_ (by have := hTG.out; omega) _; rw [← hw13]; exact d12.out.other (by have := hTG.out; omega) _);
                 have v14 := hide (show BookV w9.heap.size w14 lsF c1 from by rw [← hw14]; refine BookV.brow ?_ k23.out; rw [← hw13]; exact v1.out.brow k1.out);
                 have v24 := hide (show BookV w9.heap.size w14 (List.replicate 32 5) c2 from by rw [← hw14]; refine BookV.brow ?_ k23.out; rw [← hw13]; exact v2.out.brow k1.out);
                 have k14 := hide (show Blk w14 T 180 c1 from by rw [← hw14]; exact (setRow_other w13 (T + 1) T _ (by omega)).trans k13.out); have k24 := hide (show Blk w14 (T + 1) 180 c2 from by rw [← hw14]; exact k23.out.row _))
              | ((with_reducible refine wpList_store_row (o := ⟨none, .store 180 (.tmp 10) (.tmp 53), _, _, _, _⟩) rfl 180 (.tmp 10) (.tmp 53) rfl T c1 rfl rfl 180 _ k1.out.eq i1.out e1.out n1.out ?_); rw [hw13])
              | ((with_reducible refine wpList_store_row (o := ⟨none, .store 180 (.tmp 11) (.tmp 54), _, _, _, _⟩) rfl 180 (.tmp 11) (.tmp 54) rfl (T + 1) c2 rfl rfl 180 _ k23.out.eq i2.out e2.out n2.out ?_); rw [hw14]))
            have hsy := hide (ri_symbols s14.out v14.out v24.out (by decide) (by decide) lsF_sum ls5_sum F (by have := hF.out; omega))
            clear s9 d9 hfx s10 d10 v1 v2 k1 k2 s12 d12 k13 k23 e9c z11
            go_wp2_with (first
              | (with_reducible refine wpList_load_row (o := ⟨some 55, .load 173 (.tmp 7), _, _, _, _⟩) rfl 173 (.tmp 7) rfl G rfl 173 _ (0, 0) _ d14.out.kG.eq Tryz.underlying173 rfl (st_infos _ _ _ _ _) ?_)
              | (with_reducible refine wpList_load_row (o := ⟨some 56, .load 180 (.tmp 10), _, _, _, _⟩) rfl 180 (.tmp 10) rfl T rfl 180 c1 (0, 0) _ k14.out.eq Tryz.underlying180 rfl i1.out ?_)
              | (with_reducible refine wpList_load_row (o := ⟨some 57, .load 180 (.tmp 11), _, _, _, _⟩) rfl 180 (.tmp 11) rfl (T + 1) rfl 180 c2 (0, 0) _ k24.out.eq Tryz.underlying180 rfl i2.out ?_)
              | (go_at_call 122; (with_reducible refine (hsy.out).mono ?_); rintro e w20 ⟨a20, o20, e20, A20, m20, c20, rfl, s20, b20, x20, q20⟩; have s20 := hide s20; have d20 := hide (d14.out.keep b20 x20); have q20 := hide q20; clear b20 x20; obtain ⟨w21, hw21⟩ : ∃ W, w20.setRow G #[.slice Al n8 cl, .int .i64 (a20 : Nat), .slice A20 m20 c20, .int .i64 (most : Nat), .int .i64 (e20 : Nat)] = W := ⟨_, rfl⟩; have s21 := hide (show RSt w21 G l most a20 o20 e20 Al n8 cl A20 m20 c20 from by rw [← hw21]; exact s20.out.row d20.out.kG (Nat.le_refl _) _); have d21 := hide (show DS w1 G (.slice Al n8 cl) (.int .i64 (a20 : Nat)) (.slice A20 m20 c20) (.int .i64 (most : Nat)) (.int .i64 (e20 : Nat)) w21 from by rw [← hw21]; exact d20.out.row _ _ _ _ _))
              | ((with_reducible refine wpList_store_row (o := ⟨none, .store 173 (.tmp 7) (.tmp 58), _, _, _, _⟩) rfl 173 (.tmp 7) (.tmp 58) rfl G #[.slice Al n8 cl, .int .i64 (a20 : Nat), .slice A20 m20 c20, .int .i64 (most : Nat), .int .i64 (e20 : Nat)] rfl rfl 173 _ d20.out.kG.eq (st_infos _ _ _ _ _) (st_hold _ _ _ _ _ _ _ _ _ _) (st_one _ _ _ _ _ _ _ _ _) ?_); rw [hw21]))
            go_roundg g
            case rel => exact ⟨a20, e20, f4, m20, c20, o20, A20, rfl, by omega, s21, d21, hide (RI.BL.next hb.out q20.out hnF.out)⟩
            case measure => omega
          · subst hk
            have hb := hide (hn2.out rfl)
            have hdy := hide (ri_dynamic s9.out)
            obtain ⟨rd, hrd⟩ : ∃ r, Inf.dynamic l a8 o5 = r := ⟨_, rfl⟩
            rw [hrd] at hdy
            replace hrd := hide hrd
            clear hn0 hn1 hn2 hn3
            go_upto_region 17 with (first
              | (with_reducible refine wpList_load_row (o := ⟨some 62, .load 173 (.tmp 7), _, _, _, _⟩) rfl 173 (.tmp 7) rfl G rfl 173 _ (0, 0) _ d9.out.kG.eq Tryz.underlying173 rfl (st_infos _ _ _ _ _) ?_)
              | (go_at_call 123; (with_reducible refine (hdy.out).mono ?_); rintro e w10 ⟨a10, e10, c1, c2, rfl, s10, b10, q10⟩; have s10 := hide s10; have d10 := hide (d9.out.below b10); clear b10;
                 have hcs := hide (RI.dis_size q10); have q10 := hide q10;
                 obtain ⟨T, hT⟩ : ∃ T, w10.heap.size = T := ⟨_, rfl⟩; have hTG := hide (show G < T from by have := d10.out.kG.lt; omega);
                 obtain ⟨w11, hw11⟩ : ∃ W, w10.alloc (.cells #[.slice none 0 0, .int .i64 0, .slice none 0 0, .int .i64 0, .int .i64 0] 173) = W := ⟨_, rfl⟩; obtain ⟨w12, hw12⟩ : ∃ W, w11.alloc (.cells #[.int .i64 0, .int .i64 0, .int .i64 0, .int .i64 0, .int .i64 0, .int .i64 0, .int .i64 0, .int .i64 0, .int .i64 0, .int .i64 0, .int .i64 0, .int .i64 0, .int .i64 0, .int .i64 0, .int .i64 0, .int .i64 0, .slice none 0 0, .slice none 0 0, .slice none 0 0, .slice none 0 0, .slice none 0 0, .slice none 0 0, .slice none 0 0, .slice none 0 0, .slice none 0 0, .slice none 0 0, .slice none 0 0, .slice none 0 0, .slice none 0 0, .slice none 0 0, .slice none 0 0, .slice none 0 0] 180) = W := ⟨_, rfl⟩; obtain ⟨w13, hw13⟩ : ∃ W, w12.alloc (.cells #[.int .i64 0, .int .i64 0, .int .i64 0, .int .i64 0, .int .i64 0, .int .i64 0, .int .i64 0, .int .i64 0, .int .i64 0, .int .i64 0, .int .i64 0, .int .i64 0, .int .i64 0, .int .i64 0, .int .i64 0, .int .i64 0, .slice none 0 0, .slice none 0 0, .slice none 0 0, .slice none 0 0, .slice none 0 0, .slice none 0 0, .slice none 0 0, .slice none 0 0, .slice none 0 0, .slice none 0 0, .slice none 0 0, .slice none 0 0, .slice none 0 0, .slice none 0 0, .slice none 0 0, .slice none 0 0] 180) = W := ⟨_, rfl⟩;
                 have z11 := (show w11.heap.size = T + 1 from by rw [← hw11, ← hT]; simp); have z12 := (show w12.heap.size = T + 1 + 1 from by rw [← hw12, ← z11]; simp);
                 have b13 := (show Below w10.heap.size w10 w13 from by rw [← hw13, ← hw12, ← hw11]; exact (((Below.refl _ w10).alloc (Nat.le_refl _) _).alloc (by simp) _).alloc (by simp; omega) _);
                 have k0 := hide (show Blk w13 T 173 #[.slice none 0 0, .int .i64 0, .slice none 0 0, .int .i64 0, .int .i64 0] from by rw [← hw13, ← hw12]; exact ((show Blk w11 T _ _ from by rw [← hw11, ← hT]; exact Blk.new w10 _ _).alloc _).alloc _);
                 have k1 := hide (show Blk w13 (T + 1) 180 z32 from by rw [← hw13]; exact (show Blk w12 (T + 1) _ _ from by rw [← hw12, ← z11]; exact Blk.new w11 _ _).alloc _);
                 have k2 := hide (show Blk w13 (T + 1 + 1) 180 z32 from by rw [← hw13, ← z12]; exact Blk.new w12 _ _);
                 have s13 := hide (s10.out.below b13); have d13 := hide (d10.out.below b13); have q13 := hide (RI.dis_below q10.out b13); clear b13;
                 have i1 := hide (info_book' hcs.out.1); have i2 := hide (info_book' hcs.out.2.1); have e1 := hide (show (z32 : Array Value).size = c1.size from hcs.out.1.symm); have e2 := hide (show (z32 : Array Value).size = c2.size from hcs.out.2.1.symm); have n1 := hide hcs.out.2.2.1; have n2 := hide hcs.out.2.2.2;
                 obtain ⟨w14, hw14⟩ : ∃ W, w13.setRow T #[.slice Al n8 cl, .int .i64 (a10 : Nat), .slice A5 m5 co5, .int .i64 (most : Nat), .int .i64 (e10 : Nat)] = W := ⟨_, rfl⟩; obtain ⟨w15, hw15⟩ : ∃ W, w14.setRow (T + 1) c1 = W := ⟨_, rfl⟩; obtain ⟨w16, hw16⟩ : ∃ W, w15.setRow (T + 1 + 1) c2 = W := ⟨_, rfl⟩;
                 have k14 := hide (show Blk w14 T 173 #[.slice Al n8 cl, .int .i64 (a10 : Nat), .slice A5 m5 co5, .int .i64 (most : Nat), .int .i64 (e10 : Nat)] ∧ Blk w14 (T + 1) 180 z32 ∧ Blk w14 (T + 1 + 1) 180 z32 from by rw [← hw14]; exact ⟨k0.out.row _, (setRow_other w13 T (T + 1) _ (by omega)).trans k1.out, (setRow_other w13 T (T + 1 + 1) _ (by omega)).trans k2.out⟩);
                 have k15 := hide (show Blk w15 T 173 #[.slice Al n8 cl, .int .i64 (a10 : Nat), .slice A5 m5 co5, .int .i64 (most : Nat), .int .i64 (e10 : Nat)] ∧ Blk w15 (T + 1) 180 c1 ∧ Blk w15 (T + 1 + 1) 180 z32 from by rw [← hw15]; exact ⟨(setRow_other w14 (T + 1) T _ (by omega)).trans k14.out.1, k14.out.2.1.row _, (setRow_other w14 (T + 1) (T + 1 + 1) _ (by omega)).trans k14.out.2.2⟩);
                 have k16 := hide (show Blk w16 T 173 #[.slice Al n8 cl, .int .i64 (a10 : Nat), .slice A5 m5 co5, .int .i64 (most : Nat), .int .i64 (e10 : Nat)] ∧ Blk w16 (T + 1) 180 c1 ∧ Blk w16 (T + 1 + 1) 180 c2 from by rw [← hw16]; exact ⟨(setRow_other w15 (T + 1 + 1) T _ (by omega)).trans k15.out.1, (setRow_other w15 (T + 1 + 1) (T + 1) _ (by omega)).trans k15.out.2.1, k15.out.2.2.row _⟩);
                 have s16 := hide (show RSt w16 G l most a10 o5 e10 Al n8 cl A5 m5 co5 from by have := hTG.out; rw [← hw16]; refine RSt.brow ?_ k15.out.2.2 (by omega) _; rw [← hw15]; refine RSt.brow ?_ k14.out.2.1 (by omega) _; rw [← hw14]; exact s13.out.row k0.out (by omega) _);
                 have d16 := hide (show DS w1 G (.slice Al n8 cl) (.int .i64 (a8 : Nat)) (.slice A5 m5 co5) (.int .i64 (most : Nat)) (.int .i64 0) w16 from by have := hTG.out; rw [← hw16]; refine DS.other ?_ (by omega) _; rw [← hw15]; refine DS.other ?_ (by omega) _; rw [← hw14]; exact d13.out.other (by omega) _);
                 have q16 := hide (show RI.dis rd a10 o5 e10 c1 c2 w9.heap.size w16 from by rw [← hw16]; refine RI.dis_brow ?_ k15.out.2.2; rw [← hw15]; refine RI.dis_brow ?_ k14.out.2.1; rw [← hw14]; exact RI.dis_row q13.out k0.out))
              | ((with_reducible refine wpList_store_row (o := ⟨none, .store 173 (.tmp 12) (.tmp 64), _, _, _, _⟩) rfl 173 (.tmp 12) (.tmp 64) rfl T #[.slice Al n8 cl, .int .i64 (a10 : Nat), .slice A5 m5 co5, .int .i64 (most : Nat), .int .i64 (e10 : Nat)] rfl rfl 173 _ k0.out.eq (st_infos _ _ _ _ _) (st_hold _ _ _ _ _ _ _ _ _ _) (st_one _ _ _ _ _ _ _ _ _) ?_); rw [hw14])
              | ((with_reducible refine wpList_store_row (o := ⟨none, .store 180 (.tmp 13) (.tmp 65), _, _, _, _⟩) rfl 180 (.tmp 13) (.tmp 65) rfl (T + 1) c1 rfl rfl 180 _ k14.out.2.1.eq i1.out e1.out n1.out ?_); rw [hw15])
              | ((with_reducible refine wpList_store_row (o := ⟨none, .store 180 (.tmp 14) (.tmp 66), _, _, _, _⟩) rfl 180 (.tmp 14) (.tmp 66) rfl (T + 1 + 1) c2 rfl rfl 180 _ k15.out.2.2.eq i2.out e2.out n2.out ?_); rw [hw16]))
            clear s9 d9 hdy s10 d10 k0 k1 k2 s13 d13 q13 q10 k14 k15 e9c z11 z12
            have hsr := hide (show ∃ rs, Calls Tryz.prog 122 #[.agg #[.slice Al n8 cl, .int .i64 (a10 : Nat), .slice A5 m5 co5, .int .i64 (most : Nat), .int .i64 (e10 : Nat)], .agg c1, .agg c2] w16 (RPost w16 G l most Al n8 cl (RI.is rs)) ∧ RI.Blo l most F g a5 f4 R0 rs from by
              have q := q16.out
              cases hD : rd with
              | inl er =>
                rw [hD] at q
                obtain ⟨rfl, h0, _, _⟩ := q
                refine ⟨.inl e10, ri_symbols_bad s16.out h0 c1 c2, ?_⟩
                have hR := hb.out.1 e10 (by rw [hrd.out, hD])
                exact ⟨fun er h => by cases h; exact hR, fun a3 o3 h => by cases h⟩
              | inr x =>
                obtain ⟨⟨x1, x2⟩, a', o'⟩ := x
                rw [hD] at q
                obtain ⟨rfl, rfl, rfl, v1, v2, l1, l2, t1, t2⟩ := q
                refine ⟨_, ri_symbols s16.out v1 v2 l1 (by omega) t1 t2 F (by have := hF.out; omega), hb.out.2 (x1, x2) _ _ (by rw [hrd.out, hD])⟩)
            obtain ⟨rs, hsy, hb2⟩ := hsr.out
            have hsy := hide hsy
            have hb2 := hide hb2
            clear hsr
            go_wp2_with (first
              | (with_reducible refine wpList_load_row (o := ⟨some 67, .load 173 (.tmp 12), _, _, _, _⟩) rfl 173 (.tmp 12) rfl T rfl 173 _ (0, 0) _ k16.out.1.eq Tryz.underlying173 rfl (st_infos _ _ _ _ _) ?_)
              | (with_reducible refine wpList_load_row (o := ⟨some 68, .load 180 (.tmp 13), _, _, _, _⟩) rfl 180 (.tmp 13) rfl (T + 1) rfl 180 c1 (0, 0) _ k16.out.2.1.eq Tryz.underlying180 rfl i1.out ?_)
              | (with_reducible refine wpList_load_row (o := ⟨some 69, .load 180 (.tmp 14), _, _, _, _⟩) rfl 180 (.tmp 14) rfl (T + 1 + 1) rfl 180 c2 (0, 0) _ k16.out.2.2.eq Tryz.underlying180 rfl i2.out ?_)
              | (go_at_call 122; (with_reducible refine (hsy.out).mono ?_); rintro e w20 ⟨a20, o20, e20, A20, m20, c20, rfl, s20, b20, x20, q20⟩; have s20 := hide s20; have d20 := hide (d16.out.keep b20 x20); have q20 := hide q20; clear b20 x20; obtain ⟨w21, hw21⟩ : ∃ W, w20.setRow G #[.slice Al n8 cl, .int .i64 (a20 : Nat), .slice A20 m20 c20, .int .i64 (most : Nat), .int .i64 (e20 : Nat)] = W := ⟨_, rfl⟩; have s21 := hide (show RSt w21 G l most a20 o20 e20 Al n8 cl A20 m20 c20 from by rw [← hw21]; exact s20.out.row d20.out.kG (Nat.le_refl _) _); have d21 := hide (show DS w1 G (.slice Al n8 cl) (.int .i64 (a20 : Nat)) (.slice A20 m20 c20) (.int .i64 (most : Nat)) (.int .i64 (e20 : Nat)) w21 from by rw [← hw21]; exact d20.out.row _ _ _ _ _))
              | ((with_reducible refine wpList_store_row (o := ⟨none, .store 173 (.tmp 7) (.tmp 70), _, _, _, _⟩) rfl 173 (.tmp 7) (.tmp 70) rfl G #[.slice Al n8 cl, .int .i64 (a20 : Nat), .slice A20 m20 c20, .int .i64 (most : Nat), .int .i64 (e20 : Nat)] rfl rfl 173 _ d20.out.kG.eq (st_infos _ _ _ _ _) (st_hold _ _ _ _ _ _ _ _ _ _) (st_one _ _ _ _ _ _ _ _ _) ?_); rw [hw21]))
            go_roundg g
            case rel => exact ⟨a20, e20, f4, m20, c20, o20, A20, rfl, by omega, s21, d21, hide (RI.BL.next hb2.out q20.out hnF.out)⟩
            case measure => omega
          · subst hk
            have hRe := hide (hn3.out (by decide) (by decide) (by decide))
            have hfl := hide (c_fail s9.out (E := 0) rfl 3 (by decide) (K := 3) rfl)
            rw [if_pos rfl] at hfl
            clear hn0 hn1 hn2 hn3
            go_wp2_with (first
              | (with_reducible refine wpList_load_row (o := ⟨some 71, .load 173 (.tmp 7), _, _, _, _⟩) rfl 173 (.tmp 7) rfl G rfl 173 _ (0, 0) _ d9.out.kG.eq Tryz.underlying173 rfl (st_infos _ _ _ _ _) ?_)
              | (go_at_call 124; (with_reducible refine (hfl.out).mono ?_); rintro e w20 ⟨rfl, s20, b20⟩; have s20 := hide s20; have d20 := hide (d9.out.below b20); clear b20; obtain ⟨w21, hw21⟩ : ∃ W, w20.setRow G #[.slice Al n8 cl, .int .i64 (a8 : Nat), .slice A5 m5 co5, .int .i64 (most : Nat), .int .i64 ((3 : Nat) : Int)] = W := ⟨_, rfl⟩; have s21 := hide (show RSt w21 G l most a8 o5 3 Al n8 cl A5 m5 co5 from by rw [← hw21]; exact s20.out.row d20.out.kG (Nat.le_refl _) _); have d21 := hide (show DS w1 G (.slice Al n8 cl) (.int .i64 (a8 : Nat)) (.slice A5 m5 co5) (.int .i64 (most : Nat)) (.int .i64 ((3 : Nat) : Int)) w21 from by rw [← hw21]; exact d20.out.row _ _ _ _ _))
              | ((with_reducible refine wpList_store_row (o := ⟨none, .store 173 (.tmp 7) (.tmp 72), _, _, _, _⟩) rfl 173 (.tmp 7) (.tmp 72) rfl G #[.slice Al n8 cl, .int .i64 (a8 : Nat), .slice A5 m5 co5, .int .i64 (most : Nat), .int .i64 ((3 : Nat) : Int)] rfl rfl 173 _ d20.out.kG.eq (st_infos _ _ _ _ _) (st_hold _ _ _ _ _ _ _ _ _ _) (st_one _ _ _ _ _ _ _ _ _) ?_); rw [hw21]))
            go_roundg g
            case rel => exact ⟨a8, 3, f4, m5, co5, o5, A5, rfl, by omega, s21, d21, hide (RI.BL.off hRe.out (by decide))⟩
            case measure => omega
        · have hRe := hide (hnx.out.1 he8)
          have hez2 : ((e8 : Int) != 0) = true := by simp; omega
          clear hnx
          have d4 := d9.out.kG.cell 4
          simp only [List.getElem?_toArray, List.getElem?_cons_succ, List.getElem?_cons_zero] at d4
          go_upto_region 20 with fail
          go_quiet (fail)
          go_wp2
          go_ret3
          refine ⟨(b1.out.trans (d9.out.bl.mono hGw.out)).trans (below_drewN (Below.refl _ w9) nq), .inl ⟨_, ?_, rfl⟩⟩
          rw [hfin.out, hRe.out]
          rfl
      · have hRe := hide (hbl.out.2 he5)
        have hez : ((e5 : Int) == 0) = false := by simp; omega
        have hez2 : ((e5 : Int) != 0) = true := by simp; omega
        clear hbl
        have d4 := d5.out.kG.cell 4
        simp only [List.getElem?_toArray, List.getElem?_cons_succ, List.getElem?_cons_zero] at d4
        go_upto_region 20 with fail
        go_quiet (fail)
        go_wp2
        go_ret3
        refine ⟨(b1.out.trans (d5.out.bl.mono hGw.out)).trans (below_drewN (Below.refl _ w5) nq), .inl ⟨_, ?_, rfl⟩⟩
        rw [hfin.out, hRe.out]
        rfl

end Go.Proofs.YtaapjampmnanmaaGreat
