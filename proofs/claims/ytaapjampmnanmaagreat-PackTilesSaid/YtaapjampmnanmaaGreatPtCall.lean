/- Layer 13 (arch): Tile and Meta, of the program and of the reference, by value. The conditions: where the bytes lie, and how many they are. Layer 14 (pack): what Head, Meta and Tile answer of an archive that was made. The conditions: where its bytes lie; the items are right; at most 40, of 3000 bytes together with the metadata. -/
import Derived.Test.YtaapjampmnanmaaGreatArchFi
import Derived.Test.YtaapjampmnanmaaGreatHilbX
import Derived.Test.YtaapjampmnanmaaGreatPtTile
import Derived.Test.YtaapjampmnanmaaGreatPkMuch
namespace Go.Proofs.YtaapjampmnanmaaGreat
open Go.RowKit Go.Shelf
set_option linter.unusedVariables false
set_option linter.unusedSimpArgs false
theorem info_pl (a b c : Value) : (Tryz.prog.info? 43).map (·.size) = some (#[a, b, c] : Array Value).size := by kernel_rfl
def TileP (B : Nat) (w : World) (r : List UInt8 × Bool × Nat) (e : Ending) (w' : World) : Prop :=
  Below B w w' ∧ ∃ A c, e = .returned (.tuple #[.slice A r.1.length c, .bool r.2.1, .int .i64 (r.2.2 : Int)]) ∧ Rd w' w'.heap.size A r.1.length (r.1.map bv)
theorem TileP.nil {B : Nat} {w w' : World} {er : Nat} (h : Below B w w') : TileP B w ([], false, er) (.returned (.tuple #[.slice none 0 0, .bool false, .int .i64 (er : Int)])) w' := ⟨h, none, 0, rfl, Rd.nil _ _ _⟩
set_option maxRecDepth 100000 in
set_option maxHeartbeats 4000000 in
theorem atile_any (A : Option Addr) (c : Nat) (bs : List UInt8) (h : Hd) (z x y : Int) (N : Nat) (E : Int) (w : World) (hr : Rd w w.heap.size A bs.length (bs.map bv)) (hc : bs.length ≤ c) (hm : bs.length ≤ 1048576) (hN : N ≤ 18446744073709551615) (hl1 : h.l1 ≤ 18446744073709551615) (hd1 : h.d1 ≤ 18446744073709551615)
    (hE : E = 0 ∨ E = 8) (hID : ∀ w, Calls Tryz.prog 32 #[.agg #[.int .i64 z, .int .i64 x, .int .i64 y]] w fun e w' => e = .returned (.tuple #[.int .u64 (N : Int), .int .i64 E]) ∧ Below w.heap.size w w') (ok : Bool) (hok : ok = decide (E = 0 ∧ h.minz ≤ z ∧ z ≤ h.maxz)) (r : List UInt8 × Bool × Nat) (hT : TileR bs h ok N r) :
    Calls Tryz.prog 12 #[.slice A bs.length c, .agg h.cells, .agg #[.int .i64 z, .int .i64 x, .int .i64 y]] w (TileP w.heap.size w r) := by
  obtain ⟨G, hG⟩ : ∃ G, w.heap.size = G := ⟨_, rfl⟩
  obtain ⟨w1, hw1⟩ : ∃ W, w.alloc (.cells h.cells 30) = W := ⟨_, rfl⟩
  have hs1 : w1.heap.size = G + 1 := by rw [← hw1, ← hG]; simp
  obtain ⟨w2, hw2⟩ : ∃ W, w1.alloc (.cells #[.int .i64 z, .int .i64 x, .int .i64 y] 43) = W := ⟨_, rfl⟩
  have k2 := hide (show Blk w2 G 30 h.cells from by rw [← hw2, ← hw1, ← hG]; exact (Blk.new w _ _).alloc _)
  have kp2 := hide (show Blk w2 (G + 1) 43 #[.int .i64 z, .int .i64 x, .int .i64 y] from by rw [← hw2, ← hs1]; exact Blk.new w1 _ _)
  have hb2 := hide (show Below G w w2 from by rw [← hw2]; refine Below.alloc ?_ (by rw [hs1]; omega) _; rw [← hw1, ← hG]; exact (Below.refl _ w).alloc (Nat.le_refl _) _)
  have hs2 := hide (show w2.heap.size = G + 2 from by rw [← hw2]; simp [hs1])
  have hrd := hide (fun W (hb : Below G w W) => (show Rd W W.heap.size A bs.length (bs.map bv) from (hr.below (by rw [hG]; exact hb)).mono (by have := hb.size; omega)))
  have hcl := hide (show (∀ W, Blk W G 30 h.cells → W.cell? ⟨G, 15, none⟩ = some (.int .i64 h.minz)) ∧ (∀ W, Blk W G 30 h.cells → W.cell? ⟨G, 16, none⟩ = some (.int .i64 h.maxz)) ∧ (∀ W, Blk W G 30 h.cells → W.cell? ⟨G, 6, none⟩ = some (.int .u64 (h.d0 : Int))) ∧ (∀ W, Blk W G 30 h.cells → W.cell? ⟨G, 7, none⟩ = some (.int .u64 (h.d1 : Int))) ∧ (∀ W, Blk W G 30 h.cells → W.cell? ⟨G, 13, none⟩ = some (.int .i64 h.out)) from
    ⟨fun W k => (k.cell 15).trans rfl, fun W k => (k.cell 16).trans rfl, fun W k => (k.cell 6).trans rfl, fun W k => (k.cell 7).trans rfl, fun W k => (k.cell 13).trans rfl⟩)
  rw [hG]
  replace hID := hide hID
  replace hc := hide hc
  replace hm := hide hm
  replace hN := hide hN
  replace hl1 := hide hl1
  replace hd1 := hide hd1
  clear hr
  have hcase : (ok = false ∧ (E = 8 ∨ (E = 0 ∧ z < h.minz) ∨ (E = 0 ∧ h.minz ≤ z ∧ h.maxz < z))) ∨ (ok = true ∧ E = 0 ∧ h.minz ≤ z ∧ z ≤ h.maxz) := by
    by_cases hp : E = 0 ∧ h.minz ≤ z ∧ z ≤ h.maxz
    · exact .inr ⟨by rw [hok]; exact decide_eq_true hp, hp⟩
    · exact .inl ⟨by rw [hok]; exact decide_eq_false hp, by omega⟩
  clear hok hE
  rcases hcase with ⟨rfl, hno⟩ | ⟨rfl, rfl, hz1, hz2⟩
  · obtain rfl := hT.1 rfl
    clear hT
    rcases hno with rfl | ⟨rfl, hz1⟩ | ⟨rfl, hz1, hz2⟩
    all_goals
      go_enter Tryz.func12, Tryz.ntmps12
      go_wp2_with (first
        | (with_reducible refine wpList_load_row (o := ⟨some 15, .load 43 (.tmp 5), _, _, _, _⟩) rfl 43 (.tmp 5) rfl (G + 1) rfl 43 #[.int .i64 z, .int .i64 x, .int .i64 y] (0, 0) _ kp2.out.eq Tryz.underlying43 rfl (info_pl _ _ _) ?_)
        | (go_at_call 32; (with_reducible refine (hID.out w2).mono ?_); rintro e w3 ⟨rfl, hb3⟩; have b3 := hide (hb2.out.trans (hb3.mono (by have := hs2.out; omega))); have k3 := hide (k2.out.below hb3 k2.out.lt); have kp3 := hide (kp2.out.below hb3 kp2.out.lt); have p1 : w3.cell? ⟨G + 1, 0, none⟩ = some (.int .i64 z) := kp3.out.cell 0; have p2 : w3.cell? ⟨G, 15, none⟩ = some (.int .i64 h.minz) := hcl.out.1 w3 k3.out; have p3 : w3.cell? ⟨G, 16, none⟩ = some (.int .i64 h.maxz) := hcl.out.2.1 w3 k3.out; clear hb3))
      go_ret3
      exact TileP.nil b3.out
  · obtain ⟨⟨⟨xi, xo, xl, xr⟩, fb, fe⟩, hD, h1, h2⟩ := hT.2 rfl
    replace hD := hide hD
    replace h1 := hide h1
    replace h2 := hide h2
    clear hT
    go_enter Tryz.func12, Tryz.ntmps12
    go_upto_region 5 with (first
      | (with_reducible refine wpList_load_row (o := ⟨some 15, .load 43 (.tmp 5), _, _, _, _⟩) rfl 43 (.tmp 5) rfl (G + 1) rfl 43 #[.int .i64 z, .int .i64 x, .int .i64 y] (0, 0) _ kp2.out.eq Tryz.underlying43 rfl (info_pl _ _ _) ?_)
      | (go_at_call 32; (with_reducible refine (hID.out w2).mono ?_); rintro e w3 ⟨rfl, hb3⟩; have b3 := hide (hb2.out.trans (hb3.mono (by have := hs2.out; omega))); have k3 := hide (k2.out.below hb3 k2.out.lt); have kp3 := hide (kp2.out.below hb3 kp2.out.lt); have p1 : w3.cell? ⟨G + 1, 0, none⟩ = some (.int .i64 z) := kp3.out.cell 0; have p2 : w3.cell? ⟨G, 15, none⟩ = some (.int .i64 h.minz) := hcl.out.1 w3 k3.out; have p3 : w3.cell? ⟨G, 16, none⟩ = some (.int .i64 h.maxz) := hcl.out.2.1 w3 k3.out; clear hb3)
      | (with_reducible refine wpList_load_row (o := ⟨some 37, .load 30 (.tmp 4), _, _, _, _⟩) rfl 30 (.tmp 4) rfl G rfl 30 h.cells (0, 0) _ k3.out.eq Tryz.underlying30 rfl (info_hd h) ?_)
      | (go_at_call 10; (with_reducible refine (afind_any A c bs h N w3 (hrd.out w3 b3.out) hc.out hm.out hN.out hl1.out ((⟨xi, xo, xl, xr⟩ : Ent), fb, fe) hD.out).mono ?_); rintro e w4 ⟨he4, hb4⟩; obtain rfl : e = .returned (.tuple #[.agg #[.int .u64 (xi : Int), .int .u64 (xo : Int), .int .u64 (xl : Int), .int .u64 (xr : Int)], .bool fb, .int .i64 (fe : Int)]) := he4; replace hb4 := hide hb4; obtain ⟨g5, hg5⟩ : ∃ g, w4.heap.size = g := ⟨_, rfl⟩; obtain ⟨w5, hw5⟩ : ∃ W, w4.alloc (.cells #[.int .u64 0, .int .u64 0, .int .u64 0, .int .u64 0] 36) = W := ⟨_, rfl⟩; have k5 := hide (show Blk w5 g5 36 #[.int .u64 0, .int .u64 0, .int .u64 0, .int .u64 0] from by rw [← hw5, ← hg5]; exact Blk.new w4 _ _); obtain ⟨w6, hw6⟩ : ∃ W, w5.setRow g5 #[.int .u64 (xi : Int), .int .u64 (xo : Int), .int .u64 (xl : Int), .int .u64 (xr : Int)] = W := ⟨_, rfl⟩)
      | ((with_reducible refine wpList_store_row (o := ⟨none, .store 36 (.tmp 11) (.tmp 40), _, _, _, _⟩) rfl 36 (.tmp 11) (.tmp 40) rfl g5 #[.int .u64 (xi : Int), .int .u64 (xo : Int), .int .u64 (xl : Int), .int .u64 (xr : Int)] rfl rfl 36 _ k5.out.eq (info_ent _ _ _ _) rfl (ent_one _ _ _ _) ?_); rw [hw6]))
    have k6 := hide (show Blk w6 g5 36 #[.int .u64 (xi : Int), .int .u64 (xo : Int), .int .u64 (xl : Int), .int .u64 (xr : Int)] from by rw [← hw6]; exact k5.out.row _)
    have hg5G := hide (show w3.heap.size ≤ g5 from by have := hb4.out.size; omega)
    have b36 := hide (show Below w3.heap.size w3 w6 from by rw [← hw6]; exact below_row (by rw [← hw5]; exact hb4.out.alloc hb4.out.size _) hg5G.out _)
    have b6 := hide (show Below G w w6 from b3.out.trans (b36.out.mono (by have := k3.out.lt; omega)))
    have kh6 := hide (k3.out.below b36.out k3.out.lt)
    have d1 : w6.cell? ⟨g5, 1, none⟩ = some (.int .u64 (xo : Int)) := k6.out.cell 1
    have d2 : w6.cell? ⟨g5, 2, none⟩ = some (.int .u64 (xl : Int)) := k6.out.cell 2
    have d4 : w6.cell? ⟨G, 6, none⟩ = some (.int .u64 (h.d0 : Int)) := hcl.out.2.2.1 w6 kh6.out
    have d5 : w6.cell? ⟨G, 7, none⟩ = some (.int .u64 (h.d1 : Int)) := hcl.out.2.2.2.1 w6 kh6.out
    have d6 : w6.cell? ⟨G, 13, none⟩ = some (.int .i64 h.out) := hcl.out.2.2.2.2 w6 kh6.out
    clear hw5 hw6 k5 hb4 hw1 hw2 k2 kp2 hb2 hs2 hs1 p1 p2 p3
    cases fb with
    | false =>
      obtain rfl := h1.out rfl
      go_wp2
      go_ret3
      exact TileP.nil b6.out
    | true =>
      by_cases hW : Within xo xl h.d1
      · have hwt := hide (show Calls Tryz.prog 30 #[.int .u64 (xo : Int), .int .u64 (xl : Int), .int .u64 (h.d1 : Int)] w6 fun e w' => e = .returned (.bool true) ∧ w6 = w' from by have := within_any xo xl h.d1 w6 hd1.out; rw [decide_eq_true hW] at this; exact this)
        obtain ⟨s, hs⟩ : ∃ s, (h.d0 + xo) % 18446744073709551616 = s := ⟨_, rfl⟩
        obtain ⟨he1, he2⟩ := (h2.out rfl).2 hW
        rw [hs] at he1 he2
        have hu := hide (unpack_any A c bs s xl h.out w6 (hrd.out w6 b6.out) hc.out hm.out)
        obtain ⟨R, hR⟩ : ∃ R, Ar.unpack bs s xl h.out = R := ⟨_, rfl⟩
        rw [hR] at he1 he2 hu
        have hsw : IntKind.u64.wrap ((h.d0 : Int) + (xo : Int)) = (s : Int) := by rw [IntKind.wrap_u64]; omega
        have hsm : ((h.d0 : Int) + (xo : Int)) % 18446744073709551616 = (s : Int) := by omega
        replace he1 := hide he1
        replace he2 := hide he2
        replace hs := hide hs
        replace hW := hide hW
        cases R with
        | inl er =>
          obtain rfl := he1.out er rfl
          have hu1 := hide (hu.out.mono fun e w' hh => (show Below w6.heap.size w6 w' ∧ 1 ≤ er ∧ e = .returned (.tuple #[.slice none 0 0, .int .i64 (er : Int)]) from by
            obtain ⟨hb, ⟨er', h1, h2, h3⟩ | ⟨o, _, _, h1, _⟩⟩ := hh
            · cases h1; exact ⟨hb, h2, h3⟩
            · cases h1))
          clear hu
          go_wp2_with (first
            | (go_at_call 30; (with_reducible refine hwt.out.mono ?_); rintro e w7 ⟨rfl, rfl⟩)
            | (go_at_call 33; (with_reducible refine hu1.out.mono ?_); rintro e w7 ⟨hb7, her, rfl⟩; have b7 := hide (b6.out.trans (hb7.mono (by have := kh6.out.lt; omega))); have hne : ((er : Int) != 0) = true := by simp; omega))
          go_ret3
          have hz : ((er : Int) == 0) = false := by simp; omega
          first
            | exact TileP.nil b7.out
            | (simp only [hz]; exact TileP.nil b7.out)
        | inr o =>
          obtain rfl := he2.out o rfl
          have hu1 := hide (hu.out.mono fun e w' hh => (show Below w6.heap.size w6 w' ∧ ∃ A c, e = .returned (.tuple #[.slice A o.length c, .int .i64 0]) ∧ Rd w' w'.heap.size A o.length (o.map bv) from by
            obtain ⟨hb, ⟨er', h1, h2, h3⟩ | ⟨o', A', c', h1, h2, h3⟩⟩ := hh
            · cases h1
            · cases h1; exact ⟨hb, A', c', h2, h3⟩))
          clear hu
          go_wp2_with (first
            | (go_at_call 30; (with_reducible refine hwt.out.mono ?_); rintro e w7 ⟨rfl, rfl⟩)
            | (go_at_call 33; (with_reducible refine hu1.out.mono ?_); rintro e w7 ⟨hb7, A7, c7, rfl, hr7⟩; have b7 := hide (b6.out.trans (hb7.mono (by have := kh6.out.lt; omega)))))
          go_ret3
          exact ⟨b7.out, A7, c7, rfl, hr7⟩
      · obtain rfl := (h2.out rfl).1 hW
        have hwt := hide (show Calls Tryz.prog 30 #[.int .u64 (xo : Int), .int .u64 (xl : Int), .int .u64 (h.d1 : Int)] w6 fun e w' => e = .returned (.bool false) ∧ w6 = w' from by have := within_any xo xl h.d1 w6 hd1.out; rw [decide_eq_false hW] at this; exact this)
        replace hW := hide hW
        go_wp2_with (go_at_call 30; (with_reducible refine hwt.out.mono ?_); rintro e w7 ⟨rfl, rfl⟩)
        go_ret3
        exact TileP.nil b6.out
set_option maxRecDepth 100000 in
set_option maxHeartbeats 4000000 in
theorem ameta_any (A : Option Addr) (c : Nat) (bs : List UInt8) (h : Hd) (w : World) (hr : Rd w w.heap.size A bs.length (bs.map bv)) (hc : bs.length ≤ c) (hm : bs.length ≤ 1048576) :
    Calls Tryz.prog 16 #[.slice A bs.length c, .agg h.cells] w (UnP w (Ar.unpack bs h.m0 h.m1 h.inn)) := by
  obtain ⟨G, hG⟩ : ∃ G, w.heap.size = G := ⟨_, rfl⟩
  obtain ⟨w1, hw1⟩ : ∃ W, w.alloc (.cells h.cells 30) = W := ⟨_, rfl⟩
  have k1 := hide (show Blk w1 G 30 h.cells from by rw [← hw1, ← hG]; exact Blk.new w _ _)
  have hb1 := hide (show Below w.heap.size w w1 from by rw [← hw1]; exact (Below.refl _ w).alloc (Nat.le_refl _) _)
  have d1 : w1.cell? ⟨G, 2, none⟩ = some (.int .u64 (h.m0 : Int)) := (k1.out.cell 2).trans rfl
  have d2 : w1.cell? ⟨G, 3, none⟩ = some (.int .u64 (h.m1 : Int)) := (k1.out.cell 3).trans rfl
  have d3 : w1.cell? ⟨G, 12, none⟩ = some (.int .i64 h.inn) := (k1.out.cell 12).trans rfl
  have hu := hide (unpack_any A c bs h.m0 h.m1 h.inn w1 ((hr.below hb1.out).mono hb1.out.size) hc hm)
  obtain ⟨R, hR⟩ : ∃ R, Ar.unpack bs h.m0 h.m1 h.inn = R := ⟨_, rfl⟩
  rw [hR] at hu ⊢
  replace hr := hide hr
  replace hc := hide hc
  replace hm := hide hm
  clear hR
  go_enter Tryz.func16, Tryz.ntmps16
  go_wp2_with (go_at_call 33; (with_reducible refine hu.out.mono ?_); rintro e w2 ⟨hb2, ⟨er, h1, h2, rfl⟩ | ⟨o, A2, c2, h1, rfl, ho2⟩⟩; all_goals replace hb2 := hide hb2)
  all_goals
    go_ret2
    have b2 := hb1.out.trans (hb2.out.mono hb1.out.size)
    first
      | exact ⟨b2, .inl ⟨er, (by first | exact h1 | rfl), h2, rfl⟩⟩
      | exact ⟨b2, .inr ⟨o, A2, c2, (by first | exact h1 | rfl), rfl, ho2⟩⟩
end Go.Proofs.YtaapjampmnanmaaGreat
namespace Go.Proofs.YtaapjampmnanmaaGreat
open Go.RowKit Go.Shelf
set_option linter.unusedVariables false
set_option linter.unusedSimpArgs false
theorem RightR.zero {h : Hd} {n : Int} (hr : RightR h n 0) : FormA h ∧ FormB h ∧ FormC h ∧ FormD h n := by
  obtain ⟨h1, h2, h3, h4, _⟩ := hr
  by_cases a : FormA h
  · by_cases b : FormB h
    · by_cases c : FormC h
      · by_cases d : FormD h n
        · exact ⟨a, b, c, d⟩
        · have := h4 a b c d; omega
      · have := h3 a b c; omega
    · have := h2 a b; omega
  · have := h1 a; omega
theorem texts_sum (pk : List UInt8 → List UInt8) (X : Nat → It) : ∀ k, ((EnS.upto pk X k).texts.map List.length).sum ≤ ((List.range k).map fun j => (X j).bs.length).sum := by
  intro k
  induction k with
  | zero => simp [EnS.upto]
  | succ k ih =>
    rw [EnS.upto, List.range_succ, List.map_append, List.sum_append]
    generalize EnS.upto pk X k = S at *
    have h1 : ((List.map (fun j => (X j).bs.length) [k]).sum) = (X k).bs.length := by simp
    rw [h1]
    by_cases hj : S.joins (X k).id (X k).bs
    · rw [EnS.step_join hj]
      have : (EnS.join S).texts = S.texts := rfl
      rw [this]
      omega
    · rw [EnS.step_add hj]
      have : (EnS.add pk S (X k).id (X k).bs).texts = EnS.more S.texts (X k).bs := rfl
      rw [this]
      unfold EnS.more
      split
      · omega
      · rw [List.map_append, List.sum_append]
        simp
        omega
theorem items_sum {w : World} {B : Nat} {l : List Im} {d : Im} {X : Nat → It} (hR : St.Rch 0 l.length (itf l d) X) (hby : ImBy w B l) : ((List.range l.length).map fun j => (X j).bs.length).sum = (l.map Im.n).sum := by
  have h := ((sort_perm hR).map fun x => x.bs.length).sum_nat
  rw [List.map_map, List.map_map] at h
  have e : (l.map ((fun x : It => x.bs.length) ∘ Im.it)) = l.map Im.n := List.map_congr_left fun m hm => by
    show m.bs.length = m.n
    have := (hby m hm).1.len
    exact this
  rw [e] at h
  exact h
theorem tot_lin (gz : Bool) (texts : List (List UInt8)) : EnS.tot (pkd gz) texts ≤ 28 * texts.length + 8 * (texts.map List.length).sum := by
  unfold EnS.tot
  induction texts with
  | nil => simp
  | cons t ts ih =>
    have := pkd_lin gz t
    rw [List.map_cons, List.sum_cons, List.map_cons, List.sum_cons, List.length_cons]
    omega
theorem leaf_lin (gz : Bool) (ps : List (List Ent)) (h : ∀ p ∈ ps, p.length ≤ 40) : (((ps.map fun p => pkd gz (putB p)).flatten)).length ≤ 13000 * ps.length := by
  induction ps with
  | nil => simp
  | cons p ps ih =>
    have h1 := pkd_lin gz (putB p)
    have h2 := putB_len p
    have h3 := h p (by simp)
    have h4 := ih (fun x hx => h x (by simp [hx]))
    rw [List.map_cons, List.flatten_cons, List.length_append, List.length_cons]
    omega
theorem dirs_lin (gz : Bool) (leaf : Int) (es : List Ent) (hR : RightE es) (hn : es.length ≤ 40) : (dRoot gz leaf es).length ≤ 13000 ∧ (dLeaf gz leaf es).length ≤ 520000 := by
  unfold dRoot dLeaf
  by_cases h : leaf < 1 ∨ (es.length : Int) ≤ leaf
  · rw [if_pos h, if_pos h]
    have h1 := pkd_lin gz (putB es)
    have h2 := putB_len es
    exact ⟨by omega, by simp⟩
  · rw [if_neg h, if_neg h]
    have hc : chks leaf es = chk leaf.toNat es.length es := by unfold chks; rw [if_neg (by omega)]
    obtain ⟨h1, h2⟩ := tops_right gz es hR hn leaf.toNat (by omega)
    have hp : ∀ p ∈ chk leaf.toNat es.length es, p.length ≤ 40 := by
      intro p hp
      obtain ⟨j, hj, rfl⟩ := List.getElem_of_mem hp
      rw [chk_at, List.length_take, List.length_drop]
      omega
    rw [hc]
    have h3 := pkd_lin gz (putB (topsL (pkd gz) (chk leaf.toNat es.length es) (chk leaf.toNat es.length es).length))
    have h4 := putB_len (topsL (pkd gz) (chk leaf.toNat es.length es) (chk leaf.toNat es.length es).length)
    have h5 : (topsL (pkd gz) (chk leaf.toNat es.length es) (chk leaf.toNat es.length es).length).length = (chk leaf.toNat es.length es).length := by unfold topsL; simp
    have h6 := leaf_lin gz _ hp
    refine ⟨by omega, ?_⟩
    unfold leavesB
    rw [List.take_length]
    omega
theorem arc_made {w : World} {B : Nat} {q : Sp} {l : List Im} {d : Im} {X : Nat → It} (hE : SortE l 0) (hn : l.length ≤ 40) (hby : ImBy w B l) (hM : q.mtx.length + (l.map Im.n).sum ≤ 3000) (hsm : ∀ m ∈ l, m.n ≤ 3000) (hR : St.Rch 0 l.length (itf l d) X) (hS : St.Srt It.id 0 l.length X)
    (hr : RightR (bdHead q l.length (EnS.upto (pkd q.gz) X l.length).out ((EnS.upto (pkd q.gz) X l.length).texts.map (pkd q.gz))) (bdLen q (EnS.upto (pkd q.gz) X l.length).out ((EnS.upto (pkd q.gz) X l.length).texts.map (pkd q.gz)) : Int) 0)
    (bs : List UInt8) (hb : bs = headB (bdHead q l.length (EnS.upto (pkd q.gz) X l.length).out ((EnS.upto (pkd q.gz) X l.length).texts.map (pkd q.gz))) ++ dRoot q.gz q.leaf (EnS.upto (pkd q.gz) X l.length).out ++ pkd q.gz q.mtx ++ dLeaf q.gz q.leaf (EnS.upto (pkd q.gz) X l.length).out ++ ((EnS.upto (pkd q.gz) X l.length).texts.map (pkd q.gz)).flatten) :
    ArcOk q l.length (bdHead q l.length (EnS.upto (pkd q.gz) X l.length).out ((EnS.upto (pkd q.gz) X l.length).texts.map (pkd q.gz))) bs (EnS.upto (pkd q.gz) X l.length).out (EnS.upto (pkd q.gz) X l.length).texts ∧
    ∀ r, RightR (headOf bs) (bs.length : Int) r → headV bs r = (bdHead q l.length (EnS.upto (pkd q.gz) X l.length).out ((EnS.upto (pkd q.gz) X l.length).texts.map (pkd q.gz)), 0) := by
  have hok := sorted_ok hE rfl
  have hO := out_ok q.gz hE hn hby (fun m hm => by have := hsm m hm; omega) hR hS
  have hF := EnS.fits (pkd q.gz) X 1537228672809129301 l.length (fun j hj => by
    obtain ⟨m, hm, he⟩ := sort_mem hR hj
    rw [he]
    exact num_le m (hok m hm))
  have hH := EnS.has (pkd q.gz) X l.length
  have hs := texts_sum (pkd q.gz) X l.length
  rw [items_sum hR hby] at hs
  have htl : ∀ t ∈ (EnS.upto (pkd q.gz) X l.length).texts, t.length ≤ 65535 := by
    intro t ht
    obtain ⟨j, hj, he⟩ := hH.txs t ht
    obtain ⟨m, hm, he2⟩ := sort_mem hR hj
    have h1 := (hby m hm).1.len
    have h2 := hsm m hm
    rw [← he, he2]
    show m.bs.length ≤ _
    omega
  generalize EnS.upto (pkd q.gz) X l.length = S at *
  have hd := dirs_lin q.gz q.leaf S.out hO.right hO.few
  have hm := pkd_lin q.gz q.mtx
  have ht := tot_lin q.gz S.texts
  rw [← flat_tot] at ht
  have htx := hF.txt
  have hcf := hO.cfew
  have hlen : bs.length = bdLen q S.out (S.texts.map (pkd q.gz)) := by
    rw [hb]
    unfold bdLen
    simp only [List.length_append, headB_len]
  have hlen2 : bs.length ≤ 1048576 := by
    rw [hlen]
    unfold bdLen
    omega
  have hA : ArcOk q l.length (bdHead q l.length S.out (S.texts.map (pkd q.gz))) bs S.out S.texts := ⟨rfl, hb, hO.right, hO.few, fun e he => (hF.runs e he).1, hlen2, by omega, htl⟩
  refine ⟨hA, fun r hrr => ?_⟩
  obtain ⟨fa, fb, fc, fd⟩ := hr.zero
  have hof := hO.few
  have e : bs = headB (bdHead q l.length S.out (S.texts.map (pkd q.gz))) ++ (dRoot q.gz q.leaf S.out ++ (pkd q.gz q.mtx ++ (dLeaf q.gz q.leaf S.out ++ (S.texts.map (pkd q.gz)).flatten))) := by
    rw [hb]
    simp only [List.append_assoc]
  have hIn : (bdHead q l.length S.out (S.texts.map (pkd q.gz))).In := by
    refine ⟨⟨?_⟩, ?_, fa, fb, fc⟩
    · have hc1 := hd.1
      have hc2 := hd.2
      show 127 ≤ _ ∧ (dRoot q.gz q.leaf S.out).length ≤ _ ∧ 127 + (dRoot q.gz q.leaf S.out).length ≤ _ ∧ (pkd q.gz q.mtx).length ≤ _ ∧ 127 + (dRoot q.gz q.leaf S.out).length + (pkd q.gz q.mtx).length ≤ _ ∧ (dLeaf q.gz q.leaf S.out).length ≤ _ ∧ 127 + (dRoot q.gz q.leaf S.out).length + (pkd q.gz q.mtx).length + (dLeaf q.gz q.leaf S.out).length ≤ _ ∧ (S.texts.map (pkd q.gz)).flatten.length ≤ _
      omega
    · show l.length ≤ _ ∧ S.out.length ≤ _ ∧ (S.texts.map (pkd q.gz)).length ≤ _
      omega
  rw [hlen] at hrr
  rw [← hlen] at fd
  rw [e] at hrr fd hlen2 hlen ⊢
  exact headV_put _ _ hIn (by omega) r (by rw [hlen]; exact hrr) fd
theorem arc_tile {q : Sp} {h : Hd} {bs : List UInt8} {l : List Im} {d : Im} {X : Nat → It} (hR : St.Rch 0 l.length (itf l d) X) (H : ArcOk q l.length h bs (EnS.upto (pkd q.gz) X l.length).out (EnS.upto (pkd q.gz) X l.length).texts) (hall : ∀ m ∈ l, m.ok) (m : Im) :
    ∃ r : List UInt8 × Bool × Nat, (∀ A c W, Rd W W.heap.size A bs.length (bs.map bv) → bs.length ≤ c → Calls Tryz.prog 12 #[.slice A bs.length c, .agg h.cells, .agg #[.int .i64 m.z, .int .i64 m.x, .int .i64 m.y]] W (TileP W.heap.size W r)) ∧
      (m ∈ l → (q.z0 ≤ m.z ∧ m.z ≤ q.z1 → r = (m.bs, true, 0)) ∧ (¬ (q.z0 ≤ m.z ∧ m.z ≤ q.z1) → r = ([], false, 0))) ∧ ((∀ m' ∈ l, ¬ (m'.z = m.z ∧ m'.x = m.x ∧ m'.y = m.y)) → r = ([], false, 0)) := by
  have hz : h.minz = q.z0 ∧ h.maxz = q.z1 := by rw [H.hd]; exact ⟨rfl, rfl⟩
  have hroot := H.root
  have htot := H.total
  have hlen := H.len
  by_cases hm : m.ok
  · have hN := num_le m hm
    have hID : ∀ w, Calls Tryz.prog 32 #[.agg #[.int .i64 m.z, .int .i64 m.x, .int .i64 m.y]] w fun e w' => e = .returned (.tuple #[.int .u64 (m.num : Int), .int .i64 0]) ∧ Below w.heap.size w w' := fun w => (imid_any m w).mono fun e w' ⟨he, hb⟩ => ⟨(he.resolve_right fun h => h.1 hm).2, hb⟩
    have key : ∀ ok r, ok = decide ((0 : Int) = 0 ∧ h.minz ≤ m.z ∧ m.z ≤ h.maxz) → TileR bs h ok m.num r → ∀ A c W, Rd W W.heap.size A bs.length (bs.map bv) → bs.length ≤ c → Calls Tryz.prog 12 #[.slice A bs.length c, .agg h.cells, .agg #[.int .i64 m.z, .int .i64 m.x, .int .i64 m.y]] W (TileP W.heap.size W r) :=
      fun ok r hok hT A c W hr hc => atile_any A c bs h m.z m.x m.y m.num 0 W hr hc hlen (by omega) (by omega) (by omega) (.inl rfl) hID ok hok r hT
    by_cases hs : q.z0 ≤ m.z ∧ m.z ≤ q.z1
    · have hok : true = decide ((0 : Int) = 0 ∧ h.minz ≤ m.z ∧ m.z ≤ h.maxz) := by rw [hz.1, hz.2]; exact (decide_eq_true ⟨rfl, hs⟩).symm
      by_cases hin : m ∈ l
      · exact ⟨_, key true _ hok (arc_item hR H m hin), fun _ => ⟨fun _ => rfl, fun h => absurd hs h⟩, fun h => absurd ⟨rfl, rfl, rfl⟩ (h m hin)⟩
      · by_cases hsame : ∃ m' ∈ l, m'.z = m.z ∧ m'.x = m.x ∧ m'.y = m.y
        · obtain ⟨m', hm', h1, h2, h3⟩ := hsame
          have hnum : m'.num = m.num := by unfold Im.num; rw [h1, h2, h3]
          have hT := arc_item hR H m' hm'
          rw [hnum] at hT
          exact ⟨_, key true _ hok hT, fun h => absurd h hin, fun h => absurd ⟨h1, h2, h3⟩ (h m' hm')⟩
        · have hT := arc_none hR H m.num (fun m' hm' hnum => hsame ⟨m', hm', num_inj (hall m' hm') hm hnum⟩)
          exact ⟨_, key true _ hok hT, fun h => absurd h hin, fun _ => rfl⟩
    · have hok : false = decide ((0 : Int) = 0 ∧ h.minz ≤ m.z ∧ m.z ≤ h.maxz) := by rw [hz.1, hz.2]; exact (decide_eq_false (fun h => hs h.2)).symm
      exact ⟨([], false, 0), key false _ hok ⟨fun _ => rfl, fun h => (by cases h)⟩, fun _ => ⟨fun h => absurd h hs, fun _ => rfl⟩, fun _ => rfl⟩
  · have hID : ∀ w, Calls Tryz.prog 32 #[.agg #[.int .i64 m.z, .int .i64 m.x, .int .i64 m.y]] w fun e w' => e = .returned (.tuple #[.int .u64 ((0 : Nat) : Int), .int .i64 8]) ∧ Below w.heap.size w w' := fun w => (imid_any m w).mono fun e w' ⟨he, hb⟩ => ⟨(he.resolve_left fun h => hm h.1).2, hb⟩
    have hok : false = decide ((8 : Int) = 0 ∧ h.minz ≤ m.z ∧ m.z ≤ h.maxz) := (decide_eq_false (fun h => absurd h.1 (by decide))).symm
    exact ⟨([], false, 0), fun A c W hr hc => atile_any A c bs h m.z m.x m.y 0 8 W hr hc hlen (by omega) (by omega) (by omega) (.inr rfl) hID false hok _ ⟨fun _ => rfl, fun h => (by cases h)⟩, fun h => absurd (hall m h) hm, fun _ => rfl⟩
end Go.Proofs.YtaapjampmnanmaaGreat
