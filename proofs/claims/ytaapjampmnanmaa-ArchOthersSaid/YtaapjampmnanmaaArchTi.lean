/- Layer 13 (arch): Tile and Meta, of the program and of the reference, by value. The conditions: where the bytes lie, and how many they are. -/
import Derived.Test.YtaapjampmnanmaaArchFi
import Derived.Test.YtaapjampmnanmaaHilbX
namespace Go.Proofs.Ytaapjampmnanmaa
open Go.RowKit Go.Shelf
set_option linter.unusedVariables false
set_option linter.unusedSimpArgs false

theorem info_pl (a b c : Value) : (Try.prog.info? 43).map (·.size) = some (#[a, b, c] : Array Value).size := by kernel_rfl
/-- What telling a tile returns. -/
def TileP (B : Nat) (w : World) (r : List UInt8 × Bool × Nat) (e : Ending) (w' : World) : Prop :=
  Below B w w' ∧ ∃ A c, e = .returned (.tuple #[.slice A r.1.length c, .bool r.2.1, .int .i64 (r.2.2 : Int)]) ∧ Rd w' w'.heap.size A r.1.length (r.1.map bv)
theorem TileP.nil {B : Nat} {w w' : World} {er : Nat} (h : Below B w w') : TileP B w ([], false, er) (.returned (.tuple #[.slice none 0 0, .bool false, .int .i64 (er : Int)])) w' := ⟨h, none, 0, rfl, Rd.nil _ _ _⟩

/-- The number of a place, or the error. -/
theorem plid_any (z x y : Int) : ∃ (N : Nat) (E : Int), N ≤ 18446744073709551615 ∧ (E = 0 ∨ E = 8) ∧
    (∀ w, Calls Try.prog 29 #[.agg #[.int .i64 z, .int .i64 x, .int .i64 y]] w fun e w' => e = .returned (.tuple #[.int .u64 (N : Int), .int .i64 E]) ∧ Below w.heap.size w w') ∧
    (∀ w, Calls Try.prog 17 #[.agg #[.int .i64 z, .int .i64 x, .int .i64 y]] w fun e w' => e = .returned (.tuple #[.int .u64 (N : Int), .int .i64 E]) ∧ Below w.heap.size w w') := by
  by_cases h : IsPl z x y
  · obtain ⟨a, b, c, rfl, rfl, rfl, h1, h2, h3⟩ := isPl_nat h
    have hb := hil_bound a b c h1 h2 h3
    exact ⟨_, 0, by omega, .inl rfl, fun w => id_yes a b c w h1 h2 h3, fun w => refid_yes a b c w h1 h2 h3⟩
  · exact ⟨0, 8, by omega, .inr rfl, fun w => id_no z x y w h, fun w => refid_no z x y w h⟩


set_option maxRecDepth 100000 in
set_option maxHeartbeats 4000000 in
theorem atile_any (A : Option Addr) (c : Nat) (bs : List UInt8) (h : Hd) (z x y : Int) (N : Nat) (E : Int) (w : World) (hr : Rd w w.heap.size A bs.length (bs.map bv)) (hc : bs.length ≤ c) (hm : bs.length ≤ 1048576) (hN : N ≤ 18446744073709551615) (hl1 : h.l1 ≤ 18446744073709551615) (hd1 : h.d1 ≤ 18446744073709551615)
    (hE : E = 0 ∨ E = 8) (hID : ∀ w, Calls Try.prog 29 #[.agg #[.int .i64 z, .int .i64 x, .int .i64 y]] w fun e w' => e = .returned (.tuple #[.int .u64 (N : Int), .int .i64 E]) ∧ Below w.heap.size w w') (ok : Bool) (hok : ok = decide (E = 0 ∧ h.minz ≤ z ∧ z ≤ h.maxz)) (r : List UInt8 × Bool × Nat) (hT : TileR bs h ok N r) :
    Calls Try.prog 16 #[.slice A bs.length c, .agg h.cells, .agg #[.int .i64 z, .int .i64 x, .int .i64 y]] w (TileP w.heap.size w r) := by
  obtain ⟨G, hG⟩ : ∃ G, w.heap.size = G := ⟨_, rfl⟩
  obtain ⟨w1, hw1⟩ : ∃ W, w.alloc (.cells h.cells 49) = W := ⟨_, rfl⟩
  have hs1 : w1.heap.size = G + 1 := by rw [← hw1, ← hG]; simp
  obtain ⟨w2, hw2⟩ : ∃ W, w1.alloc (.cells #[.int .i64 z, .int .i64 x, .int .i64 y] 43) = W := ⟨_, rfl⟩
  have k2 := hide (show Blk w2 G 49 h.cells from by rw [← hw2, ← hw1, ← hG]; exact (Blk.new w _ _).alloc _)
  have kp2 := hide (show Blk w2 (G + 1) 43 #[.int .i64 z, .int .i64 x, .int .i64 y] from by rw [← hw2, ← hs1]; exact Blk.new w1 _ _)
  have hb2 := hide (show Below G w w2 from by rw [← hw2]; refine Below.alloc ?_ (by rw [hs1]; omega) _; rw [← hw1, ← hG]; exact (Below.refl _ w).alloc (Nat.le_refl _) _)
  have hs2 := hide (show w2.heap.size = G + 2 from by rw [← hw2]; simp [hs1])
  have hrd := hide (fun W (hb : Below G w W) => (show Rd W W.heap.size A bs.length (bs.map bv) from (hr.below (by rw [hG]; exact hb)).mono (by have := hb.size; omega)))
  have hcl := hide (show (∀ W, Blk W G 49 h.cells → W.cell? ⟨G, 15, none⟩ = some (.int .i64 h.minz)) ∧ (∀ W, Blk W G 49 h.cells → W.cell? ⟨G, 16, none⟩ = some (.int .i64 h.maxz)) ∧ (∀ W, Blk W G 49 h.cells → W.cell? ⟨G, 6, none⟩ = some (.int .u64 (h.d0 : Int))) ∧ (∀ W, Blk W G 49 h.cells → W.cell? ⟨G, 7, none⟩ = some (.int .u64 (h.d1 : Int))) ∧ (∀ W, Blk W G 49 h.cells → W.cell? ⟨G, 13, none⟩ = some (.int .i64 h.out)) from
    ⟨fun W k => (k.cell 15).trans rfl, fun W k => (k.cell 16).trans rfl, fun W k => (k.cell 6).trans rfl, fun W k => (k.cell 7).trans rfl, fun W k => (k.cell 13).trans rfl⟩)
  rw [hG]
  replace hID := hide hID
  replace hc := hide hc
  replace hm := hide hm
  replace hN := hide hN
  replace hl1 := hide hl1
  replace hd1 := hide hd1
  clear hr
  have hcase : (ok = false ∧ (E = 8 ∨ (E = 0 ∧ z < h.minz) ∨ (E = 0 ∧ h.minz ≤ z ∧ h.maxz < z))) ∨ (ok = true ∧ E = 0 ∧ h.minz ≤ z ∧ z ≤ h.maxz) := by
    by_cases hp : E = 0 ∧ h.minz ≤ z ∧ z ≤ h.maxz
    · exact .inr ⟨by rw [hok]; exact decide_eq_true hp, hp⟩
    · exact .inl ⟨by rw [hok]; exact decide_eq_false hp, by omega⟩
  clear hok hE
  rcases hcase with ⟨rfl, hno⟩ | ⟨rfl, rfl, hz1, hz2⟩
  · obtain rfl := hT.1 rfl
    clear hT
    rcases hno with rfl | ⟨rfl, hz1⟩ | ⟨rfl, hz1, hz2⟩
    all_goals
      go_enter Try.func16, Try.ntmps16
      go_wp2_with (first
        | (with_reducible refine wpList_load_row (o := ⟨some 15, .load 43 (.tmp 5), _, _, _, _⟩) rfl 43 (.tmp 5) rfl (G + 1) rfl 43 #[.int .i64 z, .int .i64 x, .int .i64 y] (0, 0) _ kp2.out.eq Try.underlying43 rfl (info_pl _ _ _) ?_)
        | (go_at_call 29; (with_reducible refine (hID.out w2).mono ?_); rintro e w3 ⟨rfl, hb3⟩; have b3 := hide (hb2.out.trans (hb3.mono (by have := hs2.out; omega))); have k3 := hide (k2.out.below hb3 k2.out.lt); have kp3 := hide (kp2.out.below hb3 kp2.out.lt); have p1 : w3.cell? ⟨G + 1, 0, none⟩ = some (.int .i64 z) := kp3.out.cell 0; have p2 : w3.cell? ⟨G, 15, none⟩ = some (.int .i64 h.minz) := hcl.out.1 w3 k3.out; have p3 : w3.cell? ⟨G, 16, none⟩ = some (.int .i64 h.maxz) := hcl.out.2.1 w3 k3.out; clear hb3))
      go_ret3
      exact TileP.nil b3.out
  · obtain ⟨⟨⟨xi, xo, xl, xr⟩, fb, fe⟩, hD, h1, h2⟩ := hT.2 rfl
    replace hD := hide hD
    replace h1 := hide h1
    replace h2 := hide h2
    clear hT
    go_enter Try.func16, Try.ntmps16
    go_upto_region 5 with (first
      | (with_reducible refine wpList_load_row (o := ⟨some 15, .load 43 (.tmp 5), _, _, _, _⟩) rfl 43 (.tmp 5) rfl (G + 1) rfl 43 #[.int .i64 z, .int .i64 x, .int .i64 y] (0, 0) _ kp2.out.eq Try.underlying43 rfl (info_pl _ _ _) ?_)
      | (go_at_call 29; (with_reducible refine (hID.out w2).mono ?_); rintro e w3 ⟨rfl, hb3⟩; have b3 := hide (hb2.out.trans (hb3.mono (by have := hs2.out; omega))); have k3 := hide (k2.out.below hb3 k2.out.lt); have kp3 := hide (kp2.out.below hb3 kp2.out.lt); have p1 : w3.cell? ⟨G + 1, 0, none⟩ = some (.int .i64 z) := kp3.out.cell 0; have p2 : w3.cell? ⟨G, 15, none⟩ = some (.int .i64 h.minz) := hcl.out.1 w3 k3.out; have p3 : w3.cell? ⟨G, 16, none⟩ = some (.int .i64 h.maxz) := hcl.out.2.1 w3 k3.out; clear hb3)
      | (with_reducible refine wpList_load_row (o := ⟨some 37, .load 49 (.tmp 4), _, _, _, _⟩) rfl 49 (.tmp 4) rfl G rfl 49 h.cells (0, 0) _ k3.out.eq Try.underlying49 rfl (info_hd h) ?_)
      | (go_at_call 18; (with_reducible refine (afind_any A c bs h N w3 (hrd.out w3 b3.out) hc.out hm.out hN.out hl1.out ((⟨xi, xo, xl, xr⟩ : Ent), fb, fe) hD.out).mono ?_); rintro e w4 ⟨he4, hb4⟩; obtain rfl : e = .returned (.tuple #[.agg #[.int .u64 (xi : Int), .int .u64 (xo : Int), .int .u64 (xl : Int), .int .u64 (xr : Int)], .bool fb, .int .i64 (fe : Int)]) := he4; replace hb4 := hide hb4; obtain ⟨g5, hg5⟩ : ∃ g, w4.heap.size = g := ⟨_, rfl⟩; obtain ⟨w5, hw5⟩ : ∃ W, w4.alloc (.cells #[.int .u64 0, .int .u64 0, .int .u64 0, .int .u64 0] 57) = W := ⟨_, rfl⟩; have k5 := hide (show Blk w5 g5 57 #[.int .u64 0, .int .u64 0, .int .u64 0, .int .u64 0] from by rw [← hw5, ← hg5]; exact Blk.new w4 _ _); obtain ⟨w6, hw6⟩ : ∃ W, w5.setRow g5 #[.int .u64 (xi : Int), .int .u64 (xo : Int), .int .u64 (xl : Int), .int .u64 (xr : Int)] = W := ⟨_, rfl⟩)
      | ((with_reducible refine wpList_store_row (o := ⟨none, .store 57 (.tmp 11) (.tmp 40), _, _, _, _⟩) rfl 57 (.tmp 11) (.tmp 40) rfl g5 #[.int .u64 (xi : Int), .int .u64 (xo : Int), .int .u64 (xl : Int), .int .u64 (xr : Int)] rfl rfl 57 _ k5.out.eq (info_ent _ _ _ _) rfl (ent_one _ _ _ _) ?_); rw [hw6]))
    have k6 := hide (show Blk w6 g5 57 #[.int .u64 (xi : Int), .int .u64 (xo : Int), .int .u64 (xl : Int), .int .u64 (xr : Int)] from by rw [← hw6]; exact k5.out.row _)
    have hg5G := hide (show w3.heap.size ≤ g5 from by have := hb4.out.size; omega)
    have b36 := hide (show Below w3.heap.size w3 w6 from by rw [← hw6]; exact below_row (by rw [← hw5]; exact hb4.out.alloc hb4.out.size _) hg5G.out _)
    have b6 := hide (show Below G w w6 from b3.out.trans (b36.out.mono (by have := k3.out.lt; omega)))
    have kh6 := hide (k3.out.below b36.out k3.out.lt)
    have d1 : w6.cell? ⟨g5, 1, none⟩ = some (.int .u64 (xo : Int)) := k6.out.cell 1
    have d2 : w6.cell? ⟨g5, 2, none⟩ = some (.int .u64 (xl : Int)) := k6.out.cell 2
    have d4 : w6.cell? ⟨G, 6, none⟩ = some (.int .u64 (h.d0 : Int)) := hcl.out.2.2.1 w6 kh6.out
    have d5 : w6.cell? ⟨G, 7, none⟩ = some (.int .u64 (h.d1 : Int)) := hcl.out.2.2.2.1 w6 kh6.out
    have d6 : w6.cell? ⟨G, 13, none⟩ = some (.int .i64 h.out) := hcl.out.2.2.2.2 w6 kh6.out
    clear hw5 hw6 k5 hb4 hw1 hw2 k2 kp2 hb2 hs2 hs1 p1 p2 p3
    cases fb with
    | false =>
      obtain rfl := h1.out rfl
      go_wp2
      go_ret3
      exact TileP.nil b6.out
    | true =>
      by_cases hW : Within xo xl h.d1
      · have hwt := hide (show Calls Try.prog 30 #[.int .u64 (xo : Int), .int .u64 (xl : Int), .int .u64 (h.d1 : Int)] w6 fun e w' => e = .returned (.bool true) ∧ w6 = w' from by have := within_any xo xl h.d1 w6 hd1.out; rw [decide_eq_true hW] at this; exact this)
        obtain ⟨s, hs⟩ : ∃ s, (h.d0 + xo) % 18446744073709551616 = s := ⟨_, rfl⟩
        obtain ⟨he1, he2⟩ := (h2.out rfl).2 hW
        rw [hs] at he1 he2
        have hu := hide (unpack_any A c bs s xl h.out w6 (hrd.out w6 b6.out) hc.out hm.out)
        obtain ⟨R, hR⟩ : ∃ R, Ar.unpack bs s xl h.out = R := ⟨_, rfl⟩
        rw [hR] at he1 he2 hu
        have hsw : IntKind.u64.wrap ((h.d0 : Int) + (xo : Int)) = (s : Int) := by rw [IntKind.wrap_u64]; omega
        have hsm : ((h.d0 : Int) + (xo : Int)) % 18446744073709551616 = (s : Int) := by omega
        replace he1 := hide he1
        replace he2 := hide he2
        replace hs := hide hs
        replace hW := hide hW
        cases R with
        | inl er =>
          obtain rfl := he1.out er rfl
          have hu1 := hide (hu.out.mono fun e w' hh => (show Below w6.heap.size w6 w' ∧ 1 ≤ er ∧ e = .returned (.tuple #[.slice none 0 0, .int .i64 (er : Int)]) from by
            obtain ⟨hb, ⟨er', h1, h2, h3⟩ | ⟨o, _, _, h1, _⟩⟩ := hh
            · cases h1; exact ⟨hb, h2, h3⟩
            · cases h1))
          clear hu
          go_wp2_with (first
            | (go_at_call 30; (with_reducible refine hwt.out.mono ?_); rintro e w7 ⟨rfl, rfl⟩)
            | (go_at_call 31; (with_reducible refine hu1.out.mono ?_); rintro e w7 ⟨hb7, her, rfl⟩; have b7 := hide (b6.out.trans (hb7.mono (by have := kh6.out.lt; omega))); have hne : ((er : Int) != 0) = true := by simp; omega))
          go_ret3
          have hz : ((er : Int) == 0) = false := by simp; omega
          first
            | exact TileP.nil b7.out
            | (simp only [hz]; exact TileP.nil b7.out)
        | inr o =>
          obtain rfl := he2.out o rfl
          have hu1 := hide (hu.out.mono fun e w' hh => (show Below w6.heap.size w6 w' ∧ ∃ A c, e = .returned (.tuple #[.slice A o.length c, .int .i64 0]) ∧ Rd w' w'.heap.size A o.length (o.map bv) from by
            obtain ⟨hb, ⟨er', h1, h2, h3⟩ | ⟨o', A', c', h1, h2, h3⟩⟩ := hh
            · cases h1
            · cases h1; exact ⟨hb, A', c', h2, h3⟩))
          clear hu
          go_wp2_with (first
            | (go_at_call 30; (with_reducible refine hwt.out.mono ?_); rintro e w7 ⟨rfl, rfl⟩)
            | (go_at_call 31; (with_reducible refine hu1.out.mono ?_); rintro e w7 ⟨hb7, A7, c7, rfl, hr7⟩; have b7 := hide (b6.out.trans (hb7.mono (by have := kh6.out.lt; omega)))))
          go_ret3
          exact ⟨b7.out, A7, c7, rfl, hr7⟩
      · obtain rfl := (h2.out rfl).1 hW
        have hwt := hide (show Calls Try.prog 30 #[.int .u64 (xo : Int), .int .u64 (xl : Int), .int .u64 (h.d1 : Int)] w6 fun e w' => e = .returned (.bool false) ∧ w6 = w' from by have := within_any xo xl h.d1 w6 hd1.out; rw [decide_eq_false hW] at this; exact this)
        replace hW := hide hW
        go_wp2_with (go_at_call 30; (with_reducible refine hwt.out.mono ?_); rintro e w7 ⟨rfl, rfl⟩)
        go_ret3
        exact TileP.nil b6.out


end Go.Proofs.Ytaapjampmnanmaa
