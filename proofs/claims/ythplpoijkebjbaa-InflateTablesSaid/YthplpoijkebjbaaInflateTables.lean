/- The law InflateTables: a walk. There is no condition. -/
import Derived.Test.YthplpoijkebjbaaInfLive
namespace Go.Proofs.Ythplpoijkebjbaa
open Go.RowKit
set_option linter.unusedVariables false

theorem rorder_any (w : World) : Calls Try.prog 35 #[] w fun e w' => e = .returned (.slice (some ⟨w.heap.size, 0, none⟩) 19 19) ∧ Blk w' w.heap.size 3 orderA ∧ Below w.heap.size w w' := by
  go_enter Try.func35, Try.ntmps35
  go_wp2
  go_ret
  exact ⟨rfl, Blk.new w 3 orderA, (Below.refl _ w).alloc (Nat.le_refl _) _⟩
set_option maxRecDepth 100000 in
set_option maxHeartbeats 4000000 in
theorem inflatetables_walk (sym : Int) (w : World) (hs1 : -9223372036854775808 ≤ sym) (hs2 : sym ≤ 9223372036854775807) :
    Calls Try.prog 9 #[.int .i64 sym] w fun e w' => e = .returned (.bool true) ∧ Below w.heap.size w w' := by
  have h1 := hide (fun W => length_any sym W hs1 hs2)
  have h2 := hide (fun W => rlength_any sym W hs1 hs2)
  have h3 := hide (fun W => distance_any sym W)
  have h4 := hide (fun W => rdistance_any sym W hs1 hs2)
  have h5 := hide (order_any w)
  generalize (Def.lenV sym).1 = a1 at *
  generalize (Def.lenV sym).2 = a2 at *
  generalize (Def.dstV sym).1 = b1 at *
  generalize (Def.dstV sym).2 = b2 at *
  have hlive := hide (fun W => i4live_any W)
  clear hs1 hs2
  go_enter Try.func9, Try.ntmps9
  go_wp2_with (first
    | (go_at_call 30; (with_reducible refine (h1.out _).mono ?_); rintro e w1 ⟨rfl, rfl⟩)
    | (go_at_call 31; (with_reducible refine (h2.out _).mono ?_); rintro e w1 ⟨rfl, rfl⟩)
    | (go_at_call 32; (with_reducible refine (h3.out _).mono ?_); rintro e w1 ⟨rfl, rfl⟩)
    | (go_at_call 33; (with_reducible refine (h4.out _).mono ?_); rintro e w1 ⟨rfl, rfl⟩)
    | (go_at_call 34; (with_reducible refine h5.out.mono ?_); rintro e w2 ⟨rfl, kO2, b2'⟩; have h6 := hide (rorder_any w2); have kO2 := hide kO2; have b2' := hide b2')
    | (go_at_call 35; (with_reducible refine h6.out.mono ?_); rintro e w3 ⟨rfl, kP3, b3'⟩; have kO3 := hide (kO2.out.below b3' kO2.out.lt); have b3' := hide (b2'.out.trans (b3'.mono b2'.out.size)); have kP3 := hide kP3))
  obtain ⟨gO, hgO⟩ : ∃ G, w.heap.size = G := ⟨_, rfl⟩
  obtain ⟨gP, hgP⟩ : ∃ G, w2.heap.size = G := ⟨_, rfl⟩
  rw [hgO] at kO2 kO3
  rw [hgP] at kP3
  rw [hgO, hgP]
  clear hgP h5 h6
  go_loopw [13] (fun s13 wr => ∃ i : Nat, i ≤ 19 ∧ s13 = .int .i64 (i : Int) ∧ Hid (Blk wr gO 3 orderA) ∧ Hid (Blk wr gP 3 orderA) ∧ Hid (Below gO w wr)) (fun s13 _ => 19 - (intOf s13).toNat)
  case atStart => exact ⟨0, Nat.zero_le _, rfl, kO3, kP3, by rw [← hgO]; exact b3'⟩
  case round =>
    clear kO2 kO3 kP3 b2' b3'
    obtain ⟨i, hi, rfl, kO, kP, hb⟩ := hrel
    by_cases hlt : i < 19
    · have hiI : (i : Int) < 19 := by omega
      have hi0 : (0 : Int) ≤ (i : Int) := by omega
      have cO : wr.cell? ⟨gO, i, none⟩ = some (.int .i64 ((Inf.order.getD i 0 : Nat) : Int)) := by rw [kO.out.cell, order_at i hlt]
      have cP : wr.cell? ⟨gP, i, none⟩ = some (.int .i64 ((Inf.order.getD i 0 : Nat) : Int)) := by rw [kP.out.cell, order_at i hlt]
      generalize Inf.order.getD i 0 = q at *
      go_wp2
      go_quiet (fail)
      go_wp2
      go_roundw
      case rel => exact ⟨i + 1, by omega, by go_num, hide (kO.out.drewN _), hide (kP.out.drewN _), hide (below_drewN hb.out _)⟩
      case measure => simp [intOf] <;> omega
    · obtain rfl : i = 19 := by omega
      go_wp2_with (go_at_call 27; (with_reducible refine (hlive.out _).mono ?_); rintro e w5 ⟨rfl, hb5⟩; have hb5 := hide hb5)
      go_ret
      exact ⟨rfl, by rw [hgO]; exact hb.out.trans (hb5.out.mono (by have := hb.out.size; omega))⟩

end Go.Proofs.Ythplpoijkebjbaa
