/- The law DeflateData: a walk. The condition: a slice's length is not above its capacity. -/
import Derived.Test.YthplpoijkebjbaaDefRFix
namespace Go.Proofs.Ythplpoijkebjbaa
open Go.RowKit
set_option linter.unusedVariables false

theorem rdata_any (A : Option Addr) (n c : Nat) (bs : List UInt8) (pl : Bool) (w : World) (hr : Rd w w.heap.size A n (bs.map bv)) (hc : n ≤ c) (hn : n ≤ 400) :
    Calls Try.prog 18 #[.slice A n c, .bool pl] w fun e w' => ∃ A' m c', e = .returned (.slice A' m c') ∧ Rd w' w'.heap.size A' m ((Def.outB pl bs).map bv) ∧ Below w.heap.size w w' := by
  cases pl
  · exact rdata_fix A n c bs w hr hc hn
  · refine (rdata_sto A n c bs w hr hc hn).mono ?_
    rintro e w' ⟨A', c', h1, h2, h3⟩
    exact ⟨A', 5 + n, c', h1, h2, h3⟩

set_option maxRecDepth 100000 in
set_option maxHeartbeats 8000000 in
theorem deflatedata_walk (A : Option Addr) (n c : Nat) (bs : List UInt8) (pl : Bool) (w : World) (hr : Rd w w.heap.size A n (bs.map bv)) (hc : n ≤ c) (hn : n ≤ maxLen) :
    Calls Try.prog 3 #[.slice A n c, .bool pl] w fun e w' => e = .returned (.bool true) ∧ Below w.heap.size w w' := by
  unfold maxLen at hn
  have hlive := hide (fun W => d5live_any W)
  have hnI : (n : Int) ≤ 9223372036854775807 := by omega
  by_cases hbig : 400 < n
  · have t1 : (401 : Int) ≤ (n : Int) := by omega
    clear hr hbig hn
    go_enter Try.func3, Try.ntmps3
    go_wp2_with fail
    refine (hlive.out _).mono ?_
    rintro e w5 ⟨rfl, hb5⟩
    have hb5 := hide hb5
    go_wp2
    go_ret
    exact ⟨rfl, hb5.out⟩
  · have t1 : (n : Int) ≤ 400 := by omega
    have hd := hide (ddata_any A n c bs pl w hr hc (by omega))
    have hR := hide (fun W (hb : Below w.heap.size w W) => rdata_any A n c bs pl W ((hr.below hb).mono hb.size) hc (by omega))
    have hcode := hide (fun W => d5code_any 0 W)
    generalize Def.outB pl bs = ys at hd hR
    clear hr hbig hn
    go_enter Try.func3, Try.ntmps3
    go_wp2_with fail
    refine (hd.out).mono ?_
    rintro e w1 ⟨A1, c1, rfl, o1, b1⟩
    have hks := hide (fun W (h : Below w1.heap.size w1 W) => str_of_rd (o1.rd.below h) c1)
    have hR := hide (fun W (h : Below w1.heap.size w1 W) => hR.out W (b1.trans (h.mono b1.size)))
    have b1 := hide b1
    clear hd o1
    have e0 := hide (Below.refl w1.heap.size w1)
    go_upto_region 4 with fail
    have bd := hide (show Below w1.heap.size w1 w1.drew from below_drewN (Below.refl _ w1) 1)
    have ks := hks.out w1.drew bd.out
    have hRd := hide (hR.out w1.drew bd.out)
    go_region_with (first
      | (go_at_call 17; (with_reducible refine (hcode.out _).mono ?_); rintro e w' ⟨rfl, rfl⟩)
      | (go_at_call 18; (with_reducible refine (hRd.out).mono ?_); rintro e w2 ⟨A2, m2, c2, rfl, r2, b2⟩; have b2 := hide (show Below w1.heap.size w1 w2 from bd.out.trans b2); have ks2 := hks.out w2 b2.out; have ks3 := str_of_rd r2 c2; have hks3 := hide (fun W (h : Below w2.heap.size w2 W) => str_of_rd (r2.below h) c2); clear r2)
      | (go_at_call 15; (with_reducible refine (hlive.out _).mono ?_); rintro e w3 ⟨rfl, b3⟩; have ks4 := hks.out w3 (b2.out.trans (b3.mono b2.out.size)); have ks5 := hks3.out w3 b3; have b3 := hide (b2.out.trans (b3.mono b2.out.size)))
      | fail)
    all_goals (
      go_wp2
      go_ret
      exact ⟨rfl, b1.out.trans (b3.out.mono b1.out.size)⟩)

end Go.Proofs.Ythplpoijkebjbaa
