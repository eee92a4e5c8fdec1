/- The statement FaultWraps' walk: the law returns true for every input. The condition: what the package errors' variable holds. -/
import Derived.Test.YtmpdoileiniijaaDoorFault
namespace Go.Proofs.YtmpdoileiniijaaDoor
open Go.RowKit Go.Extern.Stop Go.Stop Go.Extern

theorem Et.below {B : Nat} {w w' : World} (h : Et w) (hb : Below B w w') (hB : 0 < B) : Et w' := by
  unfold Et at *
  rw [hb.cell (p := ⟨0, 0, none⟩) hB]
  exact h
theorem rd_two (w : World) (a b : ByteArray) : Rd (w.alloc (.cells #[.string a, .string b] 9)) (w.heap.size + 1) (some ⟨w.heap.size, 0, none⟩) 2 ([a, b].map Value.string) := Rd.new w #[.string a, .string b] 9 (0, 0)

set_option maxRecDepth 100000 in
theorem faultlive_any (w : World) (he : Et w) : Calls Tryd.prog 4 #[] w fun e w' => e = .returned (.bool true) ∧ Below w.heap.size w w' := by
  have hst := hide (stages_two ⟨#[97]⟩ ⟨#[98]⟩ 1 2 3 w)
  have hcd := hide (fun W (h : Et W) => code_two ⟨#[97]⟩ ⟨#[98]⟩ 1 2 3 W h)
  unfold two at hst hcd
  have hin := hide (fun (s : ByteArray) (m : Int) (t : TypeId) (v : Value) W => in_any s m t v W)
  have hsm := hide (fun (A A2 : Option Addr) (c c2 B : Nat) W (h1 : Rd W B A 2 ([(⟨#[97]⟩ : ByteArray), ⟨#[98]⟩].map Value.string)) (h2 : Rd W B A2 2 ([(⟨#[97]⟩ : ByteArray), ⟨#[98]⟩].map Value.string)) (hB : B ≤ W.heap.size) => sametexts_ok A A2 c c2 2 _ W B h1 h2 hB (by decide))
  have hlt := hide he.lt
  replace he := hide he
  go_enter Tryd.func4, Tryd.ntmps4
  go_wp2_with (first
    | (go_at_call 5; (with_reducible refine (hin.out _ _ _ _ _).mono ?_); rintro e w' ⟨rfl, rfl⟩)
    | (go_at_call 8; (with_reducible refine hst.out.mono ?_); rintro e w1 ⟨A1, c1, rfl, ho1, hb1⟩; have hr1 := hide ((ho1.alloc (.cells #[.string ⟨#[97]⟩, .string ⟨#[98]⟩] 9)).rd); have hr2 := hide (rd_two w1 ⟨#[97]⟩ ⟨#[98]⟩); have hb1 := hide (hb1.alloc hb1.size (.cells #[.string ⟨#[97]⟩, .string ⟨#[98]⟩] 9)); clear ho1)
    | (go_at_call 9; (with_reducible refine (hsm.out _ _ _ _ _ _ (hr1.out.mono (by simp)) (hr2.out.mono (Nat.le_refl _)) (by simp)).mono ?_); rintro e w2 ⟨rfl, hb2⟩; have hb2 := hide (hb1.out.trans (hb2.mono hb1.out.size)))
    | (go_at_call 7; (with_reducible refine (hcd.out _ (he.out.below hb2.out hlt.out)).mono ?_); rintro e w3 ⟨rfl, hb3⟩; have hb3 := hide (hb2.out.trans (hb3.mono hb2.out.size))))
  go_ret
  exact ⟨rfl, hb3.out⟩

set_option maxRecDepth 100000 in
set_option maxHeartbeats 4000000 in
theorem faultwraps_walk (a b : ByteArray) (m n no : Int) (w : World) (he : Et w) :
    Calls Tryd.prog 3 #[.string a, .string b, .int .i64 m, .int .i64 n, .int .i64 no] w fun e w' => e = .returned (.bool true) ∧ Below w.heap.size w w' := by
  have hlive := hide (fun W (h : Et W) => faultlive_any W h)
  obtain ⟨S, hS⟩ : ∃ S, IntKind.i64.wrap ((a.size : Int) + (b.size : Int)) = S := ⟨_, rfl⟩
  by_cases hbig : 300 < S
  · have hd : decide (300 < S) = true := decide_eq_true hbig
    clear hbig
    replace he := hide he
    go_enter Tryd.func3, Tryd.ntmps3
    go_wp2_with (go_at_call 4; (with_reducible refine (hlive.out _ he.out).mono ?_); rintro e w5 ⟨rfl, hb5⟩)
    go_ret
    exact ⟨rfl, hb5⟩
  · have hd : decide (300 < S) = false := decide_eq_false hbig
    clear hbig
    have hlt := hide he.lt
    have hin := hide (fun (s : ByteArray) (m : Int) (t : TypeId) (v : Value) W => in_any s m t v W)
    have hinn := hide (fun (s : ByteArray) (m : Int) W => in_nil s m W)
    have hcn := hide (fun W => code_nil W)
    have hsn := hide (fun W => stages_nil W)
    have hst := hide (fun W => stages_two a b m n no W)
    have hcd := hide (fun W (h : Et W) => code_two a b m n no W h)
    have his := hide (fun (t : Int) W => fis_two a b m n no t W)
    unfold two at hst hcd his
    have hfc := hide (fun (n : Int) W => fcode_any n W)
    have hsm := hide (fun (A A2 : Option Addr) (c c2 B : Nat) W (h1 : Rd W B A 2 ([a, b].map Value.string)) (h2 : Rd W B A2 2 ([a, b].map Value.string)) (hB : B ≤ W.heap.size) => sametexts_ok A A2 c c2 2 _ W B h1 h2 hB (by decide))
    have hk0 := Blk.new w 28 #[.string ⟨#[]⟩, .int .i64 0, .nilIface]
    have hb0 := (Below.refl w.heap.size w).alloc (Nat.le_refl _) (.cells #[.string ⟨#[]⟩, .int .i64 0, .nilIface] 28)
    have hE0 : Et (w.alloc (.cells #[.string ⟨#[]⟩, .int .i64 0, .nilIface] 28)) := he.below hb0 hlt.out
    have hal := as_slip w.heap.size #[.string ⟨#[]⟩, .int .i64 0, .nilIface] rfl a m (.iface 28 (.agg #[.string b, .int .i64 n, .iface 26 (.int .i64 no)])) rfl (w.alloc (.cells #[.string ⟨#[]⟩, .int .i64 0, .nilIface] 28)) hE0 hk0
    replace hal := hide hal
    clear hE0
    replace hb0 := hide hb0
    replace hk0 := hide hk0
    replace he := hide he
    have hnn : (no == no) = true := by simp
    go_enter Tryd.func3, Tryd.ntmps3
    go_upto_region 7 with (first
      | (go_at_call 5; (with_reducible refine (hin.out _ _ _ _ _).mono ?_); rintro e w' ⟨rfl, rfl⟩)
      | (go_at_call 5; (with_reducible refine (hinn.out _ _ _).mono ?_); rintro e w' ⟨rfl, rfl⟩)
      | (go_at_call 6; (with_reducible refine hal.out.mono ?_); rintro e w1 ⟨rfl, hk1, hc1⟩; have d0 : w1.cell? ⟨w.heap.size, 0, none⟩ = some (.string a) := hk1.cell 0; have d1 : w1.cell? ⟨w.heap.size, 1, none⟩ = some (.int .i64 m) := hk1.cell 1; have hb1 := hide (hb0.out.trans (hc1.to_below hb0.out.size (by rintro k rfl; exact Nat.le_refl _))); clear hk1 hc1)
      | (go_at_call 7; (with_reducible refine (hcn.out _).mono ?_); rintro e w2 ⟨rfl, hb2⟩; have hb2 := hide (hb1.out.trans (hb2.mono hb1.out.size)))
      | (go_at_call 8; (with_reducible refine (hsn.out _).mono ?_); rintro e w' ⟨rfl, rfl⟩))
    go_wp2_with (first
      | (go_at_call 8; (with_reducible refine (hst.out _).mono ?_); rintro e w3 ⟨A3, c3, rfl, ho3, hb3⟩; have hr1 := hide ((ho3.alloc (.cells #[.string a, .string b] 9)).rd); have hr2 := hide (rd_two w3 a b); have hb3 := hide ((hb2.out.trans (hb3.mono hb2.out.size)).alloc (Nat.le_trans hb2.out.size hb3.size) (.cells #[.string a, .string b] 9)); clear ho3)
      | (go_at_call 9; (with_reducible refine (hsm.out _ _ _ _ _ _ (hr1.out.mono (by simp)) (hr2.out.mono (Nat.le_refl _)) (by simp)).mono ?_); rintro e w4 ⟨rfl, hb4⟩; have hb4 := hide (hb3.out.trans (hb4.mono hb3.out.size)))
      | (go_at_call 7; (with_reducible refine (hcd.out _ (he.out.below hb4.out hlt.out)).mono ?_); rintro e w5 ⟨rfl, hb5⟩; have hb5 := hide (hb4.out.trans (hb5.mono hb4.out.size)))
      | (go_at_call 10; (with_reducible refine (hfc.out _ _).mono ?_); rintro e w' ⟨rfl, rfl⟩)
      | (go_at_call 11; (with_reducible refine (his.out no _).mono ?_); rintro e w6 ⟨rfl, hb6⟩; have hb6 := hide (hb5.out.trans (hb6.mono hb5.out.size)))
      | (go_at_call 11; (with_reducible refine (his.out 3 _).mono ?_); rintro e w7 ⟨rfl, hb7⟩; have hb7 := hide (hb6.out.trans (hb7.mono hb6.out.size)))
      | (go_at_call 4; (with_reducible refine (hlive.out _ (he.out.below hb7.out hlt.out)).mono ?_); rintro e w8 ⟨rfl, hb8⟩; have hb8 := hide (hb7.out.trans (hb8.mono hb7.out.size))))
    go_ret
    exact ⟨rfl, hb8.out⟩

end Go.Proofs.YtmpdoileiniijaaDoor
