/- Layer 13 (arch): a header, and the small tests that it is right. There is no condition. -/
import Derived.Test.YtaapjampmnanmaaGreatMem
import Derived.BigQuiet
import Derived.BigRegion
import Derived.Deep.DeepCutAuto
namespace Go.Proofs.YtaapjampmnanmaaGreat
open Go.RowKit
structure Hd where
  (r0 r1 m0 m1 l0 l1 d0 d1 c0 c1 c2 : Nat)
  cl : Bool
  (inn out kind minz maxz minx miny maxx maxy cx cy at' : Int)
def Hd.cells (h : Hd) : Array Value := #[.int .u64 (h.r0 : Int), .int .u64 (h.r1 : Int), .int .u64 (h.m0 : Int), .int .u64 (h.m1 : Int), .int .u64 (h.l0 : Int), .int .u64 (h.l1 : Int), .int .u64 (h.d0 : Int), .int .u64 (h.d1 : Int), .int .u64 (h.c0 : Int), .int .u64 (h.c1 : Int), .int .u64 (h.c2 : Int), .bool h.cl,
  .int .i64 h.inn, .int .i64 h.out, .int .i64 h.kind, .int .i64 h.minz, .int .i64 h.maxz, .int .i64 h.minx, .int .i64 h.miny, .int .i64 h.maxx, .int .i64 h.maxy, .int .i64 h.cx, .int .i64 h.cy, .int .i64 h.at']
def Hd.zero : Hd := ⟨0, 0, 0, 0, 0, 0, 0, 0, 0, 0, 0, false, 0, 0, 0, 0, 0, 0, 0, 0, 0, 0, 0, 0⟩
structure Hd.Ok (h : Hd) : Prop where
  u : h.r0 ≤ 18446744073709551615 ∧ h.r1 ≤ 18446744073709551615 ∧ h.m0 ≤ 18446744073709551615 ∧ h.m1 ≤ 18446744073709551615 ∧ h.l0 ≤ 18446744073709551615 ∧ h.l1 ≤ 18446744073709551615 ∧ h.d0 ≤ 18446744073709551615 ∧ h.d1 ≤ 18446744073709551615
def Within (a n all : Nat) : Prop := a ≤ all ∧ n ≤ all - a
instance (a n all : Nat) : Decidable (Within a n all) := inferInstanceAs (Decidable (_ ∧ _))
def Zoom (z : Int) : Prop := 0 ≤ z ∧ z ≤ 30
instance (z : Int) : Decidable (Zoom z) := inferInstanceAs (Decidable (_ ∧ _))
def Pack (z : Int) : Prop := z = 1 ∨ z = 2
instance (z : Int) : Decidable (Pack z) := inferInstanceAs (Decidable (_ ∨ _))
def Spot (x y : Int) : Prop := (-1800000000 ≤ x ∧ x ≤ 1800000000) ∧ (-900000000 ≤ y ∧ y ≤ 900000000)
instance (x y : Int) : Decidable (Spot x y) := inferInstanceAs (Decidable (_ ∧ _))
theorem within_any (a n all : Nat) (w : World) (hb : all ≤ 18446744073709551615) : Calls Tryz.prog 30 #[.int .u64 (a : Int), .int .u64 (n : Int), .int .u64 (all : Int)] w fun e w' => e = .returned (.bool (decide (Within a n all))) ∧ w = w' := by
  by_cases h1 : a ≤ all
  · have hI : (a : Int) ≤ (all : Int) := by omega
    obtain ⟨d, hd⟩ : ∃ d, all - a = d := ⟨_, rfl⟩
    have hW : IntKind.u64.wrap ((all : Int) - (a : Int)) = (d : Int) := by rw [IntKind.wrap_u64]; omega
    have hM : ((all : Int) - (a : Int)) % 18446744073709551616 = (d : Int) := by omega
    have he : Hid (decide (Within a n all) = decide ((n : Int) ≤ (d : Int))) := hide (decide_eq_decide.2 ⟨fun h => by have := h.2; omega, fun h => ⟨h1, by omega⟩⟩)
    clear hd hb h1
    go_enter Tryz.func30, Tryz.ntmps30
    go_wp2
    go_ret
    exact ⟨by rw [he.out]; simp, rfl⟩
  · have hI : (all : Int) < (a : Int) := by omega
    have he : Hid (decide (Within a n all) = false) := hide (decide_eq_false (fun h => h1 h.1))
    clear hb h1
    go_enter Tryz.func30, Tryz.ntmps30
    go_wp2
    go_ret
    exact ⟨by rw [he.out]; rfl, rfl⟩
theorem zoom_any (z : Int) (w : World) : Calls Tryz.prog 57 #[.int .i64 z] w fun e w' => e = .returned (.bool (decide (Zoom z))) ∧ w = w' := by
  by_cases h1 : 0 ≤ z
  · have hI : 0 ≤ z := h1
    have he : Hid (decide (Zoom z) = decide (z ≤ 30)) := hide (decide_eq_decide.2 ⟨fun h => h.2, fun h => ⟨h1, h⟩⟩)
    clear h1
    go_enter Tryz.func57, Tryz.ntmps57
    go_wp2
    go_ret
    exact ⟨by rw [he.out]; rfl, rfl⟩
  · have hI : z < 0 := by omega
    have he : Hid (decide (Zoom z) = false) := hide (decide_eq_false (fun h => h1 h.1))
    clear h1
    go_enter Tryz.func57, Tryz.ntmps57
    go_wp2
    go_ret
    exact ⟨by rw [he.out]; rfl, rfl⟩
theorem pack_any (z : Int) (w : World) : Calls Tryz.prog 58 #[.int .i64 z] w fun e w' => e = .returned (.bool (decide (Pack z))) ∧ w = w' := by
  by_cases h1 : z = 1
  · subst h1
    go_enter Tryz.func58, Tryz.ntmps58
    go_wp2
    go_ret
    exact ⟨rfl, rfl⟩
  · have hI : (z == 1) = false := by simp [h1]
    have he : Hid (decide (Pack z) = (z == 2)) := hide (by
      by_cases h2 : z = 2
      · subst h2; rfl
      · rw [show (z == 2) = false by simp [h2]]
        exact decide_eq_false (fun h => h.elim h1 h2))
    clear h1
    go_enter Tryz.func58, Tryz.ntmps58
    go_wp2
    go_ret
    exact ⟨by rw [he.out]; rfl, rfl⟩
theorem spot1_any (z m : Int) (w : World) (h0 : 0 ≤ m) (hm : m ≤ 9223372036854775807) (v : Bool) (hv : (-m ≤ z ∧ z ≤ m) ↔ v = true) : Calls Tryz.prog 88 #[.int .i64 z, .int .i64 m] w fun e w' => e = .returned (.bool v) ∧ w = w' := by
  have hW : IntKind.i64.wrap (-m) = -m := by rw [IntKind.wrap_i64]; omega
  by_cases h1 : -m ≤ z
  · by_cases h2 : z ≤ m
    · obtain rfl : v = true := hv.1 ⟨h1, h2⟩
      clear hv h0 hm
      go_enter Tryz.func88, Tryz.ntmps88
      go_wp2
      go_ret
      exact ⟨by first | rfl | (simp; omega), rfl⟩
    · obtain rfl : v = false := by
        cases v
        · rfl
        · exact absurd (hv.2 rfl).2 h2
      have h3 : m < z := by omega
      clear hv h0 hm h2
      go_enter Tryz.func88, Tryz.ntmps88
      go_wp2
      go_ret
      exact ⟨by first | rfl | (simp; omega), rfl⟩
  · obtain rfl : v = false := by
      cases v
      · rfl
      · exact absurd (hv.2 rfl).1 h1
    have h3 : z < -m := by omega
    clear hv h0 hm h1
    go_enter Tryz.func88, Tryz.ntmps88
    go_wp2
    go_ret
    exact ⟨by first | rfl | (simp; omega), rfl⟩
theorem spot_any (x y : Int) (w : World) (v : Bool) (hv : Spot x y ↔ v = true) : Calls Tryz.prog 59 #[.agg #[.int .i64 x, .int .i64 y]] w fun e w' => e = .returned (.bool v) ∧ Below w.heap.size w w' := by
  have hb := hide ((Below.refl w.heap.size w).alloc (Nat.le_refl _) (.cells #[.int .i64 x, .int .i64 y] 28))
  by_cases h1 : -1800000000 ≤ x ∧ x ≤ 1800000000
  · have hx := hide (fun W => spot1_any x 1800000000 W (by decide) (by decide) true ⟨fun _ => rfl, fun _ => h1⟩)
    have hy := hide (fun W => spot1_any y 900000000 W (by decide) (by decide) v ⟨fun h => hv.1 ⟨h1, h⟩, fun h => (hv.2 h).2⟩)
    clear hv h1
    go_enter Tryz.func59, Tryz.ntmps59
    go_wp2_with (first
      | (go_at_call 88; (with_reducible refine (hx.out _).mono ?_); rintro e w' ⟨rfl, rfl⟩)
      | (go_at_call 88; (with_reducible refine (hy.out _).mono ?_); rintro e w' ⟨rfl, rfl⟩))
    go_ret
    exact ⟨rfl, hb.out⟩
  · have hx := hide (fun W => spot1_any x 1800000000 W (by decide) (by decide) false ⟨fun h => absurd h h1, fun h => absurd h (by decide)⟩)
    obtain rfl : v = false := by
      cases v
      · rfl
      · exact absurd (hv.2 rfl).1 h1
    clear hv h1
    go_enter Tryz.func59, Tryz.ntmps59
    go_wp2_with (go_at_call 88; (with_reducible refine (hx.out _).mono ?_); rintro e w' ⟨rfl, rfl⟩)
    go_ret
    exact ⟨rfl, hb.out⟩
theorem dec_v {p : Prop} [Decidable p] {v : Bool} (hv : p ↔ v = true) : decide p = v := by
  cases v
  · exact decide_eq_false (fun h => absurd (hv.1 h) (by decide))
  · exact decide_eq_true (hv.2 rfl)
theorem pack_v (z : Int) (w : World) (v : Bool) (hv : Pack z ↔ v = true) : Calls Tryz.prog 58 #[.int .i64 z] w fun e w' => e = .returned (.bool v) ∧ w = w' := by
  rw [← dec_v hv]
  exact pack_any z w
theorem zoom_v (z : Int) (w : World) (v : Bool) (hv : Zoom z ↔ v = true) : Calls Tryz.prog 57 #[.int .i64 z] w fun e w' => e = .returned (.bool v) ∧ w = w' := by
  rw [← dec_v hv]
  exact zoom_any z w
theorem within_v (a n all : Nat) (w : World) (hb : all ≤ 18446744073709551615) (v : Bool) (hv : Within a n all ↔ v = true) : Calls Tryz.prog 30 #[.int .u64 (a : Int), .int .u64 (n : Int), .int .u64 (all : Int)] w fun e w' => e = .returned (.bool v) ∧ w = w' := by
  rw [← dec_v hv]
  exact within_any a n all w hb
theorem ex_v (p : Prop) : ∃ v : Bool, p ↔ v = true := by
  by_cases h : p
  · exact ⟨true, fun _ => rfl, fun _ => h⟩
  · exact ⟨false, fun h' => absurd h' h, fun h' => absurd h' (by decide)⟩
theorem and3 {A1 A2 A3 : Prop} {u p1 p2 p3 : Bool} (h : (A1 ∧ A2 ∧ A3) ↔ u = true) (h1 : A1 ↔ p1 = true) (h2 : A2 ↔ p2 = true) (h3 : A3 ↔ p3 = true) : u = (p1 && p2 && p3) := by
  rw [h1, h2, h3] at h
  cases u <;> cases p1 <;> cases p2 <;> cases p3 <;> simp_all
theorem and4 {A1 A2 A3 A4 : Prop} {u p1 p2 p3 p4 : Bool} (h : (A1 ∧ A2 ∧ A3 ∧ A4) ↔ u = true) (h1 : A1 ↔ p1 = true) (h2 : A2 ↔ p2 = true) (h3 : A3 ↔ p3 = true) (h4 : A4 ↔ p4 = true) : u = (p1 && p2 && p3 && p4) := by
  rw [h1, h2, h3, h4] at h
  cases u <;> cases p1 <;> cases p2 <;> cases p3 <;> cases p4 <;> simp_all
theorem and5 {A1 A2 A3 A4 A5 : Prop} {u p1 p2 p3 p4 p5 : Bool} (h : (A1 ∧ A2 ∧ A3 ∧ A4 ∧ A5) ↔ u = true) (h1 : A1 ↔ p1 = true) (h2 : A2 ↔ p2 = true) (h3 : A3 ↔ p3 = true) (h4 : A4 ↔ p4 = true) (h5 : A5 ↔ p5 = true) : u = (p1 && p2 && p3 && p4 && p5) := by
  rw [h1, h2, h3, h4, h5] at h
  cases u <;> cases p1 <;> cases p2 <;> cases p3 <;> cases p4 <;> cases p5 <;> simp_all
def FormA (h : Hd) : Prop := Pack h.inn ∧ Pack h.out ∧ h.kind = 1
def FormB (h : Hd) : Prop := Zoom h.minz ∧ Zoom h.maxz ∧ Zoom h.at' ∧ h.minz ≤ h.maxz
def FormC (h : Hd) : Prop := Spot h.minx h.miny ∧ Spot h.maxx h.maxy ∧ Spot h.cx h.cy ∧ h.minx ≤ h.maxx ∧ h.miny ≤ h.maxy
def FormD (h : Hd) (n : Int) : Prop := Within h.r0 h.r1 n.toNat ∧ Within h.m0 h.m1 n.toNat ∧ Within h.l0 h.l1 n.toNat ∧ Within h.d0 h.d1 n.toNat
def RightR (h : Hd) (n : Int) (r : Int) : Prop := (¬ FormA h → r = 3) ∧ (FormA h → ¬ FormB h → r = 3) ∧ (FormA h → FormB h → ¬ FormC h → r = 3) ∧ (FormA h → FormB h → FormC h → ¬ FormD h n → r = 8) ∧ (FormA h → FormB h → FormC h → FormD h n → r = 0)
theorem RightR.ex (h : Hd) (n : Int) : ∃ r, RightR h n r := by
  by_cases h1 : FormA h
  · by_cases h2 : FormB h
    · by_cases h3 : FormC h
      · by_cases h4 : FormD h n
        · exact ⟨0, fun h => absurd h1 h, fun _ h => absurd h2 h, fun _ _ h => absurd h3 h, fun _ _ _ h => absurd h4 h, fun _ _ _ _ => rfl⟩
        · exact ⟨8, fun h => absurd h1 h, fun _ h => absurd h2 h, fun _ _ h => absurd h3 h, fun _ _ _ _ => rfl, fun _ _ _ h => absurd h h4⟩
      · exact ⟨3, fun h => absurd h1 h, fun _ h => absurd h2 h, fun _ _ _ => rfl, fun _ _ h => absurd h h3, fun _ _ h => absurd h h3⟩
    · exact ⟨3, fun h => absurd h1 h, fun _ _ => rfl, fun _ h => absurd h h2, fun _ h => absurd h h2, fun _ h => absurd h h2⟩
  · exact ⟨3, fun _ => rfl, fun h => absurd h h1, fun h => absurd h h1, fun h => absurd h h1, fun h => absurd h h1⟩
end Go.Proofs.YtaapjampmnanmaaGreat
