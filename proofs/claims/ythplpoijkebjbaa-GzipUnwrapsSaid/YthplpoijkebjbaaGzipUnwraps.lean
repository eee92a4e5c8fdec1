/- The law GzipUnwraps: a walk. The conditions: where the bytes lie, and how many they are. -/
import Derived.Test.YthplpoijkebjbaaRGz
namespace Go.Proofs.Ythplpoijkebjbaa
open Go.RowKit Go.Shelf
set_option linter.unusedVariables false
set_option linter.unusedSimpArgs false

def Gz.outL (r : Sum Nat (List UInt8)) : List UInt8 := match r with | .inl _ => [] | .inr o => o
def Gz.errI (r : Sum Nat (List UInt8)) : Int := match r with | .inl e => (e : Int) | .inr _ => 0
/-- What both answers leave. -/
def UnFlat (r : Sum Nat (List UInt8)) (w : World) (e : Ending) (w' : World) : Prop :=
  ∃ A c, e = .returned (.tuple #[.slice A (Gz.outL r).length c, .int .i64 (Gz.errI r)]) ∧ Rd w' w'.heap.size A (Gz.outL r).length ((Gz.outL r).map bv) ∧ Below w.heap.size w w'
theorem UnPost.flat {w w' : World} {r : Sum Nat (List UInt8)} {e : Ending} (h : UnPost w r e w') : UnFlat r w e w' := by
  obtain ⟨b, ⟨er, rfl, _, rfl⟩ | ⟨o, A, c, rfl, rfl, ho⟩⟩ := h
  · exact ⟨none, 0, rfl, Rd.nil _ _ _, b⟩
  · exact ⟨A, c, rfl, ho.rd, b⟩
theorem runwrap_arg (A : Option Addr) (n c : Nat) (most : Int) (w : World) (h : most < 0 ∨ 1048576 < most) :
    Calls Try.prog 42 #[.slice A n c, .int .i64 most] w fun e w' => e = .returned (.tuple #[.slice none 0 0, .int .i64 1]) ∧ w = w' := by
  have hc : most < 0 ∨ (0 ≤ most ∧ 1048576 < most) := by omega
  rcases hc with hc | ⟨hc1, hc⟩
  all_goals (
    go_enter Try.func42, Try.ntmps42
    go_wp2
    go_ret2
    exact ⟨rfl, rfl⟩)
theorem un_flats (A : Option Addr) (n c : Nat) (bs : List UInt8) (most : Int) (w : World) (hr : Rd w w.heap.size A n (bs.map bv)) (hc : n ≤ c) (hn : n ≤ 300) : ∃ r : Sum Nat (List UInt8),
    Calls Try.prog 38 #[.slice A n c, .int .i64 most] w (UnFlat r w) ∧ ∀ W, Below w.heap.size w W → Calls Try.prog 42 #[.slice A n c, .int .i64 most] W (UnFlat r W) := by
  by_cases hm : most < 0 ∨ 1048576 < most
  · refine ⟨.inl 1, (unwrap_arg A n c most w hm).mono ?_, fun W hW => (runwrap_arg A n c most W hm).mono ?_⟩
    all_goals (
      rintro e w' ⟨rfl, rfl⟩
      exact ⟨none, 0, rfl, Rd.nil _ _ _, Below.refl _ _⟩)
  · obtain ⟨m, rfl⟩ : ∃ m : Nat, most = (m : Int) := ⟨most.toNat, by omega⟩
    refine ⟨Gz.all (8 * n + 1) m (n + 1) [] bs, (unwrap_any A n c m (8 * n + 1) (n + 1) bs w hr hc (by omega) (by omega) (by omega) (by omega)).mono (fun e w' h => h.flat), fun W hW => (runwrap_any A n c m (8 * n + 1) (n + 1) bs W ((hr.below hW).mono hW.size) hc (by omega) (by omega) (by omega) (by omega)).mono (fun e w' h => h.flat)⟩

set_option maxRecDepth 100000 in
set_option maxHeartbeats 4000000 in
theorem gzipunwraps_walk (A : Option Addr) (n c : Nat) (bs : List UInt8) (most : Int) (w : World) (hr : Rd w w.heap.size A n (bs.map bv)) (hn : n ≤ maxLen) (hc : n ≤ c) (hlo : -9223372036854775808 ≤ most) (hhi : most ≤ 9223372036854775807) :
    Calls Try.prog 13 #[.slice A n c, .int .i64 most] w fun e w' => e = .returned (.bool true) ∧ Below w.heap.size w w' := by
  have hlive := hide (fun W => g6live_any W)
  have hcode := hide (fun (v : Int) W => g6code_any v W)
  clear hlo hhi
  by_cases hbig : 300 < n ∨ (3000 < most ∧ most ≤ 1048576)
  · have hcs : (300 : Int) < (n : Int) ∨ ((n : Int) ≤ 300 ∧ 3000 < most ∧ most ≤ 1048576) := by omega
    clear hr hbig
    rcases hcs with h1 | ⟨h1, h2, h3⟩
    all_goals (
      go_enter Try.func13, Try.ntmps13
      go_wp2_with fail
      refine (hlive.out _).mono ?_
      rintro e w5 ⟨rfl, hb5⟩
      have hb5 := hide hb5
      go_wp2
      go_ret
      exact ⟨rfl, hb5.out⟩)
  · have hcs : ((n : Int) ≤ 300 ∧ most ≤ 3000) ∨ ((n : Int) ≤ 300 ∧ 3000 < most ∧ 1048576 < most) := by omega
    obtain ⟨r, hu1, hu2⟩ := un_flats A n c bs most w hr hc (by omega)
    have hl : bs.length = n := hr.len
    have his := hide (fun W (h : Below w.heap.size w W) => is_any A n c w.heap.size bs W (hr.below h) (by omega))
    have hrr := hide (fun W (h : Below w.heap.size w W) => hr.below h)
    unfold UnFlat at hu1 hu2
    generalize Gz.errI r = E at *
    generalize Gz.outL r = out at *
    obtain ⟨k, hk⟩ : ∃ k, out.length = k := ⟨_, rfl⟩
    rw [hk] at hu1 hu2
    replace hk := hide hk
    have hu1 := hide hu1
    have hu2 := hide hu2
    clear hr hbig
    rcases hcs with ⟨h1, h2⟩ | ⟨h1, h2, h3⟩
    all_goals (
      go_enter Try.func13, Try.ntmps13
      go_upto_region 5 with (first
        | (go_at_call 38; (with_reducible refine (hu1.out).mono ?_); rintro e w2 ⟨A2, c2, rfl, r2, b2⟩; have hu2 := hide (hu2.out w2 b2); have b2 := hide b2; have r2 := hide r2)
        | (go_at_call 42; (with_reducible refine (hu2.out).mono ?_); rintro e w3 ⟨A3, c3, rfl, r3, b3⟩; have r2 := hide (r2.out.below b3); have r3 := hide r3; have b3 := hide (b2.out.trans (b3.mono b2.out.size))))
      go_cut [9] (fun s9 wx => s9 = .bool (Gz.is bs) ∧ w3 = wx)
      case first =>
        have r0 := hrr.out w3 b3.out
        clear hrr hu1 hu2 his
        by_cases h2 : 2 ≤ n
        · obtain ⟨b, o, rfl, hbB, e0⟩ := r0.gzb (i := 0) (by omega)
          obtain ⟨_, _, hA, _, e1⟩ := r0.gzb (i := 1) (by omega)
          cases hA
          have h2I : (2 : Int) ≤ (n : Int) := by omega
          rw [Nat.add_zero] at e0
          have hres : Gz.is bs = ((Gz.byte bs 0 == 31) && (Gz.byte bs 1 == 139)) := by
            unfold Gz.is
            rw [decide_eq_true (by omega), Bool.true_and]
          generalize Gz.byte bs 0 = x at *
          generalize Gz.byte bs 1 = y at *
          clear r0
          by_cases hx : x = 31
          · subst hx
            by_cases hy : y = 139
            · subst hy
              have hres := hide (show Gz.is bs = true from hres)
              go_wp2
              go_meet
              exact ⟨by rw [hres.out], rfl⟩
            · have hyI : ((y : Int) == 139) = false := by simp; omega
              have hy0 : (y == 139) = false := by simpa using hy
              have hres := hide (show Gz.is bs = false from by rw [hres, hy0]; rfl)
              clear hy0
              replace hy := hide hy
              go_wp2
              go_meet
              exact ⟨by rw [hres.out], rfl⟩
          · have hxI : ((x : Int) == 31) = false := by simp; omega
            have hx0 : (x == 31) = false := by simpa using hx
            have hres := hide (show Gz.is bs = false from by rw [hres, hx0]; rfl)
            clear hx0
            replace hx := hide hx
            go_wp2
            go_meet
            exact ⟨by rw [hres.out], rfl⟩
        · have h2I : ¬ (2 : Int) ≤ (n : Int) := by omega
          have hres : Gz.is bs = false := by
            unfold Gz.is
            rw [decide_eq_false (by omega), Bool.false_and]
          have hres := hide hres
          clear r0
          go_wp2
          go_meet
          exact ⟨by rw [hres.out], rfl⟩
      case rest =>
        obtain ⟨rfl, rfl⟩ := hcut
        have hi3 := hide (his.out w3 b3.out)
        have hco := hide (hcode.out E w3)
        have hli := hide (hlive.out w3)
        have s2 := str_of_rd r2.out c2
        have s3 := str_of_rd r3.out c3
        have hee : (out == out) = true := by simp
        generalize Gz.is bs = ib at *
        clear hrr hu1 hu2 his hcode hlive
        go_wp2_with (first
          | (go_at_call 39; (with_reducible refine (hco.out).mono ?_); rintro e w' ⟨rfl, rfl⟩)
          | (go_at_call 41; (with_reducible refine (hi3.out).mono ?_); rintro e w' ⟨rfl, rfl⟩)
          | (go_at_call 36; (with_reducible refine (hli.out).mono ?_); rintro e w6 ⟨rfl, b6⟩; have b6 := hide b6))
        go_ret
        exact ⟨rfl, b3.out.trans (b6.out.mono b3.out.size)⟩)

end Go.Proofs.Ythplpoijkebjbaa
