/- The law GzipShort: a walk. The conditions: where the bytes lie, and how many they are. -/
import Derived.Test.YthplpoijkebjbaaGzD
namespace Go.Proofs.Ythplpoijkebjbaa
open Go.RowKit Go.Shelf
set_option linter.unusedVariables false
set_option linter.unusedSimpArgs false

set_option maxRecDepth 100000 in
set_option maxHeartbeats 4000000 in
theorem gzipshort_walk (A : Option Addr) (n c : Nat) (bs : List UInt8) (s : Nat) (w : World) (hr : Rd w w.heap.size A n (bs.map bv)) (hn : n ≤ maxLen) (hc : n ≤ c) (hs : s ≤ 65535) :
    Calls Try.prog 14 #[.slice A n c, .int .u16 (s : Int)] w fun e w' => e = .returned (.bool true) ∧ Below w.heap.size w w' := by
  unfold maxLen at hn
  have hlive := hide (fun W => g6live_any W)
  have hcode := hide (fun (v : Int) W => g6code_any v W)
  have hnI : (n : Int) ≤ 9223372036854775807 := by omega
  by_cases hbig : 300 < n
  · have t1 : (301 : Int) ≤ (n : Int) := by omega
    clear hr hbig hc hn
    go_enter Try.func14, Try.ntmps14
    go_wp2_with fail
    refine (hlive.out _).mono ?_
    rintro e w5 ⟨rfl, hb5⟩
    have hb5 := hide hb5
    go_wp2
    go_ret
    exact ⟨rfl, hb5.out⟩
  · have t1 : (n : Int) ≤ 300 := by omega
    have t1n : n ≤ 300 := by omega
    have hl : bs.length = n := hr.len
    have hwr := hide (wrap_any A n c bs w hr hc (by omega))
    obtain ⟨m, hm⟩ : ∃ m, (Gz.wrap bs).length = m := ⟨_, rfl⟩
    have hm1 := Gz.wrap_len bs
    have hm2 := Gz.out_len false bs (by omega)
    obtain ⟨k, hk⟩ : ∃ k, s % m = k := ⟨_, rfl⟩
    have hkm : k < m := by rw [← hk]; exact Nat.mod_lt _ (by omega)
    have hall : ∀ F f, 8 * k < F + 1 → k < f + 2 → Gz.all (F + 1 + 400) 1000 (f + 2) [] ((Gz.wrap bs).take k) = .inl 2 := fun F f _ _ => Gz.all_cut bs 1000 (F + 400) (f + 1) k (by omega) (by omega) (by omega) (by omega)
    rw [hm] at hm1 hwr
    have hun := hide (fun A1 c1 W (h : Rd W W.heap.size A1 k (((Gz.wrap bs).take k).map bv)) (hc : k ≤ c1) => show Calls Try.prog 38 #[.slice A1 k c1, .int .i64 1000] W (UnPost W (.inl 2)) from by
      rw [← hall (8 * k) k (by omega) (by omega)]
      exact unwrap_any A1 k c1 1000 _ _ _ W h hc (by omega) (by decide) (by omega) (by omega))
    generalize Gz.wrap bs = WR at *
    have hmI : (m : Int) ≤ 41000 := by omega
    have hm0 : (1 : Int) ≤ (m : Int) := by omega
    have hmz : ((m : Int) == 0) = false := by simp; omega
    have hkn : (k : Int) ≤ (m : Int) := by omega
    have hk0 : (0 : Int) ≤ (k : Int) := by omega
    have hsm : Int.tmod (s : Int) (m : Int) = (k : Int) := by rw [← hk]; rfl
    have hsm2 : (s : Int) % (m : Int) = (k : Int) := by rw [← hk]; rfl
    have hsw : IntKind.i64.wrap (s : Int) = (s : Int) := by rw [IntKind.wrap_i64]; omega
    replace hr := hide hr
    replace hall := hide hall
    replace hm1 := hide hm1
    replace hm2 := hide hm2
    clear hn hbig hk
    go_enter Try.func14, Try.ntmps14
    go_wp2_with fail
    refine hwr.out.mono ?_
    rintro e w1 ⟨A1, c1, rfl, o1, b1⟩
    have hc1 : m ≤ c1 := by rcases o1.form with ⟨_, h, _⟩ | ⟨_, _, _, _, h, _⟩; (omega); exact h
    have hkc : (k : Int) ≤ (c1 : Int) := by omega
    have hun := hide (hun.out A1 c1 w1 (o1.rd.upto k (by omega)) (by omega))
    have b1 := hide b1
    clear o1
    go_wp2_with (first
      | (go_at_call 38; (with_reducible refine hun.out.mono ?_); rintro e w4 ⟨b4, ⟨er, h4, _, rfl⟩ | ⟨o4, A4, c4, h4, rfl, o4⟩⟩; rotate_left 1; (cases h4); cases h4; have b4 := hide (b1.out.trans (b4.mono b1.out.size)))
      | (go_at_call 39; (with_reducible refine (hcode.out _ _).mono ?_); rintro e w' ⟨rfl, rfl⟩)
      | (go_at_call 36; (with_reducible refine (hlive.out _).mono ?_); rintro e w6 ⟨rfl, hb6⟩; have hb6 := hide hb6))
    go_ret
    exact ⟨rfl, b4.out.trans (hb6.out.mono b4.out.size)⟩

end Go.Proofs.Ythplpoijkebjbaa
