/- The law HuffCodes: a walk. There is no condition. -/
import Derived.Test.YtceafmiieaeodaaHuffRef
import Derived.Test.YtceafmiieaeodaaHuffLive
namespace Go.Proofs.Ytceafmiieaeodaa
open Go.RowKit

theorem Huf.txt_dig (ls : List Nat) (i : Nat) (hi : i < ls.length) (h15 : ∀ x ∈ ls, x ≤ 15) (hs : Huf.sum ls ≤ 32768) : ∃ x y, ls[i] = x ∧ Huf.bits ls 16 i = y ∧ x ≤ 15 ∧ y < 2 ^ x ∧ Huf.txt ls 16 0 i = Huf.dig y x := by
  have hx15 := h15 ls[i] (List.getElem_mem hi)
  have hg : ls.getD i 0 = ls[i] := by rw [List.getD_eq_getElem?_getD, List.getElem?_eq_getElem hi]; rfl
  refine ⟨ls[i], _, rfl, rfl, hx15, ?_, ?_⟩
  · unfold Huf.bits
    rw [hg]
    split
    · exact Huf.code_lt ls hs i _ (List.getElem?_eq_getElem hi) (by omega) hx15
    · exact Nat.two_pow_pos _
  · unfold Huf.txt Huf.bits
    rw [hg]
    by_cases h : 1 ≤ ls[i]
    · rw [if_pos ⟨h, .inl (by omega)⟩, if_pos ⟨h, by omega⟩]
    · rw [if_neg (by omega), if_neg (by omega), show ls[i] = 0 from by omega]
      rfl

set_option maxRecDepth 100000 in
set_option maxHeartbeats 2000000 in
theorem huffcodes_walk (A : Option Addr) (n c : Nat) (zs : List Int) (short : Bool) (i : Int) (w : World) (hr : Rd w w.heap.size A n (zs.map iv)) (hn : n ≤ maxLen) :
    Calls Try.prog 3 #[.slice A n c, .bool short, .int .i64 i] w fun e w' => e = .returned (.bool true) ∧ Below w.heap.size w w' := by
  have hl : zs.length = n := hr.len
  have hlive := hide (fun W => hufflive_any W)
  by_cases hbig : 400 < n
  · have hnI : (n : Int) ≤ 9223372036854775807 := by simp only [maxLen] at hn; omega
    clear hn hr hl
    go_enter Try.func3, Try.ntmps3
    go_wp2_with (go_at_call 11; (with_reducible refine (hlive.out _).mono ?_); rintro e w5 ⟨rfl, hb5⟩)
    go_ret
    exact ⟨rfl, hb5⟩
  · have hnI : (n : Int) ≤ 400 := by omega
    have hk := hide (kraft_any A n c zs w _ hr)
    have hrk := hide (refkraft_any A n c zs w _ hr hn)
    have hbad : ∀ er : Int, er ≠ 0 → (Hid (Calls Try.prog 14 #[.slice A n c, .bool short] w fun e w' => e = .returned (.tuple #[.pointer none, .int .i64 er]) ∧ w = w')) → (Hid (Calls Try.prog 15 #[.slice A n c, .bool short] w fun e w' => e = .returned (.int .i64 er) ∧ w = w')) →
        Calls Try.prog 3 #[.slice A n c, .bool short, .int .i64 i] w fun e w' => e = .returned (.bool true) ∧ Below w.heap.size w w' := by
      intro er her hnew hright
      have herb : (er == 0) = false := by simpa using her
      have herc : (er != 0) = true := by simpa using her
      generalize Huf.K zs = kk at *
      generalize Huf.ok zs = oo at *
      clear hr hn hl
      go_enter Try.func3, Try.ntmps3
      go_wp2_with (first
        | (go_at_call 12; (with_reducible refine hk.out.mono ?_); rintro e w' ⟨rfl, rfl⟩)
        | (go_at_call 13; (with_reducible refine hrk.out.mono ?_); rintro e w' ⟨rfl, rfl⟩)
        | (go_at_call 14; (with_reducible refine hnew.out.mono ?_); rintro e w' ⟨rfl, rfl⟩)
        | (go_at_call 15; (with_reducible refine hright.out.mono ?_); rintro e w' ⟨rfl, rfl⟩)
        | (go_at_call 16; (with_reducible refine (hcode_any _ _).mono ?_); rintro e w' ⟨rfl, rfl⟩)
        | (go_at_call 17; (with_reducible refine (of_nil _ _).mono ?_); rintro e w' ⟨rfl, rfl⟩))
      go_loop [17, 18] (fun v i => v = .int .u32 0 ∧ i = .int .i64 0) (fun _ _ => 0)
      case atStart => exact ⟨rfl, rfl⟩
      case round =>
        obtain ⟨rfl, rfl⟩ := hrel
        go_wp2_with (go_at_call 11; (with_reducible refine (hlive.out _).mono ?_); rintro e w5 ⟨rfl, hb5⟩)
        go_ret
        exact ⟨rfl, hb5⟩
    cases hok : Huf.ok zs with
    | false => exact hbad 1 (by decide) (hide (new_bad A n c zs short w _ hr hok)) (hide (refright_bad A n c zs short w _ hr hn hok))
    | true =>
      obtain ⟨ls, hzs, hn288, h15⟩ := Huf.ok_nat zs hok
      obtain rfl : zs = nz ls := hzs
      have hlz : ls.length = n := by rw [nz, List.length_map] at hl; exact hl
      rw [hlz] at hn288
      by_cases hf : Huf.fits ls short
      · clear hbad
        have hsl : Huf.sum ls ≤ 32768 := by rcases hf with h | ⟨h, _⟩ <;> omega
        have hnew := hide (new_ok A n c ls short w _ hr (Nat.le_refl _) hn288 h15 hf)
        have hright := hide (fun W (h : Below w.heap.size w W) => refright_any A n c ls short W _ (hr.below h) hn288 h15 0 ⟨fun _ => rfl, fun h => absurd hf h⟩)
        have hcod := hide (fun W (h : Below w.heap.size w W) => refcodes_any A n c ls W _ (hr.below h) h.size hn288 h15 hsl)
        have hrd := hide hr
        have hB : ∃ B, w.heap.size = B := ⟨_, rfl⟩
        obtain ⟨B, hB⟩ := hB
        rw [hB] at hnew hright hcod hrd ⊢
        rw [Huf.K_nat ls (by omega) h15, hok] at hk hrk
        generalize Huf.sum ls = S at hk hrk
        by_cases hi : 0 ≤ i ∧ i < n
        · obtain ⟨m, rfl⟩ := Int.eq_ofNat_of_zero_le hi.1
          have hmn : m < ls.length := by omega
          have hmI : (m : Int) < n := by omega
          obtain ⟨x, y, hx, hy, hx15, hyx, htx⟩ := Huf.txt_dig ls m hmn h15 hsl
          have hof := hide (fun W g B (h : CodeAt B W g ls) => of_in g ls m W B h (by omega) hmn)
          rw [hx, hy] at hof
          replace htx := hide htx
          have hn288I : (n : Int) ≤ 288 := by omega
          clear hn hr hok hf hsl h15 hbig hx hy hi hmn
          have hyI : (y : Int) ≤ 32767 := by
            have : 2 ^ x ≤ 2 ^ 15 := Nat.pow_le_pow_right (by omega) hx15
            omega
          replace hyx := hide hyx
          replace hn288 := hide hn288
          clear hn288I
          replace hyI := hide hyI
          have hcell := hide (fun W g (h : Ow W B 9 (some ⟨g, 0, none⟩) n n ((List.range n).map fun i => sv (Huf.txt ls 16 0 i))) => (show W.cell? ⟨g, m, none⟩ = some (.string ⟨(Huf.dig y x).toArray⟩) from by
            have h0 := h.cells (g := g) rfl m (sv (Huf.txt ls 16 0 m)) (by rw [List.getElem?_map, List.getElem?_range (by omega)]; rfl)
            rw [Addr.add_mid, Nat.zero_add, htx.out] at h0
            exact h0))
          go_enter Try.func3, Try.ntmps3
          go_wp2_with (first
            | (go_at_call 12; (with_reducible refine hk.out.mono ?_); rintro e w' ⟨rfl, rfl⟩)
            | (go_at_call 13; (with_reducible refine hrk.out.mono ?_); rintro e w' ⟨rfl, rfl⟩)
            | (go_at_call 14; (with_reducible refine hnew.out.mono ?_); rintro e w1 ⟨g, rfl, h1, hb1⟩; have h1 := hide h1; have hb1 := hide hb1)
            | (go_at_call 15; (with_reducible refine (hright.out _ hb1.out).mono ?_); rintro e w' ⟨rfl, rfl⟩)
            | (go_at_call 16; (with_reducible refine (hcode_any _ _).mono ?_); rintro e w' ⟨rfl, rfl⟩)
            | (go_at_call 17; (with_reducible refine (hof.out _ _ _ h1.out).mono ?_); rintro e w' ⟨rfl, k2, rfl⟩; have hb2 := hide (below_drewN hb1.out k2); clear h1)
            | (go_at_call 18; (with_reducible refine (hcod.out _ hb2.out).mono ?_); rintro e w3 ⟨g3, rfl, ho3, hb3⟩; have hsz := hb2.out.size; have e3 := hcell.out w3 g3 (ho3.base_le (by rintro k hk; have := (ho3.blk_lt k hk).1; omega)); have hb3 := hide (hb2.out.trans (hb3.mono (by omega))); clear ho3 hsz))
          have hD := Huf.dig_length y x
          have hDg : Hid (∀ j, j < x → (Huf.dig y x)[j]? = some (if y.testBit (x - 1 - j) then (49 : UInt8) else 48)) := hide (fun j h => by rw [List.getElem?_eq_getElem (by rw [hD]; exact h), Huf.dig_get y x j h])
          generalize Huf.dig y x = D at *
          go_loop [17, 18] (fun v i => ∃ j V : Nat, j ≤ x ∧ i = .int .i64 j ∧ v = .int .u32 (V : Int) ∧ V ≤ 32767 ∧ Hid (V = y / 2 ^ (x - j))) (fun _ i => x - (intOf i).toNat)
          case atStart => exact ⟨0, 0, by omega, rfl, rfl, by omega, hide (by rw [Nat.sub_zero, Nat.div_eq_of_lt hyx.out])⟩
          case round =>
            obtain ⟨j, V, hj, rfl, rfl, hV, hVj⟩ := hrel
            by_cases hjx : j < x
            · have hjD : j < D.length := by omega
              have hjI : (j : Int) < x := by omega
              have hst := Huf.div_step y x j hjx
              rw [← hVj.out] at hst
              have hle : y / 2 ^ (x - (j + 1)) ≤ 32767 := Nat.le_trans (Nat.div_le_self _ _) (by have := hyI.out; omega)
              have hg : D[j] = _ := Option.some.inj ((List.getElem?_eq_getElem hjD).symm.trans (hDg.out j hjx))
              cases hb : y.testBit (x - 1 - j)
              · rw [hb, if_neg (by decide)] at hst
                rw [hb] at hg
                have hgI : (((⟨D.toArray⟩ : ByteArray)[j]'hjD).toNat : Int) = 48 := by
                  have : (⟨D.toArray⟩ : ByteArray)[j]'hjD = D[j] := rfl
                  rw [this, hg]
                  rfl
                replace hst := hide hst
                clear hg hb
                go_wp2
                go_roundw
                case rel => exact ⟨j + 1, 2 * V + 0, by omega, by go_num, int_eq (by first | omega | (rw [hgI]; omega)), by have := hst.out; omega, hide (by rw [hst.out])⟩
                case measure => simp [intOf] <;> omega
              · rw [hb, if_pos rfl] at hst
                rw [hb] at hg
                have hgI : (((⟨D.toArray⟩ : ByteArray)[j]'hjD).toNat : Int) = 49 := by
                  have : (⟨D.toArray⟩ : ByteArray)[j]'hjD = D[j] := rfl
                  rw [this, hg]
                  rfl
                replace hst := hide hst
                clear hg hb
                go_wp2
                go_roundw
                case rel => exact ⟨j + 1, 2 * V + 1, by omega, by go_num, int_eq (by first | omega | (rw [hgI]; omega)), by have := hst.out; omega, hide (by rw [hst.out])⟩
                case measure => simp [intOf] <;> omega
            · obtain rfl : j = x := by omega
              have hVy : Hid (V = y) := hide (by rw [hVj.out, Nat.sub_self, Nat.pow_zero, Nat.div_one])
              obtain rfl := hVy.out
              go_wp2_with (go_at_call 11; (with_reducible refine (hlive.out _).mono ?_); rintro e w8 ⟨rfl, hb8⟩)
              go_ret
              exact ⟨rfl, hb3.out.trans (hb8.mono (by have := hb3.out.size; omega))⟩
        · have hof := hide (fun W g B (h : CodeAt B W g ls) => of_out g ls i W B h (by omega) (by omega))
          have hio : i < 0 ∨ (0 ≤ i ∧ (n : Int) ≤ i) := by omega
          clear hn hr hok hf hsl h15 hbig hcod hn288 hi
          rcases hio with hi0 | ⟨hi0, hi1⟩
          all_goals
            go_enter Try.func3, Try.ntmps3
            go_wp2_with (first
              | (go_at_call 12; (with_reducible refine hk.out.mono ?_); rintro e w' ⟨rfl, rfl⟩)
              | (go_at_call 13; (with_reducible refine hrk.out.mono ?_); rintro e w' ⟨rfl, rfl⟩)
              | (go_at_call 14; (with_reducible refine hnew.out.mono ?_); rintro e w1 ⟨g, rfl, h1, hb1⟩; have h1 := hide h1; have hb1 := hide hb1)
              | (go_at_call 15; (with_reducible refine (hright.out _ hb1.out).mono ?_); rintro e w' ⟨rfl, rfl⟩)
              | (go_at_call 16; (with_reducible refine (hcode_any _ _).mono ?_); rintro e w' ⟨rfl, rfl⟩)
              | (go_at_call 17; (with_reducible refine (hof.out _ _ _ h1.out).mono ?_); rintro e w' ⟨rfl, rfl⟩))
            go_loop [17, 18] (fun v i => v = .int .u32 0 ∧ i = .int .i64 0) (fun _ _ => 0)
            case atStart => exact ⟨rfl, rfl⟩
            case round =>
              obtain ⟨rfl, rfl⟩ := hrel
              go_wp2_with (go_at_call 11; (with_reducible refine (hlive.out _).mono ?_); rintro e w8 ⟨rfl, hb8⟩)
              go_ret
              exact ⟨rfl, hb1.out.trans (hb8.mono (by have := hb1.out.size; omega))⟩
      · exact hbad 3 (by decide) (hide (new_form A n c ls short w _ hr hn288 h15 hf)) (hide (refright_any A n c ls short w _ hr hn288 h15 3 ⟨fun h => absurd h hf, fun _ => rfl⟩))

end Go.Proofs.Ytceafmiieaeodaa
