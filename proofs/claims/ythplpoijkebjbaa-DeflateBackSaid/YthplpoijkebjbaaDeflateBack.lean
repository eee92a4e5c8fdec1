/- The law DeflateBack: a walk. There is no condition. -/
import Derived.Test.YthplpoijkebjbaaInfPack
import Derived.Test.YthplpoijkebjbaaInflateBehind
import Derived.Test.YthplpoijkebjbaaDefLive
namespace Go.Proofs.Ythplpoijkebjbaa
open Go.RowKit
set_option linter.unusedVariables false

theorem Def.outB_len (pl : Bool) (bs : List UInt8) (h : bs.length ≤ 4000) : (Def.outB pl bs).length ≤ 40000 := by
  rw [show (Def.outB pl bs).length = Bit.size (Def.outL pl bs).length from Bit.pack_length _]
  have key : (Def.outL pl bs).length ≤ 300000 := by
    cases pl with
    | false =>
      have h1 := Def.toksB_len (Def.parse bs)
      have h2 := Def.toks_len bs bs.length 0
      rw [show Def.toks bs bs.length 0 = Def.parse bs from rfl] at h2
      have h3 : (Def.litB 256).length ≤ 60 := by
        have h1 := (fixL_le 256).1
        rw [Def.litB, word_len]
        omega
      show (Def.fixB bs).length ≤ _
      simp only [Def.fixB, List.length_append, List.length_cons, List.length_nil]
      omega
    | true =>
      show (Def.stoB bs.length bs).length ≤ _
      have := Def.stoB_len bs.length bs
      omega
  unfold Bit.size
  omega

set_option maxRecDepth 100000 in
set_option maxHeartbeats 4000000 in
theorem deflateback_walk (A : Option Addr) (n c : Nat) (bs : List UInt8) (pl : Bool) (A2 : Option Addr) (n2 c2 : Nat) (bs2 : List UInt8) (w : World) (hr : Rd w w.heap.size A n (bs.map bv)) (hr2 : Rd w w.heap.size A2 n2 (bs2.map bv)) (hn : n ≤ maxLen) (hn2 : n2 ≤ maxLen) (hc : n ≤ c) :
    Calls Try.prog 11 #[.slice A n c, .bool pl, .slice A2 n2 c2] w fun e w' => e = .returned (.bool true) ∧ Below w.heap.size w w' := by
  unfold maxLen at hn hn2
  have hlive := hide (fun W => d5live_any W)
  have hcode := hide (fun (v : Int) W => d5code_any v W)
  have hnI : (n : Int) ≤ 9223372036854775807 := by omega
  have hn2I : (n2 : Int) ≤ 9223372036854775807 := by omega
  by_cases hbig : 3000 < n ∨ 200 < n2
  · rcases hbig with hbig | hbig
    · have t1 : (3001 : Int) ≤ (n : Int) := by omega
      clear hr hr2 hbig hc hn hn2
      go_enter Try.func11, Try.ntmps11
      go_wp2_with fail
      refine (hlive.out _).mono ?_
      rintro e w5 ⟨rfl, hb5⟩
      have hb5 := hide hb5
      go_wp2
      go_ret
      exact ⟨rfl, hb5.out⟩
    · by_cases hbig2 : 3000 < n
      · have t1 : (3001 : Int) ≤ (n : Int) := by omega
        clear hr hr2 hbig hbig2 hc hn hn2
        go_enter Try.func11, Try.ntmps11
        go_wp2_with fail
        refine (hlive.out _).mono ?_
        rintro e w5 ⟨rfl, hb5⟩
        have hb5 := hide hb5
        go_wp2
        go_ret
        exact ⟨rfl, hb5.out⟩
      · have t1 : (n : Int) ≤ 3000 := by omega
        have t2 : (201 : Int) ≤ (n2 : Int) := by omega
        clear hr hr2 hbig hbig2 hc hn hn2
        go_enter Try.func11, Try.ntmps11
        go_wp2_with fail
        refine (hlive.out _).mono ?_
        rintro e w5 ⟨rfl, hb5⟩
        have hb5 := hide hb5
        go_wp2
        go_ret
        exact ⟨rfl, hb5.out⟩
  · have t1 : (n : Int) ≤ 3000 := by omega
    have t2 : (n2 : Int) ≤ 200 := by omega
    have t1n : n ≤ 3000 := by omega
    have t2n : n2 ≤ 200 := by omega
    have hln := hr.len
    obtain ⟨F, hF⟩ : ∃ F, F = 1000000 := ⟨_, rfl⟩
    have hd1 := hide (ddata_any A n c bs pl w hr hc (by omega))
    have hpk := hide (Inf.data_pack pl bs bs2 4000 F (by omega) (by omega) (by omega))
    have hXl := Def.outB_len pl bs (by omega)
    generalize Def.outB pl bs = X at *
    replace hr := hide hr
    replace hr2 := hide hr2
    replace hF := hide hF
    obtain ⟨L, hL⟩ : ∃ L, X.length = L := ⟨_, rfl⟩
    rw [hL] at hd1 hpk hXl
    obtain ⟨k, hk⟩ : ∃ k, L + n2 = k := ⟨_, rfl⟩
    have hk4 : k ≤ 50000 := by omega
    replace hln := hide hln
    replace hL := hide hL
    clear hbig hn hn2
    go_enter Try.func11, Try.ntmps11
    go_wp2_with fail
    refine hd1.out.mono ?_
    rintro e w1 ⟨A1, c1, rfl, ho1, hb1⟩
    have hsz := hide hb1.size
    have r0 := hide (hr.out.below hb1)
    have r2 := hide (hr2.out.below hb1)
    have ho1 := hide ho1
    have hb1 := hide hb1
    obtain ⟨w2, hw2⟩ : ∃ W, w1.alloc (.cells #[] 5) = W := ⟨_, rfl⟩
    have be12 := hide (show Below w1.heap.size w1 w2 from by rw [← hw2]; exact (Below.refl _ w1).alloc (Nat.le_refl _) _)
    have hoz := hide (show Ow w2 w1.heap.size 5 (some ⟨w1.heap.size, 0, none⟩) 0 0 [] from by rw [← hw2]; exact Ow.lit w1 #[] (Nat.le_refl _) (by decide))
    have ra := hide ((ho1.out.rd).below be12.out)
    have rb := hide (r2.out.below (be12.out.mono hsz.out))
    have rc := hide (r0.out.below (be12.out.mono hsz.out))
    clear hd1 r0 r2 ho1
    go_wp2_with (first
      | (at_builtin; refine wpList_append_rd w2 rfl (.tmp 28) (.tmp 29) rfl elem_byte rfl hoz.out rfl ra.out (cells_bv _) (by simp only [maxLen]; omega) (by omega) be12.out.size ?_; intro A3 c3 w3 ho3 hg3 _; have hb3 := hide (hg3.to_below (B := w1.heap.size) be12.out.size (fun i hi => by simp [blk] at hi; omega)); have rb3 := hide (rb.out.below (hb3.out.mono hsz.out)); simp only [Nat.zero_add, List.nil_append] at ho3; have ho3 := hide ho3; clear hg3)
      | (at_builtin; refine wpList_append_rd w3 rfl (.tmp 30) (.tmp 31) rfl elem_byte rfl ho3.out rfl rb3.out (cells_bv _) (by simp only [maxLen]; omega) (by omega) (Nat.le_trans be12.out.size hb3.out.size) ?_; intro A4 c4 w4 ho4 hg4 _; have hb4 := hide (hg4.to_below (B := w1.heap.size) (Nat.le_trans be12.out.size hb3.out.size) (fun i hi => (ho3.out.blk_lt i hi).1)); rw [← List.map_append, hk] at ho4; have hd4 := hide (idata_at A4 c4 k (X ++ bs2) 4000 (F + 1) 4000 w4 rfl ho4.rd (by omega) (by decide) (by have := hF.out; omega)); clear hg4 ho4)
      | fail)
    rw [hpk.out] at hd4
    refine hd4.out.mono ?_
    rintro e w5 ⟨hb5, ⟨er, hX, rfl⟩ | ⟨o2, m2, A5, c5, hX, rfl, ho5⟩⟩
    · cases hX
    · cases hX
      have hb14 := hide ((be12.out.trans hb3.out).trans hb4.out)
      have hb24 := (hb3.out.trans hb4.out).mono hsz.out
      have ks1 := str_of_rd ho5.rd c5
      have ks2 := str_of_rd ((rc.out.below hb24).below (hb5.mono (Nat.le_trans hsz.out hb14.out.size))) c
      have hb5 := hide hb5
      clear hd4 ho5 hoz ho3 ra rb rb3 hb3 hb4 hb24 hpk
      go_wp2_with (first
        | (go_at_call 17; (with_reducible refine (hcode.out _ _).mono ?_); rintro e w' ⟨rfl, rfl⟩)
        | (go_at_call 15; (with_reducible refine (hlive.out _).mono ?_); rintro e w6 ⟨rfl, hb6⟩; have hb6 := hide hb6))
      go_ret
      have b4 := hb1.out.trans (hb14.out.mono hb1.out.size)
      have b5 := b4.trans (hb5.out.mono b4.size)
      exact ⟨rfl, b5.trans (hb6.out.mono b5.size)⟩

end Go.Proofs.Ythplpoijkebjbaa
