/- The laws InflateBehind and InflateShort: the walks. There is no condition. -/
import Derived.Test.YthplpoijkebjbaaInfLive
namespace Go.Proofs.Ythplpoijkebjbaa
open Go.RowKit
set_option linter.unusedVariables false

theorem Bit.bitsOf_app (a b : List UInt8) : Bit.bitsOf (a ++ b) = Bit.bitsOf a ++ Bit.bitsOf b := by
  induction a with
  | nil => rfl
  | cons x a ih => rw [List.cons_append, Bit.bitsOf, Bit.bitsOf, ih, List.append_assoc]
theorem bits_take (bs : List UInt8) (n : Nat) : Bit.bitsOf (bs.take n) <+: Bit.bitsOf bs := ⟨Bit.bitsOf (bs.drop n), by rw [← Bit.bitsOf_app, List.take_append_drop]⟩
theorem bits8 (bs : List UInt8) : (Bit.bitsOf bs).length % 8 = 0 := by rw [Bit.bitsOf_length]; omega
theorem Inf.data_behind (bs more : List UInt8) (most F n : Nat) (o : List UInt8) (h : Inf.data (Bit.bitsOf bs) most F = .inr (o, n)) : n ≤ bs.length ∧ Inf.data (Bit.bitsOf (bs.take n ++ more)) most F = .inr (o, n) := by
  have hn := Inf.data_le h (bits8 bs)
  rw [Bit.bitsOf_length] at hn
  have hn : n ≤ bs.length := by omega
  refine ⟨hn, ?_⟩
  have hl : (Bit.bitsOf (bs.take n)).length = 8 * n := by rw [Bit.bitsOf_length, List.length_take, Nat.min_eq_left hn]
  have h1 := (Inf.data_pre h (bits_take bs n) (bits8 _)).1 (by omega)
  exact Inf.data_ext h1 (by rw [Bit.bitsOf_app]; exact List.prefix_append _ _) (bits8 _)
theorem Inf.data_cut (bs : List UInt8) (most F n k : Nat) (o : List UInt8) (h : Inf.data (Bit.bitsOf bs) most F = .inr (o, n)) (hk : k < n) : Inf.data (Bit.bitsOf (bs.take k)) most F = .inl 2 := by
  have hl : (Bit.bitsOf (bs.take k)).length ≤ 8 * k := by rw [Bit.bitsOf_length, List.length_take]; omega
  exact (Inf.data_pre h (bits_take bs k) (bits8 _)).2 (by omega)
theorem Inf.data_pos (l : List Bool) (h8 : l.length % 8 = 0) (most F n : Nat) (o : List UInt8) (h : Inf.data l most (F + 1) = .inr (o, n)) : 1 ≤ n := by
  rcases Nat.eq_zero_or_pos n with h0 | h0
  · subst h0
    have h1 := (Inf.data_pre h (List.nil_prefix (l := l)) rfl).1 (Nat.zero_le _)
    have h2 : Inf.data [] most (F + 1) = .inl 2 := rfl
    rw [h2] at h1
    cases h1
  · exact h0
theorem Rd.upto {w : World} {B n : Nat} {A : Option Addr} {bs : List UInt8} (h : Rd w B A n (bs.map bv)) (k : Nat) (hk : k ≤ n) : Rd w B A k ((bs.take k).map bv) := by
  have := h.sub 0 k (by omega)
  rw [List.drop_zero, ← List.map_take] at this
  cases A with
  | none => exact this
  | some a => exact this
theorem cells_bv (bs : List UInt8) : ∀ u ∈ bs.map bv, u.oneCell' = true := by
  intro u hu
  obtain ⟨x, _, rfl⟩ := List.mem_map.1 hu
  rfl

set_option maxRecDepth 100000 in
set_option maxHeartbeats 4000000 in
theorem inflatebehind_walk (A : Option Addr) (n c : Nat) (bs : List UInt8) (A2 : Option Addr) (n2 c2 : Nat) (bs2 : List UInt8) (w : World) (hr : Rd w w.heap.size A n (bs.map bv)) (hr2 : Rd w w.heap.size A2 n2 (bs2.map bv)) (hn : n ≤ maxLen) (hn2 : n2 ≤ maxLen) (hc : n ≤ c) :
    Calls Try.prog 8 #[.slice A n c, .slice A2 n2 c2] w fun e w' => e = .returned (.bool true) ∧ Below w.heap.size w w' := by
  unfold maxLen at hn hn2
  have hlive := hide (fun W => i4live_any W)
  have hcode := hide (fun (v : Int) W => i4code_any v W)
  have hnI : (n : Int) ≤ 9223372036854775807 := by omega
  have hn2I : (n2 : Int) ≤ 9223372036854775807 := by omega
  by_cases hbig : 200 < n ∨ 200 < n2
  · rcases hbig with hbig | hbig
    · have t1 : (201 : Int) ≤ (n : Int) := by omega
      clear hr hr2 hbig hc hn hn2
      go_enter Try.func8, Try.ntmps8
      go_wp2_with fail
      refine (hlive.out _).mono ?_
      rintro e w5 ⟨rfl, hb5⟩
      have hb5 := hide hb5
      go_wp2
      go_ret
      exact ⟨rfl, hb5.out⟩
    · by_cases hbig2 : 200 < n
      · have t1 : (201 : Int) ≤ (n : Int) := by omega
        clear hr hr2 hbig hbig2 hc hn hn2
        go_enter Try.func8, Try.ntmps8
        go_wp2_with fail
        refine (hlive.out _).mono ?_
        rintro e w5 ⟨rfl, hb5⟩
        have hb5 := hide hb5
        go_wp2
        go_ret
        exact ⟨rfl, hb5.out⟩
      · have t1 : (n : Int) ≤ 200 := by omega
        have t2 : (201 : Int) ≤ (n2 : Int) := by omega
        clear hr hr2 hbig hbig2 hc hn hn2
        go_enter Try.func8, Try.ntmps8
        go_wp2_with fail
        refine (hlive.out _).mono ?_
        rintro e w5 ⟨rfl, hb5⟩
        have hb5 := hide hb5
        go_wp2
        go_ret
        exact ⟨rfl, hb5.out⟩
  · have t1 : (n : Int) ≤ 200 := by omega
    have t2 : (n2 : Int) ≤ 200 := by omega
    have t1n : n ≤ 200 := by omega
    have t2n : n2 ≤ 200 := by omega
    obtain ⟨F, hF⟩ : ∃ F, F = 5000 := ⟨_, rfl⟩
    have hd1 := hide (idata_at A c n bs 2000 F 2000 w rfl hr (by omega) (by decide) (by omega))
    have hbeh := hide (fun m o => Inf.data_behind bs bs2 2000 F m o)
    have hnz := hide (fun e => @Inf.data_nz (Bit.bitsOf bs) 2000 F e)
    have hln := hide hr.len
    have hr := hide hr
    have hr2 := hide hr2
    have hF := hide hF
    clear hbig hn hn2
    generalize hX : Inf.data (Bit.bitsOf bs) 2000 F = X at *
    clear hX
    go_enter Try.func8, Try.ntmps8
    go_wp2_with fail
    refine hd1.out.mono ?_
    rintro e w1 ⟨hb1, ⟨er, hX, rfl⟩ | ⟨o, m, A1, c1, hX, rfl, ho1⟩⟩
    · have her := hnz.out er hX
      have hez : ((er : Int) != 0) = true := by simp; omega
      have hez2 : ((er : Int) == 0) = false := by simp; omega
      have hb1 := hide hb1
      clear hX her hd1 hbeh hnz
      go_wp2_with (first
        | (go_at_call 29; (with_reducible refine (hcode.out _ _).mono ?_); rintro e w' ⟨rfl, rfl⟩)
        | (go_at_call 27; (with_reducible refine (hlive.out _).mono ?_); rintro e w5 ⟨rfl, hb5⟩; have hb5 := hide hb5))
      go_ret
      exact ⟨rfl, hb1.out.trans (hb5.out.mono hb1.out.size)⟩
    · obtain ⟨hmn, hd⟩ := hbeh.out m o hX
      rw [hln.out] at hmn
      have hmI : (m : Int) ≤ (n : Int) := by omega
      have hm0 : (0 : Int) ≤ (m : Int) := by omega
      have hmc : (m : Int) ≤ (c : Int) := by omega
      have hcc := hide (show m ≤ c from by omega)
      have hsz := hide hb1.size
      have r1 := hide ((hr.out.below hb1).upto m hmn)
      have r2 := hide (hr2.out.below hb1)
      have ho1 := hide ho1
      have hb1 := hide hb1
      obtain ⟨k, hk⟩ : ∃ k, m + n2 = k := ⟨_, rfl⟩
      have hk4 : k ≤ 400 := by omega
      have hlen1 := hide (show (bs.take m).length = m from by rw [List.length_take, hln.out, Nat.min_eq_left hmn])
      obtain ⟨w2, hw2⟩ : ∃ W, w1.alloc (.cells #[] 5) = W := ⟨_, rfl⟩
      have be12 := hide (show Below w1.heap.size w1 w2 from by rw [← hw2]; exact (Below.refl _ w1).alloc (Nat.le_refl _) _)
      have hoz := hide (show Ow w2 w1.heap.size 5 (some ⟨w1.heap.size, 0, none⟩) 0 0 [] from by rw [← hw2]; exact Ow.lit w1 #[] (Nat.le_refl _) (by decide))
      have b2 := hide (hb1.out.trans (be12.out.mono hb1.out.size))
      have ra := hide (r1.out.below (be12.out.mono hsz.out))
      have rb := hide (r2.out.below (be12.out.mono hsz.out))
      have oa := hide (ho1.out.below be12.out)
      have h1lt := hide (show ∀ g, blk A1 = some g → g < w1.heap.size from fun g hg => (ho1.out.blk_lt g hg).2)
      clear hX hd1 hbeh hnz r1 r2 ho1
      go_upto_region 8 with (go_at_call 29; (with_reducible refine (hcode.out _ _).mono ?_); rintro e w' ⟨rfl, rfl⟩)
      go_wp2_with (first
        | (at_builtin; refine wpList_append_rd w2 rfl (.tmp 48) (.tmp 51) rfl elem_byte rfl hoz.out rfl ra.out (cells_bv _) (by simp only [maxLen]; omega) (by omega) be12.out.size ?_; intro A3 c3 w3 ho3 hg3 _; have hb3 := hide (hg3.to_below (B := w1.heap.size) be12.out.size (fun i hi => by simp [blk] at hi; omega)); have oa3 := hide (oa.out.chg hg3 (fun g hg hi => by have := h1lt.out g hg; simp [blk] at hi; omega)); have rb3 := hide (rb.out.below (hb3.out.mono hsz.out)); simp only [Nat.zero_add, List.nil_append] at ho3; have ho3 := hide ho3; clear hg3)
        | (at_builtin; refine wpList_append_rd w3 rfl (.tmp 52) (.tmp 53) rfl elem_byte rfl ho3.out rfl rb3.out (cells_bv _) (by simp only [maxLen]; omega) (by omega) (Nat.le_trans be12.out.size hb3.out.size) ?_; intro A4 c4 w4 ho4 hg4 _; have hb4 := hide (hg4.to_below (B := w1.heap.size) (Nat.le_trans be12.out.size hb3.out.size) (fun i hi => (ho3.out.blk_lt i hi).1)); have oa4 := hide (oa3.out.chg hg4 (fun g hg hi => by have := h1lt.out g hg; have := (ho3.out.blk_lt g hi).1; omega)); rw [← List.map_append, hk] at ho4; have hd4 := hide (idata_at A4 c4 k (bs.take m ++ bs2) 2000 F 2000 w4 rfl ho4.rd (by omega) (by decide) (by have := hF.out; omega)); clear hg4 ho4)
        | fail)
      rw [hd] at hd4
      refine hd4.out.mono ?_
      rintro e w5 ⟨hb5, ⟨er, hX, rfl⟩ | ⟨o2, m2, A5, c5, hX, rfl, ho5⟩⟩
      · cases hX
      · cases hX
        have hb14 := hide ((be12.out.trans hb3.out).trans hb4.out)
        have ks1 := str_of_rd ((oa4.out.rd).below (hb5.mono (Nat.le_refl _))) c1
        have ks2 := str_of_rd ho5.rd c5
        have hb5 := hide hb5
        clear hd4 oa4 ho5 oa oa3 hoz ho3 ra rb rb3 hb3 hb4
        go_wp2_with (first
          | (go_at_call 29; (with_reducible refine (hcode.out _ _).mono ?_); rintro e w' ⟨rfl, rfl⟩)
          | (go_at_call 27; (with_reducible refine (hlive.out _).mono ?_); rintro e w6 ⟨rfl, hb6⟩; have hb6 := hide hb6))
        go_ret
        have b4 := hb1.out.trans (hb14.out.mono hb1.out.size)
        have b5 := b4.trans (hb5.out.mono b4.size)
        exact ⟨rfl, b5.trans (hb6.out.mono b5.size)⟩

set_option maxRecDepth 100000 in
set_option maxHeartbeats 4000000 in
theorem inflateshort_walk (A : Option Addr) (n c : Nat) (bs : List UInt8) (s : Nat) (w : World) (hr : Rd w w.heap.size A n (bs.map bv)) (hn : n ≤ maxLen) (hc : n ≤ c) (hs : s ≤ 65535) :
    Calls Try.prog 10 #[.slice A n c, .int .u16 (s : Int)] w fun e w' => e = .returned (.bool true) ∧ Below w.heap.size w w' := by
  unfold maxLen at hn
  have hlive := hide (fun W => i4live_any W)
  have hcode := hide (fun (v : Int) W => i4code_any v W)
  have hnI : (n : Int) ≤ 9223372036854775807 := by omega
  by_cases hbig : 200 < n
  · have t1 : (201 : Int) ≤ (n : Int) := by omega
    clear hr hbig hc hn
    go_enter Try.func10, Try.ntmps10
    go_wp2_with fail
    refine (hlive.out _).mono ?_
    rintro e w5 ⟨rfl, hb5⟩
    have hb5 := hide hb5
    go_wp2
    go_ret
    exact ⟨rfl, hb5.out⟩
  · have t1 : (n : Int) ≤ 200 := by omega
    have t1n : n ≤ 200 := by omega
    obtain ⟨F, hF⟩ : ∃ F, F = 5000 := ⟨_, rfl⟩
    have hd1 := hide (idata_at A c n bs 2000 (F + 1) 2000 w rfl hr (by omega) (by decide) (by omega))
    have hle := hide (fun m o => @Inf.data_le (Bit.bitsOf bs) 2000 (F + 1) m o)
    have hcut := hide (fun m k o => Inf.data_cut bs 2000 (F + 1) m k o)
    have hpos := hide (fun m o => Inf.data_pos (Bit.bitsOf bs) (bits8 bs) 2000 F m o)
    have hnz := hide (fun e => @Inf.data_nz (Bit.bitsOf bs) 2000 (F + 1) e)
    have hln := hide hr.len
    replace hr := hide hr
    replace hF := hide hF
    clear hbig hn
    generalize hX : Inf.data (Bit.bitsOf bs) 2000 (F + 1) = X at *
    clear hX
    go_enter Try.func10, Try.ntmps10
    go_wp2_with fail
    refine hd1.out.mono ?_
    rintro e w1 ⟨hb1, ⟨er, hX, rfl⟩ | ⟨o, m, A1, c1, hX, rfl, ho1⟩⟩
    · have her := hnz.out er hX
      have hez : ((er : Int) != 0) = true := by simp; omega
      have hez2 : ((er : Int) == 0) = false := by simp; omega
      replace hb1 := hide hb1
      clear hX her hd1 hle hcut hpos hnz
      go_wp2_with (first
        | (go_at_call 29; (with_reducible refine (hcode.out _ _).mono ?_); rintro e w' ⟨rfl, rfl⟩)
        | (go_at_call 27; (with_reducible refine (hlive.out _).mono ?_); rintro e w5 ⟨rfl, hb5⟩; have hb5 := hide hb5))
      go_ret
      exact ⟨rfl, hb1.out.trans (hb5.out.mono hb1.out.size)⟩
    · have hmn := hle.out m o hX (bits8 bs)
      rw [Bit.bitsOf_length, hln.out] at hmn
      have hm1 := hpos.out m o hX
      obtain ⟨k, hk⟩ : ∃ k, s % m = k := ⟨_, rfl⟩
      have hkm : k < m := by rw [← hk]; exact Nat.mod_lt _ hm1
      have hd := hcut.out m k o hX hkm
      have hmI : (m : Int) ≤ (n : Int) := by omega
      have hm0 : (1 : Int) ≤ (m : Int) := by omega
      have hmz : ((m : Int) == 0) = false := by simp; omega
      have hkn : (k : Int) ≤ (n : Int) := by omega
      have hkc : (k : Int) ≤ (c : Int) := by omega
      have hk0 : (0 : Int) ≤ (k : Int) := by omega
      have hsm : Int.tmod (s : Int) (m : Int) = (k : Int) := by rw [← hk]; rfl
      have hsm2 : (s : Int) % (m : Int) = (k : Int) := by rw [← hk]; rfl
      have hsw : IntKind.i64.wrap (s : Int) = (s : Int) := by rw [IntKind.wrap_i64]; omega
      have hcn := hide (show k ≤ c from by omega)
      have hd4 := hide (idata_at A c k (bs.take k) 2000 (F + 1) 2000 w1 rfl ((((hr.out.below hb1).upto k (by omega))).mono hb1.size) (by omega) (by decide) (by have := hF.out; omega))
      rw [hd] at hd4
      replace hb1 := hide hb1
      clear hX hd1 hle hcut hpos hnz hk hkm hd ho1
      go_wp2_with (first
        | (go_at_call 29; (with_reducible refine (hcode.out _ _).mono ?_); rintro e w' ⟨rfl, rfl⟩)
        | fail)
      refine hd4.out.mono ?_
      rintro e w5 ⟨hb5, ⟨er, hX, rfl⟩ | ⟨o2, m2, A5, c5, hX, rfl, ho5⟩⟩
      · cases hX
        replace hb5 := hide hb5
        clear hd4
        go_wp2_with (first
          | (go_at_call 29; (with_reducible refine (hcode.out _ _).mono ?_); rintro e w' ⟨rfl, rfl⟩)
          | (go_at_call 27; (with_reducible refine (hlive.out _).mono ?_); rintro e w6 ⟨rfl, hb6⟩; have hb6 := hide hb6))
        go_ret
        have b5 := hb1.out.trans (hb5.out.mono hb1.out.size)
        exact ⟨rfl, b5.trans (hb6.out.mono b5.size)⟩
      · cases hX

end Go.Proofs.Ythplpoijkebjbaa
