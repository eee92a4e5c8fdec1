/- The law HuffReads: a walk. There is no condition. -/
import Derived.Test.YtceafmiieaeodaaHuffNext
import Derived.Test.YtceafmiieaeodaaHuffRW
import Derived.Test.YtceafmiieaeodaaHuffLive
namespace Go.Proofs.Ytceafmiieaeodaa
open Go.RowKit

theorem BookV.keep {B : Nat} {w w' : World} {ls : List Nat} {cs : Array Value} (h : BookV B w ls cs) (hx : KeepX w w') : BookV B w' ls cs := by
  obtain ⟨Ao, co, h1, h2⟩ := h
  exact ⟨Ao, co, h1, fun s hs => hx.ow (h2 s hs) (by decide) (by decide) (by decide)⟩

set_option maxRecDepth 100000 in
set_option maxHeartbeats 2000000 in
theorem huffreads_walk (A : Option Addr) (n c : Nat) (zs : List Int) (A1 : Option Addr) (n1 c1 : Nat) (bs : List UInt8) (w : World) (hr : Rd w w.heap.size A n (zs.map iv)) (hn : n ≤ maxLen) (hr1 : Rd w w.heap.size A1 n1 (bs.map bv)) (hn1 : n1 ≤ maxLen) :
    Calls Try.prog 8 #[.slice A n c, .slice A1 n1 c1] w fun e w' => e = .returned (.bool true) ∧ Below w.heap.size w w' := by
  have hl : zs.length = n := hr.len
  have hl1 : bs.length = n1 := hr1.len
  have hlive := hide (fun W => hufflive_any W)
  by_cases hbig : 40 < n
  · have hnI : (n : Int) ≤ 9223372036854775807 := by simp only [maxLen] at hn; omega
    clear hn hr hl hr1 hn1 hl1
    go_enter Try.func8, Try.ntmps8
    go_wp2_with (go_at_call 11; (with_reducible refine (hlive.out _).mono ?_); rintro e w5 ⟨rfl, hb5⟩)
    go_ret
    exact ⟨rfl, hb5⟩
  by_cases hbig1 : 40 < n1
  · have hnI : (n1 : Int) ≤ 9223372036854775807 := by simp only [maxLen] at hn1; omega
    have hnI0 : (n : Int) ≤ 40 := by omega
    clear hn hr hl hr1 hn1 hl1 hbig
    go_enter Try.func8, Try.ntmps8
    go_wp2_with (go_at_call 11; (with_reducible refine (hlive.out _).mono ?_); rintro e w5 ⟨rfl, hb5⟩)
    go_ret
    exact ⟨rfl, hb5⟩
  have hnI : (n : Int) ≤ 40 := by omega
  have hnI1 : (n1 : Int) ≤ 40 := by omega
  have hbad : ∀ er : Int, er ≠ 0 → (Hid (Calls Try.prog 14 #[.slice A n c, .bool true] w fun e w' => e = .returned (.tuple #[.pointer none, .int .i64 er]) ∧ w = w')) → (Hid (Calls Try.prog 15 #[.slice A n c, .bool true] w fun e w' => e = .returned (.int .i64 er) ∧ w = w')) →
      Calls Try.prog 8 #[.slice A n c, .slice A1 n1 c1] w fun e w' => e = .returned (.bool true) ∧ Below w.heap.size w w' := by
    intro er her hnew hright
    have herb : (er == 0) = false := by simpa using her
    have herc : (er != 0) = true := by simpa using her
    clear hr hn hl hr1 hn1 hl1 hbig hbig1
    go_enter Try.func8, Try.ntmps8
    go_wp2_with (first
      | (go_at_call 14; (with_reducible refine hnew.out.mono ?_); rintro e w' ⟨rfl, rfl⟩)
      | (go_at_call 15; (with_reducible refine hright.out.mono ?_); rintro e w' ⟨rfl, rfl⟩)
      | (go_at_call 11; (with_reducible refine (hlive.out _).mono ?_); rintro e w5 ⟨rfl, hb5⟩))
    go_ret
    exact ⟨rfl, hb5⟩
  cases hok : Huf.ok zs with
  | false => exact hbad 1 (by decide) (hide (new_bad A n c zs true w _ hr hok)) (hide (refright_bad A n c zs true w _ hr hn hok))
  | true =>
    obtain ⟨ls, hzs, hn288, h15⟩ := Huf.ok_nat zs hok
    obtain rfl : zs = nz ls := hzs
    have hlz : ls.length = n := by rw [nz, List.length_map] at hl; exact hl
    rw [hlz] at hn288
    by_cases hf : Huf.fits ls true
    · clear hbad
      have hsl : Huf.sum ls ≤ 32768 := by rcases hf with h | ⟨h, _⟩ <;> omega
      have hnew := hide (new_ok A n c ls true w _ hr (Nat.le_refl _) hn288 h15 hf)
      have hright := hide (fun W (h : Below w.heap.size w W) => refright_any A n c ls true W _ (hr.below h) hn288 h15 0 ⟨fun _ => rfl, fun h => absurd hf h⟩)
      have hcod := hide (fun W (h : Below w.heap.size w W) => refcodes_any A n c ls W _ (hr.below h) h.size hn288 h15 hsl)
      have hmake := hide (fun W (h : Below w.heap.size w W) => make_any A n c ls W _ (hr.below h) h.size hn288 h15 hsl)
      have hbits := hide (fun W (h : Below w.heap.size w W) => refbits_any A1 n1 c1 bs W _ (hr1.below h) h.size (by omega))
      have hnr : Hid (∀ W, Below w.heap.size w W → Calls Try.prog 30 #[.slice A1 n1 c1] W fun e w' => ∃ g, e = .returned (.pointer (some ⟨g, 0, none⟩)) ∧ RdAt W.heap.size w' g bs 0 ∧ Below W.heap.size W w') := hide (fun W h => by
        have h2 := hr1.below h
        rw [← hl1] at h2 ⊢
        exact newreader_at A1 c1 bs W _ h2 h.size (by omega))
      obtain ⟨B, hB⟩ : ∃ B, w.heap.size = B := ⟨_, rfl⟩
      rw [hB] at hnew hright hcod hmake hbits hnr ⊢
      have h15h := hide h15
      have hslh := hide hsl
      clear hn hr hok hf hsl h15 hbig hbig1 hn1 hr1 hn288 hl
      go_enter Try.func8, Try.ntmps8
      go_upto_region 8 with (first
        | (go_at_call 14; (with_reducible refine hnew.out.mono ?_); rintro e w1 ⟨g, rfl, h1, hb1⟩; have h1 := hide h1; have hb1 := hide hb1)
        | (go_at_call 15; (with_reducible refine (hright.out _ hb1.out).mono ?_); rintro e w' ⟨rfl, rfl⟩)
        | (go_at_call 30; (with_reducible refine (hnr.out _ hb1.out).mono ?_); rintro e w2 ⟨gr, rfl, h2, hb2⟩; have h1 := hide (h1.out.below hb2); have hz2 := hide (show B ≤ w1.heap.size from by have := hb1.out.size; omega); have hb2 := hide (hb1.out.trans (hb2.mono hz2.out)); have h2 := hide h2)
        | (go_at_call 18; (with_reducible refine (hcod.out _ hb2.out).mono ?_); rintro e w3 ⟨gc, rfl, ho3, hb3⟩; have h1 := hide (h1.out.below hb3); have h2 := hide (h2.out.below hb3); have hz3 := hide (show B ≤ w2.heap.size from by have := hb2.out.size; omega); have hb3 := hide (hb2.out.trans (hb3.mono hz3.out)); have ho3 := hide (ho3.base_le (base' := B) (fun g hg => Nat.le_trans hz3.out (ho3.blk_lt g hg).1)))
        | (go_at_call 37; (with_reducible refine (hmake.out _ hb3.out).mono ?_); rintro e w4 ⟨cs, rfl, hv4, hb4⟩; have h1 := hide (h1.out.below hb4); have h2 := hide (h2.out.below hb4); have ho3 := hide (ho3.out.below hb4); have hz4 := hide (show B ≤ w3.heap.size from by have := hb3.out.size; omega); have hb4 := hide (hb3.out.trans (hb4.mono hz4.out)); have hcs : cs.size = 32 := by { obtain ⟨_, _, h, _⟩ := hv4; exact h.size }; have hone := hide (show cs.all (·.oneCell') = true from by { obtain ⟨_, _, h, _⟩ := hv4; exact h.one }); have hv4 := hide (show BookV B w4 ls cs from by { obtain ⟨Ao, co, h5, h6⟩ := hv4; exact ⟨Ao, co, h5, fun s hs => (h6 s hs).base_le (fun g hg => Nat.le_trans hz4.out ((h6 s hs).blk_lt g hg).1)⟩ }); have hib := hide (info_book' hcs); have hold : Hid (book0.size = cs.size) := hide (book0_size.trans hcs.symm))
        | (go_at_call 33; (with_reducible refine (hbits.out _ hb4.out).mono ?_); rintro e w5 ⟨A5, c5, rfl, ho5, hb5⟩; have h1 := hide (h1.out.below hb5); have h2 := hide (h2.out.below hb5); have ho3 := hide (ho3.out.below hb5); have hv4 := hide (hv4.out.keep (KeepX.below hb5)); have hz5 := hide (show B ≤ w4.heap.size from by have := hb4.out.size; omega); have hb5 := hide (hb4.out.trans (hb5.mono hz5.out)); have ho5 := hide (ho5.base_le (base' := B) (fun g hg => Nat.le_trans hz5.out (ho5.blk_lt g hg).1)); have hbk := hide (Blk.new w5 63 book0); unfold book0 at hbk hold)
        | (with_reducible refine wpList_store_row (o := ⟨none, .store 63 (.tmp 9) (.tmp 44), _, _, _, _⟩) rfl 63 (.tmp 9) (.tmp 44) rfl w5.heap.size cs rfl rfl 63 _ hbk.out.eq hib.out hold.out hone.out ?_))
      have hb57 := hide (below_row (g := w5.heap.size) ((Below.refl w5.heap.size w5).alloc (Nat.le_refl _) (.cells book0 63)) (Nat.le_refl _) cs)
      have hk7 := hide (hbk.out.row cs)
      unfold book0 at hb57
      generalize (w5.alloc _).setRow w5.heap.size cs = W7 at *
      generalize hGB : w5.heap.size = gb at *
      have h17 := hide (h1.out.below (by rw [hGB]; exact hb57.out))
      have h27 := hide (h2.out.below (by rw [hGB]; exact hb57.out))
      have ho37 := hide (ho3.out.below (by rw [hGB]; exact hb57.out))
      have hv47 := hide (hv4.out.keep (KeepX.below (by rw [hGB]; exact hb57.out)))
      have ho57 := hide (ho5.out.below (by rw [hGB]; exact hb57.out))
      have hb7 := hide (hb5.out.trans (hb57.out.mono (by rw [← hGB]; have := hb5.out.size; omega)))
      have hBr : Hid (B ≤ w1.heap.size) := hz2
      generalize w1.heap.size = Br at *
      clear h1 h2 ho3 hv4 ho5 hb57 hbk hb5 hb4 hb3 hb2 hb1 hz2 hz3 hz4 hz5 hGB hnew hright hnr hbits hmake hcod hold
      have hall : Hid (∀ W, KeepX W7 W → CodeAt B W g ls ∧ Ow W B 9 (some ⟨gc, 0, none⟩) n n ((List.range n).map fun i => sv (Huf.txt ls 16 0 i)) ∧ BookV B W ls cs ∧ Blk W gb 63 cs ∧ Ow W B 4 A5 (8 * n1) c5 ((Bit.bitsOf bs).map Value.bool)) := hide (fun W h => ⟨h17.out.keep h, h.ow ho37.out (by decide) (by decide) (by decide), hv47.out.keep h, h.row hk7.out (by decide) (by decide) (by decide), h.ow ho57.out (by decide) (by decide) (by decide)⟩)
      have hbl := hide (Bit.bitsOf_length bs)
      clear h17 ho37 hv47 hk7 ho57
      go_wp2
      go_loopw [11, 12] (fun p i wr => ∃ k a : Nat, k ≤ 100 ∧ i = .int .i64 k ∧ p = .int .i64 (a : Int) ∧ Hid (a ≤ 8 * bs.length) ∧ Hid (RdAt Br wr gr bs a) ∧ Hid (KeepX W7 wr) ∧ Hid (Below B w wr)) (fun _ i _ => 100 - (intOf i).toNat)
      case atStart => exact ⟨0, 0, by omega, rfl, rfl, hide (Nat.zero_le _), h27, hide (KeepX.refl _), hb7⟩
      case round =>
        obtain ⟨k, a, hk, rfl, rfl, ha, hR, hX, hb⟩ := hrel
        by_cases hlt : k < 100
        · have hkI : (k : Int) ≤ 99 := by omega
          obtain ⟨m, x, er, hd⟩ : ∃ m x er, Huf.dec ls ((Bit.bitsOf bs).drop a) 15 0 0 = (m, x, er) := ⟨_, _, _, rfl⟩
          have hle := Huf.dec_le ls ((Bit.bitsOf bs).drop a) 15 0 0
          rw [hd] at hle
          have hax : Hid (a + x ≤ 8 * bs.length) := hide (by
            have h3 := hle.2.2 (Nat.zero_le _)
            rw [List.length_drop, hbl.out] at h3
            simp only at h3
            have := ha.out
            omega)
          have hf := hall.out wr hX.out
          have hrd := hide (read_any g gr B Br a ls bs wr hf.1 hR.out (by omega) ha.out (by omega) hslh.out m x er hd)
          have hrr := hide (fun W (h : KeepX W7 W) => refread_any (some ⟨gc, 0, none⟩) n A5 (8 * n1) c5 a ls (Bit.bitsOf bs) W _ _ (by rw [hlz]; exact (hall.out W h).2.1.rd) (hall.out W h).2.2.2.2.rd (by omega) (by have := ha.out; omega) (by omega) h15h.out hslh.out m x er hd)
          have hrn := hide (fun W (h : KeepX W7 W) => next_any cs A5 (8 * n1) c5 a ls (Bit.bitsOf bs) W B _ (hall.out W h).2.2.1 (hall.out W h).2.2.2.2.rd (Nat.le_refl _) (by omega) (by have := ha.out; omega) hslh.out m x er hd)
          rw [hlz] at hrr
          have hat := hide (fun W (h : RdAt Br W gr bs (a + x)) => atrat h)
          have hk1 := hide (show k + 1 ≤ 100 by omega)
          have hpI : ((a + x : Nat) : Int) = (a : Int) + x := by push_cast; rfl
          clear hd hle hf hlt hk
          go_upto_region 15 with (first
            | (go_at_call 38; (with_reducible refine hrd.out.mono ?_); rintro e w8 ⟨rfl, h8, hb8, hx8⟩; have h8 := hide h8; have hX8 := hide (hX.out.trans hx8); have hb8 := hide (hb.out.trans (hb8.mono hBr.out)); have hk8 := hide (hall.out _ hX8.out).2.2.2.1)
            | (go_at_call 39; (with_reducible refine (hrr.out _ hX8.out).mono ?_); rintro e w' ⟨rfl, rfl⟩)
            | (with_reducible refine wpList_load_row (o := ⟨some 66, .load 63 (.tmp 9), _, _, _, _⟩) rfl 63 (.tmp 9) rfl gb rfl 63 cs (0, 0) _ hk8.out.eq Try.underlying63 rfl hib.out ?_)
            | (go_at_call 40; (with_reducible refine (hrn.out _ hX8.out).mono ?_); rintro e w9 ⟨rfl, hb9⟩; have h9 := hide (h8.out.below hb9); have hX9 := hide (hX8.out.trans (KeepX.below hb9)); have hb9 := hide (hb8.out.trans (hb9.mono (by have := hb8.out.size; have := hX8.out.1; obtain ⟨_, _, _, h⟩ := h8.out; have := hBr.out; omega)))))
          by_cases her : er = 0
          · subst her
            go_wp2_with (first
              | (go_at_call 16; (with_reducible refine (hcode_any _ _).mono ?_); rintro e w' ⟨rfl, rfl⟩)
              | (go_at_call 36; (with_reducible refine (hat.out _ h9.out).mono ?_); rintro e w' ⟨rfl, rfl⟩))
            go_roundw
            case rel => exact ⟨k + 1, a + x, hk1.out, by go_num, by first | rfl | (exact int_eq (by push_cast; rfl)), hax, h9, hX9, hb9⟩
            case measure => simp [intOf] <;> omega
          · have herb : ((er : Int) == 0) = false := by simp; omega
            have herc : ((er : Int) != 0) = true := by simp; omega
            clear her
            go_wp2_with (first
              | (go_at_call 16; (with_reducible refine (hcode_any _ _).mono ?_); rintro e w' ⟨rfl, rfl⟩)
              | (go_at_call 36; (with_reducible refine (hat.out _ h9.out).mono ?_); rintro e w' ⟨rfl, rfl⟩)
              | (go_at_call 11; (with_reducible refine (hlive.out _).mono ?_); rintro e w10 ⟨rfl, hb10⟩))
            go_ret
            exact ⟨rfl, hb9.out.trans (hb10.mono (by have := hb9.out.size; omega))⟩
        · obtain rfl : k = 100 := by omega
          go_wp2_with (go_at_call 11; (with_reducible refine (hlive.out _).mono ?_); rintro e w10 ⟨rfl, hb10⟩)
          go_ret
          exact ⟨rfl, hb.out.trans (hb10.mono (by have := hb.out.size; omega))⟩
    · exact hbad 3 (by decide) (hide (new_form A n c ls true w _ hr hn288 h15 hf)) (hide (refright_any A n c ls true w _ hr hn288 h15 3 ⟨fun h => absurd h hf, fun _ => rfl⟩))

end Go.Proofs.Ytceafmiieaeodaa
