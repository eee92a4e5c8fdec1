/- The law HuffBack: a walk. There is no condition. -/
import Derived.Test.YtceafmiieaeodaaHuffRW
import Derived.Test.YtceafmiieaeodaaHuffLive
namespace Go.Proofs.Ytceafmiieaeodaa
open Go.RowKit

theorem WrAt.chg_ow2 {B g base n c : Nat} {w w' : World} {l : List Bool} {e : TypeId} {A : Option Addr} {xs : List Value} (h : WrAt B w g l) (ho : Ow w base e A n c xs) (h1 : e ≠ 86) (h2 : e ≠ 5) (hc : Chg (fun k => blk A = some k) w w') : WrAt B w' g l := by
  obtain ⟨A', ⟨c', hk, ho'⟩, h3, h4⟩ := h
  exact ⟨A', ⟨c', hk.chg hc (ho.ne hk h1), ho'.chg hc (fun k hk' hA => ho'.ne_ow ho (Ne.symm h2) k hk' hA)⟩, h3, Nat.le_trans h4 hc.size⟩

def Huf.enc (ls : List Nat) (l : List Nat) : List Bool := l.flatMap fun i => Huf.word (Huf.bits ls 16 i) (ls.getD i 0)
theorem Huf.enc_snoc (ls l : List Nat) (i : Nat) : Huf.enc ls (l ++ [i]) = Huf.enc ls l ++ Huf.word (Huf.bits ls 16 i) (ls.getD i 0) := by simp [Huf.enc]
theorem Huf.enc_len (ls : List Nat) (h15 : ∀ x ∈ ls, x ≤ 15) (l : List Nat) : (Huf.enc ls l).length ≤ 15 * l.length := by
  induction l with
  | nil => simp [Huf.enc]
  | cons i r ih =>
    have e : Huf.enc ls (i :: r) = Huf.word (Huf.bits ls 16 i) (ls.getD i 0) ++ Huf.enc ls r := by simp [Huf.enc]
    have hx : ls.getD i 0 ≤ 15 := by
      rw [List.getD_eq_getElem?_getD]
      cases h : ls[i]? with
      | none => simp
      | some x => exact h15 x (List.mem_of_getElem? h)
    rw [e, List.length_append, Huf.word_length, List.length_cons]
    omega
/-- The symbols that have a code. -/
def Huf.has (ls : List Nat) (i : Nat) : Prop := i < ls.length ∧ ls.getD i 0 ≠ 0
theorem Huf.dec_enc (ls l : List Nat) (h15 : ∀ x ∈ ls, x ≤ 15) (hs : Huf.sum ls ≤ 32768) (hl : ∀ i ∈ l, Huf.has ls i) (j : Nat) (hj : j < l.length) (rest : List Bool) :
    Huf.dec ls ((Huf.enc ls l ++ rest).drop (Huf.enc ls (l.take j)).length) 15 0 0 = (l[j], ls.getD l[j] 0, 0) ∧ (Huf.enc ls (l.take (j + 1))).length = (Huf.enc ls (l.take j)).length + ls.getD l[j] 0 ∧ (Huf.enc ls (l.take j)).length ≤ (Huf.enc ls l).length := by
  have hm := hl l[j] (List.getElem_mem hj)
  have hsn := take_snoc l j hj
  have he1 : Huf.enc ls (l.take (j + 1)) = Huf.enc ls (l.take j) ++ Huf.word (Huf.bits ls 16 l[j]) (ls.getD l[j] 0) := by rw [hsn, Huf.enc_snoc]
  have he2 : Huf.enc ls l = Huf.enc ls (l.take j) ++ (Huf.word (Huf.bits ls 16 l[j]) (ls.getD l[j] 0) ++ Huf.enc ls (l.drop (j + 1))) := by
    have : Huf.enc ls l = Huf.enc ls (l.take (j + 1)) ++ Huf.enc ls (l.drop (j + 1)) := by
      unfold Huf.enc
      rw [← List.flatMap_append, List.take_append_drop]
    rw [this, he1, List.append_assoc]
  have hi : ls[l[j]]? = some (ls.getD l[j] 0) := by
    rw [List.getD_eq_getElem?_getD, List.getElem?_eq_getElem hm.1]
    rfl
  have hx15 : ls.getD l[j] 0 ≤ 15 := h15 _ (List.mem_of_getElem? hi)
  have hb : Huf.bits ls 16 l[j] = Huf.code ls l[j] (ls.getD l[j] 0) := by
    unfold Huf.bits
    rw [if_pos ⟨by have := hm.2; omega, by omega⟩]
  refine ⟨?_, by rw [he1, List.length_append, Huf.word_length], by rw [he2, List.length_append]; omega⟩
  rw [he2, List.append_assoc, List.drop_left, List.append_assoc, hb]
  exact Huf.dec_word ls l[j] _ hi (by have := hm.2; omega) hx15 hs _

set_option maxRecDepth 100000 in
set_option maxHeartbeats 2000000 in
theorem huffback_walk (A : Option Addr) (n c : Nat) (zs : List Int) (A1 : Option Addr) (n1 c1 : Nat) (zs1 : List Int) (w : World) (hr : Rd w w.heap.size A n (zs.map iv)) (hn : n ≤ maxLen) (hr1 : Rd w w.heap.size A1 n1 (zs1.map iv)) (hn1 : n1 ≤ maxLen) :
    Calls Try.prog 10 #[.slice A n c, .slice A1 n1 c1] w fun e w' => e = .returned (.bool true) ∧ Below w.heap.size w w' := by
  have hl : zs.length = n := hr.len
  have hl1 : zs1.length = n1 := hr1.len
  have hlive := hide (fun W => hufflive_any W)
  by_cases hbig : 300 < n
  · have hnI : (n : Int) ≤ 9223372036854775807 := by simp only [maxLen] at hn; omega
    clear hn hr hl hr1 hn1 hl1
    go_enter Try.func10, Try.ntmps10
    go_wp2_with (go_at_call 11; (with_reducible refine (hlive.out _).mono ?_); rintro e w5 ⟨rfl, hb5⟩)
    go_ret
    exact ⟨rfl, hb5⟩
  by_cases hbig1 : 100 < n1
  · have hnI : (n1 : Int) ≤ 9223372036854775807 := by simp only [maxLen] at hn1; omega
    have hnI0 : (n : Int) ≤ 300 := by omega
    clear hn hr hl hr1 hn1 hl1 hbig
    go_enter Try.func10, Try.ntmps10
    go_wp2_with (go_at_call 11; (with_reducible refine (hlive.out _).mono ?_); rintro e w5 ⟨rfl, hb5⟩)
    go_ret
    exact ⟨rfl, hb5⟩
  have hnI : (n : Int) ≤ 300 := by omega
  have hnI1 : (n1 : Int) ≤ 100 := by omega
  have hbad : ∀ er : Int, er ≠ 0 → (Hid (Calls Try.prog 15 #[.slice A n c, .bool false] w fun e w' => e = .returned (.int .i64 er) ∧ w = w')) →
      Calls Try.prog 10 #[.slice A n c, .slice A1 n1 c1] w fun e w' => e = .returned (.bool true) ∧ Below w.heap.size w w' := by
    intro er her hright
    have herb : (er == 0) = false := by simpa using her
    have herc : (er != 0) = true := by simpa using her
    clear hr hn hl hr1 hn1 hl1 hbig hbig1
    go_enter Try.func10, Try.ntmps10
    go_wp2_with (first
      | (go_at_call 15; (with_reducible refine hright.out.mono ?_); rintro e w' ⟨rfl, rfl⟩)
      | (go_at_call 11; (with_reducible refine (hlive.out _).mono ?_); rintro e w5 ⟨rfl, hb5⟩))
    go_ret
    exact ⟨rfl, hb5⟩
  cases hok : Huf.ok zs with
  | false => exact hbad 1 (by decide) (hide (refright_bad A n c zs false w _ hr hn hok))
  | true =>
    obtain ⟨ls, hzs, hn288, h15⟩ := Huf.ok_nat zs hok
    obtain rfl : zs = nz ls := hzs
    have hlz : ls.length = n := by rw [nz, List.length_map] at hl; exact hl
    rw [hlz] at hn288
    by_cases hf : Huf.fits ls false
    · clear hbad
      have hsl : Huf.sum ls ≤ 32768 := by rcases hf with h | ⟨h, _⟩ <;> omega
      have hright := hide (refright_any A n c ls false w _ hr hn288 h15 0 ⟨fun _ => rfl, fun h => absurd hf h⟩)
      have hnew := hide (new_ok A n c ls false w _ hr (Nat.le_refl _) hn288 h15 hf)
      have hrd := hide hr
      have hrd1 := hide hr1
      obtain ⟨B, hB⟩ : ∃ B, w.heap.size = B := ⟨_, rfl⟩
      rw [hB] at hnew hrd hrd1 ⊢
      have h15h := hide h15
      have hslh := hide hsl
      have hn288h := hide hn288
      clear hn hr hok hf hsl h15 hbig hbig1 hn1 hr1 hn288 hl
      go_enter Try.func10, Try.ntmps10
      go_wp2_with (first
        | (go_at_call 15; (with_reducible refine hright.out.mono ?_); rintro e w' ⟨rfl, rfl⟩)
        | (go_at_call 14; (with_reducible refine hnew.out.mono ?_); rintro e w1 ⟨g, rfl, h1, hb1⟩; have h1 := hide h1; have hb1 := hide hb1; obtain ⟨B1, hB1⟩ : ∃ B1, w1.heap.size = B1 := ⟨_, rfl⟩; have hnw := newwriter_at w1; rw [hB1] at hnw; replace hnw := hide hnw)
        | (go_at_call 20; (with_reducible refine hnw.out.mono ?_); rintro e w2 ⟨rfl, h2, hb2⟩; have h2 := hide h2; have hb2 := hide hb2)
        | (go_at_call 16; (with_reducible refine (hcode_any _ _).mono ?_); rintro e w' ⟨rfl, rfl⟩))
      have hBB1 : Hid (B ≤ B1) := hide (by have := hb1.out.size; omega)
      have hcd : Hid (∀ W, Below B1 w1 W → CodeAt B W g ls) := hide (fun W h => h1.out.below (by rw [hB1]; exact h))
      have hbw : Hid (∀ W, Below B1 w1 W → Below B w W) := hide (fun W h => hb1.out.trans (h.mono hBB1.out))
      clear h1 hb1 hnew hright hnw
      go_loopw [8, 9] (fun s i wr => ∃ k : Nat, ∃ sent : List Nat, ∃ As cs, k ≤ n1 ∧ i = .int .i64 k ∧ s = .slice As sent.length cs ∧ Hid (sent.length ≤ k) ∧ Hid (∀ i ∈ sent, Huf.has ls i) ∧ Hid (WrAt B1 wr B1 (Huf.enc ls sent)) ∧ Hid (Ow wr B1 3 As sent.length cs (sent.map jv)) ∧ Hid (Below B1 w1 wr)) (fun _ i _ => n1 - (intOf i).toNat)
      case atStart => exact ⟨0, [], none, 0, by omega, rfl, rfl, hide (Nat.le_refl _), hide (by simp), h2, hide (Ow.nil _ _ _), hb2⟩
      case round =>
        obtain ⟨k, sent, As, cs, hk, rfl, rfl, hsk, hhas, hW, hO, hb⟩ := hrel
        by_cases hlt : k < n1
        · have hkl : k < zs1.length := by omega
          obtain ⟨b, o, rfl, hbB, e0⟩ := hrd1.out.int (j := k) hlt
          have hkI : (k : Int) < n1 := by omega
          generalize zs1[k] = z at *
          have hee : Hid (∀ W, Below B1 w1 W → W.cell? ⟨b, o + k, none⟩ = some (.int .i64 z)) := hide (fun W h => ((hbw.out W h).cell (p := ⟨b, o + k, none⟩) hbB).trans e0)
          have e1 := hee.out wr hb.out
          have hcases : (z < 0 ∨ (0 ≤ z ∧ (n : Int) ≤ z)) ∨ (∃ m : Nat, z = m ∧ m < ls.length) := by
            by_cases h : 0 ≤ z ∧ z < n
            · obtain ⟨m, rfl⟩ := Int.eq_ofNat_of_zero_le h.1
              exact .inr ⟨m, rfl, by omega⟩
            · left; omega
          have hk1 := hide (show k + 1 ≤ n1 by omega)
          rcases hcases with hz | ⟨m, rfl, hm⟩
          · have hwr := hide (write_no g B1 B ls z wr (hcd.out wr hb.out) (by have := hn288h.out; omega) (by omega))
            clear hk e0 hkl
            rcases hz with hz | ⟨hz0, hz⟩
            all_goals
              go_wp2_with (first
                | (go_at_call 43; (with_reducible refine hwr.out.mono ?_); rintro e w3 ⟨rfl, k3, rfl⟩; have hb3 := hide (below_drewN hb.out k3); have e3 := hee.out _ hb3.out)
                | (go_at_call 16; (with_reducible refine (hcode_any _ _).mono ?_); rintro e w' ⟨rfl, rfl⟩))
              go_roundw
              case rel => exact ⟨k + 1, sent, As, cs, hk1.out, by go_num, rfl, hide (by have := hsk.out; omega), hhas, hide (hW.out.below (below_drewN (Below.refl _ wr) k3)), hide (hO.out.below (below_drewN (Below.refl _ wr) k3)), hb3⟩
              case measure => simp [intOf] <;> omega
          · have hmI : (m : Int) < n := by omega
            have hmn : m < n := by omega
            obtain ⟨b0, o0, rfl, hbB0, f0⟩ := hrd.out.int (j := m) hmn
            simp only [nz, List.getElem_map] at f0
            have hff : Hid (∀ W, Below B1 w1 W → W.cell? ⟨b0, o0 + m, none⟩ = some (.int .i64 (ls[m] : Int))) := hide (fun W h => ((hbw.out W h).cell (p := ⟨b0, o0 + m, none⟩) hbB0).trans f0)
            have hgd : Hid (ls.getD m 0 = ls[m]) := hide (by rw [List.getD_eq_getElem?_getD, List.getElem?_eq_getElem hm]; rfl)
            by_cases hx0 : ls[m] = 0
            · have hwr := hide (write_no g B1 B ls (m : Int) wr (hcd.out wr hb.out) (by have := hn288h.out; omega) (.inr (.inr ⟨m, rfl, by rw [List.getElem?_eq_getElem hm, hx0]⟩)))
              rw [hx0] at hff
              clear hk e0 hkl f0 hx0 hm hgd hmn
              go_wp2_with (first
                | (go_at_call 43; (with_reducible refine hwr.out.mono ?_); rintro e w3 ⟨rfl, k3, rfl⟩; have hb3 := hide (below_drewN hb.out k3); have e3 := hee.out _ hb3.out; have f3 := hff.out _ hb3.out)
                | (go_at_call 16; (with_reducible refine (hcode_any _ _).mono ?_); rintro e w' ⟨rfl, rfl⟩))
              go_roundw
              case rel => exact ⟨k + 1, sent, As, cs, hk1.out, by go_num, rfl, hide (by have := hsk.out; omega), hhas, hide (hW.out.below (below_drewN (Below.refl _ wr) k3)), hide (hO.out.below (below_drewN (Below.refl _ wr) k3)), hb3⟩
              case measure => simp [intOf] <;> omega
            · have hwr := write_ok g B1 B B1 ls (Huf.enc ls sent) m wr (hcd.out wr hb.out) hW.out (by have := Huf.enc_len ls h15h.out sent; have := hsk.out; omega) (by have := hn288h.out; omega) h15h.out hslh.out hm hx0
              rw [← hgd.out, ← Huf.enc_snoc] at hwr
              replace hwr := hide hwr
              have hhas2 : Hid (∀ i ∈ sent ++ [m], Huf.has ls i) := hide (by
                intro i hi
                rcases List.mem_append.1 hi with hi | hi
                · exact hhas.out i hi
                · rw [List.mem_singleton.1 hi]; exact ⟨hm, by rw [hgd.out]; exact hx0⟩)
              have hxI : (0 : Int) < (ls[m] : Int) := by omega
              have hlen2 : Hid ((sent ++ [m]).length = sent.length + 1) := hide (by simp)
              have hskI : sent.length ≤ 100 := by have := hsk.out; omega
              generalize ls[m] = xx at *
              clear hk e0 hkl f0 hm hgd hmn hx0
              go_wp2_with (first
                | (go_at_call 43; (with_reducible refine hwr.out.mono ?_); rintro e w3 ⟨rfl, h3, hb3, hx3⟩; have h3 := hide h3; have hO3 := hide (hx3.ow hO.out (by decide) (by decide) (by decide)); have hb3 := hide (hb.out.trans hb3); have e3 := hee.out _ hb3.out; have f3 := hff.out _ hb3.out; have hz3 := hide (show B1 ≤ w3.heap.size from by obtain ⟨_, _, _, h⟩ := h3.out; exact h); clear hx3)
                | (go_at_call 16; (with_reducible refine (hcode_any _ _).mono ?_); rintro e w' ⟨rfl, rfl⟩)
                | (at_builtin; refine wpList_append_one w3 rfl (.tmp 99) (.tmp 104) rfl elem_int rfl hO3.out (jv m) 3 _ rfl rfl (by simp only [maxLen]; omega) (by omega) hz3.out ?_; intro A4 c4 w4 ho4 hg4 hn4; have h4 := hide (h3.out.chg_ow2 hO3.out (by decide) (by decide) hg4); have hb4 := hide (hb3.out.trans (hg4.to_below (B := B1) hz3.out (fun i hi => (hO3.out.blk_lt i hi).1))); have ho4 := hide ho4; clear hg4 hn4))
              go_roundw
              case rel => exact ⟨k + 1, sent ++ [m], A4, c4, hk1.out, by go_num, by rw [hlen2.out], hide (by rw [hlen2.out]; have := hsk.out; omega), hhas2, h4, by rw [hlen2.out, List.map_append]; exact ho4, hb4⟩
              case measure => simp [intOf] <;> omega
        · obtain rfl : k = n1 := by omega
          have hel := Huf.enc_len ls h15h.out sent
          have hsl100 : sent.length ≤ 100 := by have := hsk.out; omega
          obtain ⟨L, hL⟩ : ∃ L, Huf.enc ls sent = L := ⟨_, rfl⟩
          rw [hL] at hW hel
          have hLl : L.length ≤ 1500 := by omega
          have hby := hide (atbytes hW.out (by omega))
          have hpl := Bit.pack_length L
          have hszl := Bit.size_le L.length
          have hsz8 : L.length ≤ 8 * Bit.size L.length := by unfold Bit.size; omega
          have hnr : Hid (∀ (W : World) (A : Option Addr) (c2 base : Nat), Ow W base 5 A (Bit.size L.length) c2 ((Bit.pack L).map bv) → Calls Try.prog 30 #[.slice A (Bit.size L.length) c2] W fun e w' => ∃ g, e = .returned (.pointer (some ⟨g, 0, none⟩)) ∧ RdAt W.heap.size w' g (Bit.pack L) 0 ∧ Below W.heap.size W w') := by
            intro W A c2 base ho
            rw [← hpl] at ho ⊢
            exact newreader_at A c2 _ W _ ho.rd (Nat.le_refl _) (by omega)
          have hrdd : Hid (∀ (W : World) (B0 B2 g6 j : Nat), j < sent.length → CodeAt B0 W g ls → RdAt B2 W g6 (Bit.pack L) (Huf.enc ls (sent.take j)).length →
              Calls Try.prog 38 #[.pointer (some ⟨g, 0, none⟩), .pointer (some ⟨g6, 0, none⟩)] W fun e w' => e = .returned (.tuple #[.int .i64 (sent.getD j 0 : Int), .int .i64 0]) ∧ RdAt B2 w' g6 (Bit.pack L) (Huf.enc ls (sent.take (j + 1))).length ∧ Below B2 W w' ∧ KeepX W w') := by
            intro W B0 B2 g6 j hj hc hr
            have hde := Huf.dec_enc ls sent h15h.out hslh.out hhas.out j hj (List.replicate (Bit.gap L.length) false)
            rw [hL] at hde
            have hd := hde.1
            rw [← Bit.bitsOf_pack] at hd
            have h9 := read_any g g6 B0 B2 (Huf.enc ls (sent.take j)).length ls (Bit.pack L) W hc hr (by omega) (by have := hde.2.2; omega) (by have := hn288h.out; omega) hslh.out _ _ _ hd
            rw [← hde.2.1] at h9
            rw [List.getD_eq_getElem?_getD, List.getElem?_eq_getElem hj]
            exact h9
          have hwbs := hide (show B1 ≤ wr.heap.size from by obtain ⟨_, _, _, h⟩ := hW.out; exact h)
          have hLen := hide (fun W (h : WrAt B1 W B1 L) => atlen h)
          clear hel hszl hsz8 hpl hk hlt
          generalize Bit.size L.length = sz at hby hnr
          go_wp2_with (first
            | (go_at_call 28; (with_reducible refine hby.out.mono ?_); rintro e w5 ⟨A5, c5, rfl, ho5, hb5⟩; have ho5 := hide ho5; have h5 := hide (hW.out.below hb5); have hO5 := hide (hO.out.below hb5); have hb5 := hide (hb.out.trans (hb5.mono hwbs.out)); obtain ⟨B5, hB5⟩ : ∃ B5, w5.heap.size = B5 := ⟨_, rfl⟩; have hn5 := hnr.out _ _ _ _ ho5.out; rw [hB5] at hn5; replace hn5 := hide hn5)
            | (go_at_call 30; (with_reducible refine hn5.out.mono ?_); rintro e w6 ⟨g6, rfl, h6, hb6⟩; have h6 := hide h6; have hb6 := hide hb6))
          have hB15 : Hid (B1 ≤ B5) := hide (by obtain ⟨_, _, _, h⟩ := h5.out; omega)
          have hall : Hid (∀ W, Below B5 w5 W → CodeAt B W g ls ∧ WrAt B1 W B1 L ∧ Ow W B1 3 As sent.length cs (sent.map jv) ∧ Below B w W) := hide (fun W h => ⟨hcd.out W (hb5.out.trans (h.mono hB15.out)), h5.out.below (by rw [hB5]; exact h), hO5.out.below (by rw [hB5]; exact h), hbw.out W (hb5.out.trans (h.mono hB15.out))⟩)
          clear hn5 hnr hby h5 hO5 hb5 ho5
          go_loopw [13] (fun i wx => ∃ j : Nat, j ≤ sent.length ∧ i = .int .i64 j ∧ Hid (RdAt B5 wx g6 (Bit.pack L) (Huf.enc ls (sent.take j)).length) ∧ Hid (Below B5 w5 wx)) (fun i _ => sent.length - (intOf i).toNat)
          case atStart => exact ⟨0, by omega, rfl, h6, hb6⟩
          case round =>
            obtain ⟨j, hj, rfl, hR, hbx⟩ := hrel
            by_cases hjl : j < sent.length
            · have hjI : (j : Int) < sent.length := by omega
              have hrd2 := hide (hrdd.out _ _ _ _ _ hjl (hall.out _ hbx.out).1 hR.out)
              obtain ⟨ga, rfl, _, _⟩ := (hall.out _ hbx.out).2.2.1.pos (by omega)
              have hcell : Hid (∀ W, Below B5 w5 W → W.cell? ⟨ga, j, none⟩ = some (.int .i64 (sent.getD j 0 : Int))) := hide (fun W h => by
                have := (hall.out W h).2.2.1.cells (g := ga) rfl j (jv (sent.getD j 0)) (by rw [List.getElem?_map, List.getElem?_eq_getElem hjl, List.getD_eq_getElem?_getD, List.getElem?_eq_getElem hjl]; rfl)
                rwa [Addr.add_mid, Nat.zero_add] at this)
              have hj1 := hide (show j + 1 ≤ sent.length from hjl)
              generalize sent.getD j 0 = sy at *
              clear hj
              go_wp2_with (first
                | (go_at_call 38; (with_reducible refine hrd2.out.mono ?_); rintro e w7 ⟨rfl, h7, hb7, _⟩; have h7 := hide h7; have hb7 := hide (hbx.out.trans hb7); have e7 := hcell.out _ hb7.out)
                | (go_at_call 16; (with_reducible refine (hcode_any _ _).mono ?_); rintro e w' ⟨rfl, rfl⟩))
              go_roundw
              case rel => exact ⟨j + 1, hj1.out, by go_num, h7, hb7⟩
              case measure => simp [intOf] <;> omega
            · obtain rfl : j = sent.length := by omega
              have hat := atrat hR.out
              have hln := hLen.out _ (hall.out _ hbx.out).2.1
              have hbz := hide (hall.out _ hbx.out).2.2.2
              rw [List.take_length, hL] at hat
              replace hat := hide hat
              replace hln := hide hln
              generalize L.length = q at hat hln
              go_wp2_with (first
                | (go_at_call 36; (with_reducible refine hat.out.mono ?_); rintro e w' ⟨rfl, rfl⟩)
                | (go_at_call 27; (with_reducible refine hln.out.mono ?_); rintro e w' ⟨rfl, rfl⟩)
                | (go_at_call 11; (with_reducible refine (hlive.out _).mono ?_); rintro e w8 ⟨rfl, hb8⟩))
              go_ret
              exact ⟨rfl, hbz.out.trans (hb8.mono (by have := hbz.out.size; omega))⟩
    · exact hbad 3 (by decide) (hide (refright_any A n c ls false w _ hr hn288 h15 3 ⟨fun h => absurd h hf, fun _ => rfl⟩))

end Go.Proofs.Ytceafmiieaeodaa
