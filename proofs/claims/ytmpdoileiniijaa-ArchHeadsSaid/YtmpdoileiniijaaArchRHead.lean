/- Layer 13 (arch): the document's Head of any bytes. The conditions: where the slice lies; what Right says of the header. -/
import Derived.Test.YtmpdoileiniijaaArchHead
import Derived.Test.YtmpdoileiniijaaArchRRight
import Derived.Deep.RegionHeld3
namespace Go.Proofs.Ytmpdoileiniijaa
open Go.RowKit

def mag7 : List UInt8 := [80, 77, 84, 105, 108, 101, 115]
theorem mag_split (bs : List UInt8) (h : 8 ≤ bs.length) : bs.take 8 = mag ↔ bs.take 7 = mag7 ∧ byt bs 7 = 3 := by
  have h7 : 7 < bs.length := by omega
  have e : bs.take 8 = bs.take 7 ++ [bs[7]] := take_snoc bs 7 h7
  have hb : byt bs 7 = (bs[7].toNat : Int) := by rw [byt, List.getD_eq_getElem?_getD, List.getElem?_eq_getElem h7]; rfl
  have em : mag = mag7 ++ [3] := rfl
  rw [e, em, hb]
  constructor
  · intro h
    obtain ⟨h1, h2⟩ := List.append_inj' h rfl
    injection h2 with h2
    exact ⟨h1, by rw [h2]; rfl⟩
  · rintro ⟨h1, h2⟩
    have h3 : bs[7] = 3 := by
      apply UInt8.toNat_inj.1
      have : bs[7].toNat = 3 := by omega
      rw [this]
      rfl
    rw [h1, h3]

theorem take13 {P : Program} {ops : Array Oper} {md : Region.Mode} {Q : Exit → Act → World → Prop} {S : World → Prop} {i d : Nat} {oi : Oper} {v : Value} {fuel : Nat} {listed : Array Bool} {a : Act} {w : World} (hi : ops[i]? = some oi) (hd : oi.dst = some d)
    (hs : Region.noSelect ops = true) (hf : Region.free md ops listed i = true) (hr : (Region.ready md ops listed).contains i = true)
    (hQ : ∀ c a w, Q (.panic c) (a.put (some d) v) w → Q (.panic c) a w) (hy : YieldsIf P ops S oi v a) (hS : S w)
    (h : wpAnyH P md ops Q S fuel (listed.setIfInBounds i true) (a.put (some d) v) w) : wpAnyH P md ops Q S (fuel + 1) listed a w :=
  wpAnyH_take hi hs hf hr (by rw [hd]; exact hQ) hy hS (by rw [hd]; exact h)
/-- The numbers read so far. -/
structure Nums (w : World) (g : Nat) (bs : List UInt8) (k : Nat) (cs : Array Value) : Prop where
  blk : Blk w g 58 cs
  size : cs.size = 11
  at' : ∀ j, j < 11 → cs[j]? = some (.int .u64 ((if j < k then num bs (8 + 8 * j) 8 else 0 : Nat) : Int))
theorem Nums.set {w : World} {g : Nat} {bs : List UInt8} {k : Nat} {cs : Array Value} (h : Nums w g bs k cs) (hk : k < 11) (p : Nat) (hp : 8 + 8 * k = p) : Nums (w.setCell ⟨g, k, none⟩ (.int .u64 ((num bs p 8 : Nat) : Int))) g bs (k + 1) (cs.setIfInBounds k (.int .u64 ((num bs p 8 : Nat) : Int))) :=
  ⟨h.blk.set k _, by simpa using h.size, fun j hj => by
    by_cases hjk : j = k
    · subst hjk
      rw [Array.getElem?_setIfInBounds_self_of_lt (by rw [h.size]; exact hj), if_pos (Nat.lt_succ_self _), hp]
    · rw [Array.getElem?_setIfInBounds_ne (fun e => hjk e.symm), h.at' j hj]
      by_cases h1 : j < k
      · rw [if_pos h1, if_pos (by omega)]
      · rw [if_neg h1, if_neg (by omega)]⟩

set_option maxRecDepth 100000 in
set_option maxHeartbeats 8000000 in
theorem rhead_any (A : Option Addr) (c : Nat) (bs : List UInt8) (w : World) (B : Nat) (hr : Rd w B A bs.length (bs.map bv)) (hB : B ≤ w.heap.size) (hcap : bs.length ≤ c) (hmax : bs.length ≤ 9223372036854775807) (r : Int) (hR : RightR (headOf bs) bs.length r) :
    Calls Try.prog 9 #[.slice A bs.length c] w fun e w' => e = .returned (.tuple #[.agg (headV bs r).1.cells, .int .i64 (headV bs r).2]) ∧ Below w.heap.size w w' := by
  obtain ⟨G, hG⟩ : ∃ G, w.heap.size = G := ⟨_, rfl⟩
  obtain ⟨w1, hw1⟩ : ∃ W, w.alloc (.cells #[.int .u64 0, .int .u64 0, .int .u64 0, .int .u64 0, .int .u64 0, .int .u64 0, .int .u64 0, .int .u64 0, .int .u64 0, .int .u64 0, .int .u64 0, .bool false, .int .i64 0, .int .i64 0, .int .i64 0, .int .i64 0, .int .i64 0, .int .i64 0, .int .i64 0, .int .i64 0, .int .i64 0, .int .i64 0, .int .i64 0, .int .i64 0] 29) = W := ⟨_, rfl⟩
  have hk1 := hide (show Blk w1 G 29 #[.int .u64 0, .int .u64 0, .int .u64 0, .int .u64 0, .int .u64 0, .int .u64 0, .int .u64 0, .int .u64 0, .int .u64 0, .int .u64 0, .int .u64 0, .bool false, .int .i64 0, .int .i64 0, .int .i64 0, .int .i64 0, .int .i64 0, .int .i64 0, .int .i64 0, .int .i64 0, .int .i64 0, .int .i64 0, .int .i64 0, .int .i64 0] from by rw [← hw1, ← hG]; exact Blk.new w _ _)
  have hs1 := hide (show w1.heap.size = G + 1 from by rw [← hw1, ← hG]; simp)
  have hb1 := hide (show Below G w w1 from by rw [← hw1, ← hG]; exact (Below.refl _ w).alloc (Nat.le_refl _) _)
  have hr1 := hide (hr.below (hb1.out.mono (by omega)))
  have hB1 := hide (show B ≤ w1.heap.size from by rw [hs1.out]; omega)
  have hmaxI : (bs.length : Int) ≤ 9223372036854775807 := by omega
  obtain ⟨wz, hwz⟩ : ∃ W, w1.setRow G #[.int .u64 0, .int .u64 0, .int .u64 0, .int .u64 0, .int .u64 0, .int .u64 0, .int .u64 0, .int .u64 0, .int .u64 0, .int .u64 0, .int .u64 0, .bool false, .int .i64 0, .int .i64 0, .int .i64 0, .int .i64 0, .int .i64 0, .int .i64 0, .int .i64 0, .int .i64 0, .int .i64 0, .int .i64 0, .int .i64 0, .int .i64 0] = W := ⟨_, rfl⟩
  have hkz := hide (show Blk wz G 29 #[.int .u64 0, .int .u64 0, .int .u64 0, .int .u64 0, .int .u64 0, .int .u64 0, .int .u64 0, .int .u64 0, .int .u64 0, .int .u64 0, .int .u64 0, .bool false, .int .i64 0, .int .i64 0, .int .i64 0, .int .i64 0, .int .i64 0, .int .i64 0, .int .i64 0, .int .i64 0, .int .i64 0, .int .i64 0, .int .i64 0, .int .i64 0] from by rw [← hwz]; exact hk1.out.row _)
  have hbz := hide (show Below G w wz from by rw [← hwz]; exact below_row hb1.out (Nat.le_refl _) _)
  have hzc := hide (show Hd.zero.cells = #[.int .u64 0, .int .u64 0, .int .u64 0, .int .u64 0, .int .u64 0, .int .u64 0, .int .u64 0, .int .u64 0, .int .u64 0, .int .u64 0, .int .u64 0, .bool false, .int .i64 0, .int .i64 0, .int .i64 0, .int .i64 0, .int .i64 0, .int .i64 0, .int .i64 0, .int .i64 0, .int .i64 0, .int .i64 0, .int .i64 0, .int .i64 0] from rfl)
  rw [hG]
  unfold headV
  by_cases hlong : 4194304 < bs.length
  · rw [if_pos hlong]
    simp only
    rw [hzc.out]
    have hI : (4194304 : Int) < (bs.length : Int) := by omega
    generalize bs.length = L at *
    clear hR hcap hmax hlong hr1 hr hB hB1
    go_enter Try.func9, Try.ntmps9
    go_wp2_with (with_reducible refine wpList_store_row (o := ⟨none, .store 29 (.tmp 2) (.tmp 10), _, _, _, _⟩) rfl 29 (.tmp 2) (.tmp 10) rfl G #[.int .u64 0, .int .u64 0, .int .u64 0, .int .u64 0, .int .u64 0, .int .u64 0, .int .u64 0, .int .u64 0, .int .u64 0, .int .u64 0, .int .u64 0, .bool false, .int .i64 0, .int .i64 0, .int .i64 0, .int .i64 0, .int .i64 0, .int .i64 0, .int .i64 0, .int .i64 0, .int .i64 0, .int .i64 0, .int .i64 0, .int .i64 0] rfl rfl 29 _ hk1.out.eq z24info rfl z24one ?_)
    exact bodyPost_ret_by (results_hd rfl _ _ G 29 #[.int .u64 0, .int .u64 0, .int .u64 0, .int .u64 0, .int .u64 0, .int .u64 0, .int .u64 0, .int .u64 0, .int .u64 0, .int .u64 0, .int .u64 0, .bool false, .int .i64 0, .int .i64 0, .int .i64 0, .int .i64 0, .int .i64 0, .int .i64 0, .int .i64 0, .int .i64 0, .int .i64 0, .int .i64 0, .int .i64 0, .int .i64 0] (0, 0) _ rfl hkz.out.eq Try.underlying29 rfl info24) rfl ⟨rfl, hbz.out⟩
  · rw [if_neg hlong]
    by_cases hshort : bs.length < 127
    · rw [if_pos hshort]
      simp only
      rw [hzc.out]
      have hI : (bs.length : Int) ≤ 4194304 := by omega
      have hI2 : (bs.length : Int) < 127 := by omega
      generalize bs.length = L at *
      clear hR hcap hmax hlong hshort hr1 hr hB hB1 hmaxI
      go_enter Try.func9, Try.ntmps9
      go_wp2_with (with_reducible refine wpList_store_row (o := ⟨none, .store 29 (.tmp 2) (.tmp 14), _, _, _, _⟩) rfl 29 (.tmp 2) (.tmp 14) rfl G #[.int .u64 0, .int .u64 0, .int .u64 0, .int .u64 0, .int .u64 0, .int .u64 0, .int .u64 0, .int .u64 0, .int .u64 0, .int .u64 0, .int .u64 0, .bool false, .int .i64 0, .int .i64 0, .int .i64 0, .int .i64 0, .int .i64 0, .int .i64 0, .int .i64 0, .int .i64 0, .int .i64 0, .int .i64 0, .int .i64 0, .int .i64 0] rfl rfl 29 _ hk1.out.eq z24info rfl z24one ?_)
      exact bodyPost_ret_by (results_hd rfl _ _ G 29 #[.int .u64 0, .int .u64 0, .int .u64 0, .int .u64 0, .int .u64 0, .int .u64 0, .int .u64 0, .int .u64 0, .int .u64 0, .int .u64 0, .int .u64 0, .bool false, .int .i64 0, .int .i64 0, .int .i64 0, .int .i64 0, .int .i64 0, .int .i64 0, .int .i64 0, .int .i64 0, .int .i64 0, .int .i64 0, .int .i64 0, .int .i64 0] (0, 0) _ rfl hkz.out.eq Try.underlying29 rfl info24) rfl ⟨rfl, hbz.out⟩
    · rw [if_neg hshort]
      have hI : (bs.length : Int) ≤ 4194304 := by omega
      have hI2 : (127 : Int) ≤ (bs.length : Int) := by omega
      have hI3 : (96 : Int) < (bs.length : Int) := by omega
      have hI3' : (7 : Int) < (bs.length : Int) := by omega
      have hI4 : (7 : Int) ≤ (c : Int) := by omega
      have hI5 : (bs.length : Int) ≤ (c : Int) := by omega
      obtain ⟨bb, oo, hA, hbb, c96⟩ := hr1.out.byt 96 (by omega)
      subst hA
      have hcell := hide (show ∀ W, Rd W B (some ⟨bb, oo, none⟩) bs.length (bs.map bv) → ∀ p, p < bs.length → W.cell? ⟨bb, oo + p, none⟩ = some (.int .u8 (byt bs p)) from by
        intro W hW p hp
        obtain ⟨b', o', e, _, hc⟩ := hW.byt p hp
        injection e with e
        injection e with e1 e2
        subst e1 e2
        exact hc)
      have c7 : w1.cell? ⟨bb, oo + 7, none⟩ = some (.int .u8 (byt bs 7)) := hcell.out _ hr1.out 7 (by omega)
      have ks := str13 (show Rd w1 B (some ⟨bb, oo, none⟩) 7 ((bs.take 7).map bv) from by rw [List.map_take]; exact hr1.out.take 7 (by omega)) c
      obtain ⟨S8, hS8⟩ : ∃ S, ByteArray.mk (bs.take 7).toArray = S := ⟨_, rfl⟩
      rw [hS8] at ks
      have hsp := mag_split bs (by omega)
      by_cases hm1 : bs.take 7 = mag7
      · have hS : S8.toList = [80, 77, 84, 105, 108, 101, 115] := by rw [← hS8, hm1, toList_data]; rfl
        by_cases hm3 : byt bs 7 = 3
        · by_cases hm2 : byt bs 96 ≤ 1
          · rw [if_pos ⟨hsp.2 ⟨hm1, hm3⟩, hm2⟩]
            have c7' : w1.cell? ⟨bb, oo + 7, none⟩ = some (.int .u8 3) := by rw [c7, hm3]
            replace c7 := c7'
            clear c7'
            obtain ⟨w2, hw2⟩ : ∃ W, w1.alloc (.cells #[.int .u64 0, .int .u64 0, .int .u64 0, .int .u64 0, .int .u64 0, .int .u64 0, .int .u64 0, .int .u64 0, .int .u64 0, .int .u64 0, .int .u64 0] 58) = W := ⟨_, rfl⟩
            have hk2 := hide (show Blk w2 G 29 #[.int .u64 0, .int .u64 0, .int .u64 0, .int .u64 0, .int .u64 0, .int .u64 0, .int .u64 0, .int .u64 0, .int .u64 0, .int .u64 0, .int .u64 0, .bool false, .int .i64 0, .int .i64 0, .int .i64 0, .int .i64 0, .int .i64 0, .int .i64 0, .int .i64 0, .int .i64 0, .int .i64 0, .int .i64 0, .int .i64 0, .int .i64 0] from by rw [← hw2]; exact hk1.out.alloc _)
            have hn2 := hide (show Nums w2 (G + 1) bs 0 #[.int .u64 0, .int .u64 0, .int .u64 0, .int .u64 0, .int .u64 0, .int .u64 0, .int .u64 0, .int .u64 0, .int .u64 0, .int .u64 0, .int .u64 0] from ⟨by rw [← hw2, ← hs1.out]; exact Blk.new w1 _ _, rfl, fun j hj => by
              rcases (show j = 0 ∨ j = 1 ∨ j = 2 ∨ j = 3 ∨ j = 4 ∨ j = 5 ∨ j = 6 ∨ j = 7 ∨ j = 8 ∨ j = 9 ∨ j = 10 by omega) with rfl | rfl | rfl | rfl | rfl | rfl | rfl | rfl | rfl | rfl | rfl <;> rfl⟩)
            have hb2 := hide (show Below G w w2 from by rw [← hw2]; exact hb1.out.alloc (by have := hs1.out; omega) _)
            have hs2 := hide (show w2.heap.size = G + 1 + 1 from by rw [← hw2, ← hs1.out]; simp)
            have hs1p := hs1.out
            have hr0 := hide (show ∀ W, Below G w W → Rd W B (some ⟨bb, oo, none⟩) bs.length (bs.map bv) from fun W h => hr.below (h.mono (by omega)))
            have hq := hide (fun W => rright_any (headOf bs) bs.length W hmaxI r hR)
            have hone := hide (headOf bs).one
            have hsz := hide (z24hd (headOf bs))
            have hinfo := hide (headOf bs).info
            have hnum := hide (show ∀ W, Below G w W → ∀ p, p + 8 ≤ bs.length → Calls Try.prog 28 #[.slice (some ⟨bb, oo, none⟩) bs.length c, .int .i64 (p : Int), .int .i64 8] W fun e w' => e = .returned (.int .u64 ((num bs p 8 : Nat) : Int)) ∧ W = w' from fun W h p hp => rnumber_any _ c bs p 8 W B (hr0.out W h) hp (by decide) (by omega))
            have hsgn := hide (show ∀ W, Below G w W → ∀ p, p + 4 ≤ bs.length → Calls Try.prog 29 #[.slice (some ⟨bb, oo, none⟩) bs.length c, .int .i64 (p : Int)] W fun e w' => e = .returned (.int .i64 (sg bs p)) ∧ W = w' from fun W h p hp => rsigned_any _ c bs p W B (hr0.out W h) hp (by omega))
            have hcl := hide (show ∀ W, Below G w W → ∀ p, p < bs.length → W.cell? ⟨bb, oo + p, none⟩ = some (.int .u8 (byt bs p)) from fun W h p hp => hcell.out W (hr0.out W h) p hp)
            have hlen := hide (show 127 ≤ bs.length from by omega)
            have hbG := hide (show bb < G from by omega)
            obtain ⟨L, hL⟩ : ∃ L, bs.length = L := ⟨_, rfl⟩
            rw [hL] at hI hI2 hI3 hI3' hI5 hmaxI hq hnum hsgn hcl hlen ⊢
            obtain ⟨V, hV⟩ : ∃ V : Hd × Int, (if r = 0 then (headOf bs, 0) else (Hd.zero, r)) = V := ⟨_, rfl⟩
            rw [hV]
            replace hV := hide hV
            clear hR hcap hmax hlong hshort hr1 hr hB hB1 hS8 hm1 hm3 hsp hcell hbb hL hr0 hk1 hs1 hb1
            go_enter Try.func9, Try.ntmps9
            go_wp2
            go_loopw [5] (fun s5 wr => ∃ (k : Nat) (cs : Array Value), k ≤ 11 ∧ s5 = .int .i64 (k : Int) ∧ Hid (Nums wr (G + 1) bs k cs) ∧ Hid (Blk wr G 29 #[.int .u64 0, .int .u64 0, .int .u64 0, .int .u64 0, .int .u64 0, .int .u64 0, .int .u64 0, .int .u64 0, .int .u64 0, .int .u64 0, .int .u64 0, .bool false, .int .i64 0, .int .i64 0, .int .i64 0, .int .i64 0, .int .i64 0, .int .i64 0, .int .i64 0, .int .i64 0, .int .i64 0, .int .i64 0, .int .i64 0, .int .i64 0]) ∧ Hid (Below G w wr) ∧ Hid (wr.heap.size = G + 1 + 1)) (fun s5 _ => 11 - (intOf s5).toNat)
            case atStart => exact ⟨0, _, by omega, rfl, hn2, hk2, hb2, hs2⟩
            case round =>
              obtain ⟨k, cs, hk11, rfl, hn, hk, hb, hs⟩ := hrel
              by_cases hlt : k < 11
              · have hkI : (k : Int) < 11 := by omega
                obtain ⟨q, hq8⟩ : ∃ q, 8 * k = q := ⟨_, rfl⟩
                obtain ⟨p, hp8⟩ : ∃ p, 8 + q = p := ⟨_, rfl⟩
                have e1 : 8 * (k : Int) = (q : Int) := by omega
                have e2 : 8 + (q : Int) = (p : Int) := by omega
                have hq1 := hide (hnum.out wr hb.out p (by have := hlen.out; omega))
                have hset := hide (hn.out.set hlt p (by omega))
                have d0 : wr.cell? ⟨G + 1, k, none⟩ = some (.int .u64 ((0 : Nat) : Int)) := by
                  rw [hn.out.blk.cell k, hn.out.at' k hlt, if_neg (Nat.lt_irrefl k)]
                have d1 := hn.out.blk.free k
                have hk' := hide (hk.out.far (p := ⟨G + 1, k, none⟩) (by simp) (.int .u64 ((num bs p 8 : Nat) : Int)))
                have hb' := hide (hb.out.setCell (p := ⟨G + 1, k, none⟩) (by simp) (.int .u64 ((num bs p 8 : Nat) : Int)))
                have hs' := hide (show (wr.setCell ⟨G + 1, k, none⟩ (.int .u64 ((num bs p 8 : Nat) : Int))).heap.size = G + 1 + 1 from by simpa using hs.out)
                generalize num bs p 8 = N at *
                replace hq8 := hide hq8
                replace hp8 := hide hp8
                go_wp2_with (go_at_call 28; (with_reducible refine hq1.out.mono ?_); rintro e w' ⟨rfl, rfl⟩)
                go_roundw
                case rel => exact ⟨k + 1, _, by omega, by go_num, hset, hk', hb', hs'⟩
                case measure => simp [intOf] <;> omega
              · obtain rfl : k = 11 := by omega
                rw [show ((11 : Nat) : Int) = 11 from rfl]
                have y0 : wr.cell? ⟨G + 1, 0, none⟩ = some (.int .u64 ((num bs 8 8 : Nat) : Int)) := by rw [hn.out.blk.cell 0, hn.out.at' 0 (by decide)]; rfl
                have y1 : wr.cell? ⟨G + 1, 1, none⟩ = some (.int .u64 ((num bs 16 8 : Nat) : Int)) := by rw [hn.out.blk.cell 1, hn.out.at' 1 (by decide)]; rfl
                have y2 : wr.cell? ⟨G + 1, 2, none⟩ = some (.int .u64 ((num bs 24 8 : Nat) : Int)) := by rw [hn.out.blk.cell 2, hn.out.at' 2 (by decide)]; rfl
                have y3 : wr.cell? ⟨G + 1, 3, none⟩ = some (.int .u64 ((num bs 32 8 : Nat) : Int)) := by rw [hn.out.blk.cell 3, hn.out.at' 3 (by decide)]; rfl
                have y4 : wr.cell? ⟨G + 1, 4, none⟩ = some (.int .u64 ((num bs 40 8 : Nat) : Int)) := by rw [hn.out.blk.cell 4, hn.out.at' 4 (by decide)]; rfl
                have y5 : wr.cell? ⟨G + 1, 5, none⟩ = some (.int .u64 ((num bs 48 8 : Nat) : Int)) := by rw [hn.out.blk.cell 5, hn.out.at' 5 (by decide)]; rfl
                have y6 : wr.cell? ⟨G + 1, 6, none⟩ = some (.int .u64 ((num bs 56 8 : Nat) : Int)) := by rw [hn.out.blk.cell 6, hn.out.at' 6 (by decide)]; rfl
                have y7 : wr.cell? ⟨G + 1, 7, none⟩ = some (.int .u64 ((num bs 64 8 : Nat) : Int)) := by rw [hn.out.blk.cell 7, hn.out.at' 7 (by decide)]; rfl
                have y8 : wr.cell? ⟨G + 1, 8, none⟩ = some (.int .u64 ((num bs 72 8 : Nat) : Int)) := by rw [hn.out.blk.cell 8, hn.out.at' 8 (by decide)]; rfl
                have y9 : wr.cell? ⟨G + 1, 9, none⟩ = some (.int .u64 ((num bs 80 8 : Nat) : Int)) := by rw [hn.out.blk.cell 9, hn.out.at' 9 (by decide)]; rfl
                have y10 : wr.cell? ⟨G + 1, 10, none⟩ = some (.int .u64 ((num bs 88 8 : Nat) : Int)) := by rw [hn.out.blk.cell 10, hn.out.at' 10 (by decide)]; rfl
                have b96 : wr.cell? ⟨bb, oo + 96, none⟩ = some (.int .u8 (byt bs 96)) := hcl.out wr hb.out 96 (by have := hlen.out; omega)
                have hcs := hide (show #[.int .u64 ((num bs 8 8 : Nat) : Int), .int .u64 ((num bs 16 8 : Nat) : Int), .int .u64 ((num bs 24 8 : Nat) : Int), .int .u64 ((num bs 32 8 : Nat) : Int), .int .u64 ((num bs 40 8 : Nat) : Int), .int .u64 ((num bs 48 8 : Nat) : Int), .int .u64 ((num bs 56 8 : Nat) : Int), .int .u64 ((num bs 64 8 : Nat) : Int), .int .u64 ((num bs 72 8 : Nat) : Int), .int .u64 ((num bs 80 8 : Nat) : Int), .int .u64 ((num bs 88 8 : Nat) : Int), .bool (byt bs 96 == 1), .int .i64 (byt bs 97), .int .i64 (byt bs 98), .int .i64 (byt bs 99), .int .i64 (byt bs 100), .int .i64 (byt bs 101), .int .i64 (sg bs 102), .int .i64 (sg bs 106), .int .i64 (sg bs 110), .int .i64 (sg bs 114), .int .i64 (sg bs 119), .int .i64 (sg bs 123), .int .i64 (byt bs 118)] = (headOf bs).cells from rfl)
                have g102 := hide (show ∀ W, Below G w W → Calls Try.prog 29 #[.slice (some ⟨bb, oo, none⟩) L c, .int .i64 102] W fun e w' => e = .returned (.int .i64 (sg bs 102)) ∧ W = w' from fun W h => hsgn.out W h 102 (by have := hlen.out; omega))
                have g106 := hide (show ∀ W, Below G w W → Calls Try.prog 29 #[.slice (some ⟨bb, oo, none⟩) L c, .int .i64 106] W fun e w' => e = .returned (.int .i64 (sg bs 106)) ∧ W = w' from fun W h => hsgn.out W h 106 (by have := hlen.out; omega))
                have g110 := hide (show ∀ W, Below G w W → Calls Try.prog 29 #[.slice (some ⟨bb, oo, none⟩) L c, .int .i64 110] W fun e w' => e = .returned (.int .i64 (sg bs 110)) ∧ W = w' from fun W h => hsgn.out W h 110 (by have := hlen.out; omega))
                have g114 := hide (show ∀ W, Below G w W → Calls Try.prog 29 #[.slice (some ⟨bb, oo, none⟩) L c, .int .i64 114] W fun e w' => e = .returned (.int .i64 (sg bs 114)) ∧ W = w' from fun W h => hsgn.out W h 114 (by have := hlen.out; omega))
                have g119 := hide (show ∀ W, Below G w W → Calls Try.prog 29 #[.slice (some ⟨bb, oo, none⟩) L c, .int .i64 119] W fun e w' => e = .returned (.int .i64 (sg bs 119)) ∧ W = w' from fun W h => hsgn.out W h 119 (by have := hlen.out; omega))
                have g123 := hide (show ∀ W, Below G w W → Calls Try.prog 29 #[.slice (some ⟨bb, oo, none⟩) L c, .int .i64 123] W fun e w' => e = .returned (.int .i64 (sg bs 123)) ∧ W = w' from fun W h => hsgn.out W h 123 (by have := hlen.out; omega))
                have b97 := hide (show ∀ W, Below G w W → W.cell? ⟨bb, oo + 97, none⟩ = some (.int .u8 (byt bs 97)) from fun W h => hcl.out W h 97 (by have := hlen.out; omega))
                have i97 : IntKind.i64.wrap (byt bs 97) = byt bs 97 := by have := byt_le bs 97; rw [IntKind.wrap_i64]; omega
                have hL97 : (97 : Int) < (L : Int) := by omega
                have b98 := hide (show ∀ W, Below G w W → W.cell? ⟨bb, oo + 98, none⟩ = some (.int .u8 (byt bs 98)) from fun W h => hcl.out W h 98 (by have := hlen.out; omega))
                have i98 : IntKind.i64.wrap (byt bs 98) = byt bs 98 := by have := byt_le bs 98; rw [IntKind.wrap_i64]; omega
                have hL98 : (98 : Int) < (L : Int) := by omega
                have b99 := hide (show ∀ W, Below G w W → W.cell? ⟨bb, oo + 99, none⟩ = some (.int .u8 (byt bs 99)) from fun W h => hcl.out W h 99 (by have := hlen.out; omega))
                have i99 : IntKind.i64.wrap (byt bs 99) = byt bs 99 := by have := byt_le bs 99; rw [IntKind.wrap_i64]; omega
                have hL99 : (99 : Int) < (L : Int) := by omega
                have b100 := hide (show ∀ W, Below G w W → W.cell? ⟨bb, oo + 100, none⟩ = some (.int .u8 (byt bs 100)) from fun W h => hcl.out W h 100 (by have := hlen.out; omega))
                have i100 : IntKind.i64.wrap (byt bs 100) = byt bs 100 := by have := byt_le bs 100; rw [IntKind.wrap_i64]; omega
                have hL100 : (100 : Int) < (L : Int) := by omega
                have b101 := hide (show ∀ W, Below G w W → W.cell? ⟨bb, oo + 101, none⟩ = some (.int .u8 (byt bs 101)) from fun W h => hcl.out W h 101 (by have := hlen.out; omega))
                have i101 : IntKind.i64.wrap (byt bs 101) = byt bs 101 := by have := byt_le bs 101; rw [IntKind.wrap_i64]; omega
                have hL101 : (101 : Int) < (L : Int) := by omega
                have b118 := hide (show ∀ W, Below G w W → W.cell? ⟨bb, oo + 118, none⟩ = some (.int .u8 (byt bs 118)) from fun W h => hcl.out W h 118 (by have := hlen.out; omega))
                have i118 : IntKind.i64.wrap (byt bs 118) = byt bs 118 := by have := byt_le bs 118; rw [IntKind.wrap_i64]; omega
                have hL118 : (118 : Int) < (L : Int) := by omega
                clear hn hlen hcl hsgn hnum
                generalize num bs 8 8 = N8 at *
                generalize num bs 16 8 = N16 at *
                generalize num bs 24 8 = N24 at *
                generalize num bs 32 8 = N32 at *
                generalize num bs 40 8 = N40 at *
                generalize num bs 48 8 = N48 at *
                generalize num bs 56 8 = N56 at *
                generalize num bs 64 8 = N64 at *
                generalize num bs 72 8 = N72 at *
                generalize num bs 80 8 = N80 at *
                generalize num bs 88 8 = N88 at *
                generalize byt bs 96 = n96 at *
                generalize byt bs 97 = n97 at *
                generalize byt bs 98 = n98 at *
                generalize byt bs 99 = n99 at *
                generalize byt bs 100 = n100 at *
                generalize byt bs 101 = n101 at *
                generalize byt bs 118 = n118 at *
                generalize sg bs 102 = n102 at *
                generalize sg bs 106 = n106 at *
                generalize sg bs 110 = n110 at *
                generalize sg bs 114 = n114 at *
                generalize sg bs 119 = n119 at *
                generalize sg bs 123 = n123 at *
                have z0 := hide (show World.cell? wr.drew ⟨G + 1, 0, none⟩ = some (.int .u64 (N8 : Int)) ∧ World.cell? wr.drew ⟨G + 1, 1, none⟩ = some (.int .u64 (N16 : Int)) ∧ World.cell? wr.drew ⟨G + 1, 2, none⟩ = some (.int .u64 (N24 : Int)) ∧ World.cell? wr.drew ⟨G + 1, 3, none⟩ = some (.int .u64 (N32 : Int)) ∧ World.cell? wr.drew ⟨G + 1, 4, none⟩ = some (.int .u64 (N40 : Int)) ∧ World.cell? wr.drew ⟨G + 1, 5, none⟩ = some (.int .u64 (N48 : Int)) ∧ World.cell? wr.drew ⟨G + 1, 6, none⟩ = some (.int .u64 (N56 : Int)) ∧ World.cell? wr.drew ⟨G + 1, 7, none⟩ = some (.int .u64 (N64 : Int)) ∧ World.cell? wr.drew ⟨G + 1, 8, none⟩ = some (.int .u64 (N72 : Int)) ∧ World.cell? wr.drew ⟨G + 1, 9, none⟩ = some (.int .u64 (N80 : Int)) ∧ World.cell? wr.drew ⟨G + 1, 10, none⟩ = some (.int .u64 (N88 : Int)) ∧ World.cell? wr.drew ⟨bb, oo + 96, none⟩ = some (.int .u8 n96) from ⟨y0, y1, y2, y3, y4, y5, y6, y7, y8, y9, y10, b96⟩)
                have z1 := hide (show ∀ ob, World.cell? (wr.alloc ob) ⟨G + 1, 0, none⟩ = some (.int .u64 (N8 : Int)) ∧ World.cell? (wr.alloc ob) ⟨G + 1, 1, none⟩ = some (.int .u64 (N16 : Int)) ∧ World.cell? (wr.alloc ob) ⟨G + 1, 2, none⟩ = some (.int .u64 (N24 : Int)) ∧ World.cell? (wr.alloc ob) ⟨G + 1, 3, none⟩ = some (.int .u64 (N32 : Int)) ∧ World.cell? (wr.alloc ob) ⟨G + 1, 4, none⟩ = some (.int .u64 (N40 : Int)) ∧ World.cell? (wr.alloc ob) ⟨G + 1, 5, none⟩ = some (.int .u64 (N48 : Int)) ∧ World.cell? (wr.alloc ob) ⟨G + 1, 6, none⟩ = some (.int .u64 (N56 : Int)) ∧ World.cell? (wr.alloc ob) ⟨G + 1, 7, none⟩ = some (.int .u64 (N64 : Int)) ∧ World.cell? (wr.alloc ob) ⟨G + 1, 8, none⟩ = some (.int .u64 (N72 : Int)) ∧ World.cell? (wr.alloc ob) ⟨G + 1, 9, none⟩ = some (.int .u64 (N80 : Int)) ∧ World.cell? (wr.alloc ob) ⟨G + 1, 10, none⟩ = some (.int .u64 (N88 : Int)) ∧ World.cell? (wr.alloc ob) ⟨bb, oo + 96, none⟩ = some (.int .u8 n96) from fun ob => ⟨(World.cell?_alloc_lt wr ob ⟨G + 1, 0, none⟩ (World.block_lt_of_cell? wr _ y0)).trans y0, (World.cell?_alloc_lt wr ob ⟨G + 1, 1, none⟩ (World.block_lt_of_cell? wr _ y1)).trans y1, (World.cell?_alloc_lt wr ob ⟨G + 1, 2, none⟩ (World.block_lt_of_cell? wr _ y2)).trans y2, (World.cell?_alloc_lt wr ob ⟨G + 1, 3, none⟩ (World.block_lt_of_cell? wr _ y3)).trans y3, (World.cell?_alloc_lt wr ob ⟨G + 1, 4, none⟩ (World.block_lt_of_cell? wr _ y4)).trans y4, (World.cell?_alloc_lt wr ob ⟨G + 1, 5, none⟩ (World.block_lt_of_cell? wr _ y5)).trans y5, (World.cell?_alloc_lt wr ob ⟨G + 1, 6, none⟩ (World.block_lt_of_cell? wr _ y6)).trans y6, (World.cell?_alloc_lt wr ob ⟨G + 1, 7, none⟩ (World.block_lt_of_cell? wr _ y7)).trans y7, (World.cell?_alloc_lt wr ob ⟨G + 1, 8, none⟩ (World.block_lt_of_cell? wr _ y8)).trans y8, (World.cell?_alloc_lt wr ob ⟨G + 1, 9, none⟩ (World.block_lt_of_cell? wr _ y9)).trans y9, (World.cell?_alloc_lt wr ob ⟨G + 1, 10, none⟩ (World.block_lt_of_cell? wr _ y10)).trans y10, (World.cell?_alloc_lt wr ob ⟨bb, oo + 96, none⟩ (World.block_lt_of_cell? wr _ b96)).trans b96⟩)
                have z2 := hide (show ∀ ob, World.cell? (wr.alloc ob).drew ⟨G + 1, 0, none⟩ = some (.int .u64 (N8 : Int)) ∧ World.cell? (wr.alloc ob).drew ⟨G + 1, 1, none⟩ = some (.int .u64 (N16 : Int)) ∧ World.cell? (wr.alloc ob).drew ⟨G + 1, 2, none⟩ = some (.int .u64 (N24 : Int)) ∧ World.cell? (wr.alloc ob).drew ⟨G + 1, 3, none⟩ = some (.int .u64 (N32 : Int)) ∧ World.cell? (wr.alloc ob).drew ⟨G + 1, 4, none⟩ = some (.int .u64 (N40 : Int)) ∧ World.cell? (wr.alloc ob).drew ⟨G + 1, 5, none⟩ = some (.int .u64 (N48 : Int)) ∧ World.cell? (wr.alloc ob).drew ⟨G + 1, 6, none⟩ = some (.int .u64 (N56 : Int)) ∧ World.cell? (wr.alloc ob).drew ⟨G + 1, 7, none⟩ = some (.int .u64 (N64 : Int)) ∧ World.cell? (wr.alloc ob).drew ⟨G + 1, 8, none⟩ = some (.int .u64 (N72 : Int)) ∧ World.cell? (wr.alloc ob).drew ⟨G + 1, 9, none⟩ = some (.int .u64 (N80 : Int)) ∧ World.cell? (wr.alloc ob).drew ⟨G + 1, 10, none⟩ = some (.int .u64 (N88 : Int)) ∧ World.cell? (wr.alloc ob).drew ⟨bb, oo + 96, none⟩ = some (.int .u8 n96) from fun ob => z1.out ob)
                have z3 := hide (show ∀ ob, World.cell? (wr.drew.alloc ob) ⟨G + 1, 0, none⟩ = some (.int .u64 (N8 : Int)) ∧ World.cell? (wr.drew.alloc ob) ⟨G + 1, 1, none⟩ = some (.int .u64 (N16 : Int)) ∧ World.cell? (wr.drew.alloc ob) ⟨G + 1, 2, none⟩ = some (.int .u64 (N24 : Int)) ∧ World.cell? (wr.drew.alloc ob) ⟨G + 1, 3, none⟩ = some (.int .u64 (N32 : Int)) ∧ World.cell? (wr.drew.alloc ob) ⟨G + 1, 4, none⟩ = some (.int .u64 (N40 : Int)) ∧ World.cell? (wr.drew.alloc ob) ⟨G + 1, 5, none⟩ = some (.int .u64 (N48 : Int)) ∧ World.cell? (wr.drew.alloc ob) ⟨G + 1, 6, none⟩ = some (.int .u64 (N56 : Int)) ∧ World.cell? (wr.drew.alloc ob) ⟨G + 1, 7, none⟩ = some (.int .u64 (N64 : Int)) ∧ World.cell? (wr.drew.alloc ob) ⟨G + 1, 8, none⟩ = some (.int .u64 (N72 : Int)) ∧ World.cell? (wr.drew.alloc ob) ⟨G + 1, 9, none⟩ = some (.int .u64 (N80 : Int)) ∧ World.cell? (wr.drew.alloc ob) ⟨G + 1, 10, none⟩ = some (.int .u64 (N88 : Int)) ∧ World.cell? (wr.drew.alloc ob) ⟨bb, oo + 96, none⟩ = some (.int .u8 n96) from fun ob => z1.out ob)
                have hsp := hs.out
                go_upto_region 12 with fail
                refine wp_region_held_drew (S := fun W => World.cell? W ⟨G + 1, 0, none⟩ = some (.int .u64 (N8 : Int)) ∧ World.cell? W ⟨G + 1, 1, none⟩ = some (.int .u64 (N16 : Int)) ∧ World.cell? W ⟨G + 1, 2, none⟩ = some (.int .u64 (N24 : Int)) ∧ World.cell? W ⟨G + 1, 3, none⟩ = some (.int .u64 (N32 : Int)) ∧ World.cell? W ⟨G + 1, 4, none⟩ = some (.int .u64 (N40 : Int)) ∧ World.cell? W ⟨G + 1, 5, none⟩ = some (.int .u64 (N48 : Int)) ∧ World.cell? W ⟨G + 1, 6, none⟩ = some (.int .u64 (N56 : Int)) ∧ World.cell? W ⟨G + 1, 7, none⟩ = some (.int .u64 (N64 : Int)) ∧ World.cell? W ⟨G + 1, 8, none⟩ = some (.int .u64 (N72 : Int)) ∧ World.cell? W ⟨G + 1, 9, none⟩ = some (.int .u64 (N80 : Int)) ∧ World.cell? W ⟨G + 1, 10, none⟩ = some (.int .u64 (N88 : Int)) ∧ World.cell? W ⟨bb, oo + 96, none⟩ = some (.int .u8 n96)) (by kernel_rfl) z0.out ?_
                intro hS0
                refine take13 (i := 0) (d := 43) (v := .pointer (some ⟨G + 1, 0, none⟩)) rfl rfl (by kernel_rfl) (by kernel_rfl) (by kernel_rfl) (fun _ _ _ h => h) (Or.inl ⟨by rfl, by (intro W hSw; (try dsimp only at hSw); go_simp)⟩) (by assumption) ?_
                simp only [Act.put, List.setIfInBounds_toArray, List.set_cons_zero, List.set_cons_succ]
                refine take13 (i := 1) (d := 44) (v := .int .u64 (N8 : Int)) rfl rfl (by kernel_rfl) (by kernel_rfl) (by kernel_rfl) (fun _ _ _ h => h) (Or.inl ⟨by rfl, by (intro W hSw; (try dsimp only at hSw); go_simp)⟩) (by assumption) ?_
                simp only [Act.put, List.setIfInBounds_toArray, List.set_cons_zero, List.set_cons_succ]
                refine take13 (i := 2) (d := 45) (v := .pointer (some ⟨G + 1, 1, none⟩)) rfl rfl (by kernel_rfl) (by kernel_rfl) (by kernel_rfl) (fun _ _ _ h => h) (Or.inl ⟨by rfl, by (intro W hSw; (try dsimp only at hSw); go_simp)⟩) (by assumption) ?_
                simp only [Act.put, List.setIfInBounds_toArray, List.set_cons_zero, List.set_cons_succ]
                refine take13 (i := 3) (d := 46) (v := .int .u64 (N16 : Int)) rfl rfl (by kernel_rfl) (by kernel_rfl) (by kernel_rfl) (fun _ _ _ h => h) (Or.inl ⟨by rfl, by (intro W hSw; (try dsimp only at hSw); go_simp)⟩) (by assumption) ?_
                simp only [Act.put, List.setIfInBounds_toArray, List.set_cons_zero, List.set_cons_succ]
                refine take13 (i := 4) (d := 47) (v := .agg #[.int .u64 (N8 : Int), .int .u64 (N16 : Int)]) rfl rfl (by kernel_rfl) (by kernel_rfl) (by kernel_rfl) (fun _ _ _ h => h) (Or.inl ⟨by rfl, by (intro W _; kernel_rfl)⟩) (by assumption) ?_
                simp only [Act.put, List.setIfInBounds_toArray, List.set_cons_zero, List.set_cons_succ]
                refine take13 (i := 5) (d := 48) (v := .pointer (some ⟨G + 1, 2, none⟩)) rfl rfl (by kernel_rfl) (by kernel_rfl) (by kernel_rfl) (fun _ _ _ h => h) (Or.inl ⟨by rfl, by (intro W hSw; (try dsimp only at hSw); go_simp)⟩) (by assumption) ?_
                simp only [Act.put, List.setIfInBounds_toArray, List.set_cons_zero, List.set_cons_succ]
                refine take13 (i := 6) (d := 49) (v := .int .u64 (N24 : Int)) rfl rfl (by kernel_rfl) (by kernel_rfl) (by kernel_rfl) (fun _ _ _ h => h) (Or.inl ⟨by rfl, by (intro W hSw; (try dsimp only at hSw); go_simp)⟩) (by assumption) ?_
                simp only [Act.put, List.setIfInBounds_toArray, List.set_cons_zero, List.set_cons_succ]
                refine take13 (i := 7) (d := 50) (v := .pointer (some ⟨G + 1, 3, none⟩)) rfl rfl (by kernel_rfl) (by kernel_rfl) (by kernel_rfl) (fun _ _ _ h => h) (Or.inl ⟨by rfl, by (intro W hSw; (try dsimp only at hSw); go_simp)⟩) (by assumption) ?_
                simp only [Act.put, List.setIfInBounds_toArray, List.set_cons_zero, List.set_cons_succ]
                refine take13 (i := 8) (d := 51) (v := .int .u64 (N32 : Int)) rfl rfl (by kernel_rfl) (by kernel_rfl) (by kernel_rfl) (fun _ _ _ h => h) (Or.inl ⟨by rfl, by (intro W hSw; (try dsimp only at hSw); go_simp)⟩) (by assumption) ?_
                simp only [Act.put, List.setIfInBounds_toArray, List.set_cons_zero, List.set_cons_succ]
                refine take13 (i := 9) (d := 52) (v := .agg #[.int .u64 (N24 : Int), .int .u64 (N32 : Int)]) rfl rfl (by kernel_rfl) (by kernel_rfl) (by kernel_rfl) (fun _ _ _ h => h) (Or.inl ⟨by rfl, by (intro W _; kernel_rfl)⟩) (by assumption) ?_
                simp only [Act.put, List.setIfInBounds_toArray, List.set_cons_zero, List.set_cons_succ]
                refine take13 (i := 10) (d := 53) (v := .pointer (some ⟨G + 1, 4, none⟩)) rfl rfl (by kernel_rfl) (by kernel_rfl) (by kernel_rfl) (fun _ _ _ h => h) (Or.inl ⟨by rfl, by (intro W hSw; (try dsimp only at hSw); go_simp)⟩) (by assumption) ?_
                simp only [Act.put, List.setIfInBounds_toArray, List.set_cons_zero, List.set_cons_succ]
                refine take13 (i := 11) (d := 54) (v := .int .u64 (N40 : Int)) rfl rfl (by kernel_rfl) (by kernel_rfl) (by kernel_rfl) (fun _ _ _ h => h) (Or.inl ⟨by rfl, by (intro W hSw; (try dsimp only at hSw); go_simp)⟩) (by assumption) ?_
                simp only [Act.put, List.setIfInBounds_toArray, List.set_cons_zero, List.set_cons_succ]
                refine take13 (i := 12) (d := 55) (v := .pointer (some ⟨G + 1, 5, none⟩)) rfl rfl (by kernel_rfl) (by kernel_rfl) (by kernel_rfl) (fun _ _ _ h => h) (Or.inl ⟨by rfl, by (intro W hSw; (try dsimp only at hSw); go_simp)⟩) (by assumption) ?_
                simp only [Act.put, List.setIfInBounds_toArray, List.set_cons_zero, List.set_cons_succ]
                refine take13 (i := 13) (d := 56) (v := .int .u64 (N48 : Int)) rfl rfl (by kernel_rfl) (by kernel_rfl) (by kernel_rfl) (fun _ _ _ h => h) (Or.inl ⟨by rfl, by (intro W hSw; (try dsimp only at hSw); go_simp)⟩) (by assumption) ?_
                simp only [Act.put, List.setIfInBounds_toArray, List.set_cons_zero, List.set_cons_succ]
                refine take13 (i := 14) (d := 57) (v := .agg #[.int .u64 (N40 : Int), .int .u64 (N48 : Int)]) rfl rfl (by kernel_rfl) (by kernel_rfl) (by kernel_rfl) (fun _ _ _ h => h) (Or.inl ⟨by rfl, by (intro W _; kernel_rfl)⟩) (by assumption) ?_
                simp only [Act.put, List.setIfInBounds_toArray, List.set_cons_zero, List.set_cons_succ]
                refine take13 (i := 15) (d := 58) (v := .pointer (some ⟨G + 1, 6, none⟩)) rfl rfl (by kernel_rfl) (by kernel_rfl) (by kernel_rfl) (fun _ _ _ h => h) (Or.inl ⟨by rfl, by (intro W hSw; (try dsimp only at hSw); go_simp)⟩) (by assumption) ?_
                simp only [Act.put, List.setIfInBounds_toArray, List.set_cons_zero, List.set_cons_succ]
                refine take13 (i := 16) (d := 59) (v := .int .u64 (N56 : Int)) rfl rfl (by kernel_rfl) (by kernel_rfl) (by kernel_rfl) (fun _ _ _ h => h) (Or.inl ⟨by rfl, by (intro W hSw; (try dsimp only at hSw); go_simp)⟩) (by assumption) ?_
                simp only [Act.put, List.setIfInBounds_toArray, List.set_cons_zero, List.set_cons_succ]
                refine take13 (i := 17) (d := 60) (v := .pointer (some ⟨G + 1, 7, none⟩)) rfl rfl (by kernel_rfl) (by kernel_rfl) (by kernel_rfl) (fun _ _ _ h => h) (Or.inl ⟨by rfl, by (intro W hSw; (try dsimp only at hSw); go_simp)⟩) (by assumption) ?_
                simp only [Act.put, List.setIfInBounds_toArray, List.set_cons_zero, List.set_cons_succ]
                refine take13 (i := 18) (d := 61) (v := .int .u64 (N64 : Int)) rfl rfl (by kernel_rfl) (by kernel_rfl) (by kernel_rfl) (fun _ _ _ h => h) (Or.inl ⟨by rfl, by (intro W hSw; (try dsimp only at hSw); go_simp)⟩) (by assumption) ?_
                simp only [Act.put, List.setIfInBounds_toArray, List.set_cons_zero, List.set_cons_succ]
                refine take13 (i := 19) (d := 62) (v := .agg #[.int .u64 (N56 : Int), .int .u64 (N64 : Int)]) rfl rfl (by kernel_rfl) (by kernel_rfl) (by kernel_rfl) (fun _ _ _ h => h) (Or.inl ⟨by rfl, by (intro W _; kernel_rfl)⟩) (by assumption) ?_
                simp only [Act.put, List.setIfInBounds_toArray, List.set_cons_zero, List.set_cons_succ]
                refine take13 (i := 20) (d := 63) (v := .pointer (some ⟨G + 1, 8, none⟩)) rfl rfl (by kernel_rfl) (by kernel_rfl) (by kernel_rfl) (fun _ _ _ h => h) (Or.inl ⟨by rfl, by (intro W hSw; (try dsimp only at hSw); go_simp)⟩) (by assumption) ?_
                simp only [Act.put, List.setIfInBounds_toArray, List.set_cons_zero, List.set_cons_succ]
                refine take13 (i := 21) (d := 64) (v := .int .u64 (N72 : Int)) rfl rfl (by kernel_rfl) (by kernel_rfl) (by kernel_rfl) (fun _ _ _ h => h) (Or.inl ⟨by rfl, by (intro W hSw; (try dsimp only at hSw); go_simp)⟩) (by assumption) ?_
                simp only [Act.put, List.setIfInBounds_toArray, List.set_cons_zero, List.set_cons_succ]
                refine take13 (i := 22) (d := 65) (v := .pointer (some ⟨G + 1, 9, none⟩)) rfl rfl (by kernel_rfl) (by kernel_rfl) (by kernel_rfl) (fun _ _ _ h => h) (Or.inl ⟨by rfl, by (intro W hSw; (try dsimp only at hSw); go_simp)⟩) (by assumption) ?_
                simp only [Act.put, List.setIfInBounds_toArray, List.set_cons_zero, List.set_cons_succ]
                refine take13 (i := 23) (d := 66) (v := .int .u64 (N80 : Int)) rfl rfl (by kernel_rfl) (by kernel_rfl) (by kernel_rfl) (fun _ _ _ h => h) (Or.inl ⟨by rfl, by (intro W hSw; (try dsimp only at hSw); go_simp)⟩) (by assumption) ?_
                simp only [Act.put, List.setIfInBounds_toArray, List.set_cons_zero, List.set_cons_succ]
                refine take13 (i := 24) (d := 67) (v := .pointer (some ⟨G + 1, 10, none⟩)) rfl rfl (by kernel_rfl) (by kernel_rfl) (by kernel_rfl) (fun _ _ _ h => h) (Or.inl ⟨by rfl, by (intro W hSw; (try dsimp only at hSw); go_simp)⟩) (by assumption) ?_
                simp only [Act.put, List.setIfInBounds_toArray, List.set_cons_zero, List.set_cons_succ]
                refine take13 (i := 25) (d := 68) (v := .int .u64 (N88 : Int)) rfl rfl (by kernel_rfl) (by kernel_rfl) (by kernel_rfl) (fun _ _ _ h => h) (Or.inl ⟨by rfl, by (intro W hSw; (try dsimp only at hSw); go_simp)⟩) (by assumption) ?_
                simp only [Act.put, List.setIfInBounds_toArray, List.set_cons_zero, List.set_cons_succ]
                refine take13 (i := 26) (d := 69) (v := .agg #[.int .u64 (N72 : Int), .int .u64 (N80 : Int), .int .u64 (N88 : Int)]) rfl rfl (by kernel_rfl) (by kernel_rfl) (by kernel_rfl) (fun _ _ _ h => h) (Or.inl ⟨by rfl, by (intro W _; kernel_rfl)⟩) (by assumption) ?_
                simp only [Act.put, List.setIfInBounds_toArray, List.set_cons_zero, List.set_cons_succ]
                refine take13 (i := 27) (d := 70) (v := .slice (some ⟨bb, oo, none⟩) L c) rfl rfl (by kernel_rfl) (by kernel_rfl) (by kernel_rfl) (fun _ _ _ h => h) (Or.inl ⟨by rfl, by (intro W hSw; (try dsimp only at hSw); go_simp)⟩) (by assumption) ?_
                simp only [Act.put, List.setIfInBounds_toArray, List.set_cons_zero, List.set_cons_succ]
                refine take13 (i := 28) (d := 71) (v := .pointer (some ⟨bb, oo + 96, none⟩)) rfl rfl (by kernel_rfl) (by kernel_rfl) (by kernel_rfl) (fun _ _ _ h => h) (Or.inl ⟨by rfl, by (intro W hSw; (try dsimp only at hSw); go_simp)⟩) (by assumption) ?_
                simp only [Act.put, List.setIfInBounds_toArray, List.set_cons_zero, List.set_cons_succ]
                refine take13 (i := 29) (d := 72) (v := .int .u8 n96) rfl rfl (by kernel_rfl) (by kernel_rfl) (by kernel_rfl) (fun _ _ _ h => h) (Or.inl ⟨by rfl, by (intro W hSw; (try dsimp only at hSw); go_simp)⟩) (by assumption) ?_
                simp only [Act.put, List.setIfInBounds_toArray, List.set_cons_zero, List.set_cons_succ]
                refine take13 (i := 30) (d := 73) (v := .bool (n96 == 1)) rfl rfl (by kernel_rfl) (by kernel_rfl) (by kernel_rfl) (fun _ _ _ h => h) (Or.inl ⟨by rfl, by (intro W hSw; (try dsimp only at hSw); go_simp)⟩) (by assumption) ?_
                simp only [Act.put, List.setIfInBounds_toArray, List.set_cons_zero, List.set_cons_succ]
                refine take13 (i := 31) (d := 74) (v := .agg #[.int .u64 (N8 : Int), .int .u64 (N16 : Int), .int .u64 (N24 : Int), .int .u64 (N32 : Int), .int .u64 (N40 : Int), .int .u64 (N48 : Int), .int .u64 (N56 : Int), .int .u64 (N64 : Int), .int .u64 (N72 : Int), .int .u64 (N80 : Int), .int .u64 (N88 : Int), .bool (n96 == 1), .int .i64 0, .int .i64 0, .int .i64 0, .int .i64 0, .int .i64 0, .int .i64 0, .int .i64 0, .int .i64 0, .int .i64 0, .int .i64 0, .int .i64 0, .int .i64 0]) rfl rfl (by kernel_rfl) (by kernel_rfl) (by kernel_rfl) (fun _ _ _ h => h) (Or.inl ⟨by rfl, by (intro W _; kernel_rfl)⟩) (by assumption) ?_
                simp only [Act.put, List.setIfInBounds_toArray, List.set_cons_zero, List.set_cons_succ]
                refine wpAnyH_ready (rs := [32]) (by kernel_rfl) (by simp) ?_
                refine AllReadyH.cons (o := ⟨some 6, .alloc 29, _, _, _, _⟩) rfl (fun K hK => ?_) AllReadyH.nil
                rw [if_pos (by rfl)]
                obtain ⟨w5, hw5⟩ : ∃ W, (wr.alloc (.cells #[.int .u64 0, .int .u64 0, .int .u64 0, .int .u64 0, .int .u64 0, .int .u64 0, .int .u64 0, .int .u64 0, .int .u64 0, .int .u64 0, .int .u64 0, .bool false, .int .i64 0, .int .i64 0, .int .i64 0, .int .i64 0, .int .i64 0, .int .i64 0, .int .i64 0, .int .i64 0, .int .i64 0, .int .i64 0, .int .i64 0, .int .i64 0] 29)).drew = W := ⟨_, rfl⟩
                have z5 := hide (show World.cell? w5 ⟨G + 1, 0, none⟩ = some (.int .u64 (N8 : Int)) ∧ World.cell? w5 ⟨G + 1, 1, none⟩ = some (.int .u64 (N16 : Int)) ∧ World.cell? w5 ⟨G + 1, 2, none⟩ = some (.int .u64 (N24 : Int)) ∧ World.cell? w5 ⟨G + 1, 3, none⟩ = some (.int .u64 (N32 : Int)) ∧ World.cell? w5 ⟨G + 1, 4, none⟩ = some (.int .u64 (N40 : Int)) ∧ World.cell? w5 ⟨G + 1, 5, none⟩ = some (.int .u64 (N48 : Int)) ∧ World.cell? w5 ⟨G + 1, 6, none⟩ = some (.int .u64 (N56 : Int)) ∧ World.cell? w5 ⟨G + 1, 7, none⟩ = some (.int .u64 (N64 : Int)) ∧ World.cell? w5 ⟨G + 1, 8, none⟩ = some (.int .u64 (N72 : Int)) ∧ World.cell? w5 ⟨G + 1, 9, none⟩ = some (.int .u64 (N80 : Int)) ∧ World.cell? w5 ⟨G + 1, 10, none⟩ = some (.int .u64 (N88 : Int)) ∧ World.cell? w5 ⟨bb, oo + 96, none⟩ = some (.int .u8 n96) from by rw [← hw5]; exact z2.out _)
                have k5 := hide (show Blk w5 (G + 1 + 1) 29 #[.int .u64 0, .int .u64 0, .int .u64 0, .int .u64 0, .int .u64 0, .int .u64 0, .int .u64 0, .int .u64 0, .int .u64 0, .int .u64 0, .int .u64 0, .bool false, .int .i64 0, .int .i64 0, .int .i64 0, .int .i64 0, .int .i64 0, .int .i64 0, .int .i64 0, .int .i64 0, .int .i64 0, .int .i64 0, .int .i64 0, .int .i64 0] from by rw [← hw5, ← hsp]; exact (Blk.new wr _ _).drew)
                have kG5 := hide (show Blk w5 G 29 #[.int .u64 0, .int .u64 0, .int .u64 0, .int .u64 0, .int .u64 0, .int .u64 0, .int .u64 0, .int .u64 0, .int .u64 0, .int .u64 0, .int .u64 0, .bool false, .int .i64 0, .int .i64 0, .int .i64 0, .int .i64 0, .int .i64 0, .int .i64 0, .int .i64 0, .int .i64 0, .int .i64 0, .int .i64 0, .int .i64 0, .int .i64 0] from by rw [← hw5]; exact (hk.out.alloc _).drew)
                have hb5 := hide (show Below G w w5 from by rw [← hw5]; exact (hb.out.alloc (by rw [hsp]; omega) _).drew)
                have s5 := hide (show w5.heap.size = G + 1 + 1 + 1 from by rw [← hw5, ← hsp]; exact (by simp : (wr.alloc (.cells #[.int .u64 0, .int .u64 0, .int .u64 0, .int .u64 0, .int .u64 0, .int .u64 0, .int .u64 0, .int .u64 0, .int .u64 0, .int .u64 0, .int .u64 0, .bool false, .int .i64 0, .int .i64 0, .int .i64 0, .int .i64 0, .int .i64 0, .int .i64 0, .int .i64 0, .int .i64 0, .int .i64 0, .int .i64 0, .int .i64 0, .int .i64 0] 29)).heap.size = wr.heap.size + 1))
                obtain ⟨w6, hw6⟩ : ∃ W, w5.setRow (G + 1 + 1) #[.int .u64 (N8 : Int), .int .u64 (N16 : Int), .int .u64 (N24 : Int), .int .u64 (N32 : Int), .int .u64 (N40 : Int), .int .u64 (N48 : Int), .int .u64 (N56 : Int), .int .u64 (N64 : Int), .int .u64 (N72 : Int), .int .u64 (N80 : Int), .int .u64 (N88 : Int), .bool (n96 == 1), .int .i64 0, .int .i64 0, .int .i64 0, .int .i64 0, .int .i64 0, .int .i64 0, .int .i64 0, .int .i64 0, .int .i64 0, .int .i64 0, .int .i64 0, .int .i64 0] = W := ⟨_, rfl⟩
                have c6 := hide (show ∀ b o, b ≠ G + 1 + 1 → w6.cell? ⟨b, o, none⟩ = w5.cell? ⟨b, o, none⟩ from fun b o hne => by rw [← hw6]; exact World.cell?_of_block (w := w5) (setRow_other w5 (G + 1 + 1) b _ hne))
                have z6 := hide (show World.cell? w6 ⟨G + 1, 0, none⟩ = some (.int .u64 (N8 : Int)) ∧ World.cell? w6 ⟨G + 1, 1, none⟩ = some (.int .u64 (N16 : Int)) ∧ World.cell? w6 ⟨G + 1, 2, none⟩ = some (.int .u64 (N24 : Int)) ∧ World.cell? w6 ⟨G + 1, 3, none⟩ = some (.int .u64 (N32 : Int)) ∧ World.cell? w6 ⟨G + 1, 4, none⟩ = some (.int .u64 (N40 : Int)) ∧ World.cell? w6 ⟨G + 1, 5, none⟩ = some (.int .u64 (N48 : Int)) ∧ World.cell? w6 ⟨G + 1, 6, none⟩ = some (.int .u64 (N56 : Int)) ∧ World.cell? w6 ⟨G + 1, 7, none⟩ = some (.int .u64 (N64 : Int)) ∧ World.cell? w6 ⟨G + 1, 8, none⟩ = some (.int .u64 (N72 : Int)) ∧ World.cell? w6 ⟨G + 1, 9, none⟩ = some (.int .u64 (N80 : Int)) ∧ World.cell? w6 ⟨G + 1, 10, none⟩ = some (.int .u64 (N88 : Int)) ∧ World.cell? w6 ⟨bb, oo + 96, none⟩ = some (.int .u8 n96) from by
                  obtain ⟨e0, e1, e2, e3, e4, e5, e6, e7, e8, e9, e10, e11⟩ := z5.out
                  exact ⟨(c6.out _ _ (by omega)).trans e0, (c6.out _ _ (by omega)).trans e1, (c6.out _ _ (by omega)).trans e2, (c6.out _ _ (by omega)).trans e3, (c6.out _ _ (by omega)).trans e4, (c6.out _ _ (by omega)).trans e5, (c6.out _ _ (by omega)).trans e6, (c6.out _ _ (by omega)).trans e7, (c6.out _ _ (by omega)).trans e8, (c6.out _ _ (by omega)).trans e9, (c6.out _ _ (by omega)).trans e10, (c6.out _ _ (by have := hbG.out; omega)).trans e11⟩)
                have k6 := hide (show Blk w6 (G + 1 + 1) 29 #[.int .u64 (N8 : Int), .int .u64 (N16 : Int), .int .u64 (N24 : Int), .int .u64 (N32 : Int), .int .u64 (N40 : Int), .int .u64 (N48 : Int), .int .u64 (N56 : Int), .int .u64 (N64 : Int), .int .u64 (N72 : Int), .int .u64 (N80 : Int), .int .u64 (N88 : Int), .bool (n96 == 1), .int .i64 0, .int .i64 0, .int .i64 0, .int .i64 0, .int .i64 0, .int .i64 0, .int .i64 0, .int .i64 0, .int .i64 0, .int .i64 0, .int .i64 0, .int .i64 0] from by rw [← hw6]; exact k5.out.row _)
                have kG6 := hide (show Blk w6 G 29 #[.int .u64 0, .int .u64 0, .int .u64 0, .int .u64 0, .int .u64 0, .int .u64 0, .int .u64 0, .int .u64 0, .int .u64 0, .int .u64 0, .int .u64 0, .bool false, .int .i64 0, .int .i64 0, .int .i64 0, .int .i64 0, .int .i64 0, .int .i64 0, .int .i64 0, .int .i64 0, .int .i64 0, .int .i64 0, .int .i64 0, .int .i64 0] from by rw [← hw6]; exact (setRow_other w5 (G + 1 + 1) G _ (by omega)).trans kG5.out)
                have hb6 := hide (show Below G w w6 from by rw [← hw6]; exact below_row hb5.out (by omega) _)
                have s6 := hide (show w6.heap.size = G + 1 + 1 + 1 from by rw [← hw6]; simpa using s5.out)
                go_simp
                refine hK.out _ _ z5.out (fun _ => ?_)
                clear hK
                refine wpAnyH_ready (rs := [33]) (by kernel_rfl) (by simp) ?_
                refine AllReadyH.cons (o := ⟨none, .store 29 (.tmp 6) (.tmp 74), _, _, _, _⟩) rfl (fun K hK => ?_) AllReadyH.nil
                rw [if_pos (by rfl)]
                refine wp_store_row 29 (.tmp 6) (.tmp 74) rfl (G + 1 + 1) #[.int .u64 (N8 : Int), .int .u64 (N16 : Int), .int .u64 (N24 : Int), .int .u64 (N32 : Int), .int .u64 (N40 : Int), .int .u64 (N48 : Int), .int .u64 (N56 : Int), .int .u64 (N64 : Int), .int .u64 (N72 : Int), .int .u64 (N80 : Int), .int .u64 (N88 : Int), .bool (n96 == 1), .int .i64 0, .int .i64 0, .int .i64 0, .int .i64 0, .int .i64 0, .int .i64 0, .int .i64 0, .int .i64 0, .int .i64 0, .int .i64 0, .int .i64 0, .int .i64 0] rfl rfl 29 #[.int .u64 0, .int .u64 0, .int .u64 0, .int .u64 0, .int .u64 0, .int .u64 0, .int .u64 0, .int .u64 0, .int .u64 0, .int .u64 0, .int .u64 0, .bool false, .int .i64 0, .int .i64 0, .int .i64 0, .int .i64 0, .int .i64 0, .int .i64 0, .int .i64 0, .int .i64 0, .int .i64 0, .int .i64 0, .int .i64 0, .int .i64 0] k5.out.eq z24info rfl (by simp [Value.oneCell']) ?_
                rw [hw6]
                refine hK.out _ _ z6.out (fun _ => ?_)
                clear hK
                refine wpAnyH_done (by kernel_rfl) ?_ _
                simp only [Act.put]
                clear z0 z1 z2 z3 z5 z6 hS0 k5 kG5 hb5 s5 c6 hw5 hw6 hk hb hs hsp y0 y1 y2 y3 y4 y5 y6 y7 y8 y9 y10 b96
                go_upto_region 13 with fail
                have hbb := hbG.out
                have z0 := hide (show World.cell? w6.drew ⟨bb, oo + 97, none⟩ = some (.int .u8 n97) ∧ World.cell? w6.drew ⟨bb, oo + 98, none⟩ = some (.int .u8 n98) ∧ World.cell? w6.drew ⟨bb, oo + 99, none⟩ = some (.int .u8 n99) ∧ World.cell? w6.drew ⟨bb, oo + 100, none⟩ = some (.int .u8 n100) ∧ World.cell? w6.drew ⟨bb, oo + 101, none⟩ = some (.int .u8 n101) ∧ World.cell? w6.drew ⟨bb, oo + 118, none⟩ = some (.int .u8 n118) from ⟨b97.out w6 hb6.out, b98.out w6 hb6.out, b99.out w6 hb6.out, b100.out w6 hb6.out, b101.out w6 hb6.out, b118.out w6 hb6.out⟩)
                obtain ⟨v1, hv1⟩ : ∃ W, World.setCell w6 ⟨G + 1 + 1, 12, none⟩ (.int .i64 n97) = W := ⟨_, rfl⟩
                have xv1 : World.cell? w6 ⟨G + 1 + 1, 12, none⟩ = some (.int .i64 0) := k6.out.cell 12
                have yv1 : World.frozen? w6 ⟨G + 1 + 1, 12, none⟩ = false := k6.out.free 12
                have kv1 := hide (show Blk v1 (G + 1 + 1) 29 #[.int .u64 (N8 : Int), .int .u64 (N16 : Int), .int .u64 (N24 : Int), .int .u64 (N32 : Int), .int .u64 (N40 : Int), .int .u64 (N48 : Int), .int .u64 (N56 : Int), .int .u64 (N64 : Int), .int .u64 (N72 : Int), .int .u64 (N80 : Int), .int .u64 (N88 : Int), .bool (n96 == 1), .int .i64 n97, .int .i64 0, .int .i64 0, .int .i64 0, .int .i64 0, .int .i64 0, .int .i64 0, .int .i64 0, .int .i64 0, .int .i64 0, .int .i64 0, .int .i64 0] from by rw [← hv1]; exact k6.out.set 12 _)
                have kGv1 := hide (show Blk v1 G 29 #[.int .u64 0, .int .u64 0, .int .u64 0, .int .u64 0, .int .u64 0, .int .u64 0, .int .u64 0, .int .u64 0, .int .u64 0, .int .u64 0, .int .u64 0, .bool false, .int .i64 0, .int .i64 0, .int .i64 0, .int .i64 0, .int .i64 0, .int .i64 0, .int .i64 0, .int .i64 0, .int .i64 0, .int .i64 0, .int .i64 0, .int .i64 0] from by rw [← hv1]; exact kG6.out.far (by simp; omega) _)
                have hbv1 := hide (show Below G w v1 from by rw [← hv1]; exact hb6.out.setCell (by simp; omega) _)
                have z1 := hide (show World.cell? v1.drew ⟨bb, oo + 97, none⟩ = some (.int .u8 n97) ∧ World.cell? v1.drew ⟨bb, oo + 98, none⟩ = some (.int .u8 n98) ∧ World.cell? v1.drew ⟨bb, oo + 99, none⟩ = some (.int .u8 n99) ∧ World.cell? v1.drew ⟨bb, oo + 100, none⟩ = some (.int .u8 n100) ∧ World.cell? v1.drew ⟨bb, oo + 101, none⟩ = some (.int .u8 n101) ∧ World.cell? v1.drew ⟨bb, oo + 118, none⟩ = some (.int .u8 n118) from ⟨b97.out v1 hbv1.out, b98.out v1 hbv1.out, b99.out v1 hbv1.out, b100.out v1 hbv1.out, b101.out v1 hbv1.out, b118.out v1 hbv1.out⟩)
                obtain ⟨v2, hv2⟩ : ∃ W, World.setCell v1 ⟨G + 1 + 1, 13, none⟩ (.int .i64 n98) = W := ⟨_, rfl⟩
                have xv2 : World.cell? v1 ⟨G + 1 + 1, 13, none⟩ = some (.int .i64 0) := kv1.out.cell 13
                have yv2 : World.frozen? v1 ⟨G + 1 + 1, 13, none⟩ = false := kv1.out.free 13
                have kv2 := hide (show Blk v2 (G + 1 + 1) 29 #[.int .u64 (N8 : Int), .int .u64 (N16 : Int), .int .u64 (N24 : Int), .int .u64 (N32 : Int), .int .u64 (N40 : Int), .int .u64 (N48 : Int), .int .u64 (N56 : Int), .int .u64 (N64 : Int), .int .u64 (N72 : Int), .int .u64 (N80 : Int), .int .u64 (N88 : Int), .bool (n96 == 1), .int .i64 n97, .int .i64 n98, .int .i64 0, .int .i64 0, .int .i64 0, .int .i64 0, .int .i64 0, .int .i64 0, .int .i64 0, .int .i64 0, .int .i64 0, .int .i64 0] from by rw [← hv2]; exact kv1.out.set 13 _)
                have kGv2 := hide (show Blk v2 G 29 #[.int .u64 0, .int .u64 0, .int .u64 0, .int .u64 0, .int .u64 0, .int .u64 0, .int .u64 0, .int .u64 0, .int .u64 0, .int .u64 0, .int .u64 0, .bool false, .int .i64 0, .int .i64 0, .int .i64 0, .int .i64 0, .int .i64 0, .int .i64 0, .int .i64 0, .int .i64 0, .int .i64 0, .int .i64 0, .int .i64 0, .int .i64 0] from by rw [← hv2]; exact kGv1.out.far (by simp; omega) _)
                have hbv2 := hide (show Below G w v2 from by rw [← hv2]; exact hbv1.out.setCell (by simp; omega) _)
                have z2 := hide (show World.cell? v2.drew ⟨bb, oo + 97, none⟩ = some (.int .u8 n97) ∧ World.cell? v2.drew ⟨bb, oo + 98, none⟩ = some (.int .u8 n98) ∧ World.cell? v2.drew ⟨bb, oo + 99, none⟩ = some (.int .u8 n99) ∧ World.cell? v2.drew ⟨bb, oo + 100, none⟩ = some (.int .u8 n100) ∧ World.cell? v2.drew ⟨bb, oo + 101, none⟩ = some (.int .u8 n101) ∧ World.cell? v2.drew ⟨bb, oo + 118, none⟩ = some (.int .u8 n118) from ⟨b97.out v2 hbv2.out, b98.out v2 hbv2.out, b99.out v2 hbv2.out, b100.out v2 hbv2.out, b101.out v2 hbv2.out, b118.out v2 hbv2.out⟩)
                obtain ⟨v3, hv3⟩ : ∃ W, World.setCell v2 ⟨G + 1 + 1, 14, none⟩ (.int .i64 n99) = W := ⟨_, rfl⟩
                have xv3 : World.cell? v2 ⟨G + 1 + 1, 14, none⟩ = some (.int .i64 0) := kv2.out.cell 14
                have yv3 : World.frozen? v2 ⟨G + 1 + 1, 14, none⟩ = false := kv2.out.free 14
                have kv3 := hide (show Blk v3 (G + 1 + 1) 29 #[.int .u64 (N8 : Int), .int .u64 (N16 : Int), .int .u64 (N24 : Int), .int .u64 (N32 : Int), .int .u64 (N40 : Int), .int .u64 (N48 : Int), .int .u64 (N56 : Int), .int .u64 (N64 : Int), .int .u64 (N72 : Int), .int .u64 (N80 : Int), .int .u64 (N88 : Int), .bool (n96 == 1), .int .i64 n97, .int .i64 n98, .int .i64 n99, .int .i64 0, .int .i64 0, .int .i64 0, .int .i64 0, .int .i64 0, .int .i64 0, .int .i64 0, .int .i64 0, .int .i64 0] from by rw [← hv3]; exact kv2.out.set 14 _)
                have kGv3 := hide (show Blk v3 G 29 #[.int .u64 0, .int .u64 0, .int .u64 0, .int .u64 0, .int .u64 0, .int .u64 0, .int .u64 0, .int .u64 0, .int .u64 0, .int .u64 0, .int .u64 0, .bool false, .int .i64 0, .int .i64 0, .int .i64 0, .int .i64 0, .int .i64 0, .int .i64 0, .int .i64 0, .int .i64 0, .int .i64 0, .int .i64 0, .int .i64 0, .int .i64 0] from by rw [← hv3]; exact kGv2.out.far (by simp; omega) _)
                have hbv3 := hide (show Below G w v3 from by rw [← hv3]; exact hbv2.out.setCell (by simp; omega) _)
                have z3 := hide (show World.cell? v3.drew ⟨bb, oo + 97, none⟩ = some (.int .u8 n97) ∧ World.cell? v3.drew ⟨bb, oo + 98, none⟩ = some (.int .u8 n98) ∧ World.cell? v3.drew ⟨bb, oo + 99, none⟩ = some (.int .u8 n99) ∧ World.cell? v3.drew ⟨bb, oo + 100, none⟩ = some (.int .u8 n100) ∧ World.cell? v3.drew ⟨bb, oo + 101, none⟩ = some (.int .u8 n101) ∧ World.cell? v3.drew ⟨bb, oo + 118, none⟩ = some (.int .u8 n118) from ⟨b97.out v3 hbv3.out, b98.out v3 hbv3.out, b99.out v3 hbv3.out, b100.out v3 hbv3.out, b101.out v3 hbv3.out, b118.out v3 hbv3.out⟩)
                obtain ⟨v4, hv4⟩ : ∃ W, World.setCell v3 ⟨G + 1 + 1, 15, none⟩ (.int .i64 n100) = W := ⟨_, rfl⟩
                have xv4 : World.cell? v3 ⟨G + 1 + 1, 15, none⟩ = some (.int .i64 0) := kv3.out.cell 15
                have yv4 : World.frozen? v3 ⟨G + 1 + 1, 15, none⟩ = false := kv3.out.free 15
                have kv4 := hide (show Blk v4 (G + 1 + 1) 29 #[.int .u64 (N8 : Int), .int .u64 (N16 : Int), .int .u64 (N24 : Int), .int .u64 (N32 : Int), .int .u64 (N40 : Int), .int .u64 (N48 : Int), .int .u64 (N56 : Int), .int .u64 (N64 : Int), .int .u64 (N72 : Int), .int .u64 (N80 : Int), .int .u64 (N88 : Int), .bool (n96 == 1), .int .i64 n97, .int .i64 n98, .int .i64 n99, .int .i64 n100, .int .i64 0, .int .i64 0, .int .i64 0, .int .i64 0, .int .i64 0, .int .i64 0, .int .i64 0, .int .i64 0] from by rw [← hv4]; exact kv3.out.set 15 _)
                have kGv4 := hide (show Blk v4 G 29 #[.int .u64 0, .int .u64 0, .int .u64 0, .int .u64 0, .int .u64 0, .int .u64 0, .int .u64 0, .int .u64 0, .int .u64 0, .int .u64 0, .int .u64 0, .bool false, .int .i64 0, .int .i64 0, .int .i64 0, .int .i64 0, .int .i64 0, .int .i64 0, .int .i64 0, .int .i64 0, .int .i64 0, .int .i64 0, .int .i64 0, .int .i64 0] from by rw [← hv4]; exact kGv3.out.far (by simp; omega) _)
                have hbv4 := hide (show Below G w v4 from by rw [← hv4]; exact hbv3.out.setCell (by simp; omega) _)
                have z4 := hide (show World.cell? v4.drew ⟨bb, oo + 97, none⟩ = some (.int .u8 n97) ∧ World.cell? v4.drew ⟨bb, oo + 98, none⟩ = some (.int .u8 n98) ∧ World.cell? v4.drew ⟨bb, oo + 99, none⟩ = some (.int .u8 n99) ∧ World.cell? v4.drew ⟨bb, oo + 100, none⟩ = some (.int .u8 n100) ∧ World.cell? v4.drew ⟨bb, oo + 101, none⟩ = some (.int .u8 n101) ∧ World.cell? v4.drew ⟨bb, oo + 118, none⟩ = some (.int .u8 n118) from ⟨b97.out v4 hbv4.out, b98.out v4 hbv4.out, b99.out v4 hbv4.out, b100.out v4 hbv4.out, b101.out v4 hbv4.out, b118.out v4 hbv4.out⟩)
                obtain ⟨v5, hv5⟩ : ∃ W, World.setCell v4 ⟨G + 1 + 1, 16, none⟩ (.int .i64 n101) = W := ⟨_, rfl⟩
                have xv5 : World.cell? v4 ⟨G + 1 + 1, 16, none⟩ = some (.int .i64 0) := kv4.out.cell 16
                have yv5 : World.frozen? v4 ⟨G + 1 + 1, 16, none⟩ = false := kv4.out.free 16
                have kv5 := hide (show Blk v5 (G + 1 + 1) 29 #[.int .u64 (N8 : Int), .int .u64 (N16 : Int), .int .u64 (N24 : Int), .int .u64 (N32 : Int), .int .u64 (N40 : Int), .int .u64 (N48 : Int), .int .u64 (N56 : Int), .int .u64 (N64 : Int), .int .u64 (N72 : Int), .int .u64 (N80 : Int), .int .u64 (N88 : Int), .bool (n96 == 1), .int .i64 n97, .int .i64 n98, .int .i64 n99, .int .i64 n100, .int .i64 n101, .int .i64 0, .int .i64 0, .int .i64 0, .int .i64 0, .int .i64 0, .int .i64 0, .int .i64 0] from by rw [← hv5]; exact kv4.out.set 16 _)
                have kGv5 := hide (show Blk v5 G 29 #[.int .u64 0, .int .u64 0, .int .u64 0, .int .u64 0, .int .u64 0, .int .u64 0, .int .u64 0, .int .u64 0, .int .u64 0, .int .u64 0, .int .u64 0, .bool false, .int .i64 0, .int .i64 0, .int .i64 0, .int .i64 0, .int .i64 0, .int .i64 0, .int .i64 0, .int .i64 0, .int .i64 0, .int .i64 0, .int .i64 0, .int .i64 0] from by rw [← hv5]; exact kGv4.out.far (by simp; omega) _)
                have hbv5 := hide (show Below G w v5 from by rw [← hv5]; exact hbv4.out.setCell (by simp; omega) _)
                have z5 := hide (show World.cell? v5.drew ⟨bb, oo + 97, none⟩ = some (.int .u8 n97) ∧ World.cell? v5.drew ⟨bb, oo + 98, none⟩ = some (.int .u8 n98) ∧ World.cell? v5.drew ⟨bb, oo + 99, none⟩ = some (.int .u8 n99) ∧ World.cell? v5.drew ⟨bb, oo + 100, none⟩ = some (.int .u8 n100) ∧ World.cell? v5.drew ⟨bb, oo + 101, none⟩ = some (.int .u8 n101) ∧ World.cell? v5.drew ⟨bb, oo + 118, none⟩ = some (.int .u8 n118) from ⟨b97.out v5 hbv5.out, b98.out v5 hbv5.out, b99.out v5 hbv5.out, b100.out v5 hbv5.out, b101.out v5 hbv5.out, b118.out v5 hbv5.out⟩)
                obtain ⟨v6, hv6⟩ : ∃ W, World.setCell v5 ⟨G + 1 + 1, 23, none⟩ (.int .i64 n118) = W := ⟨_, rfl⟩
                have xv6 : World.cell? v5 ⟨G + 1 + 1, 23, none⟩ = some (.int .i64 0) := kv5.out.cell 23
                have yv6 : World.frozen? v5 ⟨G + 1 + 1, 23, none⟩ = false := kv5.out.free 23
                have kv6 := hide (show Blk v6 (G + 1 + 1) 29 #[.int .u64 (N8 : Int), .int .u64 (N16 : Int), .int .u64 (N24 : Int), .int .u64 (N32 : Int), .int .u64 (N40 : Int), .int .u64 (N48 : Int), .int .u64 (N56 : Int), .int .u64 (N64 : Int), .int .u64 (N72 : Int), .int .u64 (N80 : Int), .int .u64 (N88 : Int), .bool (n96 == 1), .int .i64 n97, .int .i64 n98, .int .i64 n99, .int .i64 n100, .int .i64 n101, .int .i64 0, .int .i64 0, .int .i64 0, .int .i64 0, .int .i64 0, .int .i64 0, .int .i64 n118] from by rw [← hv6]; exact kv5.out.set 23 _)
                have kGv6 := hide (show Blk v6 G 29 #[.int .u64 0, .int .u64 0, .int .u64 0, .int .u64 0, .int .u64 0, .int .u64 0, .int .u64 0, .int .u64 0, .int .u64 0, .int .u64 0, .int .u64 0, .bool false, .int .i64 0, .int .i64 0, .int .i64 0, .int .i64 0, .int .i64 0, .int .i64 0, .int .i64 0, .int .i64 0, .int .i64 0, .int .i64 0, .int .i64 0, .int .i64 0] from by rw [← hv6]; exact kGv5.out.far (by simp; omega) _)
                have hbv6 := hide (show Below G w v6 from by rw [← hv6]; exact hbv5.out.setCell (by simp; omega) _)
                have z6 := hide (show World.cell? v6.drew ⟨bb, oo + 97, none⟩ = some (.int .u8 n97) ∧ World.cell? v6.drew ⟨bb, oo + 98, none⟩ = some (.int .u8 n98) ∧ World.cell? v6.drew ⟨bb, oo + 99, none⟩ = some (.int .u8 n99) ∧ World.cell? v6.drew ⟨bb, oo + 100, none⟩ = some (.int .u8 n100) ∧ World.cell? v6.drew ⟨bb, oo + 101, none⟩ = some (.int .u8 n101) ∧ World.cell? v6.drew ⟨bb, oo + 118, none⟩ = some (.int .u8 n118) from ⟨b97.out v6 hbv6.out, b98.out v6 hbv6.out, b99.out v6 hbv6.out, b100.out v6 hbv6.out, b101.out v6 hbv6.out, b118.out v6 hbv6.out⟩)
                go_region_held3 (fun W => World.cell? W ⟨bb, oo + 97, none⟩ = some (.int .u8 n97) ∧ World.cell? W ⟨bb, oo + 98, none⟩ = some (.int .u8 n98) ∧ World.cell? W ⟨bb, oo + 99, none⟩ = some (.int .u8 n99) ∧ World.cell? W ⟨bb, oo + 100, none⟩ = some (.int .u8 n100) ∧ World.cell? W ⟨bb, oo + 101, none⟩ = some (.int .u8 n101) ∧ World.cell? W ⟨bb, oo + 118, none⟩ = some (.int .u8 n118)) (first | (with_reducible exact z0.out) | (with_reducible exact z1.out) | (with_reducible exact z2.out) | (with_reducible exact z3.out) | (with_reducible exact z4.out) | (with_reducible exact z5.out) | (with_reducible exact z6.out)) (first | fail)
                clear z0 z1 z2 z3 z4 z5 z6 xv1 yv1 hv1 xv2 yv2 hv2 xv3 yv3 hv3 xv4 yv4 hv4 xv5 yv5 hv5 xv6 yv6 hv6
                obtain ⟨v7, hv7⟩ : ∃ W, v6.drew = W := ⟨_, rfl⟩
                rw [hv7]
                have kv7 := hide (kv6.out.drew)
                have kGv7 := hide (kGv6.out.drew)
                have hbv7 := hide (hbv6.out.drew)
                rw [hv7] at kv7 kGv7 hbv7
                clear hv7 kv1 kGv1 hbv1 kv2 kGv2 hbv2 kv3 kGv3 hbv3 kv4 kGv4 hbv4 kv5 kGv5 hbv5 kv6 kGv6 hbv6 k6 kG6 hb6
                obtain ⟨u1, hu1⟩ : ∃ W, World.setCell v7 ⟨G + 1 + 1, 17, none⟩ (.int .i64 n102) = W := ⟨_, rfl⟩
                have xu1 : World.cell? v7 ⟨G + 1 + 1, 17, none⟩ = some (.int .i64 0) := kv7.out.cell 17
                have yu1 : World.frozen? v7 ⟨G + 1 + 1, 17, none⟩ = false := kv7.out.free 17
                have ku1 := hide (show Blk u1 (G + 1 + 1) 29 #[.int .u64 (N8 : Int), .int .u64 (N16 : Int), .int .u64 (N24 : Int), .int .u64 (N32 : Int), .int .u64 (N40 : Int), .int .u64 (N48 : Int), .int .u64 (N56 : Int), .int .u64 (N64 : Int), .int .u64 (N72 : Int), .int .u64 (N80 : Int), .int .u64 (N88 : Int), .bool (n96 == 1), .int .i64 n97, .int .i64 n98, .int .i64 n99, .int .i64 n100, .int .i64 n101, .int .i64 n102, .int .i64 0, .int .i64 0, .int .i64 0, .int .i64 0, .int .i64 0, .int .i64 n118] from by rw [← hu1]; exact kv7.out.set 17 _)
                have kGu1 := hide (show Blk u1 G 29 #[.int .u64 0, .int .u64 0, .int .u64 0, .int .u64 0, .int .u64 0, .int .u64 0, .int .u64 0, .int .u64 0, .int .u64 0, .int .u64 0, .int .u64 0, .bool false, .int .i64 0, .int .i64 0, .int .i64 0, .int .i64 0, .int .i64 0, .int .i64 0, .int .i64 0, .int .i64 0, .int .i64 0, .int .i64 0, .int .i64 0, .int .i64 0] from by rw [← hu1]; exact kGv7.out.far (by simp; omega) _)
                have hbu1 := hide (show Below G w u1 from by rw [← hu1]; exact hbv7.out.setCell (by simp; omega) _)
                obtain ⟨u2, hu2⟩ : ∃ W, World.setCell u1 ⟨G + 1 + 1, 18, none⟩ (.int .i64 n106) = W := ⟨_, rfl⟩
                have xu2 : World.cell? u1 ⟨G + 1 + 1, 18, none⟩ = some (.int .i64 0) := ku1.out.cell 18
                have yu2 : World.frozen? u1 ⟨G + 1 + 1, 18, none⟩ = false := ku1.out.free 18
                have ku2 := hide (show Blk u2 (G + 1 + 1) 29 #[.int .u64 (N8 : Int), .int .u64 (N16 : Int), .int .u64 (N24 : Int), .int .u64 (N32 : Int), .int .u64 (N40 : Int), .int .u64 (N48 : Int), .int .u64 (N56 : Int), .int .u64 (N64 : Int), .int .u64 (N72 : Int), .int .u64 (N80 : Int), .int .u64 (N88 : Int), .bool (n96 == 1), .int .i64 n97, .int .i64 n98, .int .i64 n99, .int .i64 n100, .int .i64 n101, .int .i64 n102, .int .i64 n106, .int .i64 0, .int .i64 0, .int .i64 0, .int .i64 0, .int .i64 n118] from by rw [← hu2]; exact ku1.out.set 18 _)
                have kGu2 := hide (show Blk u2 G 29 #[.int .u64 0, .int .u64 0, .int .u64 0, .int .u64 0, .int .u64 0, .int .u64 0, .int .u64 0, .int .u64 0, .int .u64 0, .int .u64 0, .int .u64 0, .bool false, .int .i64 0, .int .i64 0, .int .i64 0, .int .i64 0, .int .i64 0, .int .i64 0, .int .i64 0, .int .i64 0, .int .i64 0, .int .i64 0, .int .i64 0, .int .i64 0] from by rw [← hu2]; exact kGu1.out.far (by simp; omega) _)
                have hbu2 := hide (show Below G w u2 from by rw [← hu2]; exact hbu1.out.setCell (by simp; omega) _)
                obtain ⟨u3, hu3⟩ : ∃ W, World.setCell u2 ⟨G + 1 + 1, 19, none⟩ (.int .i64 n110) = W := ⟨_, rfl⟩
                have xu3 : World.cell? u2 ⟨G + 1 + 1, 19, none⟩ = some (.int .i64 0) := ku2.out.cell 19
                have yu3 : World.frozen? u2 ⟨G + 1 + 1, 19, none⟩ = false := ku2.out.free 19
                have ku3 := hide (show Blk u3 (G + 1 + 1) 29 #[.int .u64 (N8 : Int), .int .u64 (N16 : Int), .int .u64 (N24 : Int), .int .u64 (N32 : Int), .int .u64 (N40 : Int), .int .u64 (N48 : Int), .int .u64 (N56 : Int), .int .u64 (N64 : Int), .int .u64 (N72 : Int), .int .u64 (N80 : Int), .int .u64 (N88 : Int), .bool (n96 == 1), .int .i64 n97, .int .i64 n98, .int .i64 n99, .int .i64 n100, .int .i64 n101, .int .i64 n102, .int .i64 n106, .int .i64 n110, .int .i64 0, .int .i64 0, .int .i64 0, .int .i64 n118] from by rw [← hu3]; exact ku2.out.set 19 _)
                have kGu3 := hide (show Blk u3 G 29 #[.int .u64 0, .int .u64 0, .int .u64 0, .int .u64 0, .int .u64 0, .int .u64 0, .int .u64 0, .int .u64 0, .int .u64 0, .int .u64 0, .int .u64 0, .bool false, .int .i64 0, .int .i64 0, .int .i64 0, .int .i64 0, .int .i64 0, .int .i64 0, .int .i64 0, .int .i64 0, .int .i64 0, .int .i64 0, .int .i64 0, .int .i64 0] from by rw [← hu3]; exact kGu2.out.far (by simp; omega) _)
                have hbu3 := hide (show Below G w u3 from by rw [← hu3]; exact hbu2.out.setCell (by simp; omega) _)
                obtain ⟨u4, hu4⟩ : ∃ W, World.setCell u3 ⟨G + 1 + 1, 20, none⟩ (.int .i64 n114) = W := ⟨_, rfl⟩
                have xu4 : World.cell? u3 ⟨G + 1 + 1, 20, none⟩ = some (.int .i64 0) := ku3.out.cell 20
                have yu4 : World.frozen? u3 ⟨G + 1 + 1, 20, none⟩ = false := ku3.out.free 20
                have ku4 := hide (show Blk u4 (G + 1 + 1) 29 #[.int .u64 (N8 : Int), .int .u64 (N16 : Int), .int .u64 (N24 : Int), .int .u64 (N32 : Int), .int .u64 (N40 : Int), .int .u64 (N48 : Int), .int .u64 (N56 : Int), .int .u64 (N64 : Int), .int .u64 (N72 : Int), .int .u64 (N80 : Int), .int .u64 (N88 : Int), .bool (n96 == 1), .int .i64 n97, .int .i64 n98, .int .i64 n99, .int .i64 n100, .int .i64 n101, .int .i64 n102, .int .i64 n106, .int .i64 n110, .int .i64 n114, .int .i64 0, .int .i64 0, .int .i64 n118] from by rw [← hu4]; exact ku3.out.set 20 _)
                have kGu4 := hide (show Blk u4 G 29 #[.int .u64 0, .int .u64 0, .int .u64 0, .int .u64 0, .int .u64 0, .int .u64 0, .int .u64 0, .int .u64 0, .int .u64 0, .int .u64 0, .int .u64 0, .bool false, .int .i64 0, .int .i64 0, .int .i64 0, .int .i64 0, .int .i64 0, .int .i64 0, .int .i64 0, .int .i64 0, .int .i64 0, .int .i64 0, .int .i64 0, .int .i64 0] from by rw [← hu4]; exact kGu3.out.far (by simp; omega) _)
                have hbu4 := hide (show Below G w u4 from by rw [← hu4]; exact hbu3.out.setCell (by simp; omega) _)
                obtain ⟨u5, hu5⟩ : ∃ W, World.setCell u4 ⟨G + 1 + 1, 21, none⟩ (.int .i64 n119) = W := ⟨_, rfl⟩
                have xu5 : World.cell? u4 ⟨G + 1 + 1, 21, none⟩ = some (.int .i64 0) := ku4.out.cell 21
                have yu5 : World.frozen? u4 ⟨G + 1 + 1, 21, none⟩ = false := ku4.out.free 21
                have ku5 := hide (show Blk u5 (G + 1 + 1) 29 #[.int .u64 (N8 : Int), .int .u64 (N16 : Int), .int .u64 (N24 : Int), .int .u64 (N32 : Int), .int .u64 (N40 : Int), .int .u64 (N48 : Int), .int .u64 (N56 : Int), .int .u64 (N64 : Int), .int .u64 (N72 : Int), .int .u64 (N80 : Int), .int .u64 (N88 : Int), .bool (n96 == 1), .int .i64 n97, .int .i64 n98, .int .i64 n99, .int .i64 n100, .int .i64 n101, .int .i64 n102, .int .i64 n106, .int .i64 n110, .int .i64 n114, .int .i64 n119, .int .i64 0, .int .i64 n118] from by rw [← hu5]; exact ku4.out.set 21 _)
                have kGu5 := hide (show Blk u5 G 29 #[.int .u64 0, .int .u64 0, .int .u64 0, .int .u64 0, .int .u64 0, .int .u64 0, .int .u64 0, .int .u64 0, .int .u64 0, .int .u64 0, .int .u64 0, .bool false, .int .i64 0, .int .i64 0, .int .i64 0, .int .i64 0, .int .i64 0, .int .i64 0, .int .i64 0, .int .i64 0, .int .i64 0, .int .i64 0, .int .i64 0, .int .i64 0] from by rw [← hu5]; exact kGu4.out.far (by simp; omega) _)
                have hbu5 := hide (show Below G w u5 from by rw [← hu5]; exact hbu4.out.setCell (by simp; omega) _)
                obtain ⟨u6, hu6⟩ : ∃ W, World.setCell u5 ⟨G + 1 + 1, 22, none⟩ (.int .i64 n123) = W := ⟨_, rfl⟩
                have xu6 : World.cell? u5 ⟨G + 1 + 1, 22, none⟩ = some (.int .i64 0) := ku5.out.cell 22
                have yu6 : World.frozen? u5 ⟨G + 1 + 1, 22, none⟩ = false := ku5.out.free 22
                have ku6 := hide (show Blk u6 (G + 1 + 1) 29 #[.int .u64 (N8 : Int), .int .u64 (N16 : Int), .int .u64 (N24 : Int), .int .u64 (N32 : Int), .int .u64 (N40 : Int), .int .u64 (N48 : Int), .int .u64 (N56 : Int), .int .u64 (N64 : Int), .int .u64 (N72 : Int), .int .u64 (N80 : Int), .int .u64 (N88 : Int), .bool (n96 == 1), .int .i64 n97, .int .i64 n98, .int .i64 n99, .int .i64 n100, .int .i64 n101, .int .i64 n102, .int .i64 n106, .int .i64 n110, .int .i64 n114, .int .i64 n119, .int .i64 n123, .int .i64 n118] from by rw [← hu6]; exact ku5.out.set 22 _)
                have kGu6 := hide (show Blk u6 G 29 #[.int .u64 0, .int .u64 0, .int .u64 0, .int .u64 0, .int .u64 0, .int .u64 0, .int .u64 0, .int .u64 0, .int .u64 0, .int .u64 0, .int .u64 0, .bool false, .int .i64 0, .int .i64 0, .int .i64 0, .int .i64 0, .int .i64 0, .int .i64 0, .int .i64 0, .int .i64 0, .int .i64 0, .int .i64 0, .int .i64 0, .int .i64 0] from by rw [← hu6]; exact kGu5.out.far (by simp; omega) _)
                have hbu6 := hide (show Below G w u6 from by rw [← hu6]; exact hbu5.out.setCell (by simp; omega) _)
                go_upto_region 15 with (first
                  | (go_at_call 29; (with_reducible refine (g102.out _ hbv7.out).mono ?_); rintro e w' ⟨rfl, rfl⟩)
                  | (go_at_call 29; (with_reducible refine (g106.out _ hbv7.out).mono ?_); rintro e w' ⟨rfl, rfl⟩)
                  | (go_at_call 29; (with_reducible refine (g110.out _ hbv7.out).mono ?_); rintro e w' ⟨rfl, rfl⟩)
                  | (go_at_call 29; (with_reducible refine (g114.out _ hbv7.out).mono ?_); rintro e w' ⟨rfl, rfl⟩)
                  | (go_at_call 29; (with_reducible refine (g119.out _ hbv7.out).mono ?_); rintro e w' ⟨rfl, rfl⟩)
                  | (go_at_call 29; (with_reducible refine (g123.out _ hbv7.out).mono ?_); rintro e w' ⟨rfl, rfl⟩))
                have kU := hide (show Blk u6 (G + 1 + 1) 29 (headOf bs).cells from by rw [← hcs.out]; exact ku6.out)
                clear xu1 yu1 hu1 xu2 yu2 hu2 xu3 yu3 hu3 xu4 yu4 hu4 xu5 yu5 hu5 xu6 yu6 hu6 ku1 ku2 ku3 ku4 ku5 ku6 kGu1 hbu1 kGu2 hbu2 kGu3 hbu3 kGu4 hbu4 kGu5 hbu5 kv7 kGv7 hbv7 hcs g102 g106 g110 g114 g119 g123
                by_cases hr0 : r = 0
                · subst hr0
                  have hv := hide (show V.1.cells = (headOf bs).cells ∧ V.2 = 0 from by rw [← hV.out, if_pos rfl]; exact ⟨rfl, rfl⟩)
                  clear hV
                  generalize (headOf bs).cells = cs at *
                  go_wp2_with (first
                    | (with_reducible refine wpList_load_row (o := ⟨some 123, .load 29 (.tmp 6), _, _, _, _⟩) rfl 29 (.tmp 6) rfl (G + 1 + 1) rfl 29 cs (0, 0) _ kU.out.eq Try.underlying29 rfl hinfo.out ?_)
                    | (go_at_call 14; (with_reducible refine (hq.out u6).mono ?_); rintro e w8 ⟨rfl, hbqw8⟩; have krw8 := hide (kU.out.below hbqw8 kU.out.lt); have kgw8 := hide (kGu6.out.below hbqw8 kGu6.out.lt); have hbw8 := hide (hbu6.out.trans (hbqw8.mono (by have := kGu6.out.lt; omega))); clear hbqw8; obtain ⟨fw8, hfw8⟩ : ∃ W, World.setRow w8 G cs = W := ⟨_, rfl⟩; have kfw8 := hide (show Blk fw8 G 29 cs from by rw [← hfw8]; exact kgw8.out.row _); have bfw8 := hide (show Below G w fw8 from by rw [← hfw8]; exact below_row hbw8.out (Nat.le_refl _) _))
                    | (with_reducible refine wpList_load_row (o := ⟨some 133, .load 29 (.tmp 6), _, _, _, _⟩) rfl 29 (.tmp 6) rfl (G + 1 + 1) rfl 29 cs (0, 0) _ krw8.out.eq Try.underlying29 rfl hinfo.out ?_)
                    | ((with_reducible refine wpList_store_row (o := ⟨none, .store 29 (.tmp 2) (.tmp 133), _, _, _, _⟩) rfl 29 (.tmp 2) (.tmp 133) rfl G cs rfl rfl 29 _ kgw8.out.eq hinfo.out hsz.out hone.out ?_); rw [hfw8]))
                  exact bodyPost_ret_by (results_hd rfl _ _ G 29 cs (0, 0) _ rfl kfw8.out.eq Try.underlying29 rfl hinfo.out) rfl ⟨by rw [hv.out.1, hv.out.2]; rfl, bfw8.out⟩
                · have hv := hide (show V.1.cells = #[.int .u64 0, .int .u64 0, .int .u64 0, .int .u64 0, .int .u64 0, .int .u64 0, .int .u64 0, .int .u64 0, .int .u64 0, .int .u64 0, .int .u64 0, .bool false, .int .i64 0, .int .i64 0, .int .i64 0, .int .i64 0, .int .i64 0, .int .i64 0, .int .i64 0, .int .i64 0, .int .i64 0, .int .i64 0, .int .i64 0, .int .i64 0] ∧ V.2 = r from by rw [← hV.out, if_neg hr0]; exact ⟨rfl, rfl⟩)
                  clear hV
                  generalize (headOf bs).cells = cs at *
                  go_wp2_with (first
                    | (with_reducible refine wpList_load_row (o := ⟨some 123, .load 29 (.tmp 6), _, _, _, _⟩) rfl 29 (.tmp 6) rfl (G + 1 + 1) rfl 29 cs (0, 0) _ kU.out.eq Try.underlying29 rfl hinfo.out ?_)
                    | (go_at_call 14; (with_reducible refine (hq.out u6).mono ?_); rintro e w8 ⟨rfl, hbqw8⟩; have krw8 := hide (kU.out.below hbqw8 kU.out.lt); have kgw8 := hide (kGu6.out.below hbqw8 kGu6.out.lt); have hbw8 := hide (hbu6.out.trans (hbqw8.mono (by have := kGu6.out.lt; omega))); clear hbqw8; obtain ⟨fw8, hfw8⟩ : ∃ W, World.setRow w8 G #[.int .u64 0, .int .u64 0, .int .u64 0, .int .u64 0, .int .u64 0, .int .u64 0, .int .u64 0, .int .u64 0, .int .u64 0, .int .u64 0, .int .u64 0, .bool false, .int .i64 0, .int .i64 0, .int .i64 0, .int .i64 0, .int .i64 0, .int .i64 0, .int .i64 0, .int .i64 0, .int .i64 0, .int .i64 0, .int .i64 0, .int .i64 0] = W := ⟨_, rfl⟩; have kfw8 := hide (show Blk fw8 G 29 #[.int .u64 0, .int .u64 0, .int .u64 0, .int .u64 0, .int .u64 0, .int .u64 0, .int .u64 0, .int .u64 0, .int .u64 0, .int .u64 0, .int .u64 0, .bool false, .int .i64 0, .int .i64 0, .int .i64 0, .int .i64 0, .int .i64 0, .int .i64 0, .int .i64 0, .int .i64 0, .int .i64 0, .int .i64 0, .int .i64 0, .int .i64 0] from by rw [← hfw8]; exact kgw8.out.row _); have bfw8 := hide (show Below G w fw8 from by rw [← hfw8]; exact below_row hbw8.out (Nat.le_refl _) _))
                    | (with_reducible refine wpList_load_row (o := ⟨some 129, .load 29 (.tmp 6), _, _, _, _⟩) rfl 29 (.tmp 6) rfl (G + 1 + 1) rfl 29 cs (0, 0) _ krw8.out.eq Try.underlying29 rfl hinfo.out ?_)
                    | (go_at_call 14; (with_reducible refine (hq.out w8).mono ?_); rintro e w9 ⟨rfl, hbqw9⟩; have krw9 := hide (krw8.out.below hbqw9 krw8.out.lt); have kgw9 := hide (kgw8.out.below hbqw9 kgw8.out.lt); have hbw9 := hide (hbw8.out.trans (hbqw9.mono (by have := kgw8.out.lt; omega))); clear hbqw9; obtain ⟨fw9, hfw9⟩ : ∃ W, World.setRow w9 G #[.int .u64 0, .int .u64 0, .int .u64 0, .int .u64 0, .int .u64 0, .int .u64 0, .int .u64 0, .int .u64 0, .int .u64 0, .int .u64 0, .int .u64 0, .bool false, .int .i64 0, .int .i64 0, .int .i64 0, .int .i64 0, .int .i64 0, .int .i64 0, .int .i64 0, .int .i64 0, .int .i64 0, .int .i64 0, .int .i64 0, .int .i64 0] = W := ⟨_, rfl⟩; have kfw9 := hide (show Blk fw9 G 29 #[.int .u64 0, .int .u64 0, .int .u64 0, .int .u64 0, .int .u64 0, .int .u64 0, .int .u64 0, .int .u64 0, .int .u64 0, .int .u64 0, .int .u64 0, .bool false, .int .i64 0, .int .i64 0, .int .i64 0, .int .i64 0, .int .i64 0, .int .i64 0, .int .i64 0, .int .i64 0, .int .i64 0, .int .i64 0, .int .i64 0, .int .i64 0] from by rw [← hfw9]; exact kgw9.out.row _); have bfw9 := hide (show Below G w fw9 from by rw [← hfw9]; exact below_row hbw9.out (Nat.le_refl _) _))
                    | ((with_reducible refine wpList_store_row (o := ⟨none, .store 29 (.tmp 2) (.tmp 128), _, _, _, _⟩) rfl 29 (.tmp 2) (.tmp 128) rfl G #[.int .u64 0, .int .u64 0, .int .u64 0, .int .u64 0, .int .u64 0, .int .u64 0, .int .u64 0, .int .u64 0, .int .u64 0, .int .u64 0, .int .u64 0, .bool false, .int .i64 0, .int .i64 0, .int .i64 0, .int .i64 0, .int .i64 0, .int .i64 0, .int .i64 0, .int .i64 0, .int .i64 0, .int .i64 0, .int .i64 0, .int .i64 0] rfl rfl 29 _ kgw9.out.eq z24info rfl z24one ?_); rw [hfw9]))
                  exact bodyPost_ret_by (results_hd rfl _ _ G 29 #[.int .u64 0, .int .u64 0, .int .u64 0, .int .u64 0, .int .u64 0, .int .u64 0, .int .u64 0, .int .u64 0, .int .u64 0, .int .u64 0, .int .u64 0, .bool false, .int .i64 0, .int .i64 0, .int .i64 0, .int .i64 0, .int .i64 0, .int .i64 0, .int .i64 0, .int .i64 0, .int .i64 0, .int .i64 0, .int .i64 0, .int .i64 0] (0, 0) _ rfl kfw9.out.eq Try.underlying29 rfl info24) rfl ⟨by rw [hv.out.1, hv.out.2]; rfl, bfw9.out⟩
          · have hm2I : 1 < byt bs 96 := by omega
            rw [if_neg (fun h => hm2 h.2)]
            simp only
            rw [hzc.out]
            generalize bs.length = L at *
            generalize byt bs 96 = n96 at *
            rw [hm3] at c7
            clear hR hcap hmax hlong hshort hr1 hr hB hB1 hmaxI hS8 hm1 hm2 hm3 hsp hcell hbb
            go_enter Try.func9, Try.ntmps9
            go_wp2_with (with_reducible refine wpList_store_row (o := ⟨none, .store 29 (.tmp 2) (.tmp 31), _, _, _, _⟩) rfl 29 (.tmp 2) (.tmp 31) rfl G #[.int .u64 0, .int .u64 0, .int .u64 0, .int .u64 0, .int .u64 0, .int .u64 0, .int .u64 0, .int .u64 0, .int .u64 0, .int .u64 0, .int .u64 0, .bool false, .int .i64 0, .int .i64 0, .int .i64 0, .int .i64 0, .int .i64 0, .int .i64 0, .int .i64 0, .int .i64 0, .int .i64 0, .int .i64 0, .int .i64 0, .int .i64 0] rfl rfl 29 _ hk1.out.eq z24info rfl z24one ?_)
            exact bodyPost_ret_by (results_hd rfl _ _ G 29 #[.int .u64 0, .int .u64 0, .int .u64 0, .int .u64 0, .int .u64 0, .int .u64 0, .int .u64 0, .int .u64 0, .int .u64 0, .int .u64 0, .int .u64 0, .bool false, .int .i64 0, .int .i64 0, .int .i64 0, .int .i64 0, .int .i64 0, .int .i64 0, .int .i64 0, .int .i64 0, .int .i64 0, .int .i64 0, .int .i64 0, .int .i64 0] (0, 0) _ rfl hkz.out.eq Try.underlying29 rfl info24) rfl ⟨rfl, hbz.out⟩
        · have hm3I : (byt bs 7 != 3) = true := by simp [hm3]
          rw [if_neg (fun h => hm3 (hsp.1 h.1).2)]
          simp only
          rw [hzc.out]
          generalize bs.length = L at *
          generalize byt bs 96 = n96 at *
          generalize byt bs 7 = n7 at *
          clear hR hcap hmax hlong hshort hr1 hr hB hB1 hmaxI hS8 hm1 hsp hcell hbb
          go_enter Try.func9, Try.ntmps9
          go_wp2_with (with_reducible refine wpList_store_row (o := ⟨none, .store 29 (.tmp 2) (.tmp 31), _, _, _, _⟩) rfl 29 (.tmp 2) (.tmp 31) rfl G #[.int .u64 0, .int .u64 0, .int .u64 0, .int .u64 0, .int .u64 0, .int .u64 0, .int .u64 0, .int .u64 0, .int .u64 0, .int .u64 0, .int .u64 0, .bool false, .int .i64 0, .int .i64 0, .int .i64 0, .int .i64 0, .int .i64 0, .int .i64 0, .int .i64 0, .int .i64 0, .int .i64 0, .int .i64 0, .int .i64 0, .int .i64 0] rfl rfl 29 _ hk1.out.eq z24info rfl z24one ?_)
          exact bodyPost_ret_by (results_hd rfl _ _ G 29 #[.int .u64 0, .int .u64 0, .int .u64 0, .int .u64 0, .int .u64 0, .int .u64 0, .int .u64 0, .int .u64 0, .int .u64 0, .int .u64 0, .int .u64 0, .bool false, .int .i64 0, .int .i64 0, .int .i64 0, .int .i64 0, .int .i64 0, .int .i64 0, .int .i64 0, .int .i64 0, .int .i64 0, .int .i64 0, .int .i64 0, .int .i64 0] (0, 0) _ rfl hkz.out.eq Try.underlying29 rfl info24) rfl ⟨rfl, hbz.out⟩
      · have hS : (S8.toList == [80, 77, 84, 105, 108, 101, 115]) = false := by
          rw [beq_eq_false_iff_ne]
          intro h
          rw [← hS8, toList_data] at h
          exact hm1 h
        rw [if_neg (fun h => hm1 (hsp.1 h.1).1)]
        simp only
        rw [hzc.out]
        generalize bs.length = L at *
        generalize byt bs 96 = n96 at *
        generalize byt bs 7 = n7 at *
        clear hR hcap hmax hlong hshort hr1 hr hB hB1 hmaxI hS8 hm1 hsp hcell hbb
        go_enter Try.func9, Try.ntmps9
        go_wp2_with (with_reducible refine wpList_store_row (o := ⟨none, .store 29 (.tmp 2) (.tmp 31), _, _, _, _⟩) rfl 29 (.tmp 2) (.tmp 31) rfl G #[.int .u64 0, .int .u64 0, .int .u64 0, .int .u64 0, .int .u64 0, .int .u64 0, .int .u64 0, .int .u64 0, .int .u64 0, .int .u64 0, .int .u64 0, .bool false, .int .i64 0, .int .i64 0, .int .i64 0, .int .i64 0, .int .i64 0, .int .i64 0, .int .i64 0, .int .i64 0, .int .i64 0, .int .i64 0, .int .i64 0, .int .i64 0] rfl rfl 29 _ hk1.out.eq z24info rfl z24one ?_)
        exact bodyPost_ret_by (results_hd rfl _ _ G 29 #[.int .u64 0, .int .u64 0, .int .u64 0, .int .u64 0, .int .u64 0, .int .u64 0, .int .u64 0, .int .u64 0, .int .u64 0, .int .u64 0, .int .u64 0, .bool false, .int .i64 0, .int .i64 0, .int .i64 0, .int .i64 0, .int .i64 0, .int .i64 0, .int .i64 0, .int .i64 0, .int .i64 0, .int .i64 0, .int .i64 0, .int .i64 0] (0, 0) _ rfl hkz.out.eq Try.underlying29 rfl info24) rfl ⟨rfl, hbz.out⟩

end Go.Proofs.Ytmpdoileiniijaa
