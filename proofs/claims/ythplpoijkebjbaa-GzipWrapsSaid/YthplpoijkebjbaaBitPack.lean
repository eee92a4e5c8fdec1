/- The walk of layer 1's reference 'Bytes': the bytes of a list of truths. There is no condition. -/
import Derived.Test.YthplpoijkebjbaaBitRef
namespace Go.Proofs.Ythplpoijkebjbaa
open Go.RowKit

/-- One bit more, once there is a byte for it. -/
theorem Bit.pack_step (l : List Bool) (k : Nat) (h : k < l.length) : ∃ (ys : List UInt8) (m q : Nat), ys = (if k % 8 = 0 then Bit.pack (l.take k) ++ [0] else Bit.pack (l.take k)) ∧
    ys.length = m + 1 ∧ Bit.size (k + 1) = m + 1 ∧ (k % 8 = 0 → Bit.size k = m) ∧ (k % 8 ≠ 0 → Bit.size k = m + 1) ∧ ys[m]? = some (UInt8.ofNat q) ∧ q < 256 ∧ q + 2 ^ (k % 8) < 256 + 1 ∧
    Bit.pack (l.take (k + 1)) = ys.set m (UInt8.ofNat (q + 2 ^ (k % 8) * l[k].toNat)) := by
  have hs := take_snoc l k h
  have hk : (l.take k).length = k := by rw [List.length_take]; omega
  have hpl := Bit.pack_length (l.take k)
  have h2 : 2 ^ (k % 8 + 1) ≤ 2 ^ 8 := Nat.pow_le_pow_right (by omega) (by omega)
  rw [Nat.pow_succ] at h2
  rw [hk] at hpl
  by_cases h8 : k % 8 = 0
  · refine ⟨_, Bit.size k, 0, rfl, ?_, ?_, fun _ => rfl, fun h => absurd h8 h, ?_, by omega, by omega, ?_⟩
    · rw [if_pos h8, List.length_append, hpl]; rfl
    · rw [Bit.size_succ, if_pos h8]
    · rw [if_pos h8, List.getElem?_append_right (by rw [hpl]; exact Nat.le_refl _)]
      simp [hpl]
    · rw [hs, Bit.pack_new _ _ (by rw [hk]; exact h8), if_pos h8, List.set_append_right _ _ (by rw [hpl]; exact Nat.le_refl _), hpl, Nat.sub_self, h8]
      simp
  · have hp : 0 < Bit.size k := by unfold Bit.size; omega
    have hlt := last_lt (l.take k) (by rw [hk]; exact h8)
    rw [hk] at hlt
    refine ⟨_, Bit.size k - 1, (Bit.byte (l.take k) (Bit.size k - 1)).toNat, rfl, ?_, ?_, fun h => absurd h h8, fun _ => by omega, ?_, by omega, by omega, ?_⟩
    · rw [if_neg h8, hpl]; omega
    · rw [Bit.size_succ, if_neg h8]; omega
    · rw [if_neg h8, List.getElem?_eq_getElem (by rw [hpl]; omega)]
      simp [Bit.pack]
    · rw [hs, if_neg h8, Bit.pack_more _ _ (by rw [hk]; exact h8), hk]

theorem Bit.set_same (ys : List UInt8) (m : Nat) (x : UInt8) (h : ys[m]? = some x) : ys.set m x = ys := by
  obtain ⟨hl, rfl⟩ := List.getElem?_eq_some_iff.1 h
  exact List.set_getElem_self hl

set_option maxHeartbeats 1000000 in
theorem refbytes_any (A : Option Addr) (n c : Nat) (l : List Bool) (w : World) (B : Nat) (hr : Rd w B A n (l.map Value.bool)) (hB : B ≤ w.heap.size) (hn : n ≤ 1048576) :
    Calls Try.prog 51 #[.slice A n c] w (Cloned w (Bit.size n) (Bit.pack l)) := by
  have hl : l.length = n := hr.len
  have hr := hide (hr.mono hB)
  go_enter Try.func51, Try.ntmps51
  go_wp2
  go_loopw [3, 4] (fun s i wr => ∃ k : Nat, ∃ A2 c2, k ≤ n ∧ i = .int .i64 k ∧ s = .slice A2 (Bit.size k) c2 ∧ Hid (Ow wr w.heap.size 5 A2 (Bit.size k) c2 ((Bit.pack (l.take k)).map bv)) ∧ Hid (Below w.heap.size w wr)) (fun _ i _ => n - (intOf i).toNat)
  case atStart => exact ⟨0, none, 0, by omega, rfl, rfl, hide (by rw [List.take_zero, show Bit.pack [] = [] from by decide, show Bit.size 0 = 0 from by decide]; exact Ow.nil _ _ _), Below.refl _ _⟩
  case round =>
    obtain ⟨k, A2, c2, hk, rfl, rfl, ho, hb⟩ := hrel
    by_cases hlt : k < n
    · have hkl : k < l.length := by omega
      obtain ⟨b, o, rfl, hbB, e0⟩ := hr.out.bool (j := k) hlt
      obtain ⟨ys, m, q, hys, hyl, hsz, hs0, hs1, hq, hq8, hqr, hpk⟩ := Bit.pack_step l k hkl
      have hszk := Bit.size_le k
      have hsz := hide hsz
      generalize l[k] = tb at *
      have hm9 : m ≤ 1048576 := by by_cases h : k % 8 = 0 <;> simp_all <;> omega
      have hkI : (k : Int) < n := by omega
      have hpk := hide hpk
      have hyq := hide hq
      have hend := hide (fun (W : World) (ga c3 : Nat) (ho3 : Ow W w.heap.size 5 (some ⟨ga, 0, none⟩) (m + 1) c3 (ys.map bv)) (hb3 : Below w.heap.size w W) (x : Int) (hx : x = ((q + 2 ^ (k % 8) : Nat) : Int) % 256) (htb : tb = true) =>
        (show Ow (W.setCell ⟨ga, m, none⟩ (.int .u8 x)) w.heap.size 5 (some ⟨ga, 0, none⟩) (Bit.size (k + 1)) c3 ((Bit.pack (l.take (k + 1))).map bv) ∧ Below w.heap.size w (W.setCell ⟨ga, m, none⟩ (.int .u8 x)) from by
          refine ⟨?_, hb3.trans (((Chg.refl (fun i => i = ga) W).setCell (p := ⟨ga, m, none⟩) (.inr rfl) _).to_below hb3.size (by rintro i rfl; exact (ho3.blk_lt _ rfl).1))⟩
          have h1 := ho3.set m (.int .u8 x)
          rw [hsz.out, hpk.out, List.map_set, htb]
          have e : bv (UInt8.ofNat (q + 2 ^ (k % 8) * true.toNat)) = .int .u8 x := by
            rw [hx, bv, UInt8.toNat_ofNat']
            simp
          rw [e]
          exact h1))
      have hcell := hide (fun (W : World) (ga c3 : Nat) (ho3 : Ow W w.heap.size 5 (some ⟨ga, 0, none⟩) (m + 1) c3 (ys.map bv)) => (show W.cell? ⟨ga, m, none⟩ = some (.int .u8 (q : Int)) from by
        have h := ho3.cells (g := ga) rfl m (.int .u8 (q : Int)) (by rw [List.getElem?_map, hyq.out]; simp [bv]; omega)
        rwa [Addr.add_mid, Nat.zero_add] at h))
      have hsame : Hid (tb = false → Bit.pack (l.take (k + 1)) = ys) := by
        intro htb
        rw [hpk.out, htb]
        simp only [Bool.toNat_false, Nat.mul_zero, Nat.add_zero]
        exact Bit.set_same _ _ _ hyq.out
      by_cases h8 : k % 8 = 0
      · have h8b : ((k : Int) % 8 == 0) = true := by simp; omega
        have hs := hs0 h8
        rw [if_pos h8] at hys
        rw [hs] at ho ⊢
        clear hs
        clear hs0 hs1 hq hqr
        cases tb
        · go_wp2_with (at_builtin; refine wpList_append_one wr rfl (.tmp 16) (.tmp 17) rfl elem_byte rfl ho.out (.int .u8 0) 5 _ rfl rfl (by simp only [maxLen]; omega) (by omega) hb.out.size ?_; intro A3 c3 w3 ho3 hg3 hn3; have hb3 := hide (hb.out.trans (hg3.to_below (B := w.heap.size) hb.out.size (fun i hi => (ho.out.blk_lt i hi).1))); have ho3 := hide ho3; have e1 := (hb3.out.cell (p := ⟨_, _, none⟩) hbB).trans e0; clear hg3 hn3)
          go_roundw
          case rel => exact ⟨k + 1, A3, c3, by omega, by go_num, by rw [hsz.out], (by rw [hsz.out, hsame.out rfl, hys, List.map_append]; exact ho3), hb3⟩
          case measure => simp [intOf] <;> omega
        · go_wp2_with (at_builtin; refine wpList_append_one wr rfl (.tmp 16) (.tmp 17) rfl elem_byte rfl ho.out (.int .u8 0) 5 _ rfl rfl (by simp only [maxLen]; omega) (by omega) hb.out.size ?_; intro A3 c3 w3 ho3 hg3 hn3; have hb3 := hide (hb.out.trans (hg3.to_below (B := w.heap.size) hb.out.size (fun i hi => (ho.out.blk_lt i hi).1))); have ho3 := hide ho3; have e1 := (hb3.out.cell (p := ⟨_, _, none⟩) hbB).trans e0; clear hg3 hn3)
          obtain ⟨ga, rfl, _, _⟩ := ho3.out.pos (by omega)
          have ho3 : Hid (Ow w3 w.heap.size 5 (some ⟨ga, 0, none⟩) (m + 1) c3 (ys.map bv)) := by rw [hys, List.map_append]; exact ho3
          have e2 := hcell.out _ _ _ ho3.out
          have f2 := ho3.out.free m
          have hkm : (k : Int) % 8 = 0 := by omega
          have hfin := hide (fun (x : Int) hx => hend.out _ _ _ ho3.out hb3.out x hx (by first | rfl | trivial))
          go_wp2
          go_loop [5, 6] (fun s i => i = .int .i64 0 ∧ s = .int .i64 1) (fun _ _ => 0)
          case atStart => exact ⟨rfl, rfl⟩
          case round =>
            obtain ⟨rfl, rfl⟩ := hrel
            go_wp2
            go_roundw
            case rel => exact ⟨k + 1, _, c3, by omega, by go_num, by rw [hsz.out], (hfin.out _ (by rw [h8]; simp)).1, (hfin.out _ (by rw [h8]; simp)).2⟩
            case measure => simp [intOf] <;> omega
      · have h8b : ((k : Int) % 8 == 0) = false := by simp; omega
        have hs := hs1 h8
        rw [if_neg h8] at hys
        rw [hs] at ho ⊢
        clear hs
        clear hs0 hs1 hq
        obtain ⟨ga, rfl, _, _⟩ := ho.out.pos (by omega)
        have ho3 : Hid (Ow wr w.heap.size 5 (some ⟨ga, 0, none⟩) (m + 1) c2 (ys.map bv)) := by rw [hys]; exact ho
        have e1 := (hb.out.cell (p := ⟨_, _, none⟩) hbB).trans e0
        cases tb
        · go_wp2
          go_roundw
          case rel => exact ⟨k + 1, _, c2, by omega, by go_num, by rw [hsz.out], (by rw [hsz.out, hsame.out rfl]; exact ho3), hb⟩
          case measure => simp [intOf] <;> omega
        · have e2 := hcell.out _ _ _ ho3.out
          have f2 := ho3.out.free m
          have hfin := hide (fun (x : Int) hx => hend.out _ _ _ ho3.out hb.out x hx (by first | rfl | trivial))
          obtain ⟨r, hr'⟩ : ∃ r, k % 8 = r := ⟨_, rfl⟩
          have hkm : (k : Int) % 8 = r := by omega
          rw [hr'] at hfin hqr
          go_wp2
          go_loop [5, 6] (fun s i => ∃ j : Nat, j ≤ r ∧ i = .int .i64 j ∧ s = .int .i64 ((2 ^ j : Nat) : Int)) (fun _ i => r - (intOf i).toNat)
          case atStart => exact ⟨0, by omega, rfl, rfl⟩
          case round =>
            obtain ⟨j, hj, rfl, rfl⟩ := hrel
            have hp : 2 ^ (j + 1) = 2 * 2 ^ j := by rw [Nat.pow_succ, Nat.mul_comm]
            have hp2 : 2 ^ j ≤ 2 ^ r := Nat.pow_le_pow_right (by omega) hj
            have hp := hide hp
            by_cases hjr : j < r
            · generalize 2 ^ j = P at *
              go_wp2
              go_round
              case rel => exact ⟨j + 1, by omega, by go_num, by rw [hp.out]; go_num⟩
              case measure => simp [intOf] <;> omega
            · obtain rfl : j = r := by omega
              generalize 2 ^ j = P at *
              go_wp2
              go_roundw
              case rel => exact ⟨k + 1, _, c2, by omega, by go_num, by rw [hsz.out], (hfin.out _ (by first | rfl | go_num)).1, (hfin.out _ (by first | rfl | go_num)).2⟩
              case measure => simp [intOf] <;> omega
    · obtain rfl : k = n := by omega
      go_wp2
      go_ret
      have ho := ho.out
      rw [List.take_of_length_le (by omega)] at ho
      exact ⟨_, _, rfl, ho, hb.out⟩

end Go.Proofs.Ythplpoijkebjbaa
