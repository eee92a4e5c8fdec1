/- The walks of layer 3's reference: a number's digits, and each symbol's code as a text. There is no condition but where the slice lies. -/
import Derived.Test.YthplpoijkebjbaaHuffNew
namespace Go.Proofs.Ythplpoijkebjbaa
open Go.RowKit

def sv (bs : List UInt8) : Value := .string ⟨bs.toArray⟩

theorem str_cons0 (l : List UInt8) : (⟨#[48, 49]⟩ : ByteArray).extract 0 1 ++ ⟨l.toArray⟩ = ⟨((48 : UInt8) :: l).toArray⟩ := by
  have e : (⟨#[48, 49]⟩ : ByteArray).extract 0 1 = ⟨#[48]⟩ := by decide +kernel
  rw [e]
  apply ByteArray.ext
  simp [ByteArray.data_append]
theorem str_cons1 (l : List UInt8) : (⟨#[48, 49]⟩ : ByteArray).extract 1 2 ++ ⟨l.toArray⟩ = ⟨((49 : UInt8) :: l).toArray⟩ := by
  have e : (⟨#[48, 49]⟩ : ByteArray).extract 1 2 = ⟨#[49]⟩ := by decide +kernel
  rw [e]
  apply ByteArray.ext
  simp [ByteArray.data_append]

theorem digits_any (v n : Nat) (w : World) (hv : v < 65536) (hn : n ≤ 15) :
    Calls Try.prog 76 #[.int .i64 (v : Int), .int .i64 (n : Int)] w fun e w' => e = .returned (sv (Huf.dig v n)) ∧ w = w' := by
  go_enter Try.func76, Try.ntmps76
  go_wp2
  go_loop [0, 5, 6] (fun x s i => ∃ k q : Nat, k ≤ n ∧ i = .int .i64 k ∧ x = .int .i64 (q : Int) ∧ q < 65536 ∧ Hid (q = v / 2 ^ k) ∧ s = sv (Huf.dig v k)) (fun _ _ i => n - (intOf i).toNat)
  case atStart => exact ⟨0, v, by omega, rfl, rfl, hv, hide (by simp), rfl⟩
  case round =>
    obtain ⟨k, q, hk, rfl, rfl, hq, hqk, rfl⟩ := hrel
    by_cases hlt : k < n
    · have hkI : (k : Int) < n := by omega
      have hdiv : Hid (q / 2 = v / 2 ^ (k + 1)) := hide (by rw [hqk.out, Nat.div_div_eq_div_mul, ← Nat.pow_succ])
      have htb : v.testBit k = (q % 2 == 1) := by rw [hqk.out, Nat.testBit_eq_decide_div_mod_eq, Bool.beq_eq_decide_eq]
      have hs := Huf.dig_succ v k
      rw [htb] at hs
      clear htb
      have hlk := Huf.dig_length v k
      rcases Nat.mod_two_eq_zero_or_one q with h2 | h2
      · have h2I : (q : Int) % 2 = 0 := by omega
        rw [h2, if_neg (by decide)] at hs
        have hs := hide hs
        clear h2
        unfold sv
        go_wp2
        go_round
        case rel => exact ⟨k + 1, q / 2, by omega, by go_num, int_eq (by omega), by omega, hdiv, by rw [hs.out, str_cons0]⟩
        case measure => simp [intOf] <;> omega
      · have h2I : (q : Int) % 2 = 1 := by omega
        rw [h2, if_pos (by decide)] at hs
        have hs := hide hs
        clear h2
        unfold sv
        go_wp2
        go_round
        case rel => exact ⟨k + 1, q / 2, by omega, by go_num, int_eq (by omega), by omega, hdiv, by rw [hs.out, str_cons1]⟩
        case measure => simp [intOf] <;> omega
    · obtain rfl : k = n := by omega
      go_wp2
      go_ret
      exact ⟨rfl, rfl⟩

def Huf.txt (ls : List Nat) (t k i : Nat) : List UInt8 := if 1 ≤ ls.getD i 0 ∧ (ls.getD i 0 < t ∨ (ls.getD i 0 = t ∧ i < k)) then Huf.dig (Huf.code ls i (ls.getD i 0)) (ls.getD i 0) else []
theorem Huf.txt_one (ls : List Nat) : Huf.txt ls 1 0 = fun _ => [] := by
  funext i
  unfold Huf.txt
  rw [if_neg (by omega)]
theorem Huf.txt_next (ls : List Nat) (t : Nat) (ht : 1 ≤ t) : Huf.txt ls t ls.length = Huf.txt ls (t + 1) 0 := by
  funext i
  unfold Huf.txt
  congr 1
  apply propext
  constructor
  · rintro ⟨h1, h | ⟨h, _⟩⟩
    · exact ⟨h1, .inl (by omega)⟩
    · exact ⟨h1, .inl (by omega)⟩
  · rintro ⟨h1, h | ⟨_, h⟩⟩
    · refine ⟨h1, ?_⟩
      by_cases e : ls.getD i 0 = t
      · exact .inr ⟨e, (List.getElem?_eq_some_iff.1 (Huf.getD_some ls i t ht e)).1⟩
      · exact .inl (by omega)
    · omega
theorem Huf.txt_no (ls : List Nat) (t k : Nat) (h : ls.getD k 0 ≠ t) : Huf.txt ls t (k + 1) = Huf.txt ls t k := by
  funext i
  unfold Huf.txt
  congr 1
  apply propext
  constructor
  · rintro ⟨h1, h2 | ⟨h2, h3⟩⟩
    · exact ⟨h1, .inl h2⟩
    · refine ⟨h1, .inr ⟨h2, ?_⟩⟩
      by_cases e : i = k
      · subst e; exact absurd h2 h
      · omega
  · rintro ⟨h1, h2 | ⟨h2, h3⟩⟩
    · exact ⟨h1, .inl h2⟩
    · exact ⟨h1, .inr ⟨h2, by omega⟩⟩
theorem Huf.txt_yes (ls : List Nat) (t k : Nat) (ht : 1 ≤ t) (h : ls.getD k 0 = t) : upd (Huf.txt ls t k) k (Huf.dig (Huf.code ls k t) t) = Huf.txt ls t (k + 1) := by
  funext i
  by_cases e : i = k
  · subst e
    rw [upd_same]
    unfold Huf.txt
    rw [h, if_pos ⟨ht, .inr ⟨rfl, by omega⟩⟩]
  · rw [upd_ne _ _ e]
    unfold Huf.txt
    congr 1
    apply propext
    constructor
    · rintro ⟨h1, h2 | ⟨h2, h3⟩⟩
      · exact ⟨h1, .inl h2⟩
      · exact ⟨h1, .inr ⟨h2, by omega⟩⟩
    · rintro ⟨h1, h2 | ⟨h2, h3⟩⟩
      · exact ⟨h1, .inl h2⟩
      · exact ⟨h1, .inr ⟨h2, by omega⟩⟩
theorem map_upd {α : Type} (f : Nat → α) (g : α → Value) (n k : Nat) (v : α) : ((List.range n).map fun j => g (f j)).set k (g v) = (List.range n).map fun j => g (upd f k v j) := by
  apply List.ext_getElem
  · simp
  · intro j h2 h3
    rw [List.getElem_set]
    simp only [List.getElem_map, List.getElem_range]
    by_cases e : k = j
    · subst e; rw [if_pos rfl, upd_same]
    · rw [if_neg e, upd_ne _ _ (Ne.symm e)]

set_option maxRecDepth 100000 in
set_option maxHeartbeats 1000000 in
theorem refcodes_any (A : Option Addr) (n c : Nat) (ls : List Nat) (w : World) (B0 : Nat) (hr : Rd w B0 A n ((nz ls).map iv)) (hB0 : B0 ≤ w.heap.size) (hn : n ≤ 288) (h15 : ∀ x ∈ ls, x ≤ 15) (hsl : Huf.sum ls ≤ 32768) :
    Calls Try.prog 48 #[.slice A n c] w fun e w' => ∃ g, e = .returned (.slice (some ⟨g, 0, none⟩) n n) ∧ Ow w' w.heap.size 9 (some ⟨g, 0, none⟩) n n ((List.range n).map fun i => sv (Huf.txt ls 16 0 i)) ∧ Below w.heap.size w w' := by
  have hl : ls.length = n := by have := hr.len; rwa [nz, List.length_map] at this
  have hr := hide (hr.mono hB0)
  have hw := hide (Huf.V_small ls hsl)
  have h15 := hide h15
  clear hsl
  have hB : ∃ B, w.heap.size = B := ⟨_, rfl⟩
  obtain ⟨B, hB⟩ := hB
  rw [hB] at hr ⊢
  have hmk : (Instr.makeSlice 68 (.int .i64 (n : Int)) (.int .i64 (n : Int))).run Try.prog w = .ok (.slice (some ⟨w.heap.size, 0, none⟩) n n) (w.alloc (.cells (madeCells #[.string ⟨#[]⟩] n) 9)) := run_make_row' 68 9 (.string ⟨#[]⟩) 16 Try.underlying68 (by kernel_rfl) rfl .i64 .i64 n (by omega) (by omega) w
  have ho := hide (ow_made (W := w.alloc (.cells (madeCells #[.string ⟨#[]⟩] n) 9)) (B := B) (k := w.heap.size) (n := n) (t := 9) (z := .string ⟨#[]⟩) (by omega) (by simp only [maxLen]; omega) (heap_alloc_new _ _))
  have hb := hide ((Below.refl B w).alloc (by omega) (.cells (madeCells #[.string ⟨#[]⟩] n) 9))
  rw [hB] at hmk ho
  have hmk' := hmk
  generalize w.alloc (.cells (madeCells #[.string ⟨#[]⟩] n) 9) = W0 at hmk ho hb hmk'
  clear hmk'
  go_enter Try.func48, Try.ntmps48
  go_wp2
  go_loopw [4, 5] (fun v i wr => ∃ t V : Nat, 1 ≤ t ∧ t ≤ 16 ∧ i = .int .i64 t ∧ v = .int .i64 (V : Int) ∧ Hid (V = Huf.V ls (t - 1)) ∧ Hid (Ow wr B 9 (some ⟨B, 0, none⟩) n n ((List.range n).map fun i => sv (Huf.txt ls t 0 i))) ∧ Hid (Below B w wr)) (fun _ i _ => 16 - (intOf i).toNat)
  case atStart => exact ⟨1, 0, by omega, by omega, rfl, rfl, hide rfl, by rw [Huf.txt_one]; exact ho, hb⟩
  case round =>
    obtain ⟨t, V, ht1, ht16, rfl, rfl, hV, ho, hb⟩ := hrel
    by_cases htl : t < 16
    · have htI : (t : Int) < 16 := by omega
      have hV0 := hw.out (t - 1) (by omega)
      have hVt := hw.out t (by omega)
      have hfc := Huf.first_cnt ls t ht1
      have hff : Huf.first ls t = 2 * V := by
        obtain ⟨t', rfl⟩ : ∃ t', t = t' + 1 := ⟨t - 1, by omega⟩
        rw [hV.out]; rfl
      rw [← hV.out] at hV0
      rw [hff] at hfc
      have hVI : (V : Int) ≤ 32768 := by omega
      have hVtI : ((2 * V : Nat) : Int) + Huf.cnt ls t ≤ 32768 := by omega
      have hfc := hide hfc
      have hff := hide hff
      clear hV0 hVt
      go_wp2
      go_loopw [4, 6] (fun v i wx => ∃ k q : Nat, k ≤ n ∧ i = .int .i64 k ∧ v = .int .i64 (q : Int) ∧ Hid (q = 2 * V + (Huf.idx ls k t).length) ∧ Hid (Ow wx B 9 (some ⟨B, 0, none⟩) n n ((List.range n).map fun i => sv (Huf.txt ls t k i))) ∧ Hid (Below B w wx)) (fun _ i _ => n - (intOf i).toNat)
      case atStart => exact ⟨0, 2 * V, by omega, rfl, by push_cast; rfl, hide rfl, ho, hb⟩
      case round =>
        obtain ⟨k, q, hk, rfl, rfl, hq, ho, hb⟩ := hrel
        by_cases hlt : k < n
        · have hkl : k < ls.length := by omega
          obtain ⟨b, o, rfl, hbB, e0⟩ := (hr.out.below hb.out).int (j := k) hlt
          simp only [nz, List.getElem_map] at e0
          have hkI : (k : Int) < n := by omega
          have hls : Hid (ls[k]? = some ls[k]) := List.getElem?_eq_getElem hkl
          have hgd : Hid (ls.getD k 0 = ls[k]) := hide (by rw [List.getD_eq_getElem?_getD, hls.out]; rfl)
          generalize ls[k] = s at *
          by_cases hst : s = t
          · subst hst
            have hyes := hide (Huf.txt_yes ls s k ht1 hgd.out)
            have hrk := Huf.rank_lt ls k s hls.out
            have hqv := hq.out
            have hix := hide (Huf.idx_yes ls k s hls.out)
            have hcode : Hid (Huf.code ls k s = q) := hide (by rw [Huf.code, hff.out, hqv])
            have hq6 : q < 65536 := by omega
            have hqI : (q : Int) < 65536 := by omega
            have hdg := hide (fun W => digits_any q s W hq6 (by omega))
            have f0 := ho.out.free k
            have hc0 := ho.out.cells (g := B) rfl k (sv (Huf.txt ls s k k)) (by simp [hlt])
            rw [Addr.add_mid, Nat.zero_add] at hc0
            have hset := ho.out.set k (sv (Huf.dig q s))
            rw [map_upd (Huf.txt ls s k) sv, ← hcode.out, hyes.out, hcode.out] at hset
            have hset := hide hset
            have hb2 : Hid (Below B w (wr.setCell ⟨B, k, none⟩ (sv (Huf.dig q s)))) := hide (hb.out.trans (((Chg.refl (fun k => k = B) wr).setCell (p := ⟨B, k, none⟩) (.inr rfl) (sv (Huf.dig q s))).to_below (by have := (ho.out.blk_lt B rfl).2; omega) (by rintro i rfl; exact Nat.le_refl _)))
            clear hqv hrk hq6 hVI hVtI
            unfold sv at hc0
            generalize Huf.txt ls s k k = old at hc0
            unfold sv at hdg
            go_wp2_with (go_at_call 76; (with_reducible refine (hdg.out _).mono ?_); rintro e w' ⟨rfl, rfl⟩)
            go_roundw
            case rel => exact ⟨k + 1, q + 1, by omega, by go_num, by go_num, hide (by rw [hix.out, List.length_append, List.length_singleton, hq.out]; omega), hset, hb2⟩
            case measure => simp [intOf] <;> omega
          · have hno := hide (Huf.txt_no ls t k (by rw [hgd.out]; exact hst))
            have hix := hide (Huf.idx_no ls k t (by rw [hls.out]; intro e; injection e with e; exact hst e))
            have hsb : ((s : Int) == t) = false := by simp; omega
            go_wp2
            go_roundw
            case rel => exact ⟨k + 1, q, by omega, by go_num, rfl, hide (by rw [hix.out]; exact hq.out), by rw [hno.out]; exact ho, hb⟩
            case measure => simp [intOf] <;> omega
        · obtain rfl : k = n := by omega
          have hnx := Huf.txt_next ls t ht1
          rw [hl] at hnx
          rw [hnx] at ho
          have hqv : Hid (q = Huf.V ls t) := hide (by rw [hq.out, ← hfc.out, Huf.cnt, hl])
          go_wp2
          go_roundw
          case rel => exact ⟨t + 1, q, by omega, by omega, by go_num, rfl, hide (by rw [Nat.add_sub_cancel]; exact hqv.out), ho, hb⟩
          case measure => simp [intOf] <;> omega
    · obtain rfl : t = 16 := by omega
      go_wp2
      go_ret
      exact ⟨B, rfl, ho.out, hb.out⟩

end Go.Proofs.Ythplpoijkebjbaa
