/- The plain law of layer 2 (crc): the check sum as a function on numbers; it is linear in its state, so that the sums of two parts give the sum of both. There is no condition but that numbers have 32 bits and bytes 8. The walks of layer 2 (crc) and of its reference: each function computes the plain function of CrcLaw. The conditions: a slice of bytes is read from where it lies, and is at most 2^62 long. -/
import Derived.Test.YtaapjampmnanmaaGreatBase
namespace Go.Proofs.YtaapjampmnanmaaGreat.Crc
def step (n : Nat) : Nat := if n % 2 = 1 then (n / 2) ^^^ 3988292384 else n / 2
def stepN : Nat → Nat → Nat
  | 0, n => n
  | k + 1, n => step (stepN k n)
def ent (c : Nat) : Nat := stepN 8 c
def upd (s c : Nat) : Nat := (s / 256) ^^^ ent ((s % 256) ^^^ c)
def nx (s : Nat) (bs : List UInt8) : Nat := bs.foldl (fun s c => upd s c.toNat) s
def sum (bs : List UInt8) : Nat := nx 4294967295 bs ^^^ 4294967295
theorem step_lt (n : Nat) (h : n < 4294967296) : step n < 4294967296 := by
  unfold step
  split
  · exact Nat.xor_lt_two_pow (n := 32) (by omega) (by omega)
  · omega
theorem stepN_lt (k n : Nat) (h : n < 4294967296) : stepN k n < 4294967296 := by
  induction k with
  | zero => exact h
  | succ k ih => exact step_lt _ ih
theorem ent_lt (c : Nat) (h : c < 256) : ent c < 4294967296 := stepN_lt 8 c (by omega)
theorem low_lt (s c : Nat) (hc : c < 256) : (s % 256) ^^^ c < 256 := Nat.xor_lt_two_pow (n := 8) (by omega) (by omega)
theorem upd_lt (s c : Nat) (hs : s < 4294967296) (hc : c < 256) : upd s c < 4294967296 :=
  Nat.xor_lt_two_pow (n := 32) (by omega) (ent_lt _ (low_lt s c hc))
theorem nx_lt (bs : List UInt8) : ∀ (s : Nat), s < 4294967296 → nx s bs < 4294967296 := by
  induction bs with
  | nil => exact fun s h => h
  | cons c bs ih => exact fun s h => ih _ (upd_lt s _ h (by have := c.toNat_lt; omega))
theorem nx_snoc (s : Nat) (bs : List UInt8) (c : UInt8) : nx s (bs ++ [c]) = upd (nx s bs) c.toNat := by simp [nx]
theorem nx_take (s : Nat) (bs : List UInt8) (k : Nat) (h : k < bs.length) : nx s (bs.take (k + 1)) = upd (nx s (bs.take k)) bs[k].toNat := by
  rw [List.take_succ_eq_append_getElem h, nx_snoc]
theorem sum_lt (bs : List UInt8) : sum bs < 4294967296 := Nat.xor_lt_two_pow (n := 32) (nx_lt bs _ (by omega)) (by omega)
end Go.Proofs.YtaapjampmnanmaaGreat.Crc
namespace Go.Proofs.YtaapjampmnanmaaGreat
open Go.RowKit
theorem xor_byte (s c : Nat) (hc : c < 256) : bits .xor .u8 ((s : Int) % 256) (c : Int) = (((s % 256) ^^^ c : Nat) : Int) := by
  have h := u8_xor_nat (s % 256) c (by omega) hc
  simpa using h
theorem xor_upd (s e : Nat) (hs : s < 4294967296) (he : e < 4294967296) : bits .xor .u32 ((s : Int) / 256) (e : Int) = (((s / 256) ^^^ e : Nat) : Int) := by
  have h := u32_xor_nat (s / 256) e (by omega) he
  simpa using h
/-! ### The program's own -/
def Crc.tab : Array Value := ((List.range 256).map fun c => Value.int .u32 (Crc.ent c : Nat)).toArray
theorem Crc.tab_size : Crc.tab.size = 256 := by simp [Crc.tab]
theorem Crc.tab_one : Crc.tab.all (·.oneCell') = true := by
  rw [Array.all_eq_true_iff_forall_mem]
  intro v hv
  simp only [Crc.tab, List.mem_toArray, List.mem_map] at hv
  obtain ⟨c, _, rfl⟩ := hv
  rfl
theorem Crc.tab_at (c : Nat) (h : c < 256) : Crc.tab[c]? = some (.int .u32 (Crc.ent c : Nat)) := by simp [Crc.tab, h]
def Crc.tabTo (k : Nat) : Array Value := ((List.range 256).map fun c => if c < k then Value.int .u32 (Crc.ent c : Nat) else .int .u32 0).toArray
theorem Crc.tabTo_step (k : Nat) : (Crc.tabTo k).setIfInBounds k (.int .u32 (Crc.ent k : Nat)) = Crc.tabTo (k + 1) := by
  apply Array.ext_getElem?
  intro i
  simp only [Crc.tabTo, List.setIfInBounds_toArray, List.getElem?_toArray, List.getElem?_set, List.getElem?_map, List.length_map, List.length_range]
  by_cases hi : i < 256
  · rw [List.getElem?_range hi]
    by_cases e : k = i
    · subst e; simp [hi]
    · have : (i < k + 1) = (i < k) := by apply propext; omega
      simp [e, this]
  · rw [List.getElem?_eq_none (by simp; omega)]
    by_cases e : k = i
    · subst e; simp [hi]
    · simp [e]
theorem Crc.tabTo_end : Crc.tabTo 256 = Crc.tab :=
  congrArg List.toArray (List.map_congr_left fun c hc => if_pos (by simpa using hc))
theorem Crc.tabTo_start : Crc.tabTo 0 = Array.replicate 256 (.int .u32 0) := by
  apply Array.ext_getElem?
  intro i
  simp only [Crc.tabTo, List.getElem?_toArray, List.getElem?_map, Array.getElem?_replicate, Nat.not_lt_zero, if_false]
  by_cases hi : i < 256
  · rw [List.getElem?_range hi, if_pos hi]; rfl
  · rw [List.getElem?_eq_none (by simp; omega), if_neg hi]; rfl
theorem Crc.tabTo_at (k c : Nat) (h : c < 256) : ∃ v, (Crc.tabTo k)[c]? = some v :=
  ⟨if c < k then Value.int .u32 (Crc.ent c : Nat) else .int .u32 0, by simp only [Crc.tabTo, List.getElem?_toArray, List.getElem?_map, List.getElem?_range h, Option.map_some]⟩
set_option maxRecDepth 100000 in
theorem zero_tab (w : World) : (zeroValue 196).run Tryz.prog w = .ok (.agg (Crc.tabTo 0)) w := by
  rw [Crc.tabTo_start]
  kernel_rfl
theorem info_tab : (Tryz.prog.info? 196).map (·.size) = some 256 := by kernel_rfl
theorem info_tab' : (Tryz.prog.info? 196).map (·.size) = some Crc.tab.size := by rw [Crc.tab_size]; exact info_tab
theorem tabTo_size : (Crc.tabTo 0).size = Crc.tab.size := by rw [Crc.tab_size, Crc.tabTo_start, Array.size_replicate]
set_option maxRecDepth 100000 in
set_option maxHeartbeats 400000 in
theorem table_any (w : World) :
    Calls Tryz.prog 135 #[] w fun e w' => e = .returned (.agg Crc.tab) ∧ Below w.heap.size w w' := by
  have hal := zero_tab
  have hb0 : Below w.heap.size w ((w.alloc (.cells (Crc.tabTo 0) 196)).alloc (.cells (Crc.tabTo 0) 196)) :=
    ((Below.refl _ _).alloc (Nat.le_refl _) _).alloc (by simp) _
  have hk1 : Blk ((w.alloc (.cells (Crc.tabTo 0) 196)).alloc (.cells (Crc.tabTo 0) 196)) w.heap.size 196 (Crc.tabTo 0) := (Blk.new _ _ _).alloc _
  have hk2 : Blk ((w.alloc (.cells (Crc.tabTo 0) 196)).alloc (.cells (Crc.tabTo 0) 196)) (w.heap.size + 1) 196 (Crc.tabTo 0) := by
    have := Blk.new (w.alloc (.cells (Crc.tabTo 0) 196)) 196 (Crc.tabTo 0)
    simpa using this
  go_enter Tryz.func135, Tryz.ntmps135
  go_wp2
  go_loopw [3, 4] (fun _ i wr => ∃ k : Nat, k ≤ 256 ∧ i = .int .i64 k ∧ Blk wr w.heap.size 196 (Crc.tabTo 0) ∧ Blk wr (w.heap.size + 1) 196 (Crc.tabTo k) ∧ Below w.heap.size w wr) (fun _ i _ => 256 - (intOf i).toNat)
  case atStart => exact ⟨0, by omega, rfl, hk1, hk2, hb0⟩
  case round =>
    clear hk1 hk2 hb0 hal
    obtain ⟨k, hk, rfl, hz, ht, hbel⟩ := hrel
    by_cases hlt : k < 256
    · obtain ⟨v, hv⟩ := Crc.tabTo_at k k hlt
      have hc : wr.cell? ⟨w.heap.size + 1, k, none⟩ = some v := (ht.cell k).trans hv
      have hf := ht.free k
      have hS := hide (Crc.tabTo_step k)
      have hz' := hide (hz.far (p := ⟨w.heap.size + 1, k, none⟩) (by simp) (.int .u32 (Crc.ent k : Nat)))
      have ht' := hide (ht.set k (.int .u32 (Crc.ent k : Nat)))
      have hbel' := hide (hbel.setCell (p := ⟨w.heap.size + 1, k, none⟩) (by simp) (.int .u32 (Crc.ent k : Nat)))
      clear hz ht hbel hv
      go_wp2
      go_loop [3, 9] (fun n i => ∃ j : Nat, j ≤ 8 ∧ i = .int .i64 j ∧ n = .int .u32 (Crc.stepN j k : Nat)) (fun _ i => 8 - (intOf i).toNat)
      case atStart => exact ⟨0, by omega, rfl, rfl⟩
      case round =>
        obtain ⟨j, hj, rfl, rfl⟩ := hrel
        have hb := Crc.stepN_lt j k (by omega)
        by_cases hjt : j < 8
        · have hx := u32_xor_nat (Crc.stepN j k / 2) 3988292384 (by omega) (by omega)
          simp only [Int.natCast_ediv, Int.cast_ofNat_Int] at hx
          have hm1 : bits .and .u32 (Crc.stepN j k : Int) 1 = ((Crc.stepN j k % 2 : Nat) : Int) := by
            rw [← nat_mask1]; exact u32_and_nat _ 1 hb (by omega)
          by_cases hp : Crc.stepN j k % 2 = 1
          · have hs : Hid (Crc.stepN (j + 1) k = (Crc.stepN j k / 2) ^^^ 3988292384) := by
              show Crc.step _ = _
              unfold Crc.step; rw [if_pos hp]
            rw [hp] at hm1
            clear hp
            go_wp2
            go_round
            case rel => exact ⟨j + 1, by omega, by go_num, by rw [hs.out]⟩
            case measure => simp [intOf]; omega
          · have hs : Hid (Crc.stepN (j + 1) k = Crc.stepN j k / 2) := by
              show Crc.step _ = _
              unfold Crc.step; rw [if_neg hp]
            rw [show Crc.stepN j k % 2 = 0 from by omega] at hm1
            clear hp
            go_wp2
            go_round
            case rel => exact ⟨j + 1, by omega, by go_num, by rw [hs.out]; rfl⟩
            case measure => simp [intOf]; omega
        · obtain rfl : j = 8 := by omega
          go_wp2
          go_roundw
          case rel => exact ⟨k + 1, by omega, by go_num, hz'.out, by rw [← hS.out]; exact ht'.out, hbel'.out⟩
          case measure => simp [intOf]; omega
    · obtain rfl : k = 256 := by omega
      rw [Crc.tabTo_end] at ht
      go_wp2_with (first
        | (with_reducible refine wpList_load_row (o := ⟨some 24, .load 196 (.tmp 1), _, _, _, _⟩) rfl 196 (.tmp 1) rfl (w.heap.size + 1) rfl 196 Crc.tab (0, 0) _ ht.eq Tryz.underlying196 rfl info_tab' ?_)
        | (with_reducible refine wpList_store_row (o := ⟨none, .store 196 (.tmp 0) (.tmp 24), _, _, _, _⟩) rfl 196 (.tmp 0) (.tmp 24) rfl w.heap.size Crc.tab rfl rfl 196 (Crc.tabTo 0) hz.eq info_tab' tabTo_size Crc.tab_one ?_))
      refine bodyPost_ret_by (results_cell_row rfl _ _ w.heap.size 196 Crc.tab (0, 0) _ rfl (hz.row _) Tryz.underlying196 rfl info_tab') rfl ⟨rfl, below_row hbel (Nat.le_refl _) _⟩
set_option maxRecDepth 100000 in
set_option maxHeartbeats 400000 in
theorem next_any (s : Nat) (A : Option Addr) (n c : Nat) (bs : List UInt8) (w : World) (B : Nat) (hs : s < 4294967296) (hr : Rd w B A n (bs.map bv)) (hB : B ≤ w.heap.size) (hn : n ≤ 4611686018427387904) :
    Calls Tryz.prog 134 #[.agg Crc.tab, .int .u32 (s : Int), .slice A n c] w fun e w' => e = .returned (.int .u32 (Crc.nx s bs : Nat)) ∧ Below w.heap.size w w' := by
  have hl := hide hr.len
  have hk : Blk (w.alloc (.cells Crc.tab 196)) w.heap.size 196 Crc.tab := Blk.new _ _ _
  have hbel := hide ((Below.refl _ w).alloc (Nat.le_refl _) (.cells Crc.tab 196))
  replace hr := hr.keep (w' := w.alloc (.cells Crc.tab 196)) fun b o hb => World.cell?_alloc_lt w _ ⟨b, o, none⟩ (Nat.lt_of_lt_of_le hb hB)
  go_enter Tryz.func134, Tryz.ntmps134
  go_wp2
  generalize w.alloc (.cells Crc.tab 196) = w1 at *
  go_loop [1, 11] (fun x i => ∃ k : Nat, k ≤ n ∧ i = .int .i64 k ∧ x = .int .u32 (Crc.nx s (bs.take k) : Nat)) (fun _ i => n - (intOf i).toNat)
  case atStart => exact ⟨0, by omega, rfl, rfl⟩
  case round =>
    obtain ⟨k, hk', rfl, rfl⟩ := hrel
    have hb := Crc.nx_lt (bs.take k) s hs
    by_cases hlt : k < n
    · obtain ⟨b, o, rfl, _, hc⟩ := hr.byte hlt
      have hkl : k < bs.length := by rw [hl.out]; exact hlt
      have hx := hide (Crc.nx_take s bs k hkl)
      generalize Crc.nx s (bs.take k) = S at *
      have hc8 := toNat_le bs[k]
      generalize bs[k].toNat = q at *
      have e1 := xor_byte S q (by omega)
      have hm := Crc.low_lt S q (by omega)
      have hu : Hid (Crc.upd S q = (S / 256) ^^^ Crc.ent ((S % 256) ^^^ q)) := rfl
      generalize (S % 256) ^^^ q = m at *
      have he := Crc.ent_lt m hm
      have e2 := xor_upd S (Crc.ent m) hb he
      have hm' : (m : Int) < 256 := by omega
      have ht := (hk.cell m).trans (Crc.tab_at m hm)
      go_wp2
      go_round
      case rel => exact ⟨k + 1, by omega, by go_num, by rw [hx.out, hu.out]⟩
      case measure => simp [intOf]; omega
    · obtain rfl : k = n := by omega
      go_wp2
      go_ret
      exact ⟨ret_int (by rw [List.take_of_length_le (by have := hl.out; omega)]), hbel.out⟩
theorem xor_all (s : Nat) (hs : s < 4294967296) : bits .xor .u32 (s : Int) 4294967295 = ((s ^^^ 4294967295 : Nat) : Int) := u32_xor_nat s 4294967295 hs (by omega)
set_option maxHeartbeats 400000 in
theorem of_any (A : Option Addr) (n c : Nat) (bs : List UInt8) (w : World) (B : Nat) (hr : Rd w B A n (bs.map bv)) (hB : B ≤ w.heap.size) (hn : n ≤ 4611686018427387904) :
    Calls Tryz.prog 106 #[.slice A n c] w fun e w' => e = .returned (.int .u32 (Crc.sum bs : Nat)) ∧ Below w.heap.size w w' := by
  have hb := Crc.nx_lt bs 4294967295 (by omega)
  have hs : Hid (Crc.sum bs = Crc.nx 4294967295 bs ^^^ 4294967295) := rfl
  have hx := xor_all _ hb
  go_enter Tryz.func106, Tryz.ntmps106
  go_wp2_with (first
    | (go_at_call 135; refine (table_any _).mono ?_; rintro e w1 ⟨rfl, hb1⟩)
    | (go_at_call 134; refine (next_any 4294967295 A n c bs w1 B (by omega) (hr.below (hb1.mono hB)) (Nat.le_trans hB hb1.size) hn).mono ?_; rintro e w2 ⟨rfl, hb2⟩))
  go_ret
  exact ⟨ret_int (by rw [hs.out]), hb1.trans (hb2.mono hb1.size)⟩
end Go.Proofs.YtaapjampmnanmaaGreat
