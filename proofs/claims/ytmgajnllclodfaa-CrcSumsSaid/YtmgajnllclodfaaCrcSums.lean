/- The walk of the law CrcSums: it returns true for every slice of bytes, state and byte. The condition: the slice is read from where it lies. -/
import Derived.Test.YtmgajnllclodfaaCrcLive
namespace Go.Proofs.Ytmgajnllclodfaa
open Go.RowKit
attribute [local go_sem] grw_all

set_option maxRecDepth 100000 in
set_option maxHeartbeats 400000 in
theorem crcsums_walk (A : Option Addr) (n c : Nat) (bs : List UInt8) (s x : Nat) (w : World) (hr : Rd w w.heap.size A n (bs.map bv)) (hs : s < 4294967296) (hx : x ≤ 255) :
    Calls Try.prog 3 #[.slice A n c, .int .u32 (s : Int), .int .u8 (x : Int)] w fun e w' => e = .returned (.bool true) ∧ Below w.heap.size w w' := by
  by_cases hlen : 500 < n
  · go_enter Try.func3, Try.ntmps3
    go_wp2_with (go_at_call 12; refine (crclive_any _).mono ?_; rintro e w1 ⟨rfl, hb1⟩)
    go_ret
    exact ⟨rfl, hb1⟩
  · have hn : n ≤ 4611686018427387904 := by omega
    have hz1 := zero_tab
    go_enter Try.func3, Try.ntmps3
    go_wp2_with (first
      | (go_at_call 13; refine (table_any _).mono ?_; rintro e w1 ⟨rfl, hb1⟩)
      | (with_reducible refine wpList_store_row (o := ⟨none, .store 25 (.tmp 7) (.tmp 12), _, _, _, _⟩) rfl 25 (.tmp 7) (.tmp 12) rfl w1.heap.size Crc.tab rfl rfl 25 (Crc.tabTo 0) (Blk.new w1 _ _).eq info_tab' tabTo_size Crc.tab_one ?_))
    have hbel := below_row (g := w1.heap.size) ((hb1.alloc hb1.size (.cells (Crc.tabTo 0) 25))) hb1.size Crc.tab
    have hk := (Blk.new w1 25 (Crc.tabTo 0)).row Crc.tab
    have hg : (w1.alloc (Obj.cells (Crc.tabTo 0) 25)).setRow w1.heap.size Crc.tab = (w1.alloc (Obj.cells (Crc.tabTo 0) 25)).setRow w1.heap.size Crc.tab := rfl
    clear hz1 hg
    generalize (w1.alloc (Obj.cells (Crc.tabTo 0) 25)).setRow w1.heap.size Crc.tab = w2 at *
    replace hr := hr.below hbel
    have hcx := (hk.cell x).trans (Crc.tab_at x (by omega))
    have hx' : (x : Int) < 256 := by omega
    have hB := hbel.size
    refine wp_region_grw (by kernel_rfl) (by kernel_rfl) ?_
    simp only [Act.put]
    repeat (first
      | go_big_quiet_skip
      | (go_big_quiet_want
         first
           | (with_reducible refine quiet_load_row 25 (.tmp 7) rfl w1.heap.size rfl 25 Crc.tab _ Try.underlying25 rfl info_tab' hk ?_
              simp only [Act.put, List.setIfInBounds_toArray, List.set_cons_zero, List.set_cons_succ]
              go_big_quiet_on)
           | (with_reducible refine quiet_load_cell 23 (.tmp 30) rfl w1.heap.size x _ rfl _ Try.underlying23 rfl hcx ?_
              simp only [Act.put, List.setIfInBounds_toArray, List.set_cons_zero, List.set_cons_succ]
              go_big_quiet_on)
           | (go_big_quiet_op
              go_big_quiet_on)
           | (go_big_quiet_op
              apply Exists.intro
              refine ⟨fun w' hw' => ?_, ?_⟩
              · first
                  | (go_at_call 14; exact grw_step hw' (of_any A n c bs w' w.heap.size (hr.below (hw'.out.mono hB)) (Nat.le_trans hB hw'.out.size) hn))
                  | (go_at_call 15; exact grw_same hw' (refof_any A n c bs w' w.heap.size (hr.below (hw'.out.mono hB)) hn))
                  | (go_at_call 16; exact grw_step hw' (next_any s A n c bs w' w.heap.size hs (hr.below (hw'.out.mono hB)) (Nat.le_trans hB hw'.out.size) hn))
                  | (go_at_call 17; exact grw_same hw' (refnext_any s A n c bs w' w.heap.size hs (hr.below (hw'.out.mono hB)) hn))
                  | (go_at_call 18; exact grw_same hw' (entry_any x w' hx))
                  | (go_at_call 12; exact grw_step hw' (crclive_any w'))
              go_big_quiet_on)))
    refine wpQuiet_nil ?_
    intro w9 hb9
    go_wp2
    go_ret
    exact ⟨rfl, hbel.trans (hb9.out.mono hB)⟩

end Go.Proofs.Ytmgajnllclodfaa
