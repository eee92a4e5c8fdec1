/- Layer 14 (pack): Empty, of the program and of the reference. There is no condition. -/
import Derived.Test.YtaapjampmnanmaaGreatArchY
import Derived.Test.YtaapjampmnanmaaGreatPkMuch
namespace Go.Proofs.YtaapjampmnanmaaGreat
open Go.RowKit
set_option linter.unusedVariables false
set_option linter.unusedSimpArgs false

/-- The header without parts. -/
def emptyH (q : Sp) : Hd := ⟨0, 0, 0, 0, 0, 0, 0, 0, 0, 0, 0, true, if q.gz then 2 else 1, if q.gz then 2 else 1, 1, q.z0, q.z1, q.ax, q.ay, q.bx, q.bY, q.cx, q.cy, q.at'⟩

theorem setRow_other {w w' : World} {g k : Nat} {t : TypeId} {cs cs' : Array Value} (hne : k ≠ g) (h : w.setRow g cs' = w') (hk : Blk w k t cs) : Blk w' k t cs := by
  rw [← h]
  exact ((Chg.refl (fun i => i = g) w).setRow (g := g) (.inr rfl) cs').block k hk.lt hne |>.trans hk
theorem e24one1 (z0 z1 ax ay bx bY cx cy at' : Int) : (#[.int .u64 0, .int .u64 0, .int .u64 0, .int .u64 0, .int .u64 0, .int .u64 0, .int .u64 0, .int .u64 0, .int .u64 0, .int .u64 0, .int .u64 0, .bool true, .int .i64 1, .int .i64 1, .int .i64 1, .int .i64 z0, .int .i64 z1, .int .i64 ax, .int .i64 ay, .int .i64 bx, .int .i64 bY, .int .i64 cx, .int .i64 cy, .int .i64 at'] : Array Value).all (·.oneCell') = true := by simp [Value.oneCell']
theorem e24info1 (z0 z1 ax ay bx bY cx cy at' : Int) : (Tryz.prog.info? 30).map (·.size) = some (#[.int .u64 0, .int .u64 0, .int .u64 0, .int .u64 0, .int .u64 0, .int .u64 0, .int .u64 0, .int .u64 0, .int .u64 0, .int .u64 0, .int .u64 0, .bool true, .int .i64 1, .int .i64 1, .int .i64 1, .int .i64 z0, .int .i64 z1, .int .i64 ax, .int .i64 ay, .int .i64 bx, .int .i64 bY, .int .i64 cx, .int .i64 cy, .int .i64 at'] : Array Value).size := info24
theorem e24one2 (z0 z1 ax ay bx bY cx cy at' : Int) : (#[.int .u64 0, .int .u64 0, .int .u64 0, .int .u64 0, .int .u64 0, .int .u64 0, .int .u64 0, .int .u64 0, .int .u64 0, .int .u64 0, .int .u64 0, .bool true, .int .i64 2, .int .i64 2, .int .i64 1, .int .i64 z0, .int .i64 z1, .int .i64 ax, .int .i64 ay, .int .i64 bx, .int .i64 bY, .int .i64 cx, .int .i64 cy, .int .i64 at'] : Array Value).all (·.oneCell') = true := by simp [Value.oneCell']
theorem e24info2 (z0 z1 ax ay bx bY cx cy at' : Int) : (Tryz.prog.info? 30).map (·.size) = some (#[.int .u64 0, .int .u64 0, .int .u64 0, .int .u64 0, .int .u64 0, .int .u64 0, .int .u64 0, .int .u64 0, .int .u64 0, .int .u64 0, .int .u64 0, .bool true, .int .i64 2, .int .i64 2, .int .i64 1, .int .i64 z0, .int .i64 z1, .int .i64 ax, .int .i64 ay, .int .i64 bx, .int .i64 bY, .int .i64 cx, .int .i64 cy, .int .i64 at'] : Array Value).size := info24
set_option maxRecDepth 100000 in
set_option maxHeartbeats 2000000 in
theorem pempty_false (leaf z0 z1 ax ay bx bY cx cy at' : Int) (mt : List UInt8) (w : World) : Calls Tryz.prog 24 #[.agg #[.bool false, .int .i64 leaf, .int .i64 z0, .int .i64 z1, .int .i64 ax, .int .i64 ay, .int .i64 bx, .int .i64 bY, .int .i64 cx, .int .i64 cy, .int .i64 at', .string ⟨mt.toArray⟩]] w fun e w' => e = .returned (.agg #[.int .u64 0, .int .u64 0, .int .u64 0, .int .u64 0, .int .u64 0, .int .u64 0, .int .u64 0, .int .u64 0, .int .u64 0, .int .u64 0, .int .u64 0, .bool true, .int .i64 1, .int .i64 1, .int .i64 1, .int .i64 z0, .int .i64 z1, .int .i64 ax, .int .i64 ay, .int .i64 bx, .int .i64 bY, .int .i64 cx, .int .i64 cy, .int .i64 at']) ∧ Below w.heap.size w w' := by
  obtain ⟨G, hG⟩ : ∃ G, w.heap.size = G := ⟨_, rfl⟩
  obtain ⟨w1, hw1⟩ : ∃ W, w.alloc (.cells #[.bool false, .int .i64 leaf, .int .i64 z0, .int .i64 z1, .int .i64 ax, .int .i64 ay, .int .i64 bx, .int .i64 bY, .int .i64 cx, .int .i64 cy, .int .i64 at', .string ⟨mt.toArray⟩] 61) = W := ⟨_, rfl⟩
  have hs1 : w1.heap.size = G + 1 := by rw [← hw1]; simp [hG]
  have k1 := hide (show Blk w1 G 61 #[.bool false, .int .i64 leaf, .int .i64 z0, .int .i64 z1, .int .i64 ax, .int .i64 ay, .int .i64 bx, .int .i64 bY, .int .i64 cx, .int .i64 cy, .int .i64 at', .string ⟨mt.toArray⟩] from by rw [← hw1, ← hG]; exact Blk.new w _ _)
  obtain ⟨w2, hw2⟩ : ∃ W, w1.alloc (.cells #[.int .u64 0, .int .u64 0, .int .u64 0, .int .u64 0, .int .u64 0, .int .u64 0, .int .u64 0, .int .u64 0, .int .u64 0, .int .u64 0, .int .u64 0, .bool false, .int .i64 0, .int .i64 0, .int .i64 0, .int .i64 0, .int .i64 0, .int .i64 0, .int .i64 0, .int .i64 0, .int .i64 0, .int .i64 0, .int .i64 0, .int .i64 0] 30) = W := ⟨_, rfl⟩
  have hs2 : w2.heap.size = G + 1 + 1 := by rw [← hw2]; simp [hs1]
  have k2 := hide (show Blk w2 (G + 1) 30 #[.int .u64 0, .int .u64 0, .int .u64 0, .int .u64 0, .int .u64 0, .int .u64 0, .int .u64 0, .int .u64 0, .int .u64 0, .int .u64 0, .int .u64 0, .bool false, .int .i64 0, .int .i64 0, .int .i64 0, .int .i64 0, .int .i64 0, .int .i64 0, .int .i64 0, .int .i64 0, .int .i64 0, .int .i64 0, .int .i64 0, .int .i64 0] from by rw [← hw2, ← hs1]; exact Blk.new w1 _ _)
  have k12 := hide (show Blk w2 G 61 #[.bool false, .int .i64 leaf, .int .i64 z0, .int .i64 z1, .int .i64 ax, .int .i64 ay, .int .i64 bx, .int .i64 bY, .int .i64 cx, .int .i64 cy, .int .i64 at', .string ⟨mt.toArray⟩] from by rw [← hw2]; exact k1.out.alloc _)
  have b2 := hide (show Below G w w2 from by rw [← hw2, ← hw1]; exact ((Below.refl G w).alloc (by omega) _).alloc (by simp; omega) _)
  have e0 : w2.cell? ⟨G, 0, none⟩ = some (.bool false) := k12.out.cell 0
  have e2 : w2.cell? ⟨G, 2, none⟩ = some (.int .i64 z0) := k12.out.cell 2
  have e3 : w2.cell? ⟨G, 3, none⟩ = some (.int .i64 z1) := k12.out.cell 3
  have e4 : w2.cell? ⟨G, 4, none⟩ = some (.int .i64 ax) := k12.out.cell 4
  have e5 : w2.cell? ⟨G, 5, none⟩ = some (.int .i64 ay) := k12.out.cell 5
  have e6 : w2.cell? ⟨G, 6, none⟩ = some (.int .i64 bx) := k12.out.cell 6
  have e7 : w2.cell? ⟨G, 7, none⟩ = some (.int .i64 bY) := k12.out.cell 7
  have e8 : w2.cell? ⟨G, 8, none⟩ = some (.int .i64 cx) := k12.out.cell 8
  have e9 : w2.cell? ⟨G, 9, none⟩ = some (.int .i64 cy) := k12.out.cell 9
  have e10 : w2.cell? ⟨G, 10, none⟩ = some (.int .i64 at') := k12.out.cell 10
  obtain ⟨w3, hw3⟩ : ∃ W, w2.alloc (.cells #[.int .u64 0, .int .u64 0, .int .u64 0, .int .u64 0, .int .u64 0, .int .u64 0, .int .u64 0, .int .u64 0, .int .u64 0, .int .u64 0, .int .u64 0, .bool false, .int .i64 0, .int .i64 0, .int .i64 0, .int .i64 0, .int .i64 0, .int .i64 0, .int .i64 0, .int .i64 0, .int .i64 0, .int .i64 0, .int .i64 0, .int .i64 0] 30) = W := ⟨_, rfl⟩
  have k3 := hide (show Blk w3 (G + 1 + 1) 30 #[.int .u64 0, .int .u64 0, .int .u64 0, .int .u64 0, .int .u64 0, .int .u64 0, .int .u64 0, .int .u64 0, .int .u64 0, .int .u64 0, .int .u64 0, .bool false, .int .i64 0, .int .i64 0, .int .i64 0, .int .i64 0, .int .i64 0, .int .i64 0, .int .i64 0, .int .i64 0, .int .i64 0, .int .i64 0, .int .i64 0, .int .i64 0] from by rw [← hw3, ← hs2]; exact Blk.new w2 _ _)
  have k23 := hide (show Blk w3 (G + 1) 30 #[.int .u64 0, .int .u64 0, .int .u64 0, .int .u64 0, .int .u64 0, .int .u64 0, .int .u64 0, .int .u64 0, .int .u64 0, .int .u64 0, .int .u64 0, .bool false, .int .i64 0, .int .i64 0, .int .i64 0, .int .i64 0, .int .i64 0, .int .i64 0, .int .i64 0, .int .i64 0, .int .i64 0, .int .i64 0, .int .i64 0, .int .i64 0] from by rw [← hw3]; exact k2.out.alloc _)
  have k13 := hide (show Blk w3 G 61 #[.bool false, .int .i64 leaf, .int .i64 z0, .int .i64 z1, .int .i64 ax, .int .i64 ay, .int .i64 bx, .int .i64 bY, .int .i64 cx, .int .i64 cy, .int .i64 at', .string ⟨mt.toArray⟩] from by rw [← hw3]; exact k12.out.alloc _)
  have b3 := hide (show Below G w w3 from by rw [← hw3]; exact b2.out.alloc (by omega) _)
  obtain ⟨w4, hw4⟩ : ∃ W, w3.setRow (G + 1 + 1) #[.int .u64 0, .int .u64 0, .int .u64 0, .int .u64 0, .int .u64 0, .int .u64 0, .int .u64 0, .int .u64 0, .int .u64 0, .int .u64 0, .int .u64 0, .bool true, .int .i64 1, .int .i64 1, .int .i64 1, .int .i64 z0, .int .i64 z1, .int .i64 ax, .int .i64 ay, .int .i64 bx, .int .i64 bY, .int .i64 cx, .int .i64 cy, .int .i64 at'] = W := ⟨_, rfl⟩
  have k4 := hide (show Blk w4 (G + 1 + 1) 30 #[.int .u64 0, .int .u64 0, .int .u64 0, .int .u64 0, .int .u64 0, .int .u64 0, .int .u64 0, .int .u64 0, .int .u64 0, .int .u64 0, .int .u64 0, .bool true, .int .i64 1, .int .i64 1, .int .i64 1, .int .i64 z0, .int .i64 z1, .int .i64 ax, .int .i64 ay, .int .i64 bx, .int .i64 bY, .int .i64 cx, .int .i64 cy, .int .i64 at'] from by rw [← hw4]; exact k3.out.row _)
  have b4 := hide (show Below G w w4 from by rw [← hw4]; exact below_row b3.out (by omega) _)
  have k24 := hide (show Blk w4 (G + 1) 30 #[.int .u64 0, .int .u64 0, .int .u64 0, .int .u64 0, .int .u64 0, .int .u64 0, .int .u64 0, .int .u64 0, .int .u64 0, .int .u64 0, .int .u64 0, .bool false, .int .i64 0, .int .i64 0, .int .i64 0, .int .i64 0, .int .i64 0, .int .i64 0, .int .i64 0, .int .i64 0, .int .i64 0, .int .i64 0, .int .i64 0, .int .i64 0] from (setRow_other (by omega) (h := hw4) k23.out))
  have k14 := hide (show Blk w4 G 61 #[.bool false, .int .i64 leaf, .int .i64 z0, .int .i64 z1, .int .i64 ax, .int .i64 ay, .int .i64 bx, .int .i64 bY, .int .i64 cx, .int .i64 cy, .int .i64 at', .string ⟨mt.toArray⟩] from (setRow_other (by omega) (h := hw4) k13.out))
  have g0 : w4.cell? ⟨G, 0, none⟩ = some (.bool false) := k14.out.cell 0

  obtain ⟨w5, hw5⟩ : ∃ W, w4.setRow (G + 1) #[.int .u64 0, .int .u64 0, .int .u64 0, .int .u64 0, .int .u64 0, .int .u64 0, .int .u64 0, .int .u64 0, .int .u64 0, .int .u64 0, .int .u64 0, .bool true, .int .i64 1, .int .i64 1, .int .i64 1, .int .i64 z0, .int .i64 z1, .int .i64 ax, .int .i64 ay, .int .i64 bx, .int .i64 bY, .int .i64 cx, .int .i64 cy, .int .i64 at'] = W := ⟨_, rfl⟩
  have k5 := hide (show Blk w5 (G + 1) 30 #[.int .u64 0, .int .u64 0, .int .u64 0, .int .u64 0, .int .u64 0, .int .u64 0, .int .u64 0, .int .u64 0, .int .u64 0, .int .u64 0, .int .u64 0, .bool true, .int .i64 1, .int .i64 1, .int .i64 1, .int .i64 z0, .int .i64 z1, .int .i64 ax, .int .i64 ay, .int .i64 bx, .int .i64 bY, .int .i64 cx, .int .i64 cy, .int .i64 at'] from by rw [← hw5]; exact k24.out.row _)
  have b5 := hide (show Below G w w5 from by rw [← hw5]; exact below_row b4.out (by omega) _)
  rw [hG]
  clear k1 k13
  go_enter Tryz.func24, Tryz.ntmps24
  go_wp2_with (first
    | ((with_reducible refine wpList_store_row (o := ⟨none, .store 30 (.tmp 3) (.tmp 16), _, _, _, _⟩) rfl 30 (.tmp 3) (.tmp 16) rfl (G + 1 + 1) #[.int .u64 0, .int .u64 0, .int .u64 0, .int .u64 0, .int .u64 0, .int .u64 0, .int .u64 0, .int .u64 0, .int .u64 0, .int .u64 0, .int .u64 0, .bool true, .int .i64 1, .int .i64 1, .int .i64 1, .int .i64 z0, .int .i64 z1, .int .i64 ax, .int .i64 ay, .int .i64 bx, .int .i64 bY, .int .i64 cx, .int .i64 cy, .int .i64 at'] rfl rfl 30 _ k3.out.eq (e24info1 _ _ _ _ _ _ _ _ _) rfl (e24one1 _ _ _ _ _ _ _ _ _) ?_); rw [hw4])
    | (with_reducible refine wpList_load_row (o := ⟨some 21, .load 30 (.tmp 3), _, _, _, _⟩) rfl 30 (.tmp 3) rfl (G + 1 + 1) rfl 30 #[.int .u64 0, .int .u64 0, .int .u64 0, .int .u64 0, .int .u64 0, .int .u64 0, .int .u64 0, .int .u64 0, .int .u64 0, .int .u64 0, .int .u64 0, .bool true, .int .i64 1, .int .i64 1, .int .i64 1, .int .i64 z0, .int .i64 z1, .int .i64 ax, .int .i64 ay, .int .i64 bx, .int .i64 bY, .int .i64 cx, .int .i64 cy, .int .i64 at'] (0, 0) _ k4.out.eq Tryz.underlying30 rfl (e24info1 _ _ _ _ _ _ _ _ _) ?_)
    | ((with_reducible refine wpList_store_row (o := ⟨none, .store 30 (.tmp 2) (.tmp 21), _, _, _, _⟩) rfl 30 (.tmp 2) (.tmp 21) rfl (G + 1) #[.int .u64 0, .int .u64 0, .int .u64 0, .int .u64 0, .int .u64 0, .int .u64 0, .int .u64 0, .int .u64 0, .int .u64 0, .int .u64 0, .int .u64 0, .bool true, .int .i64 1, .int .i64 1, .int .i64 1, .int .i64 z0, .int .i64 z1, .int .i64 ax, .int .i64 ay, .int .i64 bx, .int .i64 bY, .int .i64 cx, .int .i64 cy, .int .i64 at'] rfl rfl 30 _ k24.out.eq (e24info1 _ _ _ _ _ _ _ _ _) rfl (e24one1 _ _ _ _ _ _ _ _ _) ?_); rw [hw5]))
  exact bodyPost_ret_by (results_cell_row rfl _ _ (G + 1) 30 #[.int .u64 0, .int .u64 0, .int .u64 0, .int .u64 0, .int .u64 0, .int .u64 0, .int .u64 0, .int .u64 0, .int .u64 0, .int .u64 0, .int .u64 0, .bool true, .int .i64 1, .int .i64 1, .int .i64 1, .int .i64 z0, .int .i64 z1, .int .i64 ax, .int .i64 ay, .int .i64 bx, .int .i64 bY, .int .i64 cx, .int .i64 cy, .int .i64 at'] (0, 0) _ rfl k5.out.eq Tryz.underlying30 rfl (e24info1 _ _ _ _ _ _ _ _ _)) rfl ⟨rfl, b5.out⟩

set_option maxRecDepth 100000 in
set_option maxHeartbeats 2000000 in
theorem rempty_false (leaf z0 z1 ax ay bx bY cx cy at' : Int) (mt : List UInt8) (w : World) : Calls Tryz.prog 25 #[.agg #[.bool false, .int .i64 leaf, .int .i64 z0, .int .i64 z1, .int .i64 ax, .int .i64 ay, .int .i64 bx, .int .i64 bY, .int .i64 cx, .int .i64 cy, .int .i64 at', .string ⟨mt.toArray⟩]] w fun e w' => e = .returned (.agg #[.int .u64 0, .int .u64 0, .int .u64 0, .int .u64 0, .int .u64 0, .int .u64 0, .int .u64 0, .int .u64 0, .int .u64 0, .int .u64 0, .int .u64 0, .bool true, .int .i64 1, .int .i64 1, .int .i64 1, .int .i64 z0, .int .i64 z1, .int .i64 ax, .int .i64 ay, .int .i64 bx, .int .i64 bY, .int .i64 cx, .int .i64 cy, .int .i64 at']) ∧ Below w.heap.size w w' := by
  obtain ⟨G, hG⟩ : ∃ G, w.heap.size = G := ⟨_, rfl⟩
  obtain ⟨w1, hw1⟩ : ∃ W, w.alloc (.cells #[.bool false, .int .i64 leaf, .int .i64 z0, .int .i64 z1, .int .i64 ax, .int .i64 ay, .int .i64 bx, .int .i64 bY, .int .i64 cx, .int .i64 cy, .int .i64 at', .string ⟨mt.toArray⟩] 61) = W := ⟨_, rfl⟩
  have hs1 : w1.heap.size = G + 1 := by rw [← hw1]; simp [hG]
  have k1 := hide (show Blk w1 G 61 #[.bool false, .int .i64 leaf, .int .i64 z0, .int .i64 z1, .int .i64 ax, .int .i64 ay, .int .i64 bx, .int .i64 bY, .int .i64 cx, .int .i64 cy, .int .i64 at', .string ⟨mt.toArray⟩] from by rw [← hw1, ← hG]; exact Blk.new w _ _)
  obtain ⟨w2, hw2⟩ : ∃ W, w1.alloc (.cells #[.int .u64 0, .int .u64 0, .int .u64 0, .int .u64 0, .int .u64 0, .int .u64 0, .int .u64 0, .int .u64 0, .int .u64 0, .int .u64 0, .int .u64 0, .bool false, .int .i64 0, .int .i64 0, .int .i64 0, .int .i64 0, .int .i64 0, .int .i64 0, .int .i64 0, .int .i64 0, .int .i64 0, .int .i64 0, .int .i64 0, .int .i64 0] 30) = W := ⟨_, rfl⟩
  have hs2 : w2.heap.size = G + 1 + 1 := by rw [← hw2]; simp [hs1]
  have k2 := hide (show Blk w2 (G + 1) 30 #[.int .u64 0, .int .u64 0, .int .u64 0, .int .u64 0, .int .u64 0, .int .u64 0, .int .u64 0, .int .u64 0, .int .u64 0, .int .u64 0, .int .u64 0, .bool false, .int .i64 0, .int .i64 0, .int .i64 0, .int .i64 0, .int .i64 0, .int .i64 0, .int .i64 0, .int .i64 0, .int .i64 0, .int .i64 0, .int .i64 0, .int .i64 0] from by rw [← hw2, ← hs1]; exact Blk.new w1 _ _)
  have k12 := hide (show Blk w2 G 61 #[.bool false, .int .i64 leaf, .int .i64 z0, .int .i64 z1, .int .i64 ax, .int .i64 ay, .int .i64 bx, .int .i64 bY, .int .i64 cx, .int .i64 cy, .int .i64 at', .string ⟨mt.toArray⟩] from by rw [← hw2]; exact k1.out.alloc _)
  have b2 := hide (show Below G w w2 from by rw [← hw2, ← hw1]; exact ((Below.refl G w).alloc (by omega) _).alloc (by simp; omega) _)
  have e0 : w2.cell? ⟨G, 0, none⟩ = some (.bool false) := k12.out.cell 0
  have e2 : w2.cell? ⟨G, 2, none⟩ = some (.int .i64 z0) := k12.out.cell 2
  have e3 : w2.cell? ⟨G, 3, none⟩ = some (.int .i64 z1) := k12.out.cell 3
  have e4 : w2.cell? ⟨G, 4, none⟩ = some (.int .i64 ax) := k12.out.cell 4
  have e5 : w2.cell? ⟨G, 5, none⟩ = some (.int .i64 ay) := k12.out.cell 5
  have e6 : w2.cell? ⟨G, 6, none⟩ = some (.int .i64 bx) := k12.out.cell 6
  have e7 : w2.cell? ⟨G, 7, none⟩ = some (.int .i64 bY) := k12.out.cell 7
  have e8 : w2.cell? ⟨G, 8, none⟩ = some (.int .i64 cx) := k12.out.cell 8
  have e9 : w2.cell? ⟨G, 9, none⟩ = some (.int .i64 cy) := k12.out.cell 9
  have e10 : w2.cell? ⟨G, 10, none⟩ = some (.int .i64 at') := k12.out.cell 10
  obtain ⟨w5, hw5⟩ : ∃ W, w2.setRow (G + 1) #[.int .u64 0, .int .u64 0, .int .u64 0, .int .u64 0, .int .u64 0, .int .u64 0, .int .u64 0, .int .u64 0, .int .u64 0, .int .u64 0, .int .u64 0, .bool true, .int .i64 1, .int .i64 1, .int .i64 1, .int .i64 z0, .int .i64 z1, .int .i64 ax, .int .i64 ay, .int .i64 bx, .int .i64 bY, .int .i64 cx, .int .i64 cy, .int .i64 at'] = W := ⟨_, rfl⟩
  have k5 := hide (show Blk w5 (G + 1) 30 #[.int .u64 0, .int .u64 0, .int .u64 0, .int .u64 0, .int .u64 0, .int .u64 0, .int .u64 0, .int .u64 0, .int .u64 0, .int .u64 0, .int .u64 0, .bool true, .int .i64 1, .int .i64 1, .int .i64 1, .int .i64 z0, .int .i64 z1, .int .i64 ax, .int .i64 ay, .int .i64 bx, .int .i64 bY, .int .i64 cx, .int .i64 cy, .int .i64 at'] from by rw [← hw5]; exact k2.out.row _)
  have b5 := hide (show Below G w w5 from by rw [← hw5]; exact below_row b2.out (by omega) _)
  rw [hG]
  clear k1
  go_enter Tryz.func25, Tryz.ntmps25
  go_wp2_with ((with_reducible refine wpList_store_row (o := ⟨none, .store 30 (.tmp 2) (.tmp 20), _, _, _, _⟩) rfl 30 (.tmp 2) (.tmp 20) rfl (G + 1) #[.int .u64 0, .int .u64 0, .int .u64 0, .int .u64 0, .int .u64 0, .int .u64 0, .int .u64 0, .int .u64 0, .int .u64 0, .int .u64 0, .int .u64 0, .bool true, .int .i64 1, .int .i64 1, .int .i64 1, .int .i64 z0, .int .i64 z1, .int .i64 ax, .int .i64 ay, .int .i64 bx, .int .i64 bY, .int .i64 cx, .int .i64 cy, .int .i64 at'] rfl rfl 30 _ k2.out.eq (e24info1 _ _ _ _ _ _ _ _ _) rfl (e24one1 _ _ _ _ _ _ _ _ _) ?_); rw [hw5])
  exact bodyPost_ret_by (results_cell_row rfl _ _ (G + 1) 30 #[.int .u64 0, .int .u64 0, .int .u64 0, .int .u64 0, .int .u64 0, .int .u64 0, .int .u64 0, .int .u64 0, .int .u64 0, .int .u64 0, .int .u64 0, .bool true, .int .i64 1, .int .i64 1, .int .i64 1, .int .i64 z0, .int .i64 z1, .int .i64 ax, .int .i64 ay, .int .i64 bx, .int .i64 bY, .int .i64 cx, .int .i64 cy, .int .i64 at'] (0, 0) _ rfl k5.out.eq Tryz.underlying30 rfl (e24info1 _ _ _ _ _ _ _ _ _)) rfl ⟨rfl, b5.out⟩

set_option maxRecDepth 100000 in
set_option maxHeartbeats 2000000 in
theorem pempty_true (leaf z0 z1 ax ay bx bY cx cy at' : Int) (mt : List UInt8) (w : World) : Calls Tryz.prog 24 #[.agg #[.bool true, .int .i64 leaf, .int .i64 z0, .int .i64 z1, .int .i64 ax, .int .i64 ay, .int .i64 bx, .int .i64 bY, .int .i64 cx, .int .i64 cy, .int .i64 at', .string ⟨mt.toArray⟩]] w fun e w' => e = .returned (.agg #[.int .u64 0, .int .u64 0, .int .u64 0, .int .u64 0, .int .u64 0, .int .u64 0, .int .u64 0, .int .u64 0, .int .u64 0, .int .u64 0, .int .u64 0, .bool true, .int .i64 2, .int .i64 2, .int .i64 1, .int .i64 z0, .int .i64 z1, .int .i64 ax, .int .i64 ay, .int .i64 bx, .int .i64 bY, .int .i64 cx, .int .i64 cy, .int .i64 at']) ∧ Below w.heap.size w w' := by
  obtain ⟨G, hG⟩ : ∃ G, w.heap.size = G := ⟨_, rfl⟩
  obtain ⟨w1, hw1⟩ : ∃ W, w.alloc (.cells #[.bool true, .int .i64 leaf, .int .i64 z0, .int .i64 z1, .int .i64 ax, .int .i64 ay, .int .i64 bx, .int .i64 bY, .int .i64 cx, .int .i64 cy, .int .i64 at', .string ⟨mt.toArray⟩] 61) = W := ⟨_, rfl⟩
  have hs1 : w1.heap.size = G + 1 := by rw [← hw1]; simp [hG]
  have k1 := hide (show Blk w1 G 61 #[.bool true, .int .i64 leaf, .int .i64 z0, .int .i64 z1, .int .i64 ax, .int .i64 ay, .int .i64 bx, .int .i64 bY, .int .i64 cx, .int .i64 cy, .int .i64 at', .string ⟨mt.toArray⟩] from by rw [← hw1, ← hG]; exact Blk.new w _ _)
  obtain ⟨w2, hw2⟩ : ∃ W, w1.alloc (.cells #[.int .u64 0, .int .u64 0, .int .u64 0, .int .u64 0, .int .u64 0, .int .u64 0, .int .u64 0, .int .u64 0, .int .u64 0, .int .u64 0, .int .u64 0, .bool false, .int .i64 0, .int .i64 0, .int .i64 0, .int .i64 0, .int .i64 0, .int .i64 0, .int .i64 0, .int .i64 0, .int .i64 0, .int .i64 0, .int .i64 0, .int .i64 0] 30) = W := ⟨_, rfl⟩
  have hs2 : w2.heap.size = G + 1 + 1 := by rw [← hw2]; simp [hs1]
  have k2 := hide (show Blk w2 (G + 1) 30 #[.int .u64 0, .int .u64 0, .int .u64 0, .int .u64 0, .int .u64 0, .int .u64 0, .int .u64 0, .int .u64 0, .int .u64 0, .int .u64 0, .int .u64 0, .bool false, .int .i64 0, .int .i64 0, .int .i64 0, .int .i64 0, .int .i64 0, .int .i64 0, .int .i64 0, .int .i64 0, .int .i64 0, .int .i64 0, .int .i64 0, .int .i64 0] from by rw [← hw2, ← hs1]; exact Blk.new w1 _ _)
  have k12 := hide (show Blk w2 G 61 #[.bool true, .int .i64 leaf, .int .i64 z0, .int .i64 z1, .int .i64 ax, .int .i64 ay, .int .i64 bx, .int .i64 bY, .int .i64 cx, .int .i64 cy, .int .i64 at', .string ⟨mt.toArray⟩] from by rw [← hw2]; exact k1.out.alloc _)
  have b2 := hide (show Below G w w2 from by rw [← hw2, ← hw1]; exact ((Below.refl G w).alloc (by omega) _).alloc (by simp; omega) _)
  have e0 : w2.cell? ⟨G, 0, none⟩ = some (.bool true) := k12.out.cell 0
  have e2 : w2.cell? ⟨G, 2, none⟩ = some (.int .i64 z0) := k12.out.cell 2
  have e3 : w2.cell? ⟨G, 3, none⟩ = some (.int .i64 z1) := k12.out.cell 3
  have e4 : w2.cell? ⟨G, 4, none⟩ = some (.int .i64 ax) := k12.out.cell 4
  have e5 : w2.cell? ⟨G, 5, none⟩ = some (.int .i64 ay) := k12.out.cell 5
  have e6 : w2.cell? ⟨G, 6, none⟩ = some (.int .i64 bx) := k12.out.cell 6
  have e7 : w2.cell? ⟨G, 7, none⟩ = some (.int .i64 bY) := k12.out.cell 7
  have e8 : w2.cell? ⟨G, 8, none⟩ = some (.int .i64 cx) := k12.out.cell 8
  have e9 : w2.cell? ⟨G, 9, none⟩ = some (.int .i64 cy) := k12.out.cell 9
  have e10 : w2.cell? ⟨G, 10, none⟩ = some (.int .i64 at') := k12.out.cell 10
  obtain ⟨w3, hw3⟩ : ∃ W, w2.alloc (.cells #[.int .u64 0, .int .u64 0, .int .u64 0, .int .u64 0, .int .u64 0, .int .u64 0, .int .u64 0, .int .u64 0, .int .u64 0, .int .u64 0, .int .u64 0, .bool false, .int .i64 0, .int .i64 0, .int .i64 0, .int .i64 0, .int .i64 0, .int .i64 0, .int .i64 0, .int .i64 0, .int .i64 0, .int .i64 0, .int .i64 0, .int .i64 0] 30) = W := ⟨_, rfl⟩
  have k3 := hide (show Blk w3 (G + 1 + 1) 30 #[.int .u64 0, .int .u64 0, .int .u64 0, .int .u64 0, .int .u64 0, .int .u64 0, .int .u64 0, .int .u64 0, .int .u64 0, .int .u64 0, .int .u64 0, .bool false, .int .i64 0, .int .i64 0, .int .i64 0, .int .i64 0, .int .i64 0, .int .i64 0, .int .i64 0, .int .i64 0, .int .i64 0, .int .i64 0, .int .i64 0, .int .i64 0] from by rw [← hw3, ← hs2]; exact Blk.new w2 _ _)
  have k23 := hide (show Blk w3 (G + 1) 30 #[.int .u64 0, .int .u64 0, .int .u64 0, .int .u64 0, .int .u64 0, .int .u64 0, .int .u64 0, .int .u64 0, .int .u64 0, .int .u64 0, .int .u64 0, .bool false, .int .i64 0, .int .i64 0, .int .i64 0, .int .i64 0, .int .i64 0, .int .i64 0, .int .i64 0, .int .i64 0, .int .i64 0, .int .i64 0, .int .i64 0, .int .i64 0] from by rw [← hw3]; exact k2.out.alloc _)
  have k13 := hide (show Blk w3 G 61 #[.bool true, .int .i64 leaf, .int .i64 z0, .int .i64 z1, .int .i64 ax, .int .i64 ay, .int .i64 bx, .int .i64 bY, .int .i64 cx, .int .i64 cy, .int .i64 at', .string ⟨mt.toArray⟩] from by rw [← hw3]; exact k12.out.alloc _)
  have b3 := hide (show Below G w w3 from by rw [← hw3]; exact b2.out.alloc (by omega) _)
  obtain ⟨w4, hw4⟩ : ∃ W, w3.setRow (G + 1 + 1) #[.int .u64 0, .int .u64 0, .int .u64 0, .int .u64 0, .int .u64 0, .int .u64 0, .int .u64 0, .int .u64 0, .int .u64 0, .int .u64 0, .int .u64 0, .bool true, .int .i64 1, .int .i64 1, .int .i64 1, .int .i64 z0, .int .i64 z1, .int .i64 ax, .int .i64 ay, .int .i64 bx, .int .i64 bY, .int .i64 cx, .int .i64 cy, .int .i64 at'] = W := ⟨_, rfl⟩
  have k4 := hide (show Blk w4 (G + 1 + 1) 30 #[.int .u64 0, .int .u64 0, .int .u64 0, .int .u64 0, .int .u64 0, .int .u64 0, .int .u64 0, .int .u64 0, .int .u64 0, .int .u64 0, .int .u64 0, .bool true, .int .i64 1, .int .i64 1, .int .i64 1, .int .i64 z0, .int .i64 z1, .int .i64 ax, .int .i64 ay, .int .i64 bx, .int .i64 bY, .int .i64 cx, .int .i64 cy, .int .i64 at'] from by rw [← hw4]; exact k3.out.row _)
  have b4 := hide (show Below G w w4 from by rw [← hw4]; exact below_row b3.out (by omega) _)
  have k24 := hide (show Blk w4 (G + 1) 30 #[.int .u64 0, .int .u64 0, .int .u64 0, .int .u64 0, .int .u64 0, .int .u64 0, .int .u64 0, .int .u64 0, .int .u64 0, .int .u64 0, .int .u64 0, .bool false, .int .i64 0, .int .i64 0, .int .i64 0, .int .i64 0, .int .i64 0, .int .i64 0, .int .i64 0, .int .i64 0, .int .i64 0, .int .i64 0, .int .i64 0, .int .i64 0] from (setRow_other (by omega) (h := hw4) k23.out))
  have k14 := hide (show Blk w4 G 61 #[.bool true, .int .i64 leaf, .int .i64 z0, .int .i64 z1, .int .i64 ax, .int .i64 ay, .int .i64 bx, .int .i64 bY, .int .i64 cx, .int .i64 cy, .int .i64 at', .string ⟨mt.toArray⟩] from (setRow_other (by omega) (h := hw4) k13.out))
  have g0 : w4.cell? ⟨G, 0, none⟩ = some (.bool true) := k14.out.cell 0

  obtain ⟨w5, hw5⟩ : ∃ W, (w4.setCell ⟨G + 1 + 1, 12, none⟩ (.int .i64 2)).setCell ⟨G + 1 + 1, 13, none⟩ (.int .i64 2) = W := ⟨_, rfl⟩
  have k5 := hide (show Blk w5 (G + 1 + 1) 30 #[.int .u64 0, .int .u64 0, .int .u64 0, .int .u64 0, .int .u64 0, .int .u64 0, .int .u64 0, .int .u64 0, .int .u64 0, .int .u64 0, .int .u64 0, .bool true, .int .i64 2, .int .i64 2, .int .i64 1, .int .i64 z0, .int .i64 z1, .int .i64 ax, .int .i64 ay, .int .i64 bx, .int .i64 bY, .int .i64 cx, .int .i64 cy, .int .i64 at'] from by rw [← hw5]; exact (k4.out.set 12 _).set 13 _)
  have k25 := hide (show Blk w5 (G + 1) 30 #[.int .u64 0, .int .u64 0, .int .u64 0, .int .u64 0, .int .u64 0, .int .u64 0, .int .u64 0, .int .u64 0, .int .u64 0, .int .u64 0, .int .u64 0, .bool false, .int .i64 0, .int .i64 0, .int .i64 0, .int .i64 0, .int .i64 0, .int .i64 0, .int .i64 0, .int .i64 0, .int .i64 0, .int .i64 0, .int .i64 0, .int .i64 0] from by rw [← hw5]; exact (k24.out.far (p := ⟨G + 1 + 1, 12, none⟩) (by simp) _).far (p := ⟨G + 1 + 1, 13, none⟩) (by simp) _)
  have b5 := hide (show Below G w w5 from by rw [← hw5]; exact (b4.out.setCell (by simp; omega) _).setCell (by simp; omega) _)
  obtain ⟨w6, hw6⟩ : ∃ W, w5.setRow (G + 1) #[.int .u64 0, .int .u64 0, .int .u64 0, .int .u64 0, .int .u64 0, .int .u64 0, .int .u64 0, .int .u64 0, .int .u64 0, .int .u64 0, .int .u64 0, .bool true, .int .i64 2, .int .i64 2, .int .i64 1, .int .i64 z0, .int .i64 z1, .int .i64 ax, .int .i64 ay, .int .i64 bx, .int .i64 bY, .int .i64 cx, .int .i64 cy, .int .i64 at'] = W := ⟨_, rfl⟩
  have k6 := hide (show Blk w6 (G + 1) 30 #[.int .u64 0, .int .u64 0, .int .u64 0, .int .u64 0, .int .u64 0, .int .u64 0, .int .u64 0, .int .u64 0, .int .u64 0, .int .u64 0, .int .u64 0, .bool true, .int .i64 2, .int .i64 2, .int .i64 1, .int .i64 z0, .int .i64 z1, .int .i64 ax, .int .i64 ay, .int .i64 bx, .int .i64 bY, .int .i64 cx, .int .i64 cy, .int .i64 at'] from by rw [← hw6]; exact k25.out.row _)
  have b6 := hide (show Below G w w6 from by rw [← hw6]; exact below_row b5.out (by omega) _)
  have c12 : w4.cell? ⟨G + 1 + 1, 12, none⟩ = some (.int .i64 1) := k4.out.cell 12
  have c13 : w4.cell? ⟨G + 1 + 1, 13, none⟩ = some (.int .i64 1) := k4.out.cell 13
  have fr := k4.out.free
  rw [hG]
  clear k1 k13
  go_enter Tryz.func24, Tryz.ntmps24
  go_wp2_with (first
    | ((with_reducible refine wpList_store_row (o := ⟨none, .store 30 (.tmp 3) (.tmp 16), _, _, _, _⟩) rfl 30 (.tmp 3) (.tmp 16) rfl (G + 1 + 1) #[.int .u64 0, .int .u64 0, .int .u64 0, .int .u64 0, .int .u64 0, .int .u64 0, .int .u64 0, .int .u64 0, .int .u64 0, .int .u64 0, .int .u64 0, .bool true, .int .i64 1, .int .i64 1, .int .i64 1, .int .i64 z0, .int .i64 z1, .int .i64 ax, .int .i64 ay, .int .i64 bx, .int .i64 bY, .int .i64 cx, .int .i64 cy, .int .i64 at'] rfl rfl 30 _ k3.out.eq (e24info1 _ _ _ _ _ _ _ _ _) rfl (e24one1 _ _ _ _ _ _ _ _ _) ?_); rw [hw4])
    | (with_reducible refine wpList_load_row (o := ⟨some 21, .load 30 (.tmp 3), _, _, _, _⟩) rfl 30 (.tmp 3) rfl (G + 1 + 1) rfl 30 #[.int .u64 0, .int .u64 0, .int .u64 0, .int .u64 0, .int .u64 0, .int .u64 0, .int .u64 0, .int .u64 0, .int .u64 0, .int .u64 0, .int .u64 0, .bool true, .int .i64 2, .int .i64 2, .int .i64 1, .int .i64 z0, .int .i64 z1, .int .i64 ax, .int .i64 ay, .int .i64 bx, .int .i64 bY, .int .i64 cx, .int .i64 cy, .int .i64 at'] (0, 0) _ k5.out.eq Tryz.underlying30 rfl (e24info2 _ _ _ _ _ _ _ _ _) ?_)
    | ((with_reducible refine wpList_store_row (o := ⟨none, .store 30 (.tmp 2) (.tmp 21), _, _, _, _⟩) rfl 30 (.tmp 2) (.tmp 21) rfl (G + 1) #[.int .u64 0, .int .u64 0, .int .u64 0, .int .u64 0, .int .u64 0, .int .u64 0, .int .u64 0, .int .u64 0, .int .u64 0, .int .u64 0, .int .u64 0, .bool true, .int .i64 2, .int .i64 2, .int .i64 1, .int .i64 z0, .int .i64 z1, .int .i64 ax, .int .i64 ay, .int .i64 bx, .int .i64 bY, .int .i64 cx, .int .i64 cy, .int .i64 at'] rfl rfl 30 _ k25.out.eq (e24info2 _ _ _ _ _ _ _ _ _) rfl (e24one2 _ _ _ _ _ _ _ _ _) ?_); rw [hw6]))
  exact bodyPost_ret_by (results_cell_row rfl _ _ (G + 1) 30 #[.int .u64 0, .int .u64 0, .int .u64 0, .int .u64 0, .int .u64 0, .int .u64 0, .int .u64 0, .int .u64 0, .int .u64 0, .int .u64 0, .int .u64 0, .bool true, .int .i64 2, .int .i64 2, .int .i64 1, .int .i64 z0, .int .i64 z1, .int .i64 ax, .int .i64 ay, .int .i64 bx, .int .i64 bY, .int .i64 cx, .int .i64 cy, .int .i64 at'] (0, 0) _ rfl k6.out.eq Tryz.underlying30 rfl (e24info2 _ _ _ _ _ _ _ _ _)) rfl ⟨rfl, b6.out⟩

set_option maxRecDepth 100000 in
set_option maxHeartbeats 2000000 in
theorem rempty_true (leaf z0 z1 ax ay bx bY cx cy at' : Int) (mt : List UInt8) (w : World) : Calls Tryz.prog 25 #[.agg #[.bool true, .int .i64 leaf, .int .i64 z0, .int .i64 z1, .int .i64 ax, .int .i64 ay, .int .i64 bx, .int .i64 bY, .int .i64 cx, .int .i64 cy, .int .i64 at', .string ⟨mt.toArray⟩]] w fun e w' => e = .returned (.agg #[.int .u64 0, .int .u64 0, .int .u64 0, .int .u64 0, .int .u64 0, .int .u64 0, .int .u64 0, .int .u64 0, .int .u64 0, .int .u64 0, .int .u64 0, .bool true, .int .i64 2, .int .i64 2, .int .i64 1, .int .i64 z0, .int .i64 z1, .int .i64 ax, .int .i64 ay, .int .i64 bx, .int .i64 bY, .int .i64 cx, .int .i64 cy, .int .i64 at']) ∧ Below w.heap.size w w' := by
  obtain ⟨G, hG⟩ : ∃ G, w.heap.size = G := ⟨_, rfl⟩
  obtain ⟨w1, hw1⟩ : ∃ W, w.alloc (.cells #[.bool true, .int .i64 leaf, .int .i64 z0, .int .i64 z1, .int .i64 ax, .int .i64 ay, .int .i64 bx, .int .i64 bY, .int .i64 cx, .int .i64 cy, .int .i64 at', .string ⟨mt.toArray⟩] 61) = W := ⟨_, rfl⟩
  have hs1 : w1.heap.size = G + 1 := by rw [← hw1]; simp [hG]
  have k1 := hide (show Blk w1 G 61 #[.bool true, .int .i64 leaf, .int .i64 z0, .int .i64 z1, .int .i64 ax, .int .i64 ay, .int .i64 bx, .int .i64 bY, .int .i64 cx, .int .i64 cy, .int .i64 at', .string ⟨mt.toArray⟩] from by rw [← hw1, ← hG]; exact Blk.new w _ _)
  obtain ⟨w2, hw2⟩ : ∃ W, w1.alloc (.cells #[.int .u64 0, .int .u64 0, .int .u64 0, .int .u64 0, .int .u64 0, .int .u64 0, .int .u64 0, .int .u64 0, .int .u64 0, .int .u64 0, .int .u64 0, .bool false, .int .i64 0, .int .i64 0, .int .i64 0, .int .i64 0, .int .i64 0, .int .i64 0, .int .i64 0, .int .i64 0, .int .i64 0, .int .i64 0, .int .i64 0, .int .i64 0] 30) = W := ⟨_, rfl⟩
  have hs2 : w2.heap.size = G + 1 + 1 := by rw [← hw2]; simp [hs1]
  have k2 := hide (show Blk w2 (G + 1) 30 #[.int .u64 0, .int .u64 0, .int .u64 0, .int .u64 0, .int .u64 0, .int .u64 0, .int .u64 0, .int .u64 0, .int .u64 0, .int .u64 0, .int .u64 0, .bool false, .int .i64 0, .int .i64 0, .int .i64 0, .int .i64 0, .int .i64 0, .int .i64 0, .int .i64 0, .int .i64 0, .int .i64 0, .int .i64 0, .int .i64 0, .int .i64 0] from by rw [← hw2, ← hs1]; exact Blk.new w1 _ _)
  have k12 := hide (show Blk w2 G 61 #[.bool true, .int .i64 leaf, .int .i64 z0, .int .i64 z1, .int .i64 ax, .int .i64 ay, .int .i64 bx, .int .i64 bY, .int .i64 cx, .int .i64 cy, .int .i64 at', .string ⟨mt.toArray⟩] from by rw [← hw2]; exact k1.out.alloc _)
  have b2 := hide (show Below G w w2 from by rw [← hw2, ← hw1]; exact ((Below.refl G w).alloc (by omega) _).alloc (by simp; omega) _)
  have e0 : w2.cell? ⟨G, 0, none⟩ = some (.bool true) := k12.out.cell 0
  have e2 : w2.cell? ⟨G, 2, none⟩ = some (.int .i64 z0) := k12.out.cell 2
  have e3 : w2.cell? ⟨G, 3, none⟩ = some (.int .i64 z1) := k12.out.cell 3
  have e4 : w2.cell? ⟨G, 4, none⟩ = some (.int .i64 ax) := k12.out.cell 4
  have e5 : w2.cell? ⟨G, 5, none⟩ = some (.int .i64 ay) := k12.out.cell 5
  have e6 : w2.cell? ⟨G, 6, none⟩ = some (.int .i64 bx) := k12.out.cell 6
  have e7 : w2.cell? ⟨G, 7, none⟩ = some (.int .i64 bY) := k12.out.cell 7
  have e8 : w2.cell? ⟨G, 8, none⟩ = some (.int .i64 cx) := k12.out.cell 8
  have e9 : w2.cell? ⟨G, 9, none⟩ = some (.int .i64 cy) := k12.out.cell 9
  have e10 : w2.cell? ⟨G, 10, none⟩ = some (.int .i64 at') := k12.out.cell 10
  obtain ⟨w5, hw5⟩ : ∃ W, w2.setRow (G + 1) #[.int .u64 0, .int .u64 0, .int .u64 0, .int .u64 0, .int .u64 0, .int .u64 0, .int .u64 0, .int .u64 0, .int .u64 0, .int .u64 0, .int .u64 0, .bool true, .int .i64 2, .int .i64 2, .int .i64 1, .int .i64 z0, .int .i64 z1, .int .i64 ax, .int .i64 ay, .int .i64 bx, .int .i64 bY, .int .i64 cx, .int .i64 cy, .int .i64 at'] = W := ⟨_, rfl⟩
  have k5 := hide (show Blk w5 (G + 1) 30 #[.int .u64 0, .int .u64 0, .int .u64 0, .int .u64 0, .int .u64 0, .int .u64 0, .int .u64 0, .int .u64 0, .int .u64 0, .int .u64 0, .int .u64 0, .bool true, .int .i64 2, .int .i64 2, .int .i64 1, .int .i64 z0, .int .i64 z1, .int .i64 ax, .int .i64 ay, .int .i64 bx, .int .i64 bY, .int .i64 cx, .int .i64 cy, .int .i64 at'] from by rw [← hw5]; exact k2.out.row _)
  have b5 := hide (show Below G w w5 from by rw [← hw5]; exact below_row b2.out (by omega) _)
  rw [hG]
  clear k1
  go_enter Tryz.func25, Tryz.ntmps25
  go_wp2_with ((with_reducible refine wpList_store_row (o := ⟨none, .store 30 (.tmp 2) (.tmp 20), _, _, _, _⟩) rfl 30 (.tmp 2) (.tmp 20) rfl (G + 1) #[.int .u64 0, .int .u64 0, .int .u64 0, .int .u64 0, .int .u64 0, .int .u64 0, .int .u64 0, .int .u64 0, .int .u64 0, .int .u64 0, .int .u64 0, .bool true, .int .i64 2, .int .i64 2, .int .i64 1, .int .i64 z0, .int .i64 z1, .int .i64 ax, .int .i64 ay, .int .i64 bx, .int .i64 bY, .int .i64 cx, .int .i64 cy, .int .i64 at'] rfl rfl 30 _ k2.out.eq (e24info2 _ _ _ _ _ _ _ _ _) rfl (e24one2 _ _ _ _ _ _ _ _ _) ?_); rw [hw5])
  exact bodyPost_ret_by (results_cell_row rfl _ _ (G + 1) 30 #[.int .u64 0, .int .u64 0, .int .u64 0, .int .u64 0, .int .u64 0, .int .u64 0, .int .u64 0, .int .u64 0, .int .u64 0, .int .u64 0, .int .u64 0, .bool true, .int .i64 2, .int .i64 2, .int .i64 1, .int .i64 z0, .int .i64 z1, .int .i64 ax, .int .i64 ay, .int .i64 bx, .int .i64 bY, .int .i64 cx, .int .i64 cy, .int .i64 at'] (0, 0) _ rfl k5.out.eq Tryz.underlying30 rfl (e24info2 _ _ _ _ _ _ _ _ _)) rfl ⟨rfl, b5.out⟩

theorem pempty_any (q : Sp) (w : World) : Calls Tryz.prog 24 #[q.val] w fun e w' => e = .returned (.agg (emptyH q).cells) ∧ Below w.heap.size w w' := by
  obtain ⟨gz, leaf, z0, z1, ax, ay, bx, bY, cx, cy, at', mt⟩ := q
  cases gz with
  | false => exact pempty_false leaf z0 z1 ax ay bx bY cx cy at' mt w
  | true => exact pempty_true leaf z0 z1 ax ay bx bY cx cy at' mt w
theorem rempty_any (q : Sp) (w : World) : Calls Tryz.prog 25 #[q.val] w fun e w' => e = .returned (.agg (emptyH q).cells) ∧ Below w.heap.size w w' := by
  obtain ⟨gz, leaf, z0, z1, ax, ay, bx, bY, cx, cy, at', mt⟩ := q
  cases gz with
  | false => exact rempty_false leaf z0 z1 ax ay bx bY cx cy at' mt w
  | true => exact rempty_true leaf z0 z1 ax ay bx bY cx cy at' mt w

end Go.Proofs.YtaapjampmnanmaaGreat
