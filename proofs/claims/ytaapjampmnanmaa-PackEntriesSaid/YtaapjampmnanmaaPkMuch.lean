/- Layer 14 (pack): Much of the reference. The conditions: where the items lie; how long slices and strings can be. -/
import Derived.Test.YtaapjampmnanmaaPkItem
namespace Go.Proofs.Ytaapjampmnanmaa
open Go.RowKit
set_option linter.unusedVariables false
set_option linter.unusedSimpArgs false

/-- How an archive is to be built. -/
structure Sp where
  gz : Bool
  leaf : Int
  z0 : Int
  z1 : Int
  ax : Int
  ay : Int
  bx : Int
  bY : Int
  cx : Int
  cy : Int
  at' : Int
  mtx : List UInt8
def Sp.val (q : Sp) : Value := .agg #[.bool q.gz, .int .i64 q.leaf, .int .i64 q.z0, .int .i64 q.z1, .int .i64 q.ax, .int .i64 q.ay, .int .i64 q.bx, .int .i64 q.bY, .int .i64 q.cx, .int .i64 q.cy, .int .i64 q.at', .string ⟨q.mtx.toArray⟩]
theorem nsum_succ (l : List Im) (k : Nat) (hk : k < l.length) : ((l.take (k + 1)).map Im.n).sum = ((l.take k).map Im.n).sum + l[k].n := by
  rw [List.take_add_one, List.getElem?_eq_getElem hk, List.map_append, List.sum_append]
  simp
/-- What Much answers. -/
def MuchP (l : List Im) (M : Nat) (G : Nat) (w : World) (e : Ending) (w' : World) : Prop :=
  (∃ b : Bool, e = .returned (.bool b) ∧ (b = false → l.length ≤ 40 ∧ (M + (l.map Im.n).sum ≤ 3000 ∨ 1048576 < M ∨ ∃ m ∈ l, 1048576 < m.n))) ∧ Below G w w'
set_option maxRecDepth 100000 in
set_option maxHeartbeats 4000000 in
theorem much_any (A : Option Addr) (c B : Nat) (l : List Im) (q : Sp) (w : World) (hr : RdIm w B A l) (hB : B ≤ w.heap.size) (hn : l.length ≤ maxLen) (hm : ∀ m ∈ l, m.n ≤ maxLen) (hmt : q.mtx.length ≤ maxLen) :
    Calls Try.prog 5 #[.slice A l.length c, q.val] w (MuchP l q.mtx.length w.heap.size w) := by
  obtain ⟨n, hl⟩ : ∃ n, l.length = n := ⟨_, rfl⟩
  obtain ⟨gz, leaf, z0, z1, ax, ay, bx, bY, cx, cy, at', mt⟩ := q
  obtain ⟨M, hM⟩ : ∃ M, mt.length = M := ⟨_, rfl⟩
  obtain ⟨G, hG⟩ : ∃ G, w.heap.size = G := ⟨_, rfl⟩
  simp only at hmt
  rw [hM] at hmt
  unfold maxLen at hn hm hmt
  have hms : ((ByteArray.mk mt.toArray).size : Int) = (M : Int) := by rw [← hM]; rfl
  obtain ⟨w1, hw1⟩ : ∃ W, w.alloc (.cells #[.bool gz, .int .i64 leaf, .int .i64 z0, .int .i64 z1, .int .i64 ax, .int .i64 ay, .int .i64 bx, .int .i64 bY, .int .i64 cx, .int .i64 cy, .int .i64 at', .string ⟨mt.toArray⟩] 28) = W := ⟨_, rfl⟩
  have k1 := hide (show Blk w1 G 28 #[.bool gz, .int .i64 leaf, .int .i64 z0, .int .i64 z1, .int .i64 ax, .int .i64 ay, .int .i64 bx, .int .i64 bY, .int .i64 cx, .int .i64 cy, .int .i64 at', .string ⟨mt.toArray⟩] from by rw [← hw1, ← hG]; exact Blk.new w _ _)
  have b1 := hide (show Below G w w1 from by rw [← hw1, ← hG]; exact (Below.refl _ w).alloc (Nat.le_refl _) _)
  have e11 : w1.cell? ⟨G, 11, none⟩ = some (.string ⟨mt.toArray⟩) := k1.out.cell 11
  have hr1 := hide (hr.below (b1.out.mono (by omega)))
  obtain ⟨Big, hBg⟩ : ∃ Big : Prop, (1048576 < mt.length ∨ ∃ m ∈ l, 1048576 < m.n) = Big := ⟨_, rfl⟩
  have hMs := hide (show ¬ Big → M ≤ 1048576 ∧ ∀ m ∈ l, m.n ≤ 1048576 from fun h => by
    rw [← hBg] at h
    refine ⟨?_, fun m hm => ?_⟩
    · rcases Nat.lt_or_ge 1048576 mt.length with h1 | h1
      · exact absurd (.inl h1) h
      · omega
    · rcases Nat.lt_or_ge 1048576 m.n with h1 | h1
      · exact absurd (.inr ⟨m, hm, h1⟩) h
      · exact h1)
  have hend := hide (show ∀ T : Int, (¬ Big → T = ((M + ((l.take n).map Im.n).sum : Nat) : Int)) → T ≤ 3000 → n ≤ 40 → l.length ≤ 40 ∧ (mt.length + (l.map Im.n).sum ≤ 3000 ∨ 1048576 < mt.length ∨ ∃ m ∈ l, 1048576 < m.n) from fun T h1 h2 h3 => by
    refine ⟨by omega, ?_⟩
    by_cases hB : Big
    · rw [← hBg] at hB
      exact .inr hB
    · have h1 := h1 hB
      rw [List.take_of_length_le (by omega)] at h1
      left
      omega)
  have hns := hide (show ∀ k, (hk : k < l.length) → ((l.take (k + 1)).map Im.n).sum = ((l.take k).map Im.n).sum + l[k].n from nsum_succ l)
  clear hm hBg
  rw [hl, hG]
  show Calls _ _ #[.slice A n c, .agg #[.bool gz, .int .i64 leaf, .int .i64 z0, .int .i64 z1, .int .i64 ax, .int .i64 ay, .int .i64 bx, .int .i64 bY, .int .i64 cx, .int .i64 cy, .int .i64 at', .string ⟨mt.toArray⟩]] _ _
  simp only [← hl]
  replace hn := hide hn
  replace hmt := hide hmt
  rw [hl]
  replace hl := hide hl
  clear hr hB hM k1
  go_enter Try.func5, Try.ntmps5
  go_wp2
  go_loopw [5, 6] (fun s5 s6 wr => ∃ (k : Nat) (T : Int), k ≤ n ∧ k ≤ 40 ∧ s5 = .int .i64 T ∧ s6 = .int .i64 (k : Int) ∧ Hid (¬ Big → T = ((M + ((l.take k).map Im.n).sum : Nat) : Int) ∧ T ≤ ((k + 1) * 1048576 : Nat)) ∧ Hid (w1 = wr)) (fun _ s6 _ => 40 - (intOf s6).toNat)
  case atStart => exact ⟨0, M, Nat.zero_le _, by omega, by first | rfl | exact congrArg _ hms, rfl, hide (fun h => ⟨by simp, by have := (hMs.out h).1; omega⟩), hide rfl⟩
  case round =>
    obtain ⟨k, T, hk, hk40, rfl, rfl, hT, hw⟩ := hrel
    obtain rfl := hw.out
    by_cases hlt : k < n
    · by_cases h40 : k < 40
      · have hkl : k < l.length := by have := hl.out; omega
        have hkI : (k : Int) < (n : Int) := by omega
        have h4I : (k : Int) < 40 := by omega
        obtain ⟨b, o, rfl, _, _, _, _, e3⟩ := hr1.out k hkl
        have hmk := hide (fun h => (hMs.out h).2 _ (List.getElem_mem hkl))
        have hsu := hide (hns.out k hkl)
        generalize l[k] = m at *
        obtain ⟨mz, mx, my, mA, mn, mc, mb⟩ := m
        simp only at e3 hmk hsu
        have hkw : IntKind.i64.wrap ((k : Int) + 1) = ((k + 1 : Nat) : Int) := by rw [IntKind.wrap_i64]; omega
        obtain ⟨T2, hTw⟩ : ∃ x, IntKind.i64.wrap (T + (mn : Int)) = x := ⟨_, rfl⟩
        have hT2 := hide (show ¬ Big → T2 = ((M + ((l.take (k + 1)).map Im.n).sum : Nat) : Int) ∧ T2 ≤ ((k + 1 + 1) * 1048576 : Nat) from fun h => by
          have h1 := hT.out h
          have h2 := hmk.out h
          have h3 := hsu.out
          have : T2 = T + (mn : Int) := by rw [← hTw, IntKind.wrap_i64]; omega
          omega)
        clear hmk hsu
        by_cases h3 : T2 ≤ 3000
        · have hd3 : ¬ ((3000 : Int) < T2) := by omega
          go_wp2
          go_roundw
          case rel => exact ⟨k + 1, T2, by omega, by omega, rfl, by go_num, hT2, hide (by first | rfl | trivial)⟩
          case measure => simp [intOf] <;> omega
        · have hd3 : (3000 : Int) < T2 := by omega
          go_wp2
          go_ret
          exact ⟨⟨true, rfl, fun h => Bool.noConfusion h⟩, b1.out⟩
      · have h4I : ¬ ((k : Int) < 40) := by omega
        have hkI : (k : Int) < (n : Int) := by omega
        have hn4 : (40 : Int) < (n : Int) := by omega
        clear h40
        go_wp2
        go_ret
        exact ⟨⟨true, rfl, fun h => Bool.noConfusion h⟩, b1.out⟩
    · obtain rfl : k = n := by omega
      have hn4 : ¬ ((40 : Int) < (k : Int)) := by omega
      by_cases h3 : T ≤ 3000
      · have hd3 : ¬ ((3000 : Int) < T) := by omega
        go_wp2
        go_ret
        exact ⟨⟨false, rfl, fun _ => hend.out T (fun h => (hT.out h).1) h3 hk40⟩, b1.out⟩
      · have hd3 : (3000 : Int) < T := by omega
        go_wp2
        go_ret
        exact ⟨⟨true, rfl, fun h => Bool.noConfusion h⟩, b1.out⟩

end Go.Proofs.Ytaapjampmnanmaa
