/- Layer 14 (pack): the page's example: three items make two entries and two contents. There is no condition. -/
import Derived.Test.YtaapjampmnanmaaGreatPkEnts
import Derived.Test.YtaapjampmnanmaaGreatPkN
import Derived.Lib.SlBytesConst
namespace Go.Proofs.YtaapjampmnanmaaGreat
open Go.RowKit
set_option linter.unusedVariables false
set_option linter.unusedSimpArgs false
theorem k14code_any (n : Int) (w : World) : Calls Tryz.prog 23 #[.int .i64 n] w fun e w' => e = .returned (.int .i64 n) ∧ w = w' := by
  go_enter Tryz.func23, Tryz.ntmps23
  go_wp2
  go_ret
  exact ⟨rfl, rfl⟩
theorem ens3 (X : Nat → It) (h0 : (X 0).id = 0 ∧ (X 0).bs = [97]) (h1 : (X 1).id = 1 ∧ (X 1).bs = [97]) (h2 : (X 2).id = 2 ∧ (X 2).bs = [98]) : EnS.upto (pkd false) X 3 = ⟨[⟨0, 0, 1, 2⟩, ⟨2, 1, 1, 1⟩], [[97], [98]], [98]⟩ := by
  have e1 : EnS.upto (pkd false) X 1 = ⟨[⟨0, 0, 1, 1⟩], [[97]], [97]⟩ := by
    rw [EnS.upto, EnS.upto, EnS.step_add (by rintro ⟨_, e, he, _⟩; cases he), h0.1, h0.2]
    rfl
  have e2 : EnS.upto (pkd false) X 2 = ⟨[⟨0, 0, 1, 2⟩], [[97]], [97]⟩ := by
    rw [EnS.upto, e1, EnS.step_join (by rw [h1.1, h1.2]; exact ⟨rfl, _, rfl, rfl⟩)]
    rfl
  rw [EnS.upto, e2, EnS.step_add (by rw [h2.1, h2.2]; rintro ⟨h, _⟩; simp at h), h2.1, h2.2]
  rfl
def l3 (g : Nat) : List Im := [⟨0, 0, 0, some ⟨g, 0, none⟩, 1, 1, [97]⟩, ⟨1, 0, 0, some ⟨g + 1, 0, none⟩, 1, 1, [97]⟩, ⟨1, 0, 1, some ⟨g + 2, 0, none⟩, 1, 1, [98]⟩]
theorem l3_num (g : Nat) : (l3 g).map Im.num = [0, 1, 2] := by
  simp only [l3, List.map_cons, List.map_nil, Im.num]
  decide
theorem l3_ok (g : Nat) : ∀ m ∈ l3 g, m.ok := by
  intro m hm
  simp only [l3, List.mem_cons, List.not_mem_nil, or_false] at hm
  rcases hm with rfl | rfl | rfl <;> (unfold Im.ok; simp only; unfold IsPl; decide)
theorem l3_sort (g : Nat) : SortE (l3 g) 0 where
  bad := fun ⟨m, hm, h⟩ => absurd (l3_ok g m hm) h
  form := fun _ h => by
    rcases h with h | ⟨m, hm, h⟩ | ⟨i, j, hi, hj, hij, h⟩
    · cases h
    · simp only [l3, List.mem_cons, List.not_mem_nil, or_false] at hm
      rcases hm with rfl | rfl | rfl <;> cases h
    · have hN : ((l3 g).map Im.num).Nodup := by rw [l3_num]; decide
      exact absurd h (apart_of_nodup _ hN i j hi hj hij)
  good := fun _ _ _ _ _ => rfl
  long := fun _ _ _ _ ⟨m, hm, h⟩ => by
    simp only [l3, List.mem_cons, List.not_mem_nil, or_false] at hm
    rcases hm with rfl | rfl | rfl <;> simp at h
theorem l3_X (g : Nat) (d : Im) (X : Nat → It) (hR : St.Rch 0 (l3 g).length (itf (l3 g) d) X) (hS : St.Srt It.id 0 (l3 g).length X) : EnS.upto (pkd false) X 3 = ⟨[⟨0, 0, 1, 2⟩, ⟨2, 1, 1, 1⟩], [[97], [98]], [98]⟩ := by
  have hN : ((l3 g).map Im.num).Nodup := by rw [l3_num]; decide
  have hnum : Im.num ⟨0, 0, 0, some ⟨g, 0, none⟩, 1, 1, [97]⟩ = 0 ∧ Im.num ⟨1, 0, 0, some ⟨g + 1, 0, none⟩, 1, 1, [97]⟩ = 1 ∧ Im.num ⟨1, 0, 1, some ⟨g + 2, 0, none⟩, 1, 1, [98]⟩ = 2 := by
    have h := l3_num g
    simp only [l3, List.map_cons, List.map_nil] at h
    injection h with h1 h
    injection h with h2 h
    injection h with h3 h
    exact ⟨h1, h2, h3⟩
  have key : ∀ k, k < 3 → ((X k).id = 0 ∧ (X k).bs = [97]) ∨ ((X k).id = 1 ∧ (X k).bs = [97]) ∨ ((X k).id = 2 ∧ (X k).bs = [98]) := by
    intro k hk
    obtain ⟨m, hm, he⟩ := sort_mem hR (k := k) hk
    rw [he]
    simp only [l3, List.mem_cons, List.not_mem_nil, or_false] at hm
    rcases hm with rfl | rfl | rfl
    · exact .inl ⟨hnum.1, rfl⟩
    · exact .inr (.inl ⟨hnum.2.1, rfl⟩)
    · exact .inr (.inr ⟨hnum.2.2, rfl⟩)
  have s01 := sort_strict hR hS hN (i := 0) (j := 1) (by omega) (by show 1 < 3; omega)
  have s12 := sort_strict hR hS hN (i := 1) (j := 2) (by omega) (by show 2 < 3; omega)
  have k0 := key 0 (by omega)
  have k1 := key 1 (by omega)
  have k2 := key 2 (by omega)
  refine ens3 X ?_ ?_ ?_
  · rcases k0 with h | h | h
    · exact h
    · rcases k1 with h' | h' | h' <;> rcases k2 with h'' | h'' | h'' <;> omega
    · rcases k1 with h' | h' | h' <;> omega
  · rcases k1 with h | h | h
    · omega
    · exact h
    · rcases k2 with h' | h' | h' <;> omega
  · rcases k2 with h | h | h
    · omega
    · rcases k1 with h' | h' | h' <;> rcases k0 with h'' | h'' | h'' <;> omega
    · exact h
def iv3 (g : Nat) : Value := .slice (some ⟨g, 0, none⟩) 1 1
theorem live_entries (G : Nat) (w0 w1 w2 w3 w4 : World) (hG : w0.heap.size = G) (h1 : w0.alloc (.cells #[.int .u8 97] 5 (1, 2)) = w1) (h2 : w1.alloc (.cells #[.int .u8 97] 5 (1, 2)) = w2) (h3 : w2.alloc (.cells #[.int .u8 98] 5 (1, 2)) = w3)
    (h4 : w3.alloc (.cells #[.int .i64 0, .int .i64 0, .int .i64 0, iv3 G, .int .i64 1, .int .i64 0, .int .i64 0, iv3 (G + 1), .int .i64 1, .int .i64 0, .int .i64 1, iv3 (G + 2)] 67) = w4) :
    Calls Tryz.prog 39 #[.slice (some ⟨G + 3, 0, none⟩) 3 3, .bool false] w4 fun e w' => ∃ g9 c9 A10 c10, e = .returned (.tuple #[.slice (some ⟨g9, 0, none⟩) 2 c9, .slice A10 2 c10, .int .i64 0]) ∧
      w'.cell? ⟨g9, 3, none⟩ = some (.int .u64 2) ∧ w'.cell? ⟨g9, 4, none⟩ = some (.int .u64 2) ∧ w'.cell? ⟨g9, 5, none⟩ = some (.int .u64 1) ∧ Below G w0 w' := by
  have z1 : w1.heap.size = G + 1 := by rw [← h1]; simp [hG]
  have z2 : w2.heap.size = G + 2 := by rw [← h2]; simp [z1]
  have z3 : w3.heap.size = G + 3 := by rw [← h3]; simp [z2]
  have z4 : w4.heap.size = G + 4 := by rw [← h4]; simp [z3]
  have b1 : Below w0.heap.size w0 w1 := by rw [← h1]; exact (Below.refl _ w0).alloc (Nat.le_refl _) _
  have b2 : Below w1.heap.size w1 w2 := by rw [← h2]; exact (Below.refl _ w1).alloc (Nat.le_refl _) _
  have b3 : Below w2.heap.size w2 w3 := by rw [← h3]; exact (Below.refl _ w2).alloc (Nat.le_refl _) _
  have b4 : Below w3.heap.size w3 w4 := by rw [← h4]; exact (Below.refl _ w3).alloc (Nat.le_refl _) _
  have r1 : Rd w1 w1.heap.size (some ⟨G, 0, none⟩) 1 ([97].map bv) := by rw [← h1, ← hG]; simp; exact Rd.new w0 #[.int .u8 97] 5 (1, 2)
  have r2 : Rd w2 w2.heap.size (some ⟨G + 1, 0, none⟩) 1 ([97].map bv) := by rw [← h2, ← z1]; simp; exact Rd.new w1 #[.int .u8 97] 5 (1, 2)
  have r3 : Rd w3 w3.heap.size (some ⟨G + 2, 0, none⟩) 1 ([98].map bv) := by rw [← h3, ← z2]; simp; exact Rd.new w2 #[.int .u8 98] 5 (1, 2)
  have q1 := (((r1.below b2).mono b2.size).below b3 |>.mono b3.size).below b4 |>.mono b4.size
  have q2 := ((r2.below b3).mono b3.size).below b4 |>.mono b4.size
  have q3 := (r3.below b4).mono b4.size
  have k4 : Blk w4 (G + 3) 67 #[.int .i64 0, .int .i64 0, .int .i64 0, iv3 G, .int .i64 1, .int .i64 0, .int .i64 0, iv3 (G + 1), .int .i64 1, .int .i64 0, .int .i64 1, iv3 (G + 2)] := by rw [← h4, ← z3]; exact Blk.new w3 _ _
  have hr : RdIm w4 w4.heap.size (some ⟨G + 3, 0, none⟩) (l3 G) := by
    intro j hj
    refine ⟨G + 3, 0, rfl, by omega, ?_⟩
    match j, hj with
    | 0, _ => exact ⟨k4.cell 0, k4.cell 1, k4.cell 2, k4.cell 3⟩
    | 1, _ => exact ⟨k4.cell 4, k4.cell 5, k4.cell 6, k4.cell 7⟩
    | 2, _ => exact ⟨k4.cell 8, k4.cell 9, k4.cell 10, k4.cell 11⟩
    | j + 3, hj => simp [l3] at hj; omega
  have hby : ImBy w4 w4.heap.size (l3 G) := by
    intro m hm
    simp only [l3, List.mem_cons, List.not_mem_nil, or_false] at hm
    rcases hm with rfl | rfl | rfl
    · exact ⟨q1, Nat.le_refl _, by simp⟩
    · exact ⟨q2, Nat.le_refl _, by simp⟩
    · exact ⟨q3, Nat.le_refl _, by simp⟩
  refine (entries_any (some ⟨G + 3, 0, none⟩) 3 (l3 G) false w4 hr (by simp [l3]) ⟨0, 0, 0, none, 0, 0, []⟩ 0 (l3_sort G) (fun _ => hby) (by decide)).mono ?_
  rintro e w' ⟨hb, ⟨h, _⟩ | ⟨_, X, A9, c9, A10, c10, vs, hR, hS, rfl, ho, hrow, hbt⟩⟩
  · exact absurd rfl h
  · have hX := l3_X G _ X hR hS
    have hl : (l3 G).length = 3 := rfl
    rw [hl, hX] at ho hbt ⊢
    have hv : vs.length = 2 := hbt.1
    obtain ⟨g9, rfl, _, _⟩ := ho.pos (by decide)
    obtain ⟨b', o', hA, _, x0, x1, x2, x3⟩ := ho.rd 0 (by decide)
    cases hA
    obtain ⟨b', o', hA, _, y0, y1, y2, y3⟩ := ho.rd 1 (by decide)
    cases hA
    refine ⟨g9, c9, A10, c10, by rw [hv]; rfl, x3, y0, y1, ?_⟩
    have hb' : Below G w4 w' := hb.mono (by omega)
    exact ((b1.mono (by omega)).trans (b2.mono (by omega))).trans ((b3.mono (by omega)).trans ((b4.mono (by omega)).trans hb'))
set_option maxRecDepth 100000 in
set_option maxHeartbeats 4000000 in
theorem k14live_any (w : World) : Calls Tryz.prog 20 #[] w fun e w' => e = .returned (.bool true) ∧ Below w.heap.size w w' := by
  obtain ⟨G, hG⟩ : ∃ G, w.heap.size = G := ⟨_, rfl⟩
  obtain ⟨w1, h1⟩ : ∃ W, w.alloc (.cells #[.int .u8 97] 5 (1, 2)) = W := ⟨_, rfl⟩
  obtain ⟨w2, h2⟩ : ∃ W, w1.alloc (.cells #[.int .u8 97] 5 (1, 2)) = W := ⟨_, rfl⟩
  obtain ⟨w3, h3⟩ : ∃ W, w2.alloc (.cells #[.int .u8 98] 5 (1, 2)) = W := ⟨_, rfl⟩
  obtain ⟨w4, h4⟩ : ∃ W, w3.alloc (.cells #[.int .i64 0, .int .i64 0, .int .i64 0, .slice (some ⟨G, 0, none⟩) 1 1, .int .i64 1, .int .i64 0, .int .i64 0, .slice (some ⟨G + 1, 0, none⟩) 1 1, .int .i64 1, .int .i64 0, .int .i64 1, .slice (some ⟨G + 2, 0, none⟩) 1 1] 67) = W := ⟨_, rfl⟩
  have he := hide (live_entries G w w1 w2 w3 w4 hG h1 h2 h3 h4)
  have z1 : w1.heap.size = G + 1 := by rw [← h1]; simp [hG]
  have z2 : w2.heap.size = G + 2 := by rw [← h2]; simp [z1]
  have z3 : w3.heap.size = G + 3 := by rw [← h3]; simp [z2]
  have c1 := Go.Lib.run_convert_bytes_const w _ _ #[.int .u8 97] 1 1 Tryz.underlying22 Tryz.underlying5
  have c2 := Go.Lib.run_convert_bytes_const w1 _ _ #[.int .u8 97] 1 1 Tryz.underlying22 Tryz.underlying5
  have c3 := Go.Lib.run_convert_bytes_const w2 _ _ #[.int .u8 98] 1 1 Tryz.underlying22 Tryz.underlying5
  simp only [List.size_toArray, List.length_cons, List.length_nil, Nat.zero_add, Nat.reduceAdd, hG, z1, z2, h1, h2, h3] at c1 c2 c3
  rw [hG]
  go_enter Tryz.func20, Tryz.ntmps20
  go_wp2_with (first
    | (go_at_call 39; (with_reducible refine he.out.mono ?_); rintro e w5 ⟨g9, c9, A10, c10, rfl, x3, y0, y1, hb⟩; replace hb := hide hb)
    | (go_at_call 23; (with_reducible refine (k14code_any _ _).mono ?_); rintro e w' ⟨rfl, rfl⟩))
  go_ret
  exact ⟨rfl, hb.out⟩
end Go.Proofs.YtaapjampmnanmaaGreat
