/- Layer 14 (pack): items in the order of their numbers (pack.sorted), or the error. The conditions: where the items lie; at most 40 items, none of more than a mebibyte. -/
import Derived.Test.YtaapjampmnanmaaGreatPkPlain
import Derived.Test.YtaapjampmnanmaaGreatPkItem
import Derived.Test.YtaapjampmnanmaaGreatPkStab
import Derived.Test.YtaapjampmnanmaaGreatPkSwap
namespace Go.Proofs.YtaapjampmnanmaaGreat
open Go.RowKit
set_option linter.unusedVariables false
set_option linter.unusedSimpArgs false
structure SortE (l : List Im) (er : Nat) : Prop where
  bad : (∃ m ∈ l, ¬ m.ok) → er = 8
  form : (∀ m ∈ l, m.ok) → (l = [] ∨ (∃ m ∈ l, m.n = 0) ∨ ∃ (i j : Nat) (hi : i < l.length) (hj : j < l.length), i < j ∧ l[i].num = l[j].num) → er = 3
  good : (∀ m ∈ l, m.ok) → l ≠ [] → (∀ m ∈ l, m.n ≠ 0) → (∀ (i j : Nat) (hi : i < l.length) (hj : j < l.length), i < j → l[i].num ≠ l[j].num) → (∀ m ∈ l, m.n ≤ 1048576) → er = 0
  long : (∀ m ∈ l, m.ok) → l ≠ [] → (∀ m ∈ l, m.n ≠ 0) → (∀ (i j : Nat) (hi : i < l.length) (hj : j < l.length), i < j → l[i].num ≠ l[j].num) → (∃ m ∈ l, 1048576 < m.n) → er = 5
theorem imtake_snoc (l : List Im) {i : Nat} (hi : i < l.length) : l.take (i + 1) = l.take i ++ [l[i]] := by
  rw [List.take_add_one, List.getElem?_eq_getElem hi]
  rfl
theorem insertion_nil (w : World) : Calls Tryz.prog 159 #[.slice none 0 0, .int .i64 0, .int .i64 0, cmpF] w fun e w' => e = .returned (.tuple #[]) ∧ w = w' := by
  go_enter Tryz.func159, Tryz.ntmps159
  go_wp2
  go_loopw [8] (fun s8 wr => s8 = .int .i64 1 ∧ w = wr) (fun _ _ => 0)
  case atStart => exact ⟨rfl, rfl⟩
  case round =>
    obtain ⟨rfl, rfl⟩ := hrel
    go_wp2
    go_end0
    exact ⟨rfl, rfl⟩
theorem stable_nil (w : World) : Calls Tryz.prog 126 #[.slice none 0 0, .int .i64 0, cmpF] w fun e w' => e = .returned (.tuple #[]) ∧ w = w' := by
  go_enter Tryz.func126, Tryz.ntmps126
  go_wp2
  go_loopw [7, 8] (fun s7 s8 wr => s7 = .int .i64 0 ∧ s8 = .int .i64 20 ∧ w = wr) (fun _ _ _ => 0)
  case atStart => exact ⟨rfl, rfl, rfl⟩
  case round =>
    obtain ⟨rfl, rfl, rfl⟩ := hrel
    go_wp2_with (go_at_call 159; (with_reducible refine (insertion_nil _).mono ?_); rintro e w' ⟨rfl, rfl⟩)
    go_loopw [6] (fun s6 wr => s6 = .int .i64 20 ∧ w = wr) (fun _ _ => 0)
    case atStart => exact ⟨rfl, rfl⟩
    case round =>
      obtain ⟨rfl, rfl⟩ := hrel
      go_wp2
      go_end0
      exact ⟨rfl, rfl⟩
theorem sortstable_nil (w : World) : Calls Tryz.prog 95 #[.slice none 0 0, cmpF] w fun e w' => e = .returned (.tuple #[]) ∧ w = w' := by
  go_enter Tryz.func95, Tryz.ntmps95
  go_wp2_with (go_at_call 126; (with_reducible refine (stable_nil _).mono ?_); rintro e w' ⟨rfl, rfl⟩)
  go_end0
  exact ⟨rfl, rfl⟩
def SortP (G : Nat) (w : World) (l : List Im) (d : Im) (er : Nat) (e : Ending) (w' : World) : Prop :=
  Below G w w' ∧ ((er ≠ 0 ∧ e = .returned (.tuple #[.slice none 0 0, .int .i64 (er : Int)])) ∨
    (er = 0 ∧ ∃ g c' X, e = .returned (.tuple #[.slice (some ⟨g, 0, none⟩) l.length c', .int .i64 0]) ∧ G ≤ g ∧ Arr w' g l.length X ∧ St.Rch 0 l.length (itf l d) X ∧ St.Srt It.id 0 l.length X))
theorem SortP.bad {G : Nat} {w w' : World} {l : List Im} {d : Im} {er : Nat} (h : Below G w w') (he : er ≠ 0) : SortP G w l d er (.returned (.tuple #[.slice none 0 0, .int .i64 (er : Int)])) w' := ⟨h, .inl ⟨he, rfl⟩⟩
theorem SortP.good {G : Nat} {w w' : World} {l : List Im} {d : Im} {n g c' : Nat} {X : Nat → It} (hl : l.length = n) (h : Below G w w') (hg : G ≤ g) (hA : Arr w' g n X) (hR : St.Rch 0 n (itf l d) X) (hS : St.Srt It.id 0 n X) :
    SortP G w l d 0 (.returned (.tuple #[.slice (some ⟨g, 0, none⟩) n c', .int .i64 0])) w' := by
  subst hl
  exact ⟨h, .inr ⟨rfl, g, c', X, rfl, hg, hA, hR, hS⟩⟩
set_option maxRecDepth 100000 in
set_option maxHeartbeats 8000000 in
theorem sorted_any (A : Option Addr) (c : Nat) (l : List Im) (w : World) (hr : RdIm w w.heap.size A l) (hn : l.length ≤ 40) (d : Im) (er : Nat) (hE : SortE l er) :
    Calls Tryz.prog 76 #[.slice A l.length c] w (SortP w.heap.size w l d er) := by
  obtain ⟨G, hG⟩ : ∃ G, w.heap.size = G := ⟨_, rfl⟩
  have hct := hide (fun W (hb : Below G w W) => itcontains_any A c G l W (by rw [← hG]; exact hr.below (by rw [hG]; exact hb)) (by have := hb.size; omega) (by omega))
  obtain ⟨n, hl⟩ : ∃ n, l.length = n := ⟨_, rfl⟩
  rw [hG] at hr ⊢
  rw [hl] at hct ⊢
  have hnI : (n : Int) ≤ 40 := by omega
  replace hr := hide hr
  replace hE := hide hE
  replace hl := hide hl
  go_enter Tryz.func76, Tryz.ntmps76
  go_wp2
  go_loopw [4, 13] (fun s4 s13 wr => ∃ (i : Nat) (A1 : Option Addr) (c1 : Nat), i ≤ n ∧ s13 = .int .i64 i ∧ s4 = .slice A1 i c1 ∧ (i = 0 → A1 = none ∧ c1 = 0) ∧ Hid (∀ m ∈ l.take i, m.ok) ∧ Hid (OwR wr G 129 2 A1 i c1 ((l.take i).map Im.row)) ∧ Hid (Below G w wr)) (fun _ s13 _ => n - (intOf s13).toNat)
  case atStart => exact ⟨0, none, 0, Nat.zero_le _, rfl, rfl, (fun _ => ⟨rfl, rfl⟩), hide (fun m hm => by simp at hm), hide (OwR.nil _ _ _ _), hide (by rw [← hG]; exact Below.refl _ _)⟩
  case round =>
    obtain ⟨i, A1, c1, hin, rfl, rfl, hnil, hok, ho, hb⟩ := hrel
    by_cases hlt : i < n
    · have hil : i < l.length := by have := hl.out; omega
      have hiI : (i : Int) < n := by omega
      obtain ⟨b, o, rfl, hbG, e0, e1, e2, e3⟩ := (hr.out.below hb.out) i hil
      have hm := hide (imtake_snoc l hil)
      have hmem := hide (List.getElem_mem hil)
      obtain ⟨m, hmi⟩ : ∃ m, l[i] = m := ⟨_, rfl⟩
      rw [hmi] at e0 e1 e2 e3 hm hmem
      have hid := hide (fun W => imid_any m W)
      obtain ⟨w1, hw1⟩ : ∃ W, wr.alloc (.cells #[.int .i64 m.z, .int .i64 m.x, .int .i64 m.y, .slice m.A m.n m.c] 67) = W := ⟨_, rfl⟩
      obtain ⟨g1, hg1⟩ : ∃ g, wr.heap.size = g := ⟨_, rfl⟩
      have k1 := hide (show Blk w1 g1 67 #[.int .i64 m.z, .int .i64 m.x, .int .i64 m.y, .slice m.A m.n m.c] from by rw [← hw1, ← hg1]; exact Blk.new wr _ _)
      have hs1 := hide (show w1.heap.size = g1 + 1 from by rw [← hw1, ← hg1]; simp)
      have hGg := hide (show G ≤ g1 from by have := hb.out.size; omega)
      have b1 := hide (show Below G w w1 from by rw [← hw1]; exact hb.out.alloc (by have := hGg.out; omega) _)
      have o1 := hide (show OwR w1 G 129 2 A1 i c1 ((l.take i).map Im.row) from ho.out.below (by rw [← hw1]; exact (Below.refl _ wr).alloc (Nat.le_refl _) _))
      have d0 : w1.cell? ⟨g1, 0, none⟩ = some (.int .i64 m.z) := k1.out.cell 0
      have d1 : w1.cell? ⟨g1, 1, none⟩ = some (.int .i64 m.x) := k1.out.cell 1
      have d2 : w1.cell? ⟨g1, 2, none⟩ = some (.int .i64 m.y) := k1.out.cell 2
      clear hb ho
      go_wp2_with (first
        | (go_at_call 32; (with_reducible refine (hid.out _).mono ?_); rintro e w2 ⟨⟨hmo, rfl⟩ | ⟨hmo, rfl⟩, hb2⟩; all_goals (replace hmo := hide hmo; have k2 := hide (k1.out.below hb2 k1.out.lt); have o2 := hide (o1.out.below hb2); have b2 := hide (b1.out.trans (hb2.mono (by have := hs1.out; have := hGg.out; omega))); have hs2 := hide (show g1 + 1 ≤ w2.heap.size from by have := hb2.size; have := hs1.out; omega); have c3 : w2.cell? ⟨g1, 3, none⟩ = some (.slice m.A m.n m.c) := k2.out.cell 3; clear hb2))
        | (at_builtin; refine wpList_append_row w2 rfl (.tmp 26) (.tmp 31) rfl elem_num rfl o2.out m.row rfl (by intro u hu; simp [Im.row] at hu; rcases hu with rfl | rfl <;> rfl) 129 _ rfl (by omega) (by omega) (by have := hs2.out; have := hGg.out; omega) ?_; intro A3 c3' w3 o3 hc3 hn3; replace o3 := hide o3; replace hc3 := hide hc3))
      · have b3 := hide (b2.out.trans (hc3.out.to_below (B := G) (by have := hs2.out; have := hGg.out; omega) (fun k hk => (o2.out.blk_lt k hk).1)))
        go_roundw
        case rel => exact ⟨i + 1, A3, c3', by omega, by go_num, rfl, (fun h => by omega), hide (fun q hq => by
          rw [hm.out, List.mem_append, List.mem_singleton] at hq
          rcases hq with hq | rfl
          · exact hok.out q hq
          · exact hmo.out), hide (by rw [hm.out, List.map_append]; exact o3.out), b3⟩
        case measure => simp [intOf] <;> omega
      · obtain rfl := hE.out.bad ⟨m, hmem.out, hmo.out⟩
        go_ret2
        exact SortP.bad b2.out (by omega)
    · obtain rfl : i = n := by omega
      rw [show l.take i = l from List.take_of_length_le (by rw [hl.out]; exact Nat.le_refl _)] at hok ho
      rcases Nat.eq_zero_or_pos i with h0 | hpos
      · obtain ⟨rfl, rfl⟩ := hnil h0
        subst h0
        obtain rfl : l = [] := List.eq_nil_of_length_eq_zero hl.out
        obtain rfl := hE.out.form (fun m hm => by simp at hm) (.inl rfl)
        clear hnil ho hok hct hr hE
        go_wp2_with (go_at_call 95; (with_reducible refine (sortstable_nil _).mono ?_); rintro e w2 ⟨rfl, rfl⟩)
        go_loopw [38] (fun s38 wz => s38 = .int .i64 0 ∧ wr = wz) (fun _ _ => 0)
        case atStart => exact ⟨rfl, rfl⟩
        case round =>
          obtain ⟨rfl, rfl⟩ := hrel
          go_wp2
          go_ret2
          exact SortP.bad hb.out (by omega)
      · obtain ⟨g, rfl, hGg, hgw, hcc⟩ := ho.out.pos hpos
        have hA0 := hide (show Arr wr g i (itf l d) from by
          have := OwR.arr (l := l) (c := c1) (g := g) (base := G) (w := wr) (by rw [hl.out]; exact ho.out) d
          rw [hl.out] at this
          exact this)
        have hso := hide (sortstable_any g i c1 (itf l d) wr hA0.out (by omega))
        clear ho hA0
        go_wp2_with (go_at_call 95; (with_reducible refine hso.out.mono ?_); rintro e w2 ⟨rfl, X, hA, hR, hS, hC⟩; have b2 := hide (hb.out.trans (hC.to_below (B := G) (by have := hb.out.size; omega) (fun k hk => by rw [hk]; exact hGg))); clear hC; replace hA := hide hA; replace hR := hide hR; replace hS := hide hS)
        clear hso hb hnil
        have hokl := hok
        go_loopw [38] (fun s38 wz => ∃ k : Nat, k ≤ i ∧ s38 = .int .i64 k ∧ Hid (∀ j, j < k → (X j).n ≠ 0 ∧ (0 < j → (X (j - 1)).id ≠ (X j).id)) ∧ Hid (Arr wz g i X) ∧ Hid (Below G w wz)) (fun s38 _ => i - (intOf s38).toNat)
        case atStart => exact ⟨0, Nat.zero_le _, rfl, hide (fun j hj => absurd hj (Nat.not_lt_zero _)), hA, b2⟩
        case round =>
          clear hA b2
          obtain ⟨k, hki, rfl, hgd, hA, hb⟩ := hrel
          by_cases hlt2 : k < i
          · have hkI : (k : Int) < (i : Int) := by omega
            obtain ⟨e0, e1, _, _⟩ := hA.out k hlt2
            obtain ⟨g2, hg2⟩ : ∃ g, wr.heap.size = g := ⟨_, rfl⟩
            have hz0 := hide (show (X k).n = 0 → ∃ m ∈ l, m.n = 0 from fun h => by
              obtain ⟨m, hm, he⟩ := sort_mem (l := l) (d := d) (X := X) (by rw [hl.out]; exact hR.out) (k := k) (by rw [hl.out]; exact hlt2)
              exact ⟨m, hm, by rw [he] at h; exact h⟩)
            have hgt := hA.out.lt hlt2
            obtain ⟨x, hx⟩ : ∃ x, X k = x := ⟨_, rfl⟩
            rw [hx] at e0 e1 hz0
            obtain ⟨xi, xA, xn, xc, xb⟩ := x
            simp only at e0 e1 hz0
            obtain ⟨w1, hw1⟩ : ∃ W, wr.alloc (.cells #[.int .u64 (xi : Int), .slice xA xn xc] 129) = W := ⟨_, rfl⟩
            have k1 := hide (show Blk w1 g2 129 #[.int .u64 (xi : Int), .slice xA xn xc] from by rw [← hw1, ← hg2]; exact Blk.new wr _ _)
            have b01 := hide (show Below wr.heap.size wr w1 from by rw [← hw1]; exact (Below.refl _ wr).alloc (Nat.le_refl _) _)
            have hA1 := hide (show Arr w1 g i X from hA.out.below b01.out hgt)
            have b1 := hide (show Below G w w1 from hb.out.trans (b01.out.mono (by have := hb.out.size; omega)))
            have f0 : w1.cell? ⟨g2, 0, none⟩ = some (.int .u64 (xi : Int)) := k1.out.cell 0
            have f1 : w1.cell? ⟨g2, 1, none⟩ = some (.slice xA xn xc) := k1.out.cell 1
            clear hb hA b01 k1
            replace hx := hide hx
            rcases Nat.eq_zero_or_pos xn with rfl | hxn
            · obtain rfl := hE.out.form hokl.out (.inr (.inl (hz0.out rfl)))
              go_upto_region 14 with fail
              go_quiet (fail)
              go_wp2
              go_ret2
              exact SortP.bad (below_drewN b1.out _) (by omega)
            · have hxz : ((xn : Int) == 0) = false := by rw [beq_eq_false_iff_ne]; omega
              have hxn2 : xn ≠ 0 := by omega
              replace hxn2 := hide hxn2
              rcases Nat.eq_zero_or_pos k with rfl | hkp
              · go_upto_region 14 with fail
                go_quiet (fail)
                go_wp2
                go_roundw
                case rel => exact ⟨1, by omega, by go_num, hide (fun j hj => by
                  obtain rfl : j = 0 := by omega
                  exact ⟨by rw [hx.out]; exact hxn2.out, fun h => absurd h (Nat.lt_irrefl 0)⟩), hide (hA1.out.drewN _), hide (below_drewN b1.out _)⟩
                case measure => simp [intOf] <;> omega
              · have hkpI : (0 : Int) < (k : Int) := by omega
                obtain ⟨q, hq⟩ : ∃ q, k - 1 = q := ⟨_, rfl⟩
                have hqI : (k : Int) - 1 = (q : Int) := by omega
                have hqw : IntKind.i64.wrap (q : Int) = (q : Int) := by rw [IntKind.wrap_i64]; omega
                have hqi : (q : Int) < (i : Int) := by omega
                obtain ⟨y0, _, _, _⟩ := hA1.out q (by omega)
                have hdu := hide (show (X q).id = (X k).id → ∃ (i j : Nat) (hi : i < l.length) (hj : j < l.length), i < j ∧ l[i].num = l[j].num from fun h => sort_dup (d := d) (X := X) (by rw [hl.out]; exact hR.out) (q := q) (k := k) (by omega) (by rw [hl.out]; exact hlt2) h)
                rw [hx.out] at hdu
                obtain ⟨y, hy⟩ : ∃ y, (X q).id = y := ⟨_, rfl⟩
                rw [hy] at y0 hdu
                replace hy := hide hy
                replace hq := hide hq
                by_cases hyx : y = xi
                · subst hyx
                  obtain rfl := hE.out.form hokl.out (.inr (.inr (hdu.out rfl)))
                  go_upto_region 14 with fail
                  go_quiet (fail)
                  go_wp2
                  go_ret2
                  exact SortP.bad (below_drewN b1.out _) (by omega)
                · have hyI : ((y : Int) == (xi : Int)) = false := by rw [beq_eq_false_iff_ne]; omega
                  have hyN : (y == xi) = false := by rw [beq_eq_false_iff_ne]; exact hyx
                  replace hyx := hide hyx
                  go_upto_region 14 with fail
                  go_quiet (fail)
                  go_wp2
                  go_roundw
                  case rel => exact ⟨k + 1, by omega, by go_num, hide (fun j hj => by
                    rcases (show j < k ∨ j = k by omega) with h | rfl
                    · exact hgd.out j h
                    · exact ⟨by rw [hx.out]; exact hxn2.out, fun _ => by rw [hq.out, hy.out, hx.out]; exact hyx.out⟩), hide (hA1.out.drewN _), hide (below_drewN b1.out _)⟩
                  case measure => simp [intOf] <;> omega
          · obtain rfl : k = i := by omega
            have hco := hide (hct.out wr hb.out)
            have hlne : l ≠ [] := by intro h; have := hl.out; rw [h] at this; simp at this; omega
            have hz9 := hide (show ∀ m ∈ l, m.n ≠ 0 from fun m hm => by
              obtain ⟨j, hj, he⟩ := sort_has (d := d) (X := X) (by rw [hl.out]; exact hR.out) hm
              have := (hgd.out j (by rw [← hl.out]; exact hj)).1
              rw [he] at this
              exact this)
            have hap9 := hide (sort_apart (d := d) (X := X) (by rw [hl.out]; exact hR.out) (by rw [hl.out]; exact hS.out) (fun j hj h0 => (hgd.out j (by rw [← hl.out]; exact hj)).2 h0))
            have hkz : ((k : Int) == 0) = false := by rw [beq_eq_false_iff_ne]; omega
            have hkb : decide ((65536 : Int) < (k : Int)) = false := by simp; omega
            replace hlne := hide hlne
            clear hct hgd
            by_cases hbig : ∃ m ∈ l, 1048576 < m.n
            · obtain rfl := hE.out.long hokl.out hlne.out hz9.out hap9.out hbig
              replace hbig := hide hbig
              go_wp2_with (go_at_call 98; (with_reducible refine hco.out.mono ?_); rintro e w3 ⟨⟨v, rfl, hv⟩, hb3⟩; obtain rfl := hv.2 hbig.out; clear hv; replace hb3 := hide hb3)
              go_ret2
              exact SortP.bad (hb.out.trans (hb3.out.mono (by have := hb.out.size; omega))) (by omega)
            · obtain rfl : er = 0 := hE.out.good hokl.out hlne.out hz9.out hap9.out (fun m hm => by
                rcases Nat.lt_or_ge 1048576 m.n with h | h
                · exact absurd ⟨m, hm, h⟩ hbig
                · exact h)
              replace hbig := hide hbig
              go_wp2_with (go_at_call 98; (with_reducible refine hco.out.mono ?_); rintro e w3 ⟨⟨v, rfl, hv⟩, hb3⟩; obtain rfl : v = false := (Bool.eq_false_iff.2 (fun h => hbig.out (hv.1 h))); clear hv; replace hb3 := hide hb3)
              go_ret2
              have b9 := hb.out.trans (hb3.out.mono (by have := hb.out.size; omega))
              have hA9 := hA.out.below hb3.out (hA.out.lt hpos)
              exact SortP.good hl.out b9 hGg hA9 hR.out hS.out
end Go.Proofs.YtaapjampmnanmaaGreat
