/- Layer 12 (dir): the document's Get, of any bytes: a walk. The conditions: where the slice lies, and its length. -/
import Derived.Test.YtaapjampmnanmaaGreatDirGet
import Derived.BigRegion
import Derived.StillTailTactics
import Derived.Deep.DeepCutAuto
namespace Go.Proofs.YtaapjampmnanmaaGreat
open Go.RowKit

theorem elem_u64 : Elem1 Tryz.prog 123 23 (.int .u64 0) 8 := ⟨Tryz.underlying123, by kernel_rfl, rfl⟩
/-- The entries made so far. -/
def gpre (f : Nat → Nat) (n i : Nat) : List Ent := (List.range i).map (gent f n)
theorem gpre_len (f : Nat → Nat) (n i : Nat) : (gpre f n i).length = i := by simp [gpre]
theorem gpre_succ (f : Nat → Nat) (n i : Nat) : gpre f n (i + 1) = gpre f n i ++ [gent f n i] := by simp [gpre, List.range_succ]
theorem gpre_at (f : Nat → Nat) (n i j : Nat) (h : j < (gpre f n i).length) : (gpre f n i)[j] = gent f n j := by simp [gpre]

theorem rd_next {bs : List UInt8} {n p0 k p v nx : Nat} {V : List Nat} (h : rdTo bs n p0 k = (V, p, 0)) (hv : vr bs p = (v, nx, 0)) (hz : ¬ (k = 3 * n ∧ v = 0)) : rdTo bs n p0 (k + 1) = (V ++ [v], nx, 0) := by
  have hl := rd_len bs n p0 k (by rw [h])
  rw [h] at hl
  simp only at hl
  rw [rdTo, h, rdStep]
  simp only [ne_eq, not_true, if_false, hv, hl]
  rw [if_neg hz]
theorem Ok.back {bs : List UInt8} {n p0 k p : Nat} (h : Ok bs n p0 k p) (j : Nat) (hj : j ≤ k) : ∃ p', Ok bs n p0 j p' := by
  by_cases h0 : (rdTo bs n p0 j).2.2 = 0
  · refine ⟨(rdTo bs n p0 j).2.1, ?_⟩
    unfold Ok
    obtain ⟨⟨a, b, e⟩, hs⟩ : ∃ s, rdTo bs n p0 j = s := ⟨_, rfl⟩
    rw [hs] at h0 ⊢
    simp only at h0 ⊢
    rw [h0]
  · have := rd_stay bs n p0 j k hj h0
    unfold Ok at h
    rw [this] at h
    rw [h] at h0
    exact absurd rfl h0
theorem Ok.nz {bs : List UInt8} {n p0 p : Nat} (h : Ok bs n p0 (4 * n) p) (hn : 0 < n) : val bs n p0 (3 * n) ≠ 0 := by
  obtain ⟨p', h'⟩ := h.back (3 * n) (by omega)
  obtain ⟨⟨v, nx, er⟩, hv⟩ : ∃ s, vr bs p' = s := ⟨_, rfl⟩
  obtain ⟨h1, h2, h3⟩ := h'.next (by omega) hv
  have he := h.done.1
  by_cases h0 : er = 0
  · by_cases hz : v = 0
    · rw [h2 h0 ⟨rfl, hz⟩] at he
      exact absurd he (by decide)
    · rw [(h3 h0 (fun h => hz h.2)).2]
      exact hz
  · rw [h1 h0] at he
    exact absurd he h0

/-- While an entry is made in a block of its own. -/
structure Mk (w W : World) (G s : Nat) (A12 : Option Addr) (c12 : Nat) (es : List Ent) (A7 : Option Addr) (n4 c7 : Nat) (V : List Nat) (x : Ent) : Prop where
  k : Blk W s 36 #[.int .u64 (x.id : Int), .int .u64 (x.off : Int), .int .u64 (x.len : Int), .int .u64 (x.run : Int)]
  e : OwE W G A12 c12 es
  o : Ow W G 23 A7 n4 c7 (V.map qv)
  b : Below G w W
  g : G ≤ s
  n12 : blk A12 ≠ some s
  n7 : blk A7 ≠ some s
section
variable {w W wr : World} {G s : Nat} {A12 : Option Addr} {c12 : Nat} {es : List Ent} {A7 : Option Addr} {n4 c7 : Nat} {V : List Nat} {x : Ent}
theorem Mk.new (he : OwE wr G A12 c12 es) (ho : Ow wr G 23 A7 n4 c7 (V.map qv)) (hb : Below G w wr) (hG : G ≤ wr.heap.size) (x : Ent) :
    Mk w (wr.alloc (.cells #[.int .u64 (x.id : Int), .int .u64 (x.off : Int), .int .u64 (x.len : Int), .int .u64 (x.run : Int)] 36)).drew G wr.heap.size A12 c12 es A7 n4 c7 V x :=
  ⟨(Blk.new wr _ _).drew, he.chg ((Chg.refl (fun _ => False) wr).alloc _).drew (fun _ _ h => h), ho.chg ((Chg.refl (fun _ => False) wr).alloc _).drew (fun _ _ h => h),
    hb.trans (((Chg.refl (fun _ => False) wr).alloc _).drew.to_below hG (fun _ h => absurd h id)), hG, fun h => by have := (he.blk_lt _ h).2; omega, fun h => by have := (ho.blk_lt _ h).2; omega⟩
theorem Mk.set (h : Mk w W G s A12 c12 es A7 n4 c7 V x) (j y : Nat) (x' : Ent) (hx : (j = 0 ∧ x' = { x with id := y }) ∨ (j = 1 ∧ x' = { x with off := y })) :
    Mk w (W.setCell ⟨s, j, none⟩ (.int .u64 (y : Int))) G s A12 c12 es A7 n4 c7 V x' := by
  have hc : Chg (fun k => k = s) W (W.setCell ⟨s, j, none⟩ (.int .u64 (y : Int))) := (Chg.refl (fun k => k = s) W).setCell (p := ⟨s, j, none⟩) (.inr rfl) _
  refine ⟨?_, h.e.chg hc (fun g hg e => h.n12 (by rw [hg, e])), h.o.chg hc (fun g hg e => h.n7 (by rw [hg, e])), h.b.trans (hc.to_below (Nat.le_trans h.g (Nat.le_of_lt h.k.lt)) (by rintro i rfl; exact h.g)), h.g, h.n12, h.n7⟩
  rcases hx with ⟨rfl, rfl⟩ | ⟨rfl, rfl⟩
  · exact h.k.set 0 _
  · exact h.k.set 1 _
theorem Mk.drew (h : Mk w W G s A12 c12 es A7 n4 c7 V x) : Mk w W.drew G s A12 c12 es A7 n4 c7 V x :=
  ⟨h.k.drew, h.e.chg (Chg.refl (fun _ => False) _).drew (fun _ _ h => h), h.o.drew, h.b.trans ⟨rfl, rfl, rfl, Nat.le_refl _, fun _ _ => rfl⟩, h.g, h.n12, h.n7⟩
theorem Mk.cells (h : Mk w W G s A12 c12 es A7 n4 c7 V x) : W.cell? ⟨s, 0, none⟩ = some (.int .u64 (x.id : Int)) ∧ W.cell? ⟨s, 1, none⟩ = some (.int .u64 (x.off : Int)) ∧ W.cell? ⟨s, 2, none⟩ = some (.int .u64 (x.len : Int)) ∧ W.cell? ⟨s, 3, none⟩ = some (.int .u64 (x.run : Int)) :=
  ⟨h.k.cell 0, h.k.cell 1, h.k.cell 2, h.k.cell 3⟩
/-- After the append. -/
theorem Mk.push {w2 : World} (h : Mk w W G s A12 c12 es A7 n4 c7 V x) (hc : Chg (fun k => blk A12 = some k) W w2) : Ow w2 G 23 A7 n4 c7 (V.map qv) ∧ Below G w w2 :=
  ⟨h.o.chg hc (fun g hg hg' => h.e.ne_ow h.o (by decide) g hg' hg), h.b.trans (hc.to_below (Nat.le_trans h.g (Nat.le_of_lt h.k.lt)) (fun k hk => (h.e.blk_lt k hk).1))⟩
end

set_option maxRecDepth 100000 in
set_option maxHeartbeats 4000000 in
theorem rget_any (A : Option Addr) (c : Nat) (bs : List UInt8) (w : World) (hr : Rd w w.heap.size A bs.length (bs.map bv)) (hn : bs.length ≤ 1048576) (r : List Ent × Nat) (hR : GetR bs r) :
    Calls Tryz.prog 38 #[.slice A bs.length c] w fun e w' => ∃ A' c', e = .returned (.tuple #[.slice A' r.1.length c', .int .i64 (r.2 : Int)]) ∧ OwE w' w.heap.size A' c' r.1 ∧ Below w.heap.size w w' := by
  obtain ⟨n, p0, e0, hv0, hr1, hr2, hr3, hr4, hr5⟩ := hR
  have hvc := hide (show Calls Tryz.prog 75 #[.slice A bs.length c, .int .i64 0] w _ from rvarint_any A c bs 0 w w.heap.size hr (Nat.zero_le _) hn n p0 e0 hv0)
  have hrv := hide (fun W p v nx er (hb : Below w.heap.size w W) (hp : p ≤ bs.length) (h : vr bs p = (v, nx, er)) => rvarint_any A c bs p W w.heap.size (hr.below hb) hp hn v nx er h)
  have hnb := vr_big hv0
  have heb := vr_err hv0
  have hp0 : Hid (e0 = 0 → p0 ≤ bs.length) := hide (fun h => by subst h; exact (vr_use (Nat.zero_le _) hv0).2)
  replace hr3 := hide hr3
  replace hr4 := hide hr4
  replace hr5 := hide hr5
  have heI : (e0 : Int) ≤ 3 := by omega
  clear hv0 heb
  obtain ⟨L, hl⟩ : ∃ L, bs.length = L := ⟨_, rfl⟩
  obtain ⟨G, hG⟩ : ∃ G, w.heap.size = G := ⟨_, rfl⟩
  rw [hl] at hvc hrv
  rw [hG] at hrv
  rw [hG, hl]
  have hL20 := hide (show L ≤ 1048576 by omega)
  clear hr hn
  go_enter Tryz.func38, Tryz.ntmps38
  rcases (show (e0 ≠ 0) ∨ (e0 = 0 ∧ 65536 < n) ∨ (e0 = 0 ∧ n ≤ 65536) by omega) with h1 | ⟨h1, h2⟩ | ⟨h1, h2⟩
  · have hb1 : ((e0 : Int) == 0) = false := by simp; omega
    have hb2 : (e0 == 0) = false := by simp; omega
    have hr := hr1 h1
    subst hr
    clear hr1 hr2 hnb h1
    go_wp2_with (go_at_call 75; (with_reducible refine hvc.out.mono ?_); rintro e w' ⟨rfl, rfl⟩)
    go_ret2
    exact ⟨none, 0, rfl, OwE.nil _ _, by rw [← hG]; exact Below.refl _ _⟩
  · have hnI : (65537 : Int) ≤ (n : Int) := by omega
    have hr := hr2 h1 h2
    subst hr
    subst h1
    clear hr1 hr2 hnb h2
    go_wp2_with (go_at_call 75; (with_reducible refine hvc.out.mono ?_); rintro e w' ⟨rfl, rfl⟩)
    go_ret2
    exact ⟨none, 0, rfl, OwE.nil _ _, by rw [← hG]; exact Below.refl _ _⟩
  · subst h1
    replace hr3 := hide (hr3.out rfl h2)
    replace hr4 := hide (hr4.out rfl h2)
    replace hr5 := hide (hr5.out rfl h2)
    replace hp0 := hp0.out rfl
    have hnI : (n : Int) ≤ 65536 := by omega
    have hwn : IntKind.i64.wrap (n : Int) = (n : Int) := by rw [IntKind.wrap_i64]; omega
    have hwn4 : IntKind.i64.wrap ((4 : Int) * (n : Int)) = ((4 * n : Nat) : Int) := by rw [IntKind.wrap_i64]; omega
    have hwn3 : IntKind.i64.wrap ((3 : Int) * (n : Int)) = ((3 * n : Nat) : Int) := by rw [IntKind.wrap_i64]; omega
    obtain ⟨n4, hn4⟩ : ∃ n4, 4 * n = n4 := ⟨_, rfl⟩
    obtain ⟨n3, hn3⟩ : ∃ n3, 3 * n = n3 := ⟨_, rfl⟩
    rw [hl] at hp0
    rw [hn4] at hwn4
    rw [hn3] at hwn3
    have hn4I : (n4 : Int) ≤ 262144 := by omega
    have hq4 : (4 : Int) * (n : Int) = (n4 : Int) := by omega
    have hq3 : (3 : Int) * (n : Int) = (n3 : Int) := by omega
    replace h2 := hide h2
    replace hn4 := hide hn4
    replace hn3 := hide hn3
    replace hp0 := hide hp0
    clear hr1 hr2 hnb heI
    go_wp2_with (go_at_call 75; (with_reducible refine hvc.out.mono ?_); rintro e w' ⟨rfl, rfl⟩)
    go_loopw [5, 7, 8] (fun s5 s7 s8 wr => ∃ (k p : Nat) (A7 : Option Addr) (c7 : Nat) (V : List Nat), k ≤ n4 ∧ p ≤ 1048577 ∧ s5 = .int .i64 (p : Int) ∧ s7 = .slice A7 k c7 ∧ s8 = .int .i64 (k : Int) ∧ Hid (Ow wr G 23 A7 k c7 (V.map qv)) ∧ Hid (rdTo bs n p0 k = (V, p, 0)) ∧ Hid (Below G w wr)) (fun _ _ s8 _ => n4 - (intOf s8).toNat)
    case atStart => exact ⟨0, p0, none, 0, [], by omega, by have := hL20.out; have := hp0.out; omega, rfl, rfl, rfl, hide (Ow.nil _ _ _), hide rfl, hide (Below.refl _ _)⟩
    case round =>
      obtain ⟨k, p, A7, c7, V, hk, hp, rfl, rfl, rfl, ho, hok, hb⟩ := hrel
      have hOk := hide (show Ok bs n p0 k p by unfold Ok; rw [hok.out])
      have hpL := hide (hOk.out.bound (by rw [hl]; exact hp0.out)).2
      rw [hl] at hpL
      have hBs := hide (show G ≤ wr.heap.size by have := hb.out.size; rw [hG] at this; exact this)
      by_cases hlt : k < n4
      · have hkI : (k : Int) < (n4 : Int) := by omega
        obtain ⟨⟨v, nx, er⟩, hv⟩ : ∃ s, vr bs p = s := ⟨_, rfl⟩
        have hcall := hide (hrv.out wr p v nx er hb.out (by rw [← hl] at hpL; rw [← hl]; exact hpL.out) hv)
        have hvb := vr_big hv
        have hve := hide (vr_err hv)
        have hnext := hide (hOk.out.next (by have := hn4.out; omega) hv)
        replace hv := hide hv
        rcases (show (er ≠ 0) ∨ (er = 0 ∧ k = n3 ∧ v = 0) ∨ (er = 0 ∧ k = n3 ∧ v ≠ 0) ∨ (er = 0 ∧ k ≠ n3) by omega) with h3 | ⟨h3, h4, h5⟩ | ⟨h3, h4, h5⟩ | ⟨h3, h4⟩
        · have hef := hnext.out.1 h3
          have hr := hr3.out (by rw [hef]; exact h3)
          rw [hef] at hr
          subst hr
          have he3 : (er : Int) ≤ 3 := by have := hve.out.1; omega
          have hb1 : ((er : Int) == 0) = false := by simp; omega
          have hb2 : (er == 0) = false := by simp; omega
          clear h3 hef hvb
          go_wp2_with (go_at_call 75; (with_reducible refine hcall.out.mono ?_); rintro e w' ⟨rfl, rfl⟩)
          go_ret2
          exact ⟨none, 0, rfl, OwE.nil _ _, hb.out⟩
        · subst h3 h4 h5
          have hef := hnext.out.2.1 rfl ⟨hn3.out.symm, rfl⟩
          have hr := hr3.out (by rw [hef]; decide)
          rw [hef] at hr
          subst hr
          clear hef hvb
          go_wp2_with (go_at_call 75; (with_reducible refine hcall.out.mono ?_); rintro e w' ⟨rfl, rfl⟩)
          go_ret2
          exact ⟨none, 0, rfl, OwE.nil _ _, hb.out⟩
        · subst h3
          have hrn := hide (rd_next hok.out hv.out (fun h => h5 h.2))
          have hnx := hide (vr_use (by rw [hl]; exact hpL.out) hv.out).2
          rw [hl] at hnx
          have hnxb : nx ≤ 1048577 := by have := hnx.out; have := hL20.out; omega
          have hk63 := hide (show k + 1 ≤ maxLen by simp only [maxLen]; omega)
          have hk8 := hide (show (k + 1) * 8 ≤ 140737488355328 by omega)
          have hk1 : k + 1 ≤ n4 := by omega
          have hz1 : ((v : Int) == 0) = false := by simp; omega
          have hz2 : (v == 0) = false := by simp; omega
          have hkk : (k : Int) = (n3 : Int) := by omega
          clear h4 h5 hk hp
          go_wp2_with (first
            | (go_at_call 75; (with_reducible refine hcall.out.mono ?_); rintro e w' ⟨rfl, rfl⟩)
            | (at_builtin; refine wpList_append_one wr rfl (.tmp 52) (.tmp 54) rfl elem_u64 rfl ho.out (.int .u64 (v : Int)) 23 _ rfl rfl hk63.out hk8.out hBs.out ?_; intro A3 c3 w3 ho3 hg3 hn3; have hb3 := hide (hb.out.trans (hg3.to_below hBs.out (fun i hi => (ho.out.blk_lt i hi).1))); have ho3 := hide ho3; clear hg3 hn3))
          go_roundw
          case rel => exact ⟨k + 1, nx, A3, c3, V ++ [v], hk1, hnxb, rfl, rfl, by go_num, hide (by rw [List.map_append]; exact ho3.out), hrn, hb3⟩
          case measure => simp [intOf] <;> omega
        · subst h3
          have hrn := hide (rd_next hok.out hv.out (fun h => h4 (by rw [← hn3.out]; exact h.1)))
          have hnx := hide (vr_use (by rw [hl]; exact hpL.out) hv.out).2
          rw [hl] at hnx
          have hnxb : nx ≤ 1048577 := by have := hnx.out; have := hL20.out; omega
          have hk63 := hide (show k + 1 ≤ maxLen by simp only [maxLen]; omega)
          have hk8 := hide (show (k + 1) * 8 ≤ 140737488355328 by omega)
          have hk1 : k + 1 ≤ n4 := by omega
          have hz1 : ((k : Int) == (n3 : Int)) = false := by simp; omega
          have hz2 : (k == n3) = false := by simp; omega
          clear h4 hk hp
          go_wp2_with (first
            | (go_at_call 75; (with_reducible refine hcall.out.mono ?_); rintro e w' ⟨rfl, rfl⟩)
            | (at_builtin; refine wpList_append_one wr rfl (.tmp 52) (.tmp 54) rfl elem_u64 rfl ho.out (.int .u64 (v : Int)) 23 _ rfl rfl hk63.out hk8.out hBs.out ?_; intro A3 c3 w3 ho3 hg3 hn3; have hb3 := hide (hb.out.trans (hg3.to_below hBs.out (fun i hi => (ho.out.blk_lt i hi).1))); have ho3 := hide ho3; clear hg3 hn3))
          go_roundw
          case rel => exact ⟨k + 1, nx, A3, c3, V ++ [v], hk1, hnxb, rfl, rfl, by go_num, hide (by rw [List.map_append]; exact ho3.out), hrn, hb3⟩
          case measure => simp [intOf] <;> omega
      · have hkn : n4 = k := by omega
        clear hlt hk hp
        subst hkn
        have hOk4 : Ok bs n p0 (4 * n) p := by rw [hn4.out]; exact hOk.out
        obtain ⟨q1, q2⟩ := hOk4.done
        have hnz := hide hOk4.nz
        have hlen := hide (rd_len bs n p0 n4 (by rw [hok.out]))
        have hval : Hid (∀ j, j < n4 → (V.map qv)[j]? = some (qv (val bs n p0 j))) := hide (fun j hj => by
          have h1 := hlen.out
          rw [hok.out] at h1
          simp only at h1
          have hj' : j < V.length := by omega
          rw [List.getElem?_map, val, hn4.out, hok.out, List.getElem?_eq_getElem hj', List.getD_eq_getElem?_getD, List.getElem?_eq_getElem hj']
          rfl)
        replace hr4 := hide (hr4.out q1)
        replace hr5 := hide (hr5.out q1)
        rw [q2, hl] at hr4 hr5
        obtain ⟨f, hf⟩ : ∃ f, val bs n p0 = f := ⟨_, rfl⟩
        have hfb := hide (show ∀ j, f j ≤ 18446744073709551615 from fun j => by rw [← hf]; exact val_big bs n p0 j)
        rw [hf] at hr4 hr5 hnz hval
        replace hOk := hide hOk4
        clear hf hOk4 q1 q2 hr3 hlen
        go_wp2
        go_loopw [12, 13] (fun s12 s13 wr => ∃ (i : Nat) (A12 : Option Addr) (c12 : Nat), i ≤ n ∧ s12 = .slice A12 i c12 ∧ s13 = .int .i64 (i : Int) ∧ Hid (OwE wr G A12 c12 (gpre f n i)) ∧ Hid (Ow wr G 23 A7 n4 c7 (V.map qv)) ∧ Hid (Below G w wr)) (fun _ s13 _ => n - (intOf s13).toNat)
        case atStart => exact ⟨0, none, 0, by omega, rfl, rfl, hide (OwE.nil _ _), ho, hb⟩
        case round =>
          obtain ⟨i, A12, c12, hi, rfl, rfl, hoe, ho, hb⟩ := hrel
          have hBs := hide (show G ≤ wr.heap.size by have := hb.out.size; rw [hG] at this; exact this)
          have hln := hide (gpre_len f n i)
          have hi1 := hide (show (gpre f n i).length ≤ 1048576 by rw [gpre_len]; omega)
          by_cases hlt : i < n
          · have hiI : (i : Int) < (n : Int) := by omega
            obtain ⟨g7, rfl, hg7⟩ := ho.out.pos (by have := hn4.out; omega)
            obtain ⟨n2, hn2⟩ : ∃ j, 2 * n = j := ⟨_, rfl⟩
            have hwn2 : IntKind.i64.wrap ((2 : Int) * (n : Int)) = (n2 : Int) := by rw [IntKind.wrap_i64]; omega
            have hn2I : (2 : Int) * (n : Int) = (n2 : Int) := by omega
            obtain ⟨I, hI⟩ : ∃ I : Int, (i : Int) = I := ⟨_, rfl⟩
            obtain ⟨j1, hj1⟩ : ∃ j, n + i = j := ⟨_, rfl⟩
            obtain ⟨j2, hj2⟩ : ∃ j, n2 + i = j := ⟨_, rfl⟩
            obtain ⟨j3, hj3⟩ : ∃ j, n3 + i = j := ⟨_, rfl⟩
            have hI0 : 0 ≤ I := by omega
            have hIn : I < (n : Int) := by omega
            have hIt : I.toNat = i := by omega
            have hj1I : (n : Int) + I = (j1 : Int) := by omega
            have hj2I : (n2 : Int) + I = (j2 : Int) := by omega
            have hj3I : (n3 : Int) + I = (j3 : Int) := by omega
            have hm1 : (j1 : Int) < (n4 : Int) := by have := hn4.out; omega
            have hm2 : (j2 : Int) < (n4 : Int) := by have := hn4.out; omega
            have hm3 : (j3 : Int) < (n4 : Int) := by have := hn4.out; have := hn3.out; omega
            have hm0 : I < (n4 : Int) := by have := hn4.out; omega
            obtain ⟨x0, hx0⟩ : ∃ x, f i = x := ⟨_, rfl⟩
            obtain ⟨x1, hx1⟩ : ∃ x, f j1 = x := ⟨_, rfl⟩
            obtain ⟨x2, hx2⟩ : ∃ x, f j2 = x := ⟨_, rfl⟩
            obtain ⟨x3, hx3⟩ : ∃ x, f j3 = x := ⟨_, rfl⟩
            have hcl : Hid (∀ W, Ow W G 23 (some ⟨g7, 0, none⟩) n4 c7 (V.map qv) → ∀ j x, j < n4 → f j = x → W.cell? ⟨g7, j, none⟩ = some (.int .u64 (x : Int))) := hide (fun W h j x hj hx => by
              have := h.cells (g := g7) rfl _ _ (hval.out j hj)
              rw [hx, Addr.add_mid, Nat.zero_add] at this
              exact this)
            have d0 := hcl.out _ ho.out i x0 (by omega) hx0
            have d1 := hcl.out _ ho.out j1 x1 (by omega) hx1
            have d2 := hcl.out _ ho.out j2 x2 (by omega) hx2
            have d3 := hcl.out _ ho.out j3 x3 (by omega) hx3
            have hj34 := hide (show j3 < n4 by omega)
            have hx3b : x3 ≤ 18446744073709551615 := by rw [← hx3]; exact hfb.out _
            obtain ⟨z, hz⟩ : ∃ z, (x3 + 18446744073709551615) % 18446744073709551616 = z := ⟨_, rfl⟩
            have hzI : ((x3 : Int) - 1) % 18446744073709551616 = (z : Int) := by omega
            have hzW : IntKind.u64.wrap ((x3 : Int) - 1) = (z : Int) := by rw [IntKind.wrap_u64]; omega
            have hz1 := hide (show x3 ≠ 0 → z = x3 - 1 by omega)
            replace hz := hide hz
            rw [hI]
            clear hx3b
            replace hI := hide hI
            replace hj1 := hide hj1
            replace hj2 := hide hj2
            replace hj3 := hide hj3
            replace hx0 := hide hx0
            replace hx1 := hide hx1
            replace hx2 := hide hx2
            replace hx3 := hide hx3
            replace hn2 := hide hn2
            replace hi := hide hi
            clear hiI
            replace hlt := hide hlt
            go_upto_region 21 with fail
            go_cut [14] (fun s14 wx => ∃ S, s14 = .pointer (some ⟨S, 0, none⟩) ∧ Hid (Mk w wx G S A12 c12 (gpre f n i) (some ⟨g7, 0, none⟩) n4 c7 V ⟨x0, z, x2, x1⟩))
            case first =>
              go_region
              all_goals go_wp2
              all_goals go_meet
              all_goals exact ⟨_, rfl, hide (Mk.new hoe.out ho.out hb.out hBs.out ⟨x0, z, x2, x1⟩)⟩
            case rest =>
              obtain ⟨S, rfl, hm⟩ := hcut
              clear d0 d1 d2 d3 hzI hzW hj1I hj2I hm0 hm1 hm2 ho hb hBs
              iterate 2 go_step
              go_cut [14] (fun s14 wx => s14 = .pointer (some ⟨S, 0, none⟩) ∧ Hid (Mk w wx G S A12 c12 (gpre f n i) (some ⟨g7, 0, none⟩) n4 c7 V (gent f n i)))
              case first =>
                rcases Nat.eq_zero_or_pos i with h6 | h6
                · have hI00 : I = 0 := by have := hI.out; omega
                  have hxe : Hid ((⟨x0, z, x2, x1⟩ : Ent) = gent f n i) := hide (by
                    have hj := hj3.out
                    have hj' := hj2.out
                    have hj'' := hj1.out
                    have hx := hx0.out
                    rw [h6, Nat.add_zero] at hj hj' hj''
                    rw [h6] at hx
                    have h1 : f n = x1 := by rw [hj'', hx1.out]
                    have h2 : f (2 * n) = x2 := by rw [hn2.out, hj', hx2.out]
                    have h3 : f (3 * n) = x3 := by rw [hn3.out, hj, hx3.out]
                    have h4 : x3 ≠ 0 := by rw [← h3]; exact hnz.out (by have := hlt.out; omega)
                    rw [hz1.out h4, h6, show gent f n 0 = ⟨f 0, f (3 * n) - 1, f (2 * n), f n⟩ from rfl, hx, h1, h2, h3])
                  clear h6 hIn hIt hI hm3 hj3I hI0
                  subst hI00
                  rw [hxe.out] at hm
                  go_wp2
                  go_meet
                  exact ⟨rfl, hm⟩
                · obtain ⟨q, hq⟩ : ∃ q, i = q + 1 := ⟨i - 1, by omega⟩
                  have hI1 : 0 < I := by have := hI.out; omega
                  clear hI0
                  have hIq : I - 1 = (q : Int) := by have := hI.out; omega
                  have hwq : IntKind.i64.wrap (I - 1) = (q : Int) := by rw [IntKind.wrap_i64]; omega
                  have hwq2 : IntKind.i64.wrap (q : Int) = (q : Int) := by rw [IntKind.wrap_i64]; omega
                  have hqi : (q : Int) < (i : Int) := by omega
                  have hqg : q < (gpre f n i).length := by rw [gpre_len]; omega
                  obtain ⟨g12, rfl, hg12⟩ := hoe.out.pos (by rw [gpre_len]; omega)
                  obtain ⟨pid, hpid⟩ : ∃ x, gid f q = x := ⟨_, rfl⟩
                  obtain ⟨pof, hpof⟩ : ∃ x, gof f n q = x := ⟨_, rfl⟩
                  obtain ⟨pln, hpln⟩ : ∃ x, f (2 * n + q) = x := ⟨_, rfl⟩
                  have hprv : Hid (∀ W, OwE W G (some ⟨g12, 0, none⟩) c12 (gpre f n i) → W.cell? ⟨g12, q * 4, none⟩ = some (.int .u64 (pid : Int)) ∧ W.cell? ⟨g12, q * 4 + 1, none⟩ = some (.int .u64 (pof : Int)) ∧ W.cell? ⟨g12, q * 4 + 2, none⟩ = some (.int .u64 (pln : Int))) := hide (fun W h => by
                    obtain ⟨b, o, hA, _, h0, h1, h2, _⟩ := h.rd q hqg
                    injection hA with hA
                    injection hA with e1 e2
                    subst e1 e2
                    rw [gpre_at, Nat.zero_add] at h0 h1 h2
                    simp only [gent, hpid, hpof, hpln] at h0 h1 h2
                    exact ⟨h0, h1, h2⟩)
                  obtain ⟨y, hy⟩ : ∃ y, (x0 + pid) % 18446744073709551616 = y := ⟨_, rfl⟩
                  have hyI : ((x0 : Int) + (pid : Int)) % 18446744073709551616 = (y : Int) := by omega
                  have hyW : IntKind.u64.wrap ((x0 : Int) + (pid : Int)) = (y : Int) := by rw [IntKind.wrap_u64]; omega
                  have hgx : ∀ z', z' = gof f n i → Hid ((⟨y, z', x2, x1⟩ : Ent) = gent f n i) := fun z' h => hide (by
                    rw [gent, ← h, hn2.out, hj2.out, hx2.out, hj1.out, hx1.out, hq, gid, ← hq, hx0.out, hpid, Nat.add_comm, hy])
                  replace hy := hide hy
                  by_cases h7 : x3 = 0
                  · have hz1 : ((x3 : Int) == 0) = true := by simp; omega
                    have hz2 : (x3 == 0) = true := by simp; omega
                    obtain ⟨u, hu⟩ : ∃ u, (pof + pln) % 18446744073709551616 = u := ⟨_, rfl⟩
                    have huI : ((pof : Int) + (pln : Int)) % 18446744073709551616 = (u : Int) := by omega
                    have huW : IntKind.u64.wrap ((pof : Int) + (pln : Int)) = (u : Int) := by rw [IntKind.wrap_u64]; omega
                    have hxe := hgx u (by rw [hq, gof, ← hq, hn3.out, hj3.out, hx3.out, if_pos h7, hpof, hpln, hu])
                    replace hu := hide hu
                    replace h7 := hide h7
                    replace hq := hide hq
                    clear hgx hpid hpof hpln h6 hqg
                    obtain ⟨e0, e1, e2⟩ := hprv.out _ hm.out.e
                    obtain ⟨d0, d1, d2, d3⟩ := hm.out.cells
                    simp only at d0 d1 d2 d3
                    generalize wc = W1 at *
                    go_upto_region 23 with fail
                    go_still_tail 10, (by kernel_rfl)
                    change wpList _ _ _ _ _ W1.drew
                    have hm1 := hide hm.out.drew
                    have hm2 := hide (hm.out.drew.set 0 y ⟨y, z, x2, x1⟩ (.inl ⟨rfl, rfl⟩))
                    have f0 := hm1.out.k.free 0
                    generalize W1.drew = W1' at *
                    clear d0 d1 d2 d3 e0 e1 e2
                    obtain ⟨d0, d1, d2, d3⟩ := hm1.out.cells
                    simp only at d0 d1 d2 d3
                    go_upto_region 24 with fail
                    clear d0 d1 d2 d3 f0
                    generalize W1'.setCell ⟨S, 0, none⟩ (Value.int IntKind.u64 (y : Int)) = W2 at *
                    have d7 := hcl.out _ hm2.out.o j3 x3 hj34.out hx3.out
                    obtain ⟨e0, e1, e2⟩ := hprv.out _ hm2.out.e
                    obtain ⟨d0, d1, d2, d3⟩ := hm2.out.cells
                    simp only at d0 d1 d2 d3
                    go_upto_region 25 with fail
                    go_still_tail 14, (by kernel_rfl)
                    change wpList _ _ _ _ _ W2.drew
                    have hm2' := hide hm2.out.drew
                    have hm3 := hide (hm2.out.drew.set 1 u ⟨y, u, x2, x1⟩ (.inr ⟨rfl, rfl⟩))
                    have f1 := hm2'.out.k.free 1
                    generalize W2.drew = W2' at *
                    clear d0 d1 d2 d3 e0 e1 e2 d7
                    obtain ⟨d0, d1, d2, d3⟩ := hm2'.out.cells
                    simp only at d0 d1 d2 d3
                    rw [hxe.out] at hm3
                    go_wp2
                    go_meet
                    exact ⟨rfl, hm3⟩
                  · have hxe := hgx z (by rw [hq, gof, ← hq, hn3.out, hj3.out, hx3.out, if_neg h7, ← hz1.out h7])
                    have hz1 : ((x3 : Int) == 0) = false := by simp; omega
                    have hz2 : (x3 == 0) = false := by simp; omega
                    replace hq := hide hq
                    clear hgx hpid hpof hpln h7 h6 hqg
                    obtain ⟨e0, e1, e2⟩ := hprv.out _ hm.out.e
                    obtain ⟨d0, d1, d2, d3⟩ := hm.out.cells
                    simp only at d0 d1 d2 d3
                    generalize wc = W1 at *
                    go_upto_region 23 with fail
                    go_still_tail 10, (by kernel_rfl)
                    change wpList _ _ _ _ _ W1.drew
                    have hm1 := hide hm.out.drew
                    have hm2 := hide (hm.out.drew.set 0 y ⟨y, z, x2, x1⟩ (.inl ⟨rfl, rfl⟩))
                    have f0 := hm1.out.k.free 0
                    generalize W1.drew = W1' at *
                    clear d0 d1 d2 d3 e0 e1 e2
                    obtain ⟨d0, d1, d2, d3⟩ := hm1.out.cells
                    simp only at d0 d1 d2 d3
                    go_upto_region 24 with fail
                    clear d0 d1 d2 d3 f0
                    generalize W1'.setCell ⟨S, 0, none⟩ (Value.int IntKind.u64 (y : Int)) = W2 at *
                    have d7 := hcl.out _ hm2.out.o j3 x3 hj34.out hx3.out
                    rw [hxe.out] at hm2
                    go_wp2
                    go_meet
                    exact ⟨rfl, hm2⟩
              case rest =>
                obtain ⟨rfl, hm⟩ := hcut
                obtain ⟨xe, hxe⟩ : ∃ xe, gent f n i = xe := ⟨_, rfl⟩
                rw [hxe] at hm
                obtain ⟨y0, y1, y2, y3⟩ := xe
                replace hxe := hide hxe
                obtain ⟨d0, d1, d2, d3⟩ := hm.out.cells
                simp only at d0 d1 d2 d3
                have hB1 := hide (Nat.le_trans hm.out.g (Nat.le_of_lt hm.out.k.lt))
                have hIW : IntKind.i64.wrap (I + 1) = I + 1 := by rw [IntKind.wrap_i64]; omega
                clear hm3 hj3I hI0
                go_wp2_with (at_builtin; refine wpList_append_ent _ rfl (.tmp 127) (.tmp 129) rfl (by rw [hln.out]; rfl) hm.out.e ⟨y0, y1, y2, y3⟩ _ rfl hi1.out hB1.out ?_; intro A9 c9 w2 ho2 hc2 hn2; have hp := hide (hm.out.push hc2); have ho2 := hide ho2; clear hc2 hn2)
                go_roundw
                case rel => exact ⟨i + 1, A9, c9, by have := hlt.out; omega, by rw [hln.out], by have := hI.out; go_num, hide (by rw [gpre_succ, hxe.out]; exact ho2.out), hide hp.out.1, hide hp.out.2⟩
                case measure => have := hI.out; have := hlt.out; simp [intOf] <;> omega
          · obtain rfl : n = i := by omega
            have hge : gpre f n n = gents f n := rfl
            rw [hge] at hoe
            have hbg := hide (gents_big f n hfb.out)
            clear hi hlt hge hi1 hln hval hnz hok
            by_cases hPL : p < L
            · have hPI : (p : Int) < (L : Int) := by omega
              have hr := hr4.out (.inl hPL)
              subst hr
              go_wp2
              go_ret2
              exact ⟨none, 0, rfl, OwE.nil _ _, hb.out⟩
            · have hPe : p = L := by have := hpL.out; omega
              subst hPe
              obtain ⟨v, hv⟩ : ∃ v, (RightE (gents f n) ↔ v = true) := by
                by_cases h : RightE (gents f n)
                · exact ⟨true, fun _ => rfl, fun _ => h⟩
                · exact ⟨false, fun h' => absurd h' h, fun h' => absurd h' (by decide)⟩
              have hrt := hide (refdright_any A12 c12 (gents f n) _ _ hoe.out.rd (Nat.le_refl _) hbg.out (by rw [gents_len]; exact Nat.le_trans h2.out (by decide)) v hv)
              rw [gents_len] at hrt
              have hv := hide hv
              cases v with
              | false =>
                have hr := hr4.out (.inr (fun h => absurd (hv.out.1 h) (by decide)))
                subst hr
                go_wp2_with (go_at_call 46; (with_reducible refine hrt.out.mono ?_); rintro e w1 ⟨rfl, hb1⟩; have hb2 := hide (hb.out.trans (hb1.mono hBs.out)); clear hb1)
                go_ret2
                exact ⟨none, 0, rfl, OwE.nil _ _, hb2.out⟩
              | true =>
                have hr := hr5.out rfl (hv.out.2 rfl)
                subst hr
                go_wp2_with (go_at_call 46; (with_reducible refine hrt.out.mono ?_); rintro e w1 ⟨rfl, hb1⟩; have hb2 := hide (hb.out.trans (hb1.mono hBs.out)); have ho2 := hide (hoe.out.below hb1); clear hb1)
                go_ret2
                exact ⟨A12, c12, by rw [gents_len]; rfl, ho2.out, hb2.out⟩

end Go.Proofs.YtaapjampmnanmaaGreat
