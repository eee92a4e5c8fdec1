/- Layer 13 (arch): the bytes of any header, as the document puts them: a walk. There is no condition but the numbers' bounds. -/
import Derived.Test.YtaapjampmnanmaaGreatArchPH
import Derived.Deep.RegionHeld3
namespace Go.Proofs.YtaapjampmnanmaaGreat
open Go.RowKit

theorem astep_append_rd {P : Program} (w : World) {ops : Array Oper} {o : Oper} {a : Act} {K : Act → World → Prop} {Q : Exit → Act → World → Prop} {E0 : Prop} (hgd : o.guard = none) (s x : Operand) {t e : TypeId}
    (ho : o.op = .call { callee := .builtin .append, args := #[s, x], argTypes := #[t, t] }) {z : Value} {bytes : Nat} (E : Elem1 P t e z bytes)
    {base n c : Nat} {A : Option Addr} {xs : List Value} (hs : a.eval s = .slice A n c) (h : Ow w base e A n c xs)
    {B m c2 : Nat} {A2 : Option Addr} {news : List Value} (hx : a.eval x = .slice A2 m c2) (hr : Rd w B A2 m news) (h1 : ∀ u ∈ news, u.oneCell' = true)
    (h63 : n + m ≤ maxLen) (hbytes : (n + m) * bytes ≤ 140737488355328) (hbase : base ≤ w.heap.size)
    (hk : ∀ A' c' w', Ow w' base e A' (n + m) c' (xs ++ news) → Chg (fun k => blk A = some k) w w' → (blk A' = blk A ∨ blk A' = some w.heap.size) → K (a.put o.dst (.slice A' (n + m) c')) w') :
    if Region.wanted o (yielded ops a.tmps) = true then Oper.wp P o a w K Q else E0 := by
  have hw : Region.wanted o (yielded ops a.tmps) = true := by simp [Region.wanted, hgd]
  rw [if_pos hw]
  obtain ⟨A', c', w', hrun, h2, h3, h4⟩ := run_append_rd (P := P) w E o.type (c2 := c2) h hr h1 h63 hbytes hbase
  unfold Oper.wp execOp
  simp only [ho, resolve, invoke, builtin, Sem.run_bind, Sem.run_pure, Result.andThen_ok, List.map_toArray, List.map_cons, List.map_nil, hs, hx, hrun]
  exact hk A' c' w' h2 h3 h4

/-- How far the bytes stand: a slice of the call's own, what was there before kept. -/
structure Fo (w0 w : World) (B : Nat) (A : Option Addr) (c n : Nat) (L : List UInt8) : Prop where
  len : L.length = n
  own : Ow w B 5 A n c (L.map bv)
  bel : Below B w0 w
  kp : Kp w0 w
  hB : B ≤ w0.heap.size
theorem Fo.size {w0 w : World} {B : Nat} {A : Option Addr} {c n : Nat} {L : List UInt8} (h : Fo w0 w B A c n L) : B ≤ w.heap.size := Nat.le_trans h.hB h.bel.size
theorem Fo.low {w0 w : World} {B : Nat} {A : Option Addr} {c n : Nat} {L : List UInt8} (h : Fo w0 w B A c n L) (v k : Nat) (hk : k ≤ 8) (hv : v ≤ 18446744073709551615) :
    Calls Tryz.prog 87 #[.int .u64 (v : Int), .int .i64 (k : Int)] w fun e w' => ∃ A2 c2, e = .returned (.slice A2 k c2) ∧ Fo w0 w' B A c n L ∧ Rd w' w'.heap.size A2 k ((le k v).map bv) ∧ Kp w0 w' := by
  refine (low_any v k w hk hv).mono ?_
  rintro e w' ⟨A2, c2, he, ho, hb⟩
  have hkp : Kp w0 w' := fun g t cs ht hk => (h.kp g t cs ht hk).below hb (h.kp g t cs ht hk).lt
  exact ⟨A2, c2, he, ⟨h.len, h.own.below hb, h.bel.trans (hb.mono h.size), hkp, h.hB⟩, ho.rd, hkp⟩
theorem Fo.low8 {w0 w : World} {B : Nat} {A : Option Addr} {c n : Nat} {L : List UInt8} (h : Fo w0 w B A c n L) (v : Nat) (hv : v ≤ 18446744073709551615) :
    Calls Tryz.prog 87 #[.int .u64 (v : Int), .int .i64 8] w fun e w' => ∃ A2 c2, e = .returned (.slice A2 8 c2) ∧ Fo w0 w' B A c n L ∧ Rd w' w'.heap.size A2 8 ((le 8 v).map bv) ∧ Kp w0 w' := h.low v 8 (by decide) hv
theorem Fo.low4 {w0 w : World} {B : Nat} {A : Option Addr} {c n : Nat} {L : List UInt8} (h : Fo w0 w B A c n L) (v : Nat) (hv : v ≤ 18446744073709551615) :
    Calls Tryz.prog 87 #[.int .u64 (v : Int), .int .i64 4] w fun e w' => ∃ A2 c2, e = .returned (.slice A2 4 c2) ∧ Fo w0 w' B A c n L ∧ Rd w' w'.heap.size A2 4 ((le 4 v).map bv) ∧ Kp w0 w' := h.low v 4 (by decide) hv
theorem Fo.low1 {w0 w : World} {B : Nat} {A : Option Addr} {c n : Nat} {L : List UInt8} (h : Fo w0 w B A c n L) (v : Nat) (hv : v ≤ 18446744073709551615) :
    Calls Tryz.prog 87 #[.int .u64 (v : Int), .int .i64 1] w fun e w' => ∃ A2 c2, e = .returned (.slice A2 1 c2) ∧ Fo w0 w' B A c n L ∧ Rd w' w'.heap.size A2 1 ((le 1 v).map bv) ∧ Kp w0 w' := h.low v 1 (by decide) hv
theorem Fo.app {w0 w w' : World} {B : Nat} {A A' : Option Addr} {c n c' n' m : Nat} {L news : List UInt8} (h : Fo w0 w B A c n L) (hm : news.length = m) (hn' : n + m = n') (ho : Ow w' B 5 A' (n + m) c' (L.map bv ++ news.map bv)) (hc : Chg (fun k => blk A = some k) w w') : Fo w0 w' B A' c' n' (L ++ news) ∧ Kp w0 w' := by
  subst hm hn'
  have ho' : Ow w' B 5 A' (n + news.length) c' ((L ++ news).map bv) := by rw [List.map_append]; exact ho
  have hkp : Kp w0 w' := h.kp.trans (kp_chg h.own hc)
  exact ⟨⟨by rw [List.length_append, h.len], ho', h.bel.trans (hc.to_below h.size (fun i hi => (h.own.blk_lt i hi).1)), hkp, h.hB⟩, hkp⟩
theorem one_bv (L : List UInt8) : ∀ u ∈ L.map bv, u.oneCell' = true := by
  intro u hu
  obtain ⟨x, _, rfl⟩ := List.mem_map.1 hu
  rfl

/-- The numbers of eight bytes, in their order; the small ones. -/
def u11 (h : Hd) : List Nat := [h.r0, h.r1, h.m0, h.m1, h.l0, h.l1, h.d0, h.d1, h.c0, h.c1, h.c2]
def i6 (h : Hd) : List Int := [if h.cl then 1 else 0, h.inn, h.out, h.kind, h.minz, h.maxz]
def cq (h : Hd) (k : Nat) : List UInt8 := mag ++ ((u11 h).take k).flatMap (le 8)
theorem cq_succ (h : Hd) (k v : Nat) (hk : (u11 h)[k]? = some v) : cq h (k + 1) = cq h k ++ le 8 v := by
  obtain ⟨hl, he⟩ := List.getElem?_eq_some_iff.1 hk
  rw [cq, take_snoc _ _ hl, he, List.flatMap_append, ← List.append_assoc]
  simp [cq]
theorem cq_all (h : Hd) : cq h 11 = cnt h 3 := by
  simp only [cq, u11, cnt, prt, List.take_succ_cons, List.take_nil, List.flatMap_cons, List.flatMap_nil, List.append_nil, List.append_assoc]
def sq (h : Hd) (k : Nat) : List UInt8 := cnt h 3 ++ ((i6 h).take k).map b8
theorem sq_succ (h : Hd) (k : Nat) (v : Int) (hk : (i6 h)[k]? = some v) : sq h (k + 1) = sq h k ++ [b8 v] := by
  obtain ⟨hl, he⟩ := List.getElem?_eq_some_iff.1 hk
  rw [sq, take_snoc _ _ hl, he, List.map_append, ← List.append_assoc]
  rfl
theorem sq_all (h : Hd) : sq h 6 = sml h := by
  cases hc : h.cl <;> simp [sq, i6, sml, hc] <;> rfl
theorem le1_um (x : Int) : le 1 (um x) = [b8 x] := by
  have h : leB (um x) 0 = b8 x := by
    unfold leB b8 um
    congr 1
    omega
  rw [le_succ, h]
  rfl

set_option maxRecDepth 100000 in
set_option maxHeartbeats 4000000 in
theorem rputhead_any (h : Hd) (hk : h.Ok) (hc : h.c0 ≤ 18446744073709551615 ∧ h.c1 ≤ 18446744073709551615 ∧ h.c2 ≤ 18446744073709551615) (w : World) :
    Calls Tryz.prog 50 #[.agg h.cells] w fun e w' => ∃ A c, e = .returned (.slice A 127 c) ∧ Ow w' (w.heap.size + 1) 5 A 127 c ((headB h).map bv) ∧ Below w.heap.size w w' := by
  obtain ⟨u⟩ := hk
  obtain ⟨H, hH⟩ : ∃ H, h = H := ⟨_, rfl⟩
  obtain ⟨r0, r1, m0, m1, l0, l1, d0, d1, c0, c1, c2, cl, inn, out, kind, minz, maxz, minx, miny, maxx, maxy, cx, cy, at'⟩ := h
  rw [hH]
  replace hH := hide hH
  unfold Hd.cells
  rw [← hH.out]
  simp only at u hc
  simp only
  replace u := hide u
  replace hc := hide hc
  obtain ⟨B, hB0⟩ : ∃ B, w.heap.size = B := ⟨_, rfl⟩
  obtain ⟨w1, hw1⟩ : ∃ W, w.alloc (.cells #[.int .u64 (r0 : Int), .int .u64 (r1 : Int), .int .u64 (m0 : Int), .int .u64 (m1 : Int), .int .u64 (l0 : Int), .int .u64 (l1 : Int), .int .u64 (d0 : Int), .int .u64 (d1 : Int), .int .u64 (c0 : Int), .int .u64 (c1 : Int), .int .u64 (c2 : Int), .bool cl, .int .i64 inn, .int .i64 out, .int .i64 kind, .int .i64 minz, .int .i64 maxz, .int .i64 minx, .int .i64 miny, .int .i64 maxx, .int .i64 maxy, .int .i64 cx, .int .i64 cy, .int .i64 at'] 30) = W := ⟨_, rfl⟩
  obtain ⟨wa, hwa⟩ : ∃ W, w1.alloc (.cells #[.int .u8 80, .int .u8 77, .int .u8 84, .int .u8 105, .int .u8 108, .int .u8 101, .int .u8 115] 5) = W := ⟨_, rfl⟩
  obtain ⟨w2, hw2⟩ : ∃ W, w1.alloc (.cells #[.int .u8 80, .int .u8 77, .int .u8 84, .int .u8 105, .int .u8 108, .int .u8 101, .int .u8 115] 5 (7, 8)) = W := ⟨_, rfl⟩
  have hk1 : Blk w1 B 30 #[.int .u64 (r0 : Int), .int .u64 (r1 : Int), .int .u64 (m0 : Int), .int .u64 (m1 : Int), .int .u64 (l0 : Int), .int .u64 (l1 : Int), .int .u64 (d0 : Int), .int .u64 (d1 : Int), .int .u64 (c0 : Int), .int .u64 (c1 : Int), .int .u64 (c2 : Int), .bool cl, .int .i64 inn, .int .i64 out, .int .i64 kind, .int .i64 minz, .int .i64 maxz, .int .i64 minx, .int .i64 miny, .int .i64 maxx, .int .i64 maxy, .int .i64 cx, .int .i64 cy, .int .i64 at'] := by rw [← hw1, ← hB0]; exact Blk.new w _ _
  have hs1 : w1.heap.size = B + 1 := by rw [← hw1, ← hB0]; simp
  have hk2 : Blk w2 B 30 #[.int .u64 (r0 : Int), .int .u64 (r1 : Int), .int .u64 (m0 : Int), .int .u64 (m1 : Int), .int .u64 (l0 : Int), .int .u64 (l1 : Int), .int .u64 (d0 : Int), .int .u64 (d1 : Int), .int .u64 (c0 : Int), .int .u64 (c1 : Int), .int .u64 (c2 : Int), .bool cl, .int .i64 inn, .int .i64 out, .int .i64 kind, .int .i64 minz, .int .i64 maxz, .int .i64 minx, .int .i64 miny, .int .i64 maxx, .int .i64 maxy, .int .i64 cx, .int .i64 cy, .int .i64 at'] := by rw [← hw2]; exact hk1.alloc _
  have hb2 : Below B w w2 := by rw [← hw2, ← hw1, ← hB0]; exact ((Below.refl _ w).alloc (Nat.le_refl _) _).alloc (by simp) _
  have hs2 : B + 1 ≤ w2.heap.size := by rw [← hw2, ← hs1]; simp
  have hsr : Sr w2 (B + 1) (some ⟨B + 1, 0, none⟩) 7 7 (([80, 77, 84, 105, 108, 101, 115] : List UInt8).map bv) := by
    rw [← hw2, ← hs1]
    exact .inr ⟨rfl, by decide, w1.heap.size + 1, by simp, Rd.new w1 #[.int .u8 80, .int .u8 77, .int .u8 84, .int .u8 105, .int .u8 108, .int .u8 101, .int .u8 115] 5 (7, 8)⟩
  have hcv : (convert 22 22 (.slice (some ⟨B + 1, 0, none⟩) 7 7)).run Tryz.prog wa = .ok (.slice (some ⟨B + 1, 0, none⟩) 7 7) w2 := by
    rw [← hwa, ← hw2, ← hs1]
    exact Go.Lib.run_convert_bytes_const w1 _ _ #[.int .u8 80, .int .u8 77, .int .u8 84, .int .u8 105, .int .u8 108, .int .u8 101, .int .u8 115] 7 7 Tryz.underlying22 Tryz.underlying5
  rw [hB0]
  replace hk2 := hide hk2
  replace hb2 := hide hb2
  replace hs2 := hide hs2
  replace hsr := hide hsr
  clear hk1
  go_enter Tryz.func50, Tryz.ntmps50
  go_upto_region 2 with (at_builtin; refine wpList_append_sr w2 rfl (.tmp 10) (.tmp 11) rfl rfl hsr.out (.int .u8 3) _ rfl rfl (by decide) (by decide) hs2.out ?_; intro A3 c3 w3 ho3 hkp3 hb3; have hf3 := hide (show Ow w3 (B + 1) 5 A3 8 c3 (mag.map bv) from ho3); have hs3 := hide (Nat.le_trans hs2.out hb3.size); have hk3 := hide (hkp3 _ _ _ (by decide) hk2.out); have hb3 := hide (hb2.out.trans (hb3.mono (Nat.le_succ B))); clear ho3 hkp3)
  obtain ⟨S, hS⟩ : ∃ S, w3.heap.size = S := ⟨_, rfl⟩
  obtain ⟨w4, hw4⟩ : ∃ W, w3.alloc (.cells #[.int .u64 (r0 : Int), .int .u64 (r1 : Int), .int .u64 (m0 : Int), .int .u64 (m1 : Int), .int .u64 (l0 : Int), .int .u64 (l1 : Int), .int .u64 (d0 : Int), .int .u64 (d1 : Int), .int .u64 (c0 : Int), .int .u64 (c1 : Int), .int .u64 (c2 : Int)] 23) = W := ⟨_, rfl⟩
  have hp4 := hide (show Blk w4 S 23 #[.int .u64 (r0 : Int), .int .u64 (r1 : Int), .int .u64 (m0 : Int), .int .u64 (m1 : Int), .int .u64 (l0 : Int), .int .u64 (l1 : Int), .int .u64 (d0 : Int), .int .u64 (d1 : Int), .int .u64 (c0 : Int), .int .u64 (c1 : Int), .int .u64 (c2 : Int)] from by rw [← hw4, ← hS]; exact Blk.new w3 _ _)
  have hk4 := hide (show Blk w4 B 30 #[.int .u64 (r0 : Int), .int .u64 (r1 : Int), .int .u64 (m0 : Int), .int .u64 (m1 : Int), .int .u64 (l0 : Int), .int .u64 (l1 : Int), .int .u64 (d0 : Int), .int .u64 (d1 : Int), .int .u64 (c0 : Int), .int .u64 (c1 : Int), .int .u64 (c2 : Int), .bool cl, .int .i64 inn, .int .i64 out, .int .i64 kind, .int .i64 minz, .int .i64 maxz, .int .i64 minx, .int .i64 miny, .int .i64 maxx, .int .i64 maxy, .int .i64 cx, .int .i64 cy, .int .i64 at'] from by rw [← hw4]; exact hk3.out.alloc _)
  have hf4 := hide (show Fo w4 w4 (B + 1) A3 c3 8 (cq H 0) from by rw [← hw4]; exact ⟨rfl, hf3.out.alloc _, Below.refl _ _, Kp.refl _, by simp; have := hs3.out; omega⟩)
  have hb4 := hide (show Below B w w4 from by rw [← hw4]; exact hb3.out.alloc (by have := hs3.out; omega) _)
  have hu11 := hide (show u11 H = [r0, r1, m0, m1, l0, l1, d0, d1, c0, c1, c2] from by rw [← hH.out]; rfl)
  have hi6 := hide (show i6 H = [if cl then 1 else 0, inn, out, kind, minz, maxz] from by rw [← hH.out]; rfl)
  have g0 : w3.cell? ⟨B, 0, none⟩ = some (.int .u64 (r0 : Int)) := hk3.out.cell 0
  have g1 : w3.cell? ⟨B, 1, none⟩ = some (.int .u64 (r1 : Int)) := hk3.out.cell 1
  have g2 : w3.cell? ⟨B, 2, none⟩ = some (.int .u64 (m0 : Int)) := hk3.out.cell 2
  have g3 : w3.cell? ⟨B, 3, none⟩ = some (.int .u64 (m1 : Int)) := hk3.out.cell 3
  have g4 : w3.cell? ⟨B, 4, none⟩ = some (.int .u64 (l0 : Int)) := hk3.out.cell 4
  have g5 : w3.cell? ⟨B, 5, none⟩ = some (.int .u64 (l1 : Int)) := hk3.out.cell 5
  have g6 : w3.cell? ⟨B, 6, none⟩ = some (.int .u64 (d0 : Int)) := hk3.out.cell 6
  have g7 : w3.cell? ⟨B, 7, none⟩ = some (.int .u64 (d1 : Int)) := hk3.out.cell 7
  have g8 : w3.cell? ⟨B, 8, none⟩ = some (.int .u64 (c0 : Int)) := hk3.out.cell 8
  have g9 : w3.cell? ⟨B, 9, none⟩ = some (.int .u64 (c1 : Int)) := hk3.out.cell 9
  have g10 : w3.cell? ⟨B, 10, none⟩ = some (.int .u64 (c2 : Int)) := hk3.out.cell 10
  clear hb3
  clear hk2 hb2 hs2 hsr
  go_wp2
  go_loopw [3, 5] (fun s3 s5 wr => ∃ (k n : Nat) (A : Option Addr) (c : Nat) (L : List UInt8), k ≤ 11 ∧ s3 = .slice A n c ∧ s5 = .int .i64 (k : Int) ∧ Hid (n = 8 + 8 * k) ∧ Hid (L = cq H k) ∧ Hid (Fo w4 wr (B + 1) A c n L)) (fun _ s5 _ => 11 - (intOf s5).toNat)
  case atStart => exact ⟨0, 8, A3, c3, cq H 0, by omega, rfl, rfl, hide rfl, hide rfl, hf4⟩
  case round =>
    obtain ⟨k, n, A, c, L, hk11, rfl, rfl, hn, hL, hf⟩ := hrel
    by_cases hlt : k < 11
    · have hkI : (k : Int) < 11 := by omega
      obtain ⟨n1, hn1⟩ : ∃ n1, n + 8 = n1 := ⟨_, rfl⟩
      have hvv : ∃ v, (u11 H)[k]? = some v ∧ v ≤ 18446744073709551615 ∧ (#[.int .u64 (r0 : Int), .int .u64 (r1 : Int), .int .u64 (m0 : Int), .int .u64 (m1 : Int), .int .u64 (l0 : Int), .int .u64 (l1 : Int), .int .u64 (d0 : Int), .int .u64 (d1 : Int), .int .u64 (c0 : Int), .int .u64 (c1 : Int), .int .u64 (c2 : Int)] : Array Value)[k]? = some (.int .u64 (v : Int)) := by
        rw [hu11.out]
        have uu := u.out
        have cc := hc.out
        rcases (show k = 0 ∨ k = 1 ∨ k = 2 ∨ k = 3 ∨ k = 4 ∨ k = 5 ∨ k = 6 ∨ k = 7 ∨ k = 8 ∨ k = 9 ∨ k = 10 by omega) with rfl | rfl | rfl | rfl | rfl | rfl | rfl | rfl | rfl | rfl | rfl <;> exact ⟨_, rfl, by omega, rfl⟩
      obtain ⟨v, hv1, hv2, hv3⟩ := hvv
      have y0 : wr.cell? ⟨S, k, none⟩ = some (.int .u64 (v : Int)) := ((hf.out.kp _ _ _ (by decide) hp4.out).cell k).trans hv3
      have q1 := hide (hf.out.low8 v hv2)
      have hL1 := hide (show L ++ le 8 v = cq H (k + 1) from by rw [cq_succ H k v hv1, hL.out])
      have h63 := hide (show n + 8 ≤ maxLen by have := hn.out; simp only [maxLen]; omega)
      have h64 := hide (show (n + 8) * 1 ≤ 140737488355328 by have := hn.out; omega)
      replace hn1 := hide hn1
      clear hv1 hv2 hv3
      go_wp2_with (first
        | (go_at_call 87; (with_reducible refine q1.out.mono ?_); rintro e w5 ⟨A5, c5, rfl, hf5, hr5, hk5⟩; have hf5 := hide hf5; have hr5 := hide hr5; clear hk5)
        | (at_builtin; refine wpList_append_rd w5 rfl (.tmp 53) (.tmp 58) rfl elem_b8 rfl hf5.out.own rfl hr5.out (one_bv _) h63.out h64.out hf5.out.size ?_; intro A7 c7 w7 ho7 hc7 hn7; have hf7 := hide (hf5.out.app (le_len 8 v) hn1.out ho7 hc7).1; clear ho7 hc7 hn7; rw [hL1.out] at hf7))
      rw [hn1.out]
      go_roundw
      case rel => exact ⟨k + 1, n1, A7, c7, _, by omega, rfl, by go_num, hide (by rw [← hn1.out, hn.out]; omega), hide rfl, hf7⟩
      case measure => simp [intOf] <;> omega
    · obtain rfl : k = 11 := by omega
      have hLs := hide (show L = sq H 0 from by rw [hL.out, cq_all]; simp [sq])
      have hkh := hide (hf.out.kp _ _ _ (by decide) hk4.out)
      have hfw := hide (show Fo wr wr (B + 1) A c n L from ⟨hf.out.len, hf.out.own, Below.refl _ _, Kp.refl _, hf.out.size⟩)
      have hbw := hide (show Below B w wr from hb4.out.trans (hf.out.bel.mono (Nat.le_succ B)))
      have y11 : wr.cell? ⟨B, 11, none⟩ = some (.bool cl) := hkh.out.cell 11
      have y12 : wr.cell? ⟨B, 12, none⟩ = some (.int .i64 inn) := hkh.out.cell 12
      have y13 : wr.cell? ⟨B, 13, none⟩ = some (.int .i64 out) := hkh.out.cell 13
      have y14 : wr.cell? ⟨B, 14, none⟩ = some (.int .i64 kind) := hkh.out.cell 14
      have y15 : wr.cell? ⟨B, 15, none⟩ = some (.int .i64 minz) := hkh.out.cell 15
      have y16 : wr.cell? ⟨B, 16, none⟩ = some (.int .i64 maxz) := hkh.out.cell 16
      clear hf hb4 hk4 hp4 hf4 hu11
      rw [show ((11 : Nat) : Int) = 11 from rfl]
      go_upto_region 7 with fail
      iterate 8 go_step
      go_cut [6] (fun s6 wx => ∃ C : Int, s6 = .int .i64 C ∧ Hid (C = if cl then 1 else 0) ∧ wx = wr)
      case first =>
        cases cl with
        | false =>
          go_wp2
          go_meet
          exact ⟨0, rfl, hide rfl, rfl⟩
        | true =>
          go_wp2
          go_meet
          exact ⟨1, rfl, hide rfl, rfl⟩
      case rest =>
        obtain ⟨C, rfl, hC, rfl⟩ := hcut
        obtain ⟨S6, hS6⟩ : ∃ S, wc.heap.size = S := ⟨_, rfl⟩
        obtain ⟨wq, hwq⟩ : ∃ W, wc.alloc (.cells #[.int .i64 C, .int .i64 inn, .int .i64 out, .int .i64 kind, .int .i64 minz, .int .i64 maxz] 3) = W := ⟨_, rfl⟩
        have hp6 := hide (show Blk wq S6 3 #[.int .i64 C, .int .i64 inn, .int .i64 out, .int .i64 kind, .int .i64 minz, .int .i64 maxz] from by rw [← hwq, ← hS6]; exact Blk.new wc _ _)
        have hkq := hide (show Blk wq B 30 #[.int .u64 (r0 : Int), .int .u64 (r1 : Int), .int .u64 (m0 : Int), .int .u64 (m1 : Int), .int .u64 (l0 : Int), .int .u64 (l1 : Int), .int .u64 (d0 : Int), .int .u64 (d1 : Int), .int .u64 (c0 : Int), .int .u64 (c1 : Int), .int .u64 (c2 : Int), .bool cl, .int .i64 inn, .int .i64 out, .int .i64 kind, .int .i64 minz, .int .i64 maxz, .int .i64 minx, .int .i64 miny, .int .i64 maxx, .int .i64 maxy, .int .i64 cx, .int .i64 cy, .int .i64 at'] from by rw [← hwq]; exact hkh.out.alloc _)
        have hfq := hide (show Fo wq wq (B + 1) A c n L from by rw [← hwq]; exact ⟨hfw.out.len, hfw.out.own.alloc _, Below.refl _ _, Kp.refl _, Nat.le_trans hfw.out.hB (by simp)⟩)
        have hbq := hide (show Below B w wq from by rw [← hwq]; exact hbw.out.alloc (Nat.le_trans (Nat.le_succ B) hfw.out.hB) _)
        have hn0 := hide (show n = 96 from hn.out)
        clear hfw hbw hkh hn hL
        go_wp2
        go_loopw [3, 8] (fun s3 s8 wr => ∃ (k n : Nat) (A : Option Addr) (c : Nat) (L : List UInt8), k ≤ 6 ∧ s3 = .slice A n c ∧ s8 = .int .i64 (k : Int) ∧ Hid (n = 96 + k) ∧ Hid (L = sq H k) ∧ Hid (Fo wq wr (B + 1) A c n L)) (fun _ s8 _ => 6 - (intOf s8).toNat)
        case atStart => exact ⟨0, n, A, c, L, by omega, rfl, rfl, hide hn0.out, hLs, hfq⟩
        case round =>
          obtain ⟨k, n, A, c, L, hk6, rfl, rfl, hn, hL, hf⟩ := hrel
          by_cases hlt : k < 6
          · have hkI : (k : Int) < 6 := by omega
            obtain ⟨n1, hn1⟩ : ∃ n1, n + 1 = n1 := ⟨_, rfl⟩
            have hvv : ∃ v, (i6 H)[k]? = some v ∧ (#[.int .i64 C, .int .i64 inn, .int .i64 out, .int .i64 kind, .int .i64 minz, .int .i64 maxz] : Array Value)[k]? = some (.int .i64 v) := by
              rw [hi6.out, ← hC.out]
              rcases (show k = 0 ∨ k = 1 ∨ k = 2 ∨ k = 3 ∨ k = 4 ∨ k = 5 by omega) with rfl | rfl | rfl | rfl | rfl | rfl <;> exact ⟨_, rfl, rfl⟩
            obtain ⟨v, hv1, hv3⟩ := hvv
            have y0 : wr.cell? ⟨S6, k, none⟩ = some (.int .i64 v) := ((hf.out.kp _ _ _ (by decide) hp6.out).cell k).trans hv3
            obtain ⟨hum, hul⟩ := um_eq v
            have hle := hide (le1_um v)
            obtain ⟨V, hV⟩ : ∃ V, um v = V := ⟨_, rfl⟩
            rw [hV] at hum hul hle
            have huw : IntKind.u64.wrap v = (V : Int) := by rw [IntKind.wrap_u64]; exact hum
            have q1 := hide (hf.out.low1 V hul)
            have hL1 := hide (show L ++ le 1 V = sq H (k + 1) from by rw [sq_succ H k v hv1, hL.out, hle.out])
            have h63 := hide (show n + 1 ≤ maxLen by have := hn.out; simp only [maxLen]; omega)
            have h64 := hide (show (n + 1) * 1 ≤ 140737488355328 by have := hn.out; omega)
            replace hn1 := hide hn1
            clear hv1 hv3 hul hV
            go_wp2_with (first
              | (go_at_call 87; (with_reducible refine q1.out.mono ?_); rintro e w5 ⟨A5, c5, rfl, hf5, hr5, hk5⟩; have hf5 := hide hf5; have hr5 := hide hr5; clear hk5)
              | (at_builtin; refine wpList_append_rd w5 rfl (.tmp 80) (.tmp 86) rfl elem_b8 rfl hf5.out.own rfl hr5.out (one_bv _) h63.out h64.out hf5.out.size ?_; intro A7 c7 w7 ho7 hc7 hn7; have hf7 := hide (hf5.out.app (le_len 1 V) hn1.out ho7 hc7).1; clear ho7 hc7 hn7; rw [hL1.out] at hf7))
            rw [hn1.out]
            go_roundw
            case rel => exact ⟨k + 1, n1, A7, c7, _, by omega, rfl, by go_num, hide (by rw [← hn1.out, hn.out]; omega), hide rfl, hf7⟩
            case measure => simp [intOf] <;> omega
          · obtain rfl : k = 6 := by omega
            have hkh := hide (hf.out.kp _ _ _ (by decide) hkq.out)
            have hfw := hide (show Fo wr.drew wr.drew (B + 1) A c n L from ⟨hf.out.len, hf.out.own.drew, Below.refl _ _, Kp.refl _, hf.out.size⟩)
            have hbw := hide (show Below B w wr.drew from (hbq.out.trans (hf.out.bel.mono (Nat.le_succ B))).drew)
            rw [show ((6 : Nat) : Int) = 6 from rfl]
            obtain ⟨hux, hux2⟩ := um_eq minx
            have huxe := hide (show um minx = um minx from rfl)
            obtain ⟨ux, hux'⟩ : ∃ x, um minx = x := ⟨_, rfl⟩
            rw [hux'] at hux hux2
            have huxw : IntKind.u64.wrap minx = (ux : Int) := by rw [IntKind.wrap_u64]; exact hux
            replace hux' := hide hux'
            replace hux2 := hide hux2
            clear huxe
            obtain ⟨huy, huy2⟩ := um_eq miny
            have huye := hide (show um miny = um miny from rfl)
            obtain ⟨uy, huy'⟩ : ∃ x, um miny = x := ⟨_, rfl⟩
            rw [huy'] at huy huy2
            have huyw : IntKind.u64.wrap miny = (uy : Int) := by rw [IntKind.wrap_u64]; exact huy
            replace huy' := hide huy'
            replace huy2 := hide huy2
            clear huye
            obtain ⟨hvx, hvx2⟩ := um_eq maxx
            have hvxe := hide (show um maxx = um maxx from rfl)
            obtain ⟨vx, hvx'⟩ : ∃ x, um maxx = x := ⟨_, rfl⟩
            rw [hvx'] at hvx hvx2
            have hvxw : IntKind.u64.wrap maxx = (vx : Int) := by rw [IntKind.wrap_u64]; exact hvx
            replace hvx' := hide hvx'
            replace hvx2 := hide hvx2
            clear hvxe
            obtain ⟨hvy, hvy2⟩ := um_eq maxy
            have hvye := hide (show um maxy = um maxy from rfl)
            obtain ⟨vy, hvy'⟩ : ∃ x, um maxy = x := ⟨_, rfl⟩
            rw [hvy'] at hvy hvy2
            have hvyw : IntKind.u64.wrap maxy = (vy : Int) := by rw [IntKind.wrap_u64]; exact hvy
            replace hvy' := hide hvy'
            replace hvy2 := hide hvy2
            clear hvye
            obtain ⟨hua, hua2⟩ := um_eq at'
            have huae := hide (show um at' = um at' from rfl)
            obtain ⟨ua, hua'⟩ : ∃ x, um at' = x := ⟨_, rfl⟩
            rw [hua'] at hua hua2
            have huaw : IntKind.u64.wrap at' = (ua : Int) := by rw [IntKind.wrap_u64]; exact hua
            replace hua' := hide hua'
            replace hua2 := hide hua2
            clear huae
            obtain ⟨huc, huc2⟩ := um_eq cx
            have huce := hide (show um cx = um cx from rfl)
            obtain ⟨uc, huc'⟩ : ∃ x, um cx = x := ⟨_, rfl⟩
            rw [huc'] at huc huc2
            have hucw : IntKind.u64.wrap cx = (uc : Int) := by rw [IntKind.wrap_u64]; exact huc
            replace huc' := hide huc'
            replace huc2 := hide huc2
            clear huce
            obtain ⟨hud, hud2⟩ := um_eq cy
            have hude := hide (show um cy = um cy from rfl)
            obtain ⟨ud, hud'⟩ : ∃ x, um cy = x := ⟨_, rfl⟩
            rw [hud'] at hud hud2
            have hudw : IntKind.u64.wrap cy = (ud : Int) := by rw [IntKind.wrap_u64]; exact hud
            replace hud' := hide hud'
            replace hud2 := hide hud2
            clear hude
            obtain ⟨n1, hn1⟩ : ∃ m, n + 4 = m := ⟨_, rfl⟩
            have hm1 := hide (show n + 4 ≤ maxLen by have := hn.out; simp only [maxLen]; omega)
            have ho1 := hide (show (n + 4) * 1 ≤ 140737488355328 by have := hn.out; omega)
            obtain ⟨n2, hn2⟩ : ∃ m, n1 + 4 = m := ⟨_, rfl⟩
            have hm2 := hide (show n1 + 4 ≤ maxLen by have := hn.out; simp only [maxLen]; omega)
            have ho2 := hide (show (n1 + 4) * 1 ≤ 140737488355328 by have := hn.out; omega)
            obtain ⟨n3, hn3⟩ : ∃ m, n2 + 4 = m := ⟨_, rfl⟩
            have hm3 := hide (show n2 + 4 ≤ maxLen by have := hn.out; simp only [maxLen]; omega)
            have ho3 := hide (show (n2 + 4) * 1 ≤ 140737488355328 by have := hn.out; omega)
            obtain ⟨n4, hn4⟩ : ∃ m, n3 + 4 = m := ⟨_, rfl⟩
            have hm4 := hide (show n3 + 4 ≤ maxLen by have := hn.out; simp only [maxLen]; omega)
            have ho4 := hide (show (n3 + 4) * 1 ≤ 140737488355328 by have := hn.out; omega)
            obtain ⟨n5, hn5⟩ : ∃ m, n4 + 1 = m := ⟨_, rfl⟩
            have hm5 := hide (show n4 + 1 ≤ maxLen by have := hn.out; simp only [maxLen]; omega)
            have ho5 := hide (show (n4 + 1) * 1 ≤ 140737488355328 by have := hn.out; omega)
            obtain ⟨n6, hn6⟩ : ∃ m, n5 + 4 = m := ⟨_, rfl⟩
            have hm6 := hide (show n5 + 4 ≤ maxLen by have := hn.out; simp only [maxLen]; omega)
            have ho6 := hide (show (n5 + 4) * 1 ≤ 140737488355328 by have := hn.out; omega)
            obtain ⟨n7, hn7⟩ : ∃ m, n6 + 4 = m := ⟨_, rfl⟩
            have hm7 := hide (show n6 + 4 ≤ maxLen by have := hn.out; simp only [maxLen]; omega)
            have ho7 := hide (show (n6 + 4) * 1 ≤ 140737488355328 by have := hn.out; omega)
            have h127 := hide (show n7 = 127 from by have := hn.out; omega)
            replace hn1 := hide hn1
            replace hn2 := hide hn2
            replace hn3 := hide hn3
            replace hn4 := hide hn4
            replace hn5 := hide hn5
            replace hn6 := hide hn6
            replace hn7 := hide hn7
            have hSA := hide (show ∀ W, Blk W B 30 #[.int .u64 (r0 : Int), .int .u64 (r1 : Int), .int .u64 (m0 : Int), .int .u64 (m1 : Int), .int .u64 (l0 : Int), .int .u64 (l1 : Int), .int .u64 (d0 : Int), .int .u64 (d1 : Int), .int .u64 (c0 : Int), .int .u64 (c1 : Int), .int .u64 (c2 : Int), .bool cl, .int .i64 inn, .int .i64 out, .int .i64 kind, .int .i64 minz, .int .i64 maxz, .int .i64 minx, .int .i64 miny, .int .i64 maxx, .int .i64 maxy, .int .i64 cx, .int .i64 cy, .int .i64 at'] → W.cell? ⟨B, 17, none⟩ = some (.int .i64 minx) ∧ W.cell? ⟨B, 18, none⟩ = some (.int .i64 miny) ∧ W.cell? ⟨B, 19, none⟩ = some (.int .i64 maxx) ∧ W.cell? ⟨B, 20, none⟩ = some (.int .i64 maxy) from fun W h => ⟨h.cell 17, h.cell 18, h.cell 19, h.cell 20⟩)
            have hSB := hide (show ∀ W, Blk W B 30 #[.int .u64 (r0 : Int), .int .u64 (r1 : Int), .int .u64 (m0 : Int), .int .u64 (m1 : Int), .int .u64 (l0 : Int), .int .u64 (l1 : Int), .int .u64 (d0 : Int), .int .u64 (d1 : Int), .int .u64 (c0 : Int), .int .u64 (c1 : Int), .int .u64 (c2 : Int), .bool cl, .int .i64 inn, .int .i64 out, .int .i64 kind, .int .i64 minz, .int .i64 maxz, .int .i64 minx, .int .i64 miny, .int .i64 maxx, .int .i64 maxy, .int .i64 cx, .int .i64 cy, .int .i64 at'] → W.cell? ⟨B, 23, none⟩ = some (.int .i64 at') ∧ W.cell? ⟨B, 21, none⟩ = some (.int .i64 cx) ∧ W.cell? ⟨B, 22, none⟩ = some (.int .i64 cy) from fun W h => ⟨h.cell 23, h.cell 21, h.cell 22⟩)
            replace hkh := hide hkh.out.drew
            have z0 := hide (hSA.out _ hkh.out)
            have q1 := hide (hfw.out.low4 ux hux2.out)
            go_upto_region 15 with fail
            go_region_held3 (fun W => W.cell? ⟨B, 17, none⟩ = some (.int .i64 minx) ∧ W.cell? ⟨B, 18, none⟩ = some (.int .i64 miny) ∧ W.cell? ⟨B, 19, none⟩ = some (.int .i64 maxx) ∧ W.cell? ⟨B, 20, none⟩ = some (.int .i64 maxy)) (first | (with_reducible exact z0.out) | (with_reducible exact zwl1.out) | (with_reducible exact zwa1.out) | (with_reducible exact zwl2.out) | (with_reducible exact zwa2.out) | (with_reducible exact zwl3.out) | (with_reducible exact zwa3.out) | (with_reducible exact zwl4.out) | (with_reducible exact zwa4.out)) (first
              | (go_at_call 87; (with_reducible refine (hfw.out.low4 ux hux2.out).mono ?_); rintro e wl1 ⟨Awl1, cwl1, rfl, fwl1, rwl1, kwl1⟩; have zwl1 := hide (hSA.out _ (kwl1 _ _ _ (by decide) hkh.out)); have fwl1 := hide fwl1; have rwl1 := hide rwl1; clear kwl1)
              | (refine astep_append_rd wl1 (by rfl) (.tmp 88) (.tmp 93) (by rfl) elem_b8 (by rfl) fwl1.out.own (by rfl) rwl1.out (one_bv _) hm1.out ho1.out fwl1.out.size ?_; intro Awa1 cwa1 wa1 owa1 gwa1 nwa1; have ywa1 := fwl1.out.app (le_len 4 ux) hn1.out owa1 gwa1; have zwa1 := hide (hSA.out _ (ywa1.2 _ _ _ (by decide) hkh.out)); have fwa1 := hide ywa1.1; rw [hn1.out]; clear owa1 gwa1 nwa1 ywa1)
              | (go_at_call 87; (with_reducible refine (fwa1.out.low4 uy huy2.out).mono ?_); rintro e wl2 ⟨Awl2, cwl2, rfl, fwl2, rwl2, kwl2⟩; have zwl2 := hide (hSA.out _ (kwl2 _ _ _ (by decide) hkh.out)); have fwl2 := hide fwl2; have rwl2 := hide rwl2; clear kwl2)
              | (refine astep_append_rd wl2 (by rfl) (.tmp 94) (.tmp 99) (by rfl) elem_b8 (by rfl) fwl2.out.own (by rfl) rwl2.out (one_bv _) hm2.out ho2.out fwl2.out.size ?_; intro Awa2 cwa2 wa2 owa2 gwa2 nwa2; have ywa2 := fwl2.out.app (le_len 4 uy) hn2.out owa2 gwa2; have zwa2 := hide (hSA.out _ (ywa2.2 _ _ _ (by decide) hkh.out)); have fwa2 := hide ywa2.1; rw [hn2.out]; clear owa2 gwa2 nwa2 ywa2)
              | (go_at_call 87; (with_reducible refine (fwa2.out.low4 vx hvx2.out).mono ?_); rintro e wl3 ⟨Awl3, cwl3, rfl, fwl3, rwl3, kwl3⟩; have zwl3 := hide (hSA.out _ (kwl3 _ _ _ (by decide) hkh.out)); have fwl3 := hide fwl3; have rwl3 := hide rwl3; clear kwl3)
              | (refine astep_append_rd wl3 (by rfl) (.tmp 100) (.tmp 105) (by rfl) elem_b8 (by rfl) fwl3.out.own (by rfl) rwl3.out (one_bv _) hm3.out ho3.out fwl3.out.size ?_; intro Awa3 cwa3 wa3 owa3 gwa3 nwa3; have ywa3 := fwl3.out.app (le_len 4 vx) hn3.out owa3 gwa3; have zwa3 := hide (hSA.out _ (ywa3.2 _ _ _ (by decide) hkh.out)); have fwa3 := hide ywa3.1; rw [hn3.out]; clear owa3 gwa3 nwa3 ywa3)
              | (go_at_call 87; (with_reducible refine (fwa3.out.low4 vy hvy2.out).mono ?_); rintro e wl4 ⟨Awl4, cwl4, rfl, fwl4, rwl4, kwl4⟩; have zwl4 := hide (hSA.out _ (kwl4 _ _ _ (by decide) hkh.out)); have fwl4 := hide fwl4; have rwl4 := hide rwl4; clear kwl4)
              | (refine astep_append_rd wl4 (by rfl) (.tmp 106) (.tmp 111) (by rfl) elem_b8 (by rfl) fwl4.out.own (by rfl) rwl4.out (one_bv _) hm4.out ho4.out fwl4.out.size ?_; intro Awa4 cwa4 wa4 owa4 gwa4 nwa4; have ywa4 := fwl4.out.app (le_len 4 vy) hn4.out owa4 gwa4; have zwa4 := hide (hSA.out _ (ywa4.2 _ _ _ (by decide) hkh.out)); have fwa4 := hide ywa4.1; rw [hn4.out]; clear owa4 gwa4 nwa4 ywa4))
            have hk12 := hide (fwa4.out.kp _ _ _ (by decide) hkh.out).drew
            have hf12 := hide (show Fo wr.drew wa4.drew (B + 1) Awa4 cwa4 n4 (L ++ le 4 ux ++ le 4 uy ++ le 4 vx ++ le 4 vy) from ⟨fwa4.out.len, fwa4.out.own.drew, fwa4.out.bel.drew, fwa4.out.kp.drew, fwa4.out.hB⟩)
            have z12 := hide (hSB.out _ hk12.out)
            clear zwl1 zwa1 zwl2 zwa2 zwl3 zwa3 zwl4 zwa4 fwa4 z0 q1
            go_upto_region 16 with fail
            go_region_held3 (fun W => W.cell? ⟨B, 23, none⟩ = some (.int .i64 at') ∧ W.cell? ⟨B, 21, none⟩ = some (.int .i64 cx) ∧ W.cell? ⟨B, 22, none⟩ = some (.int .i64 cy)) (first | (with_reducible exact z12.out) | (with_reducible exact zwl5.out) | (with_reducible exact zwa5.out) | (with_reducible exact zwl6.out) | (with_reducible exact zwa6.out) | (with_reducible exact zwl7.out) | (with_reducible exact zwa7.out)) (first
              | (go_at_call 87; (with_reducible refine (hf12.out.low1 ua hua2.out).mono ?_); rintro e wl5 ⟨Awl5, cwl5, rfl, fwl5, rwl5, kwl5⟩; have zwl5 := hide (hSB.out _ (kwl5 _ _ _ (by decide) hkh.out)); have fwl5 := hide fwl5; have rwl5 := hide rwl5; clear kwl5)
              | (refine astep_append_rd wl5 (by rfl) (.tmp 113) (.tmp 117) (by rfl) elem_b8 (by rfl) fwl5.out.own (by rfl) rwl5.out (one_bv _) hm5.out ho5.out fwl5.out.size ?_; intro Awa5 cwa5 wa5 owa5 gwa5 nwa5; have ywa5 := fwl5.out.app (le_len 1 ua) hn5.out owa5 gwa5; have zwa5 := hide (hSB.out _ (ywa5.2 _ _ _ (by decide) hkh.out)); have fwa5 := hide ywa5.1; rw [hn5.out]; clear owa5 gwa5 nwa5 ywa5)
              | (go_at_call 87; (with_reducible refine (fwa5.out.low4 uc huc2.out).mono ?_); rintro e wl6 ⟨Awl6, cwl6, rfl, fwl6, rwl6, kwl6⟩; have zwl6 := hide (hSB.out _ (kwl6 _ _ _ (by decide) hkh.out)); have fwl6 := hide fwl6; have rwl6 := hide rwl6; clear kwl6)
              | (refine astep_append_rd wl6 (by rfl) (.tmp 118) (.tmp 123) (by rfl) elem_b8 (by rfl) fwl6.out.own (by rfl) rwl6.out (one_bv _) hm6.out ho6.out fwl6.out.size ?_; intro Awa6 cwa6 wa6 owa6 gwa6 nwa6; have ywa6 := fwl6.out.app (le_len 4 uc) hn6.out owa6 gwa6; have zwa6 := hide (hSB.out _ (ywa6.2 _ _ _ (by decide) hkh.out)); have fwa6 := hide ywa6.1; rw [hn6.out]; clear owa6 gwa6 nwa6 ywa6)
              | (go_at_call 87; (with_reducible refine (fwa6.out.low4 ud hud2.out).mono ?_); rintro e wl7 ⟨Awl7, cwl7, rfl, fwl7, rwl7, kwl7⟩; have zwl7 := hide (hSB.out _ (kwl7 _ _ _ (by decide) hkh.out)); have fwl7 := hide fwl7; have rwl7 := hide rwl7; clear kwl7)
              | (refine astep_append_rd wl7 (by rfl) (.tmp 124) (.tmp 129) (by rfl) elem_b8 (by rfl) fwl7.out.own (by rfl) rwl7.out (one_bv _) hm7.out ho7.out fwl7.out.size ?_; intro Awa7 cwa7 wa7 owa7 gwa7 nwa7; have ywa7 := fwl7.out.app (le_len 4 ud) hn7.out owa7 gwa7; have zwa7 := hide (hSB.out _ (ywa7.2 _ _ _ (by decide) hkh.out)); have fwa7 := hide ywa7.1; rw [hn7.out]; clear owa7 gwa7 nwa7 ywa7))
            go_wp2
            have hfin := hide (show L ++ le 4 ux ++ le 4 uy ++ le 4 vx ++ le 4 vy ++ le 1 ua ++ le 4 uc ++ le 4 ud = headB H from by
              have e1 := le1_um at'
              rw [hua'.out] at e1
              rw [hL.out, sq_all, e1, ← hux'.out, ← huy'.out, ← hvx'.out, ← hvy'.out, ← huc'.out, ← hud'.out, ← hH.out]
              rfl)
            have h7 := h127.out
            subst h7
            go_ret
            exact ⟨_, _, rfl, by rw [hH.out, ← hfin.out]; exact fwa7.out.own, hbw.out.trans (fwa7.out.bel.mono (Nat.le_succ B))⟩

end Go.Proofs.YtaapjampmnanmaaGreat
