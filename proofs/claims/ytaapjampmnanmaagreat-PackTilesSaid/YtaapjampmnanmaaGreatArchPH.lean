/- Layer 13 (arch): the bytes of any header, as the program puts them: a walk. There is no condition but the numbers' bounds. -/
import Derived.Test.YtaapjampmnanmaaGreatArchPut
import Derived.Deep.RegionWith
namespace Go.Proofs.YtaapjampmnanmaaGreat
open Go.RowKit
def um (x : Int) : Nat := (x % 18446744073709551616).toNat
def b8 (x : Int) : UInt8 := UInt8.ofNat (x % 256).toNat
theorem um_eq (x : Int) : x % 18446744073709551616 = (um x : Int) ∧ um x ≤ 18446744073709551615 := by unfold um; omega
theorem bv_b8 (x : Int) : bv (b8 x) = .int .u8 (x % 256) := by
  rw [bv, b8, UInt8.toNat_ofNat', Nat.mod_eq_of_lt (by omega)]
  congr 1
  omega
def mag : List UInt8 := [80, 77, 84, 105, 108, 101, 115, 3]
def prt (h : Hd) : Nat → List UInt8
  | 0 => mag
  | 1 => mag ++ le 8 h.r0 ++ le 8 h.r1
  | 2 => mag ++ le 8 h.r0 ++ le 8 h.r1 ++ le 8 h.m0 ++ le 8 h.m1
  | 3 => mag ++ le 8 h.r0 ++ le 8 h.r1 ++ le 8 h.m0 ++ le 8 h.m1 ++ le 8 h.l0 ++ le 8 h.l1
  | _ => mag ++ le 8 h.r0 ++ le 8 h.r1 ++ le 8 h.m0 ++ le 8 h.m1 ++ le 8 h.l0 ++ le 8 h.l1 ++ le 8 h.d0 ++ le 8 h.d1
def cnt (h : Hd) : Nat → List UInt8
  | 0 => prt h 4
  | 1 => prt h 4 ++ le 8 h.c0
  | 2 => prt h 4 ++ le 8 h.c0 ++ le 8 h.c1
  | _ => prt h 4 ++ le 8 h.c0 ++ le 8 h.c1 ++ le 8 h.c2
def sml (h : Hd) : List UInt8 := cnt h 3 ++ [if h.cl then 1 else 0, b8 h.inn, b8 h.out, b8 h.kind, b8 h.minz, b8 h.maxz]
def pts (h : Hd) : Nat → List UInt8
  | 0 => sml h
  | 1 => sml h ++ le 4 (um h.minx) ++ le 4 (um h.miny)
  | _ => sml h ++ le 4 (um h.minx) ++ le 4 (um h.miny) ++ le 4 (um h.maxx) ++ le 4 (um h.maxy)
def headB (h : Hd) : List UInt8 := pts h 2 ++ [b8 h.at'] ++ le 4 (um h.cx) ++ le 4 (um h.cy)
theorem headB_len (h : Hd) : (headB h).length = 127 := by
  simp only [headB, pts, sml, cnt, prt, List.length_append, le_len, mag, List.length_cons, List.length_nil]
theorem ix0 (x y z : Value) (w : World) : (Instr.index 26 (.agg #[x, y, z]) (.int .i64 0)).run Tryz.prog w = .ok x w := by kernel_rfl
theorem ix1 (x y z : Value) (w : World) : (Instr.index 26 (.agg #[x, y, z]) (.int .i64 1)).run Tryz.prog w = .ok y w := by kernel_rfl
theorem ix2 (x y z : Value) (w : World) : (Instr.index 26 (.agg #[x, y, z]) (.int .i64 2)).run Tryz.prog w = .ok z w := by kernel_rfl
structure Fa (w0 w : World) (B : Nat) (A : Option Addr) (c n : Nat) (L : List UInt8) : Prop where
  len : L.length = n
  ow : Sr w B A n c (L.map bv)
  own : 8 < n → Ow w B 5 A n c (L.map bv)
  bel : Below B w0 w
  kp : Kp w0 w
  hB : B ≤ w0.heap.size
theorem Fa.put {w0 w : World} {B : Nat} {A : Option Addr} {c n : Nat} {L : List UInt8} (h : Fa w0 w B A c n L) (v k n' : Nat) (hn' : n + k = n') (hn : n ≤ 1000) (hk0 : 0 < k) (hk : k ≤ 8) (hv : v ≤ 18446744073709551615) :
    Calls Tryz.prog 51 #[.slice A n c, .int .u64 (v : Int), .int .i64 (k : Int)] w fun e w' => ∃ A' c', e = .returned (.slice A' n' c') ∧ Fa w0 w' B A' c' n' (L ++ le k v) ∧ Kp w w' := by
  obtain ⟨hl, ho, _, hb, hkp, hB⟩ := h
  subst hl hn'
  refine (put13_any B A c L v k w ho (Nat.le_trans hB hb.size) hk0 hn hk hv).mono ?_
  rintro e w' ⟨A', c', he, ho', hb', hk'⟩
  exact ⟨A', c', he, ⟨by rw [List.length_append, le_len], .inl ho', fun _ => ho', hb.trans hb', hkp.trans hk', hB⟩, hk'⟩
theorem Fa.put8 {w0 w : World} {B : Nat} {A : Option Addr} {c n : Nat} {L : List UInt8} (h : Fa w0 w B A c n L) (v n' : Nat) (hn' : n + 8 = n') (hn : n ≤ 1000) (hv : v ≤ 18446744073709551615) :
    Calls Tryz.prog 51 #[.slice A n c, .int .u64 (v : Int), .int .i64 8] w fun e w' => ∃ A' c', e = .returned (.slice A' n' c') ∧ Fa w0 w' B A' c' n' (L ++ le 8 v) ∧ Kp w w' := h.put v 8 n' hn' hn (by decide) (by decide) hv
theorem Fa.put4 {w0 w : World} {B : Nat} {A : Option Addr} {c n : Nat} {L : List UInt8} (h : Fa w0 w B A c n L) (v n' : Nat) (hn' : n + 4 = n') (hn : n ≤ 1000) (hv : v ≤ 18446744073709551615) :
    Calls Tryz.prog 51 #[.slice A n c, .int .u64 (v : Int), .int .i64 4] w fun e w' => ∃ A' c', e = .returned (.slice A' n' c') ∧ Fa w0 w' B A' c' n' (L ++ le 4 v) ∧ Kp w w' := h.put v 4 n' hn' hn (by decide) (by decide) hv
theorem Fa.drew {w0 w : World} {B : Nat} {A : Option Addr} {c n : Nat} {L : List UInt8} (h : Fa w0 w B A c n L) : Fa w0 w.drew B A c n L :=
  ⟨h.len, h.ow.drew, fun hn => (h.own hn).drew, h.bel.trans ⟨rfl, rfl, rfl, Nat.le_refl _, fun _ _ => rfl⟩, h.kp.drew, h.hB⟩
theorem Fa.alloc {w0 w : World} {B : Nat} {A : Option Addr} {c n : Nat} {L : List UInt8} (h : Fa w0 w B A c n L) (o : Obj) : Fa w0 (w.alloc o) B A c n L :=
  ⟨h.len, h.ow.alloc o, fun hn => (h.own hn).alloc o, h.bel.alloc (Nat.le_trans h.hB h.bel.size) o, h.kp.alloc o, h.hB⟩
theorem Fa.app {w0 w w' : World} {B : Nat} {A A' : Option Addr} {c n c' n' m : Nat} {L news : List UInt8} {o : Obj} (h : Fa w0 w B A c n L) (h8 : 8 < n) (hm : news.length = m) (hn' : n + m = n') (ho : Ow w' B 5 A' (n + m) c' (L.map bv ++ news.map bv)) (hc : Chg (fun k => blk A = some k) (w.alloc o) w') : Fa w0 w' B A' c' n' (L ++ news) := by
  subst hm hn'
  have ho' : Ow w' B 5 A' (n + news.length) c' ((L ++ news).map bv) := by rw [List.map_append]; exact ho
  have hB : B ≤ w.heap.size := Nat.le_trans h.hB h.bel.size
  exact ⟨by rw [List.length_append, h.len], .inl ho', fun _ => ho', (h.bel.alloc hB o).trans (hc.to_below (by simp; omega) (fun i hi => ((h.own h8).blk_lt i hi).1)), (h.kp.alloc o).trans (kp_chg ((h.own h8).alloc o) hc), h.hB⟩
set_option maxRecDepth 100000 in
set_option maxHeartbeats 4000000 in
theorem puthead_any (h : Hd) (hk : h.Ok) (hc : h.c0 ≤ 18446744073709551615 ∧ h.c1 ≤ 18446744073709551615 ∧ h.c2 ≤ 18446744073709551615) (w : World) :
    Calls Tryz.prog 26 #[.agg h.cells] w fun e w' => ∃ A c, e = .returned (.slice A 127 c) ∧ Ow w' (w.heap.size + 1) 5 A 127 c ((headB h).map bv) ∧ Below w.heap.size w w' := by
  obtain ⟨u⟩ := hk
  have hP := hide (show ∀ k, prt h k = prt h k from fun _ => rfl)
  obtain ⟨H, hH⟩ : ∃ H, h = H := ⟨_, rfl⟩
  obtain ⟨r0, r1, m0, m1, l0, l1, d0, d1, c0, c1, c2, cl, inn, out, kind, minz, maxz, minx, miny, maxx, maxy, cx, cy, at'⟩ := h
  rw [hH]
  replace hH := hide hH
  unfold Hd.cells
  rw [← hH.out]
  simp only at u hc
  simp only
  replace u := hide u
  replace hc := hide hc
  obtain ⟨B, hB0⟩ : ∃ B, w.heap.size = B := ⟨_, rfl⟩
  obtain ⟨w1, hw1⟩ : ∃ W, w.alloc (.cells #[.int .u64 (r0 : Int), .int .u64 (r1 : Int), .int .u64 (m0 : Int), .int .u64 (m1 : Int), .int .u64 (l0 : Int), .int .u64 (l1 : Int), .int .u64 (d0 : Int), .int .u64 (d1 : Int), .int .u64 (c0 : Int), .int .u64 (c1 : Int), .int .u64 (c2 : Int), .bool cl, .int .i64 inn, .int .i64 out, .int .i64 kind, .int .i64 minz, .int .i64 maxz, .int .i64 minx, .int .i64 miny, .int .i64 maxx, .int .i64 maxy, .int .i64 cx, .int .i64 cy, .int .i64 at'] 30) = W := ⟨_, rfl⟩
  obtain ⟨wa, hwa⟩ : ∃ W, w1.alloc (.cells #[.int .u8 80, .int .u8 77, .int .u8 84, .int .u8 105, .int .u8 108, .int .u8 101, .int .u8 115, .int .u8 3] 5) = W := ⟨_, rfl⟩
  obtain ⟨w2, hw2⟩ : ∃ W, w1.alloc (.cells #[.int .u8 80, .int .u8 77, .int .u8 84, .int .u8 105, .int .u8 108, .int .u8 101, .int .u8 115, .int .u8 3] 5 (8, 9)) = W := ⟨_, rfl⟩
  obtain ⟨w3, hw3⟩ : ∃ W, w2.alloc (.cells #[.int .u64 (r0 : Int), .int .u64 (r1 : Int), .int .u64 (m0 : Int), .int .u64 (m1 : Int), .int .u64 (l0 : Int), .int .u64 (l1 : Int), .int .u64 (d0 : Int), .int .u64 (d1 : Int)] 25) = W := ⟨_, rfl⟩
  have hk1 : Blk w1 B 30 #[.int .u64 (r0 : Int), .int .u64 (r1 : Int), .int .u64 (m0 : Int), .int .u64 (m1 : Int), .int .u64 (l0 : Int), .int .u64 (l1 : Int), .int .u64 (d0 : Int), .int .u64 (d1 : Int), .int .u64 (c0 : Int), .int .u64 (c1 : Int), .int .u64 (c2 : Int), .bool cl, .int .i64 inn, .int .i64 out, .int .i64 kind, .int .i64 minz, .int .i64 maxz, .int .i64 minx, .int .i64 miny, .int .i64 maxx, .int .i64 maxy, .int .i64 cx, .int .i64 cy, .int .i64 at'] := by rw [← hw1, ← hB0]; exact Blk.new w _ _
  have hs1 : w1.heap.size = B + 1 := by rw [← hw1, ← hB0]; simp
  have hs2 : w2.heap.size = B + 1 + 1 := by rw [← hw2, ← hs1]; simp
  have hk3 : Blk w3 B 30 #[.int .u64 (r0 : Int), .int .u64 (r1 : Int), .int .u64 (m0 : Int), .int .u64 (m1 : Int), .int .u64 (l0 : Int), .int .u64 (l1 : Int), .int .u64 (d0 : Int), .int .u64 (d1 : Int), .int .u64 (c0 : Int), .int .u64 (c1 : Int), .int .u64 (c2 : Int), .bool cl, .int .i64 inn, .int .i64 out, .int .i64 kind, .int .i64 minz, .int .i64 maxz, .int .i64 minx, .int .i64 miny, .int .i64 maxx, .int .i64 maxy, .int .i64 cx, .int .i64 cy, .int .i64 at'] := by rw [← hw3, ← hw2]; exact (hk1.alloc _).alloc _
  have hp3 : Blk w3 (B + 1 + 1) 25 #[.int .u64 (r0 : Int), .int .u64 (r1 : Int), .int .u64 (m0 : Int), .int .u64 (m1 : Int), .int .u64 (l0 : Int), .int .u64 (l1 : Int), .int .u64 (d0 : Int), .int .u64 (d1 : Int)] := by rw [← hw3, ← hs2]; exact Blk.new w2 _ _
  have hb3 : Below B w w3 := by rw [← hw3, ← hw2, ← hw1, ← hB0]; exact (((Below.refl _ w).alloc (Nat.le_refl _) _).alloc (by simp) _).alloc (by simp; omega) _
  have hf3 : Fa w3 w3 (B + 1) (some ⟨B + 1, 0, none⟩) 8 8 mag := ⟨rfl, by
    rw [← hw3, ← hw2, ← hs1]
    exact Sr.alloc (.inr ⟨rfl, by decide, w1.heap.size + 1, by simp, Rd.new w1 #[.int .u8 80, .int .u8 77, .int .u8 84, .int .u8 105, .int .u8 108, .int .u8 101, .int .u8 115, .int .u8 3] 5 (8, 9)⟩) _, fun h => absurd h (by decide), Below.refl _ _, Kp.refl _, by rw [← hw3]; simp; omega⟩
  have g0 : w2.cell? ⟨B, 0, none⟩ = some (.int .u64 (r0 : Int)) := by rw [← hw2]; exact (hk1.alloc _).cell 0
  have g1 : w2.cell? ⟨B, 1, none⟩ = some (.int .u64 (r1 : Int)) := by rw [← hw2]; exact (hk1.alloc _).cell 1
  have g2 : w2.cell? ⟨B, 2, none⟩ = some (.int .u64 (m0 : Int)) := by rw [← hw2]; exact (hk1.alloc _).cell 2
  have g3 : w2.cell? ⟨B, 3, none⟩ = some (.int .u64 (m1 : Int)) := by rw [← hw2]; exact (hk1.alloc _).cell 3
  have g4 : w2.cell? ⟨B, 4, none⟩ = some (.int .u64 (l0 : Int)) := by rw [← hw2]; exact (hk1.alloc _).cell 4
  have g5 : w2.cell? ⟨B, 5, none⟩ = some (.int .u64 (l1 : Int)) := by rw [← hw2]; exact (hk1.alloc _).cell 5
  have g6 : w2.cell? ⟨B, 6, none⟩ = some (.int .u64 (d0 : Int)) := by rw [← hw2]; exact (hk1.alloc _).cell 6
  have g7 : w2.cell? ⟨B, 7, none⟩ = some (.int .u64 (d1 : Int)) := by rw [← hw2]; exact (hk1.alloc _).cell 7
  rw [hB0]
  replace hk1 := hide hk1
  replace hk3 := hide hk3
  replace hp3 := hide hp3
  replace hb3 := hide hb3
  replace hf3 := hide hf3
  have hcv : (convert 22 22 (.slice (some ⟨B + 1, 0, none⟩) 8 8)).run Tryz.prog wa = .ok (.slice (some ⟨B + 1, 0, none⟩) 8 8) w2 := by
    rw [← hwa, ← hw2, ← hs1]
    exact Go.Lib.run_convert_bytes_const w1 _ _ #[.int .u8 80, .int .u8 77, .int .u8 84, .int .u8 105, .int .u8 108, .int .u8 101, .int .u8 115, .int .u8 3] 8 8 Tryz.underlying22 Tryz.underlying5
  go_enter Tryz.func26, Tryz.ntmps26
  go_wp2
  go_loopw [3, 23] (fun s3 s23 wr => ∃ (k n : Nat) (A : Option Addr) (c : Nat) (L : List UInt8), k ≤ 4 ∧ s3 = .slice A n c ∧ s23 = .int .i64 (k : Int) ∧ Hid (n = 8 + 16 * k) ∧ Hid (L = prt H k) ∧ Hid (Fa w3 wr (B + 1) A c n L)) (fun _ s23 _ => 4 - (intOf s23).toNat)
  case atStart => exact ⟨0, 8, _, 8, mag, by omega, rfl, rfl, hide rfl, hide rfl, hf3⟩
  case round =>
    obtain ⟨k, n, A, c, L, hk4, rfl, rfl, hn, hL, hf⟩ := hrel
    have hnb := hide (show n + 8 ≤ 1000 by have := hn.out; omega)
    obtain ⟨n1, hn1⟩ : ∃ n1, n + 8 = n1 := ⟨_, rfl⟩
    obtain ⟨n2, hn2⟩ : ∃ n2, n1 + 8 = n2 := ⟨_, rfl⟩
    replace hn1 := hide hn1
    replace hn2 := hide hn2
    have hpr := hide (hf.out.kp _ _ _ (by decide) hp3.out)
    rcases (show k = 0 ∨ k = 1 ∨ k = 2 ∨ k = 3 ∨ k = 4 by omega) with rfl | rfl | rfl | rfl | rfl
    · have y0 : wr.cell? ⟨B + 1 + 1, 0, none⟩ = some (.int .u64 (r0 : Int)) := hpr.out.cell 0
      have y1 : wr.cell? ⟨B + 1 + 1, 1, none⟩ = some (.int .u64 (r1 : Int)) := hpr.out.cell 1
      obtain ⟨S, hS⟩ : ∃ S, wr.heap.size = S := ⟨_, rfl⟩
      obtain ⟨wq, hwq⟩ : ∃ W, wr.alloc (.cells #[.int .u64 (r0 : Int), .int .u64 (r1 : Int)] 25) = W := ⟨_, rfl⟩
      have hkq : Blk wq S 25 #[.int .u64 (r0 : Int), .int .u64 (r1 : Int)] := by rw [← hwq, ← hS]; exact Blk.new wr _ _
      have z0 : wq.drew.cell? ⟨S, 0, none⟩ = some (.int .u64 (r0 : Int)) := hkq.drew.cell 0
      have z1 : wq.drew.cell? ⟨S, 1, none⟩ = some (.int .u64 (r1 : Int)) := hkq.drew.cell 1
      have hfq := hide (show Fa w3 wq.drew (B + 1) A c n L from by rw [← hwq]; exact (hf.out.alloc _).drew)
      have q1 := hide (hfq.out.put8 r0 n1 hn1.out (by have := hnb.out; omega) (by have := u.out; omega))
      have q2 := hide (fun W A c L (h : Fa w3 W (B + 1) A c n1 L) => h.put8 r1 n2 hn2.out (by have := hnb.out; have := hn1.out; omega) (by have := u.out; omega))
      replace hkq := hide hkq.drew
      go_upto_region 5 with fail
      go_region_with (first
        | (go_at_call 51; (with_reducible refine q1.out.mono ?_); rintro e w4 ⟨A4, c4, rfl, hf4, hk4⟩; have v1 : w4.cell? ⟨S, 1, none⟩ = some (.int .u64 (r1 : Int)) := (hk4 _ _ _ (by decide) hkq.out).cell 1; have hf4 := hide hf4; clear hk4)
        | (go_at_call 51; (with_reducible refine (q2.out _ _ _ _ hf4.out).mono ?_); rintro e w5 ⟨A5, c5, rfl, hf5, hk5⟩; have hf5 := hide hf5; clear hk5))
      all_goals
        go_wp2
        go_roundw
        case rel => exact ⟨1, n2, A5, c5, _, by omega, rfl, by go_num, hide (by rw [← hn2.out, ← hn1.out, hn.out]), hide (by rw [hL.out, ← hH.out]; rfl), hf5⟩
        case measure => simp [intOf] <;> omega
    · have y0 : wr.cell? ⟨B + 1 + 1, 2, none⟩ = some (.int .u64 (m0 : Int)) := hpr.out.cell 2
      have y1 : wr.cell? ⟨B + 1 + 1, 3, none⟩ = some (.int .u64 (m1 : Int)) := hpr.out.cell 3
      obtain ⟨S, hS⟩ : ∃ S, wr.heap.size = S := ⟨_, rfl⟩
      obtain ⟨wq, hwq⟩ : ∃ W, wr.alloc (.cells #[.int .u64 (m0 : Int), .int .u64 (m1 : Int)] 25) = W := ⟨_, rfl⟩
      have hkq : Blk wq S 25 #[.int .u64 (m0 : Int), .int .u64 (m1 : Int)] := by rw [← hwq, ← hS]; exact Blk.new wr _ _
      have z0 : wq.drew.cell? ⟨S, 0, none⟩ = some (.int .u64 (m0 : Int)) := hkq.drew.cell 0
      have z1 : wq.drew.cell? ⟨S, 1, none⟩ = some (.int .u64 (m1 : Int)) := hkq.drew.cell 1
      have hfq := hide (show Fa w3 wq.drew (B + 1) A c n L from by rw [← hwq]; exact (hf.out.alloc _).drew)
      have q1 := hide (hfq.out.put8 m0 n1 hn1.out (by have := hnb.out; omega) (by have := u.out; omega))
      have q2 := hide (fun W A c L (h : Fa w3 W (B + 1) A c n1 L) => h.put8 m1 n2 hn2.out (by have := hnb.out; have := hn1.out; omega) (by have := u.out; omega))
      replace hkq := hide hkq.drew
      go_upto_region 5 with fail
      go_region_with (first
        | (go_at_call 51; (with_reducible refine q1.out.mono ?_); rintro e w4 ⟨A4, c4, rfl, hf4, hk4⟩; have v1 : w4.cell? ⟨S, 1, none⟩ = some (.int .u64 (m1 : Int)) := (hk4 _ _ _ (by decide) hkq.out).cell 1; have hf4 := hide hf4; clear hk4)
        | (go_at_call 51; (with_reducible refine (q2.out _ _ _ _ hf4.out).mono ?_); rintro e w5 ⟨A5, c5, rfl, hf5, hk5⟩; have hf5 := hide hf5; clear hk5))
      all_goals
        go_wp2
        go_roundw
        case rel => exact ⟨2, n2, A5, c5, _, by omega, rfl, by go_num, hide (by rw [← hn2.out, ← hn1.out, hn.out]), hide (by rw [hL.out, ← hH.out]; rfl), hf5⟩
        case measure => simp [intOf] <;> omega
    · have y0 : wr.cell? ⟨B + 1 + 1, 4, none⟩ = some (.int .u64 (l0 : Int)) := hpr.out.cell 4
      have y1 : wr.cell? ⟨B + 1 + 1, 5, none⟩ = some (.int .u64 (l1 : Int)) := hpr.out.cell 5
      obtain ⟨S, hS⟩ : ∃ S, wr.heap.size = S := ⟨_, rfl⟩
      obtain ⟨wq, hwq⟩ : ∃ W, wr.alloc (.cells #[.int .u64 (l0 : Int), .int .u64 (l1 : Int)] 25) = W := ⟨_, rfl⟩
      have hkq : Blk wq S 25 #[.int .u64 (l0 : Int), .int .u64 (l1 : Int)] := by rw [← hwq, ← hS]; exact Blk.new wr _ _
      have z0 : wq.drew.cell? ⟨S, 0, none⟩ = some (.int .u64 (l0 : Int)) := hkq.drew.cell 0
      have z1 : wq.drew.cell? ⟨S, 1, none⟩ = some (.int .u64 (l1 : Int)) := hkq.drew.cell 1
      have hfq := hide (show Fa w3 wq.drew (B + 1) A c n L from by rw [← hwq]; exact (hf.out.alloc _).drew)
      have q1 := hide (hfq.out.put8 l0 n1 hn1.out (by have := hnb.out; omega) (by have := u.out; omega))
      have q2 := hide (fun W A c L (h : Fa w3 W (B + 1) A c n1 L) => h.put8 l1 n2 hn2.out (by have := hnb.out; have := hn1.out; omega) (by have := u.out; omega))
      replace hkq := hide hkq.drew
      go_upto_region 5 with fail
      go_region_with (first
        | (go_at_call 51; (with_reducible refine q1.out.mono ?_); rintro e w4 ⟨A4, c4, rfl, hf4, hk4⟩; have v1 : w4.cell? ⟨S, 1, none⟩ = some (.int .u64 (l1 : Int)) := (hk4 _ _ _ (by decide) hkq.out).cell 1; have hf4 := hide hf4; clear hk4)
        | (go_at_call 51; (with_reducible refine (q2.out _ _ _ _ hf4.out).mono ?_); rintro e w5 ⟨A5, c5, rfl, hf5, hk5⟩; have hf5 := hide hf5; clear hk5))
      all_goals
        go_wp2
        go_roundw
        case rel => exact ⟨3, n2, A5, c5, _, by omega, rfl, by go_num, hide (by rw [← hn2.out, ← hn1.out, hn.out]), hide (by rw [hL.out, ← hH.out]; rfl), hf5⟩
        case measure => simp [intOf] <;> omega
    · have y0 : wr.cell? ⟨B + 1 + 1, 6, none⟩ = some (.int .u64 (d0 : Int)) := hpr.out.cell 6
      have y1 : wr.cell? ⟨B + 1 + 1, 7, none⟩ = some (.int .u64 (d1 : Int)) := hpr.out.cell 7
      obtain ⟨S, hS⟩ : ∃ S, wr.heap.size = S := ⟨_, rfl⟩
      obtain ⟨wq, hwq⟩ : ∃ W, wr.alloc (.cells #[.int .u64 (d0 : Int), .int .u64 (d1 : Int)] 25) = W := ⟨_, rfl⟩
      have hkq : Blk wq S 25 #[.int .u64 (d0 : Int), .int .u64 (d1 : Int)] := by rw [← hwq, ← hS]; exact Blk.new wr _ _
      have z0 : wq.drew.cell? ⟨S, 0, none⟩ = some (.int .u64 (d0 : Int)) := hkq.drew.cell 0
      have z1 : wq.drew.cell? ⟨S, 1, none⟩ = some (.int .u64 (d1 : Int)) := hkq.drew.cell 1
      have hfq := hide (show Fa w3 wq.drew (B + 1) A c n L from by rw [← hwq]; exact (hf.out.alloc _).drew)
      have q1 := hide (hfq.out.put8 d0 n1 hn1.out (by have := hnb.out; omega) (by have := u.out; omega))
      have q2 := hide (fun W A c L (h : Fa w3 W (B + 1) A c n1 L) => h.put8 d1 n2 hn2.out (by have := hnb.out; have := hn1.out; omega) (by have := u.out; omega))
      replace hkq := hide hkq.drew
      go_upto_region 5 with fail
      go_region_with (first
        | (go_at_call 51; (with_reducible refine q1.out.mono ?_); rintro e w4 ⟨A4, c4, rfl, hf4, hk4⟩; have v1 : w4.cell? ⟨S, 1, none⟩ = some (.int .u64 (d1 : Int)) := (hk4 _ _ _ (by decide) hkq.out).cell 1; have hf4 := hide hf4; clear hk4)
        | (go_at_call 51; (with_reducible refine (q2.out _ _ _ _ hf4.out).mono ?_); rintro e w5 ⟨A5, c5, rfl, hf5, hk5⟩; have hf5 := hide hf5; clear hk5))
      all_goals
        go_wp2
        go_roundw
        case rel => exact ⟨4, n2, A5, c5, _, by omega, rfl, by go_num, hide (by rw [← hn2.out, ← hn1.out, hn.out]), hide (by rw [hL.out, ← hH.out]; rfl), hf5⟩
        case measure => simp [intOf] <;> omega
    · clear hpr hp3 hnb
      have hkh := hide (hf.out.kp _ _ _ (by decide) hk3.out)
      have y8 : wr.cell? ⟨B, 8, none⟩ = some (.int .u64 (c0 : Int)) := hkh.out.cell 8
      have y9 : wr.cell? ⟨B, 9, none⟩ = some (.int .u64 (c1 : Int)) := hkh.out.cell 9
      have y10 : wr.cell? ⟨B, 10, none⟩ = some (.int .u64 (c2 : Int)) := hkh.out.cell 10
      have hn72 : n = 72 := hn.out
      have hL0 := hide (show L = cnt H 0 from hL.out)
      have hn0 := hide (show n = 72 + 8 * 0 from hn72)
      clear hn72 hn hL hkh
      have hi0 := ix0
      have hi1 := ix1
      have hi2 := ix2
      rw [show ((4 : Nat) : Int) = 4 from rfl]
      go_wp2
      go_loopw [3, 37] (fun s3 s37 wr => ∃ (k n : Nat) (A : Option Addr) (c : Nat) (L : List UInt8), k ≤ 3 ∧ s3 = .slice A n c ∧ s37 = .int .i64 (k : Int) ∧ Hid (n = 72 + 8 * k) ∧ Hid (L = cnt H k) ∧ Hid (Fa w3 wr (B + 1) A c n L)) (fun _ s37 _ => 3 - (intOf s37).toNat)
      case atStart => exact ⟨0, n, A, c, L, by omega, rfl, rfl, hn0, hL0, hf⟩
      case round =>
        obtain ⟨k, n, A, c, L, hk3', rfl, rfl, hn, hL, hf⟩ := hrel
        have hnb := hide (show n + 8 ≤ 1000 by have := hn.out; omega)
        obtain ⟨n1, hn1⟩ : ∃ n1, n + 8 = n1 := ⟨_, rfl⟩
        replace hn1 := hide hn1
        rcases (show k = 0 ∨ k = 1 ∨ k = 2 ∨ k = 3 by omega) with rfl | rfl | rfl | rfl
        · have q1 := hide (hf.out.put8 c0 n1 hn1.out (by have := hnb.out; omega) (by have := hc.out; omega))
          go_wp2_with (go_at_call 51; (with_reducible refine q1.out.mono ?_); rintro e w4 ⟨A4, c4, rfl, hf4, hk4⟩; have hf4 := hide hf4; clear hk4)
          go_roundw
          case rel => exact ⟨1, n1, A4, c4, _, by omega, rfl, by go_num, hide (by rw [← hn1.out, hn.out]), hide (by rw [hL.out, ← hH.out]; rfl), hf4⟩
          case measure => simp [intOf] <;> omega
        · have q1 := hide (hf.out.put8 c1 n1 hn1.out (by have := hnb.out; omega) (by have := hc.out; omega))
          go_wp2_with (go_at_call 51; (with_reducible refine q1.out.mono ?_); rintro e w4 ⟨A4, c4, rfl, hf4, hk4⟩; have hf4 := hide hf4; clear hk4)
          go_roundw
          case rel => exact ⟨2, n1, A4, c4, _, by omega, rfl, by go_num, hide (by rw [← hn1.out, hn.out]), hide (by rw [hL.out, ← hH.out]; rfl), hf4⟩
          case measure => simp [intOf] <;> omega
        · have q1 := hide (hf.out.put8 c2 n1 hn1.out (by have := hnb.out; omega) (by have := hc.out; omega))
          go_wp2_with (go_at_call 51; (with_reducible refine q1.out.mono ?_); rintro e w4 ⟨A4, c4, rfl, hf4, hk4⟩; have hf4 := hide hf4; clear hk4)
          go_roundw
          case rel => exact ⟨3, n1, A4, c4, _, by omega, rfl, by go_num, hide (by rw [← hn1.out, hn.out]), hide (by rw [hL.out, ← hH.out]; rfl), hf4⟩
          case measure => simp [intOf] <;> omega
        · have hkh := hide (hf.out.kp _ _ _ (by decide) hk3.out)
          have y11 : wr.cell? ⟨B, 11, none⟩ = some (.bool cl) := hkh.out.cell 11
          have y12 : wr.cell? ⟨B, 12, none⟩ = some (.int .i64 inn) := hkh.out.cell 12
          have y13 : wr.cell? ⟨B, 13, none⟩ = some (.int .i64 out) := hkh.out.cell 13
          have y14 : wr.cell? ⟨B, 14, none⟩ = some (.int .i64 kind) := hkh.out.cell 14
          have y15 : wr.cell? ⟨B, 15, none⟩ = some (.int .i64 minz) := hkh.out.cell 15
          have y16 : wr.cell? ⟨B, 16, none⟩ = some (.int .i64 maxz) := hkh.out.cell 16
          have h8 := hide (show 8 < n by have := hn.out; omega)
          have how := hide (hf.out.own h8.out)
          have h63 := hide (show n + 6 ≤ maxLen by have := hnb.out; simp only [maxLen]; omega)
          have h64 := hide (show (n + 6) * 1 ≤ 140737488355328 by have := hnb.out; omega)
          have hbs := hide (show B + 1 ≤ wr.heap.size from Nat.le_trans hf.out.hB hf.out.bel.size)
          obtain ⟨n6, hn6⟩ : ∃ n6, n + 6 = n6 := ⟨_, rfl⟩
          have hn102 : n6 = 102 := by have := hn.out; omega
          have hn6p := hn6
          replace hn6 := hide hn6
          obtain ⟨X1, hX1⟩ : ∃ X, inn % 256 = X := ⟨_, rfl⟩
          obtain ⟨X2, hX2⟩ : ∃ X, out % 256 = X := ⟨_, rfl⟩
          obtain ⟨X3, hX3⟩ : ∃ X, kind % 256 = X := ⟨_, rfl⟩
          obtain ⟨X4, hX4⟩ : ∃ X, minz % 256 = X := ⟨_, rfl⟩
          obtain ⟨X5, hX5⟩ : ∃ X, maxz % 256 = X := ⟨_, rfl⟩
          replace hn102 := hide hn102
          rw [show ((3 : Nat) : Int) = 3 from rfl]
          cases cl with
          | false =>
            have hL6 := hide (show (L ++ [if false then 1 else 0, b8 inn, b8 out, b8 kind, b8 minz, b8 maxz]) = sml H from by rw [hL.out, ← hH.out]; rfl)
            have hnews := hide (show [Value.int .u8 0, .int .u8 X1, .int .u8 X2, .int .u8 X3, .int .u8 X4, .int .u8 X5] = ([if false then 1 else 0, b8 inn, b8 out, b8 kind, b8 minz, b8 maxz] : List UInt8).map bv from by
              simp only [List.map_cons, List.map_nil, bv_b8, hX1, hX2, hX3, hX4, hX5]
              rfl)
            have hrd := hide (Rd.new wr #[.int .u8 0, .int .u8 X1, .int .u8 X2, .int .u8 X3, .int .u8 X4, .int .u8 X5] 5 (0, 0))
            have h1c := hide (show ∀ u ∈ (#[.int .u8 0, .int .u8 X1, .int .u8 X2, .int .u8 X3, .int .u8 X4, .int .u8 X5] : Array Value).toList, u.oneCell' = true from by
              intro u hu
              simp at hu
              rcases hu with rfl | rfl | rfl | rfl | rfl | rfl <;> rfl)
            go_wp2_with (at_builtin; refine wpList_append_rd (wr.alloc (.cells #[.int .u8 0, .int .u8 X1, .int .u8 X2, .int .u8 X3, .int .u8 X4, .int .u8 X5] 5)) rfl (.tmp 46) (.tmp 63) rfl elem_b8 rfl (how.out.alloc _) rfl hrd.out h1c.out h63.out h64.out (Nat.le_trans hbs.out (by simp)) ?_; intro A7 c7 w7 ho7 hc7 hn7; have hf7 := hide (hf.out.app h8.out (m := 6) rfl hn6.out (by rw [← hnews.out]; exact ho7) hc7); clear ho7 hc7 hn7; rw [hL6.out] at hf7; have hk7 := hide (hf7.out.kp _ _ _ (by decide) hk3.out); have t17 : w7.cell? ⟨B, 17, none⟩ = some (.int .i64 minx) := hk7.out.cell 17; have t18 : w7.cell? ⟨B, 18, none⟩ = some (.int .i64 miny) := hk7.out.cell 18; have t19 : w7.cell? ⟨B, 19, none⟩ = some (.int .i64 maxx) := hk7.out.cell 19; have t20 : w7.cell? ⟨B, 20, none⟩ = some (.int .i64 maxy) := hk7.out.cell 20; obtain ⟨w8, hw8⟩ : ∃ W, w7.alloc (.cells #[.int .i64 minx, .int .i64 miny, .int .i64 maxx, .int .i64 maxy] 28) = W := ⟨_, rfl⟩; obtain ⟨S8, hS8⟩ : ∃ S, w7.heap.size = S := ⟨_, rfl⟩; have hp8 : Blk w8 S8 28 #[.int .i64 minx, .int .i64 miny, .int .i64 maxx, .int .i64 maxy] := by rw [← hw8, ← hS8]; exact (Blk.new w7 _ _))
            replace hp8 := hide hp8
            have hk8 := hide (show Blk w8 B 30 #[.int .u64 (r0 : Int), .int .u64 (r1 : Int), .int .u64 (m0 : Int), .int .u64 (m1 : Int), .int .u64 (l0 : Int), .int .u64 (l1 : Int), .int .u64 (d0 : Int), .int .u64 (d1 : Int), .int .u64 (c0 : Int), .int .u64 (c1 : Int), .int .u64 (c2 : Int), .bool false, .int .i64 inn, .int .i64 out, .int .i64 kind, .int .i64 minz, .int .i64 maxz, .int .i64 minx, .int .i64 miny, .int .i64 maxx, .int .i64 maxy, .int .i64 cx, .int .i64 cy, .int .i64 at'] from by rw [← hw8]; exact hk7.out.alloc _)
            have hb8 := hide (show Below (B + 1) w3 w8 from by rw [← hw8]; exact (hf7.out.alloc _).bel)
            have hf8 := hide (show Fa w8 w8 (B + 1) A7 c7 n6 (sml H) from by
              have h9 := hf7.out.alloc (.cells #[.int .i64 minx, .int .i64 miny, .int .i64 maxx, .int .i64 maxy] 28)
              rw [hw8] at h9
              exact ⟨h9.len, h9.ow, h9.own, Below.refl _ _, Kp.refl _, Nat.le_trans h9.hB h9.bel.size⟩)
            have hux := um_eq minx
            have huy := um_eq miny
            have hvx := um_eq maxx
            have hvy := um_eq maxy
            obtain ⟨ux, hux'⟩ : ∃ x, um minx = x := ⟨_, rfl⟩
            obtain ⟨uy, huy'⟩ : ∃ x, um miny = x := ⟨_, rfl⟩
            obtain ⟨vx, hvx'⟩ : ∃ x, um maxx = x := ⟨_, rfl⟩
            obtain ⟨vy, hvy'⟩ : ∃ x, um maxy = x := ⟨_, rfl⟩
            rw [hux'] at hux
            rw [huy'] at huy
            rw [hvx'] at hvx
            rw [hvy'] at hvy
            replace hux' := hide hux'
            replace huy' := hide huy'
            replace hvx' := hide hvx'
            replace hvy' := hide hvy'
            obtain ⟨hux, hux2⟩ := hux
            obtain ⟨huy, huy2⟩ := huy
            obtain ⟨hvx, hvx2⟩ := hvx
            obtain ⟨hvy, hvy2⟩ := hvy
            replace hux2 := hide hux2
            replace huy2 := hide huy2
            replace hvx2 := hide hvx2
            replace hvy2 := hide hvy2
            have huxw : IntKind.u64.wrap minx = (ux : Int) := by rw [IntKind.wrap_u64]; exact hux
            have huyw : IntKind.u64.wrap miny = (uy : Int) := by rw [IntKind.wrap_u64]; exact huy
            have hvxw : IntKind.u64.wrap maxx = (vx : Int) := by rw [IntKind.wrap_u64]; exact hvx
            have hvyw : IntKind.u64.wrap maxy = (vy : Int) := by rw [IntKind.wrap_u64]; exact hvy
            clear hf7 hk7 t17 t18 t19 t20 hn6 hnb hn1 hf hL hn hkh how h8 hbs
            go_wp2
            go_loopw [3, 71] (fun s3 s71 wr => ∃ (k n : Nat) (A : Option Addr) (c : Nat) (L : List UInt8), k ≤ 2 ∧ s3 = .slice A n c ∧ s71 = .int .i64 (k : Int) ∧ Hid (n = 102 + 8 * k) ∧ Hid (L = pts H k) ∧ Hid (Fa w8 wr (B + 1) A c n L)) (fun _ s71 _ => 2 - (intOf s71).toNat)
            case atStart => exact ⟨0, n6, A7, c7, sml H, by omega, rfl, rfl, hide hn102.out, hide rfl, hf8⟩
            case round =>
              obtain ⟨k, n, A, c, L, hk2', rfl, rfl, hn, hL, hf⟩ := hrel
              have hnb := hide (show n + 8 ≤ 1000 by have := hn.out; omega)
              obtain ⟨n1, hn1⟩ : ∃ n1, n + 4 = n1 := ⟨_, rfl⟩
              obtain ⟨n2, hn2⟩ : ∃ n2, n1 + 4 = n2 := ⟨_, rfl⟩
              replace hn1 := hide hn1
              replace hn2 := hide hn2
              have hpr := hide (hf.out.kp _ _ _ (by decide) hp8.out)
              rcases (show k = 0 ∨ k = 1 ∨ k = 2 by omega) with rfl | rfl | rfl
              · have y0 : wr.cell? ⟨S8, 0, none⟩ = some (.int .i64 minx) := hpr.out.cell 0
                have y1 : wr.cell? ⟨S8, 1, none⟩ = some (.int .i64 miny) := hpr.out.cell 1
                obtain ⟨S, hS⟩ : ∃ S, wr.heap.size = S := ⟨_, rfl⟩
                obtain ⟨wq, hwq⟩ : ∃ W, wr.alloc (.cells #[.int .i64 minx, .int .i64 miny] 28) = W := ⟨_, rfl⟩
                have hkq : Blk wq S 28 #[.int .i64 minx, .int .i64 miny] := by rw [← hwq, ← hS]; exact Blk.new wr _ _
                have z0 : wq.drew.cell? ⟨S, 0, none⟩ = some (.int .i64 minx) := hkq.drew.cell 0
                have z1 : wq.drew.cell? ⟨S, 1, none⟩ = some (.int .i64 miny) := hkq.drew.cell 1
                have hfq := hide (show Fa w8 wq.drew (B + 1) A c n L from by rw [← hwq]; exact (hf.out.alloc _).drew)
                have q1 := hide (hfq.out.put4 ux n1 hn1.out (by have := hnb.out; omega) hux2.out)
                have q2 := hide (fun W A c L (h : Fa w8 W (B + 1) A c n1 L) => h.put4 uy n2 hn2.out (by have := hnb.out; have := hn1.out; omega) huy2.out)
                replace hkq := hide hkq.drew
                go_upto_region 19 with fail
                go_region_with (first
                  | (go_at_call 51; (with_reducible refine q1.out.mono ?_); rintro e w4 ⟨A4, c4, rfl, hf4, hk4⟩; have v1 : w4.cell? ⟨S, 1, none⟩ = some (.int .i64 miny) := (hk4 _ _ _ (by decide) hkq.out).cell 1; have hf4 := hide hf4; clear hk4)
                  | (go_at_call 51; (with_reducible refine (q2.out _ _ _ _ hf4.out).mono ?_); rintro e w5 ⟨A5, c5, rfl, hf5, hk5⟩; have hf5 := hide hf5; clear hk5))
                all_goals
                  go_wp2
                  go_roundw
                  case rel => exact ⟨1, n2, A5, c5, _, by omega, rfl, by go_num, hide (by rw [← hn2.out, ← hn1.out, hn.out]), hide (by rw [hL.out, ← hH.out, ← hux'.out, ← huy'.out]; rfl), hf5⟩
                  case measure => simp [intOf] <;> omega
              · have y0 : wr.cell? ⟨S8, 2, none⟩ = some (.int .i64 maxx) := hpr.out.cell 2
                have y1 : wr.cell? ⟨S8, 3, none⟩ = some (.int .i64 maxy) := hpr.out.cell 3
                obtain ⟨S, hS⟩ : ∃ S, wr.heap.size = S := ⟨_, rfl⟩
                obtain ⟨wq, hwq⟩ : ∃ W, wr.alloc (.cells #[.int .i64 maxx, .int .i64 maxy] 28) = W := ⟨_, rfl⟩
                have hkq : Blk wq S 28 #[.int .i64 maxx, .int .i64 maxy] := by rw [← hwq, ← hS]; exact Blk.new wr _ _
                have z0 : wq.drew.cell? ⟨S, 0, none⟩ = some (.int .i64 maxx) := hkq.drew.cell 0
                have z1 : wq.drew.cell? ⟨S, 1, none⟩ = some (.int .i64 maxy) := hkq.drew.cell 1
                have hfq := hide (show Fa w8 wq.drew (B + 1) A c n L from by rw [← hwq]; exact (hf.out.alloc _).drew)
                have q1 := hide (hfq.out.put4 vx n1 hn1.out (by have := hnb.out; omega) hvx2.out)
                have q2 := hide (fun W A c L (h : Fa w8 W (B + 1) A c n1 L) => h.put4 vy n2 hn2.out (by have := hnb.out; have := hn1.out; omega) hvy2.out)
                replace hkq := hide hkq.drew
                go_upto_region 19 with fail
                go_region_with (first
                  | (go_at_call 51; (with_reducible refine q1.out.mono ?_); rintro e w4 ⟨A4, c4, rfl, hf4, hk4⟩; have v1 : w4.cell? ⟨S, 1, none⟩ = some (.int .i64 maxy) := (hk4 _ _ _ (by decide) hkq.out).cell 1; have hf4 := hide hf4; clear hk4)
                  | (go_at_call 51; (with_reducible refine (q2.out _ _ _ _ hf4.out).mono ?_); rintro e w5 ⟨A5, c5, rfl, hf5, hk5⟩; have hf5 := hide hf5; clear hk5))
                all_goals
                  go_wp2
                  go_roundw
                  case rel => exact ⟨2, n2, A5, c5, _, by omega, rfl, by go_num, hide (by rw [← hn2.out, ← hn1.out, hn.out]), hide (by rw [hL.out, ← hH.out, ← hvx'.out, ← hvy'.out]; rfl), hf5⟩
                  case measure => simp [intOf] <;> omega
              · have hkh := hide (hf.out.kp _ _ _ (by decide) hk8.out)
                have y21 : wr.cell? ⟨B, 23, none⟩ = some (.int .i64 at') := hkh.out.cell 23
                obtain ⟨X6, hX6⟩ : ∃ X, at' % 256 = X := ⟨_, rfl⟩
                obtain ⟨uc, huc⟩ : ∃ x, um cx = x := ⟨_, rfl⟩
                obtain ⟨ud, hud⟩ : ∃ x, um cy = x := ⟨_, rfl⟩
                have hucw : IntKind.u64.wrap cx = (uc : Int) := by rw [IntKind.wrap_u64, ← huc]; exact (um_eq cx).1
                have hudw : IntKind.u64.wrap cy = (ud : Int) := by rw [IntKind.wrap_u64, ← hud]; exact (um_eq cy).1
                have huc2 := hide (show uc ≤ 18446744073709551615 from by rw [← huc]; exact (um_eq cx).2)
                have hud2 := hide (show ud ≤ 18446744073709551615 from by rw [← hud]; exact (um_eq cy).2)
                replace huc := hide huc
                replace hud := hide hud
                obtain ⟨n3, hn3⟩ : ∃ n3, n + 1 = n3 := ⟨_, rfl⟩
                obtain ⟨n4, hn4⟩ : ∃ n4, n3 + 4 = n4 := ⟨_, rfl⟩
                obtain ⟨n5, hn5⟩ : ∃ n5, n4 + 4 = n5 := ⟨_, rfl⟩
                have hn127 := hide (show n5 = 127 by have := hn.out; omega)
                have hn3p := hn3
                replace hn3 := hide hn3
                replace hn4 := hide hn4
                replace hn5 := hide hn5
                have hbs := hide (show B + 1 ≤ wr.heap.size from Nat.le_trans hf.out.hB hf.out.bel.size)
                have h63 := hide (show n + 1 ≤ maxLen by have := hnb.out; simp only [maxLen]; omega)
                have h64 := hide (show (n + 1) * 1 ≤ 140737488355328 by have := hnb.out; omega)
                have hone := hide (show L.map bv ++ [Value.int .u8 X6] = (L ++ [b8 at']).map bv from by rw [List.map_append, List.map_singleton, bv_b8, hX6])
                have hL5 := hide (show L ++ [b8 at'] ++ le 4 uc ++ le 4 ud = headB H from by rw [hL.out, ← hH.out, ← huc.out, ← hud.out]; rfl)
                rw [show ((2 : Nat) : Int) = 2 from rfl]
                go_upto_region 22 with (at_builtin; refine wpList_append_sr wr rfl (.tmp 85) (.tmp 89) rfl rfl hf.out.ow (.int .u8 X6) _ rfl rfl h63.out h64.out hbs.out ?_; intro A6 c6 w6 ho6 hkp6 hb6; have hf6 := hide (show Fa w8 w6 (B + 1) A6 c6 n3 (L ++ [b8 at']) from by rw [hone.out, hn3.out] at ho6; exact ⟨by rw [List.length_append, hf.out.len, ← hn3.out]; rfl, .inl ho6, fun _ => ho6, hf.out.bel.trans hb6, hf.out.kp.trans hkp6, hf.out.hB⟩); clear ho6 hkp6 hb6)
                have hk6 := hide ((hf6.out.kp _ _ _ (by decide) hk8.out).drew)
                have z21 : w6.drew.cell? ⟨B, 21, none⟩ = some (.int .i64 cx) := hk6.out.cell 21
                have z22 : w6.drew.cell? ⟨B, 22, none⟩ = some (.int .i64 cy) := hk6.out.cell 22
                have q1 := hide (hf6.out.drew.put4 uc n4 hn4.out (by have := hnb.out; have := hn3.out; omega) huc2.out)
                have q2 := hide (fun W A c L (h : Fa w8 W (B + 1) A c n4 L) => h.put4 ud n5 hn5.out (by have := hnb.out; have := hn3.out; have := hn4.out; omega) hud2.out)
                go_region_with (first
                  | (go_at_call 51; (with_reducible refine q1.out.mono ?_); rintro e w4 ⟨A4, c4, rfl, hf4, hk4⟩; have v1 : w4.cell? ⟨B, 22, none⟩ = some (.int .i64 cy) := (hk4 _ _ _ (by decide) hk6.out).cell 22; have hf4 := hide hf4; clear hk4)
                  | (go_at_call 51; (with_reducible refine (q2.out _ _ _ _ hf4.out).mono ?_); rintro e w5 ⟨A5, c5, rfl, hf5, hk5⟩; have hf5 := hide hf5; clear hk5))
                all_goals
                  go_wp2
                  go_ret
                  have hff := hf5.out
                  rw [hL5.out, hn127.out] at hff
                  exact ⟨A5, c5, by rw [hn127.out]; rfl, by rw [hH.out]; exact hff.own (by decide), hb3.out.trans ((hb8.out.trans hff.bel).mono (Nat.le_succ B))⟩
          | true =>
            have hL6 := hide (show (L ++ [if true then 1 else 0, b8 inn, b8 out, b8 kind, b8 minz, b8 maxz]) = sml H from by rw [hL.out, ← hH.out]; rfl)
            have hnews := hide (show [Value.int .u8 1, .int .u8 X1, .int .u8 X2, .int .u8 X3, .int .u8 X4, .int .u8 X5] = ([if true then 1 else 0, b8 inn, b8 out, b8 kind, b8 minz, b8 maxz] : List UInt8).map bv from by
              simp only [List.map_cons, List.map_nil, bv_b8, hX1, hX2, hX3, hX4, hX5]
              rfl)
            have hrd := hide (Rd.new wr #[.int .u8 1, .int .u8 X1, .int .u8 X2, .int .u8 X3, .int .u8 X4, .int .u8 X5] 5 (0, 0))
            have h1c := hide (show ∀ u ∈ (#[.int .u8 1, .int .u8 X1, .int .u8 X2, .int .u8 X3, .int .u8 X4, .int .u8 X5] : Array Value).toList, u.oneCell' = true from by
              intro u hu
              simp at hu
              rcases hu with rfl | rfl | rfl | rfl | rfl | rfl <;> rfl)
            go_wp2_with (at_builtin; refine wpList_append_rd (wr.alloc (.cells #[.int .u8 1, .int .u8 X1, .int .u8 X2, .int .u8 X3, .int .u8 X4, .int .u8 X5] 5)) rfl (.tmp 46) (.tmp 63) rfl elem_b8 rfl (how.out.alloc _) rfl hrd.out h1c.out h63.out h64.out (Nat.le_trans hbs.out (by simp)) ?_; intro A7 c7 w7 ho7 hc7 hn7; have hf7 := hide (hf.out.app h8.out (m := 6) rfl hn6.out (by rw [← hnews.out]; exact ho7) hc7); clear ho7 hc7 hn7; rw [hL6.out] at hf7; have hk7 := hide (hf7.out.kp _ _ _ (by decide) hk3.out); have t17 : w7.cell? ⟨B, 17, none⟩ = some (.int .i64 minx) := hk7.out.cell 17; have t18 : w7.cell? ⟨B, 18, none⟩ = some (.int .i64 miny) := hk7.out.cell 18; have t19 : w7.cell? ⟨B, 19, none⟩ = some (.int .i64 maxx) := hk7.out.cell 19; have t20 : w7.cell? ⟨B, 20, none⟩ = some (.int .i64 maxy) := hk7.out.cell 20; obtain ⟨w8, hw8⟩ : ∃ W, w7.alloc (.cells #[.int .i64 minx, .int .i64 miny, .int .i64 maxx, .int .i64 maxy] 28) = W := ⟨_, rfl⟩; obtain ⟨S8, hS8⟩ : ∃ S, w7.heap.size = S := ⟨_, rfl⟩; have hp8 : Blk w8 S8 28 #[.int .i64 minx, .int .i64 miny, .int .i64 maxx, .int .i64 maxy] := by rw [← hw8, ← hS8]; exact (Blk.new w7 _ _))
            replace hp8 := hide hp8
            have hk8 := hide (show Blk w8 B 30 #[.int .u64 (r0 : Int), .int .u64 (r1 : Int), .int .u64 (m0 : Int), .int .u64 (m1 : Int), .int .u64 (l0 : Int), .int .u64 (l1 : Int), .int .u64 (d0 : Int), .int .u64 (d1 : Int), .int .u64 (c0 : Int), .int .u64 (c1 : Int), .int .u64 (c2 : Int), .bool true, .int .i64 inn, .int .i64 out, .int .i64 kind, .int .i64 minz, .int .i64 maxz, .int .i64 minx, .int .i64 miny, .int .i64 maxx, .int .i64 maxy, .int .i64 cx, .int .i64 cy, .int .i64 at'] from by rw [← hw8]; exact hk7.out.alloc _)
            have hb8 := hide (show Below (B + 1) w3 w8 from by rw [← hw8]; exact (hf7.out.alloc _).bel)
            have hf8 := hide (show Fa w8 w8 (B + 1) A7 c7 n6 (sml H) from by
              have h9 := hf7.out.alloc (.cells #[.int .i64 minx, .int .i64 miny, .int .i64 maxx, .int .i64 maxy] 28)
              rw [hw8] at h9
              exact ⟨h9.len, h9.ow, h9.own, Below.refl _ _, Kp.refl _, Nat.le_trans h9.hB h9.bel.size⟩)
            have hux := um_eq minx
            have huy := um_eq miny
            have hvx := um_eq maxx
            have hvy := um_eq maxy
            obtain ⟨ux, hux'⟩ : ∃ x, um minx = x := ⟨_, rfl⟩
            obtain ⟨uy, huy'⟩ : ∃ x, um miny = x := ⟨_, rfl⟩
            obtain ⟨vx, hvx'⟩ : ∃ x, um maxx = x := ⟨_, rfl⟩
            obtain ⟨vy, hvy'⟩ : ∃ x, um maxy = x := ⟨_, rfl⟩
            rw [hux'] at hux
            rw [huy'] at huy
            rw [hvx'] at hvx
            rw [hvy'] at hvy
            replace hux' := hide hux'
            replace huy' := hide huy'
            replace hvx' := hide hvx'
            replace hvy' := hide hvy'
            obtain ⟨hux, hux2⟩ := hux
            obtain ⟨huy, huy2⟩ := huy
            obtain ⟨hvx, hvx2⟩ := hvx
            obtain ⟨hvy, hvy2⟩ := hvy
            replace hux2 := hide hux2
            replace huy2 := hide huy2
            replace hvx2 := hide hvx2
            replace hvy2 := hide hvy2
            have huxw : IntKind.u64.wrap minx = (ux : Int) := by rw [IntKind.wrap_u64]; exact hux
            have huyw : IntKind.u64.wrap miny = (uy : Int) := by rw [IntKind.wrap_u64]; exact huy
            have hvxw : IntKind.u64.wrap maxx = (vx : Int) := by rw [IntKind.wrap_u64]; exact hvx
            have hvyw : IntKind.u64.wrap maxy = (vy : Int) := by rw [IntKind.wrap_u64]; exact hvy
            clear hf7 hk7 t17 t18 t19 t20 hn6 hnb hn1 hf hL hn hkh how h8 hbs
            go_wp2
            go_loopw [3, 71] (fun s3 s71 wr => ∃ (k n : Nat) (A : Option Addr) (c : Nat) (L : List UInt8), k ≤ 2 ∧ s3 = .slice A n c ∧ s71 = .int .i64 (k : Int) ∧ Hid (n = 102 + 8 * k) ∧ Hid (L = pts H k) ∧ Hid (Fa w8 wr (B + 1) A c n L)) (fun _ s71 _ => 2 - (intOf s71).toNat)
            case atStart => exact ⟨0, n6, A7, c7, sml H, by omega, rfl, rfl, hide hn102.out, hide rfl, hf8⟩
            case round =>
              obtain ⟨k, n, A, c, L, hk2', rfl, rfl, hn, hL, hf⟩ := hrel
              have hnb := hide (show n + 8 ≤ 1000 by have := hn.out; omega)
              obtain ⟨n1, hn1⟩ : ∃ n1, n + 4 = n1 := ⟨_, rfl⟩
              obtain ⟨n2, hn2⟩ : ∃ n2, n1 + 4 = n2 := ⟨_, rfl⟩
              replace hn1 := hide hn1
              replace hn2 := hide hn2
              have hpr := hide (hf.out.kp _ _ _ (by decide) hp8.out)
              rcases (show k = 0 ∨ k = 1 ∨ k = 2 by omega) with rfl | rfl | rfl
              · have y0 : wr.cell? ⟨S8, 0, none⟩ = some (.int .i64 minx) := hpr.out.cell 0
                have y1 : wr.cell? ⟨S8, 1, none⟩ = some (.int .i64 miny) := hpr.out.cell 1
                obtain ⟨S, hS⟩ : ∃ S, wr.heap.size = S := ⟨_, rfl⟩
                obtain ⟨wq, hwq⟩ : ∃ W, wr.alloc (.cells #[.int .i64 minx, .int .i64 miny] 28) = W := ⟨_, rfl⟩
                have hkq : Blk wq S 28 #[.int .i64 minx, .int .i64 miny] := by rw [← hwq, ← hS]; exact Blk.new wr _ _
                have z0 : wq.drew.cell? ⟨S, 0, none⟩ = some (.int .i64 minx) := hkq.drew.cell 0
                have z1 : wq.drew.cell? ⟨S, 1, none⟩ = some (.int .i64 miny) := hkq.drew.cell 1
                have hfq := hide (show Fa w8 wq.drew (B + 1) A c n L from by rw [← hwq]; exact (hf.out.alloc _).drew)
                have q1 := hide (hfq.out.put4 ux n1 hn1.out (by have := hnb.out; omega) hux2.out)
                have q2 := hide (fun W A c L (h : Fa w8 W (B + 1) A c n1 L) => h.put4 uy n2 hn2.out (by have := hnb.out; have := hn1.out; omega) huy2.out)
                replace hkq := hide hkq.drew
                go_upto_region 19 with fail
                go_region_with (first
                  | (go_at_call 51; (with_reducible refine q1.out.mono ?_); rintro e w4 ⟨A4, c4, rfl, hf4, hk4⟩; have v1 : w4.cell? ⟨S, 1, none⟩ = some (.int .i64 miny) := (hk4 _ _ _ (by decide) hkq.out).cell 1; have hf4 := hide hf4; clear hk4)
                  | (go_at_call 51; (with_reducible refine (q2.out _ _ _ _ hf4.out).mono ?_); rintro e w5 ⟨A5, c5, rfl, hf5, hk5⟩; have hf5 := hide hf5; clear hk5))
                all_goals
                  go_wp2
                  go_roundw
                  case rel => exact ⟨1, n2, A5, c5, _, by omega, rfl, by go_num, hide (by rw [← hn2.out, ← hn1.out, hn.out]), hide (by rw [hL.out, ← hH.out, ← hux'.out, ← huy'.out]; rfl), hf5⟩
                  case measure => simp [intOf] <;> omega
              · have y0 : wr.cell? ⟨S8, 2, none⟩ = some (.int .i64 maxx) := hpr.out.cell 2
                have y1 : wr.cell? ⟨S8, 3, none⟩ = some (.int .i64 maxy) := hpr.out.cell 3
                obtain ⟨S, hS⟩ : ∃ S, wr.heap.size = S := ⟨_, rfl⟩
                obtain ⟨wq, hwq⟩ : ∃ W, wr.alloc (.cells #[.int .i64 maxx, .int .i64 maxy] 28) = W := ⟨_, rfl⟩
                have hkq : Blk wq S 28 #[.int .i64 maxx, .int .i64 maxy] := by rw [← hwq, ← hS]; exact Blk.new wr _ _
                have z0 : wq.drew.cell? ⟨S, 0, none⟩ = some (.int .i64 maxx) := hkq.drew.cell 0
                have z1 : wq.drew.cell? ⟨S, 1, none⟩ = some (.int .i64 maxy) := hkq.drew.cell 1
                have hfq := hide (show Fa w8 wq.drew (B + 1) A c n L from by rw [← hwq]; exact (hf.out.alloc _).drew)
                have q1 := hide (hfq.out.put4 vx n1 hn1.out (by have := hnb.out; omega) hvx2.out)
                have q2 := hide (fun W A c L (h : Fa w8 W (B + 1) A c n1 L) => h.put4 vy n2 hn2.out (by have := hnb.out; have := hn1.out; omega) hvy2.out)
                replace hkq := hide hkq.drew
                go_upto_region 19 with fail
                go_region_with (first
                  | (go_at_call 51; (with_reducible refine q1.out.mono ?_); rintro e w4 ⟨A4, c4, rfl, hf4, hk4⟩; have v1 : w4.cell? ⟨S, 1, none⟩ = some (.int .i64 maxy) := (hk4 _ _ _ (by decide) hkq.out).cell 1; have hf4 := hide hf4; clear hk4)
                  | (go_at_call 51; (with_reducible refine (q2.out _ _ _ _ hf4.out).mono ?_); rintro e w5 ⟨A5, c5, rfl, hf5, hk5⟩; have hf5 := hide hf5; clear hk5))
                all_goals
                  go_wp2
                  go_roundw
                  case rel => exact ⟨2, n2, A5, c5, _, by omega, rfl, by go_num, hide (by rw [← hn2.out, ← hn1.out, hn.out]), hide (by rw [hL.out, ← hH.out, ← hvx'.out, ← hvy'.out]; rfl), hf5⟩
                  case measure => simp [intOf] <;> omega
              · have hkh := hide (hf.out.kp _ _ _ (by decide) hk8.out)
                have y21 : wr.cell? ⟨B, 23, none⟩ = some (.int .i64 at') := hkh.out.cell 23
                obtain ⟨X6, hX6⟩ : ∃ X, at' % 256 = X := ⟨_, rfl⟩
                obtain ⟨uc, huc⟩ : ∃ x, um cx = x := ⟨_, rfl⟩
                obtain ⟨ud, hud⟩ : ∃ x, um cy = x := ⟨_, rfl⟩
                have hucw : IntKind.u64.wrap cx = (uc : Int) := by rw [IntKind.wrap_u64, ← huc]; exact (um_eq cx).1
                have hudw : IntKind.u64.wrap cy = (ud : Int) := by rw [IntKind.wrap_u64, ← hud]; exact (um_eq cy).1
                have huc2 := hide (show uc ≤ 18446744073709551615 from by rw [← huc]; exact (um_eq cx).2)
                have hud2 := hide (show ud ≤ 18446744073709551615 from by rw [← hud]; exact (um_eq cy).2)
                replace huc := hide huc
                replace hud := hide hud
                obtain ⟨n3, hn3⟩ : ∃ n3, n + 1 = n3 := ⟨_, rfl⟩
                obtain ⟨n4, hn4⟩ : ∃ n4, n3 + 4 = n4 := ⟨_, rfl⟩
                obtain ⟨n5, hn5⟩ : ∃ n5, n4 + 4 = n5 := ⟨_, rfl⟩
                have hn127 := hide (show n5 = 127 by have := hn.out; omega)
                have hn3p := hn3
                replace hn3 := hide hn3
                replace hn4 := hide hn4
                replace hn5 := hide hn5
                have hbs := hide (show B + 1 ≤ wr.heap.size from Nat.le_trans hf.out.hB hf.out.bel.size)
                have h63 := hide (show n + 1 ≤ maxLen by have := hnb.out; simp only [maxLen]; omega)
                have h64 := hide (show (n + 1) * 1 ≤ 140737488355328 by have := hnb.out; omega)
                have hone := hide (show L.map bv ++ [Value.int .u8 X6] = (L ++ [b8 at']).map bv from by rw [List.map_append, List.map_singleton, bv_b8, hX6])
                have hL5 := hide (show L ++ [b8 at'] ++ le 4 uc ++ le 4 ud = headB H from by rw [hL.out, ← hH.out, ← huc.out, ← hud.out]; rfl)
                rw [show ((2 : Nat) : Int) = 2 from rfl]
                go_upto_region 22 with (at_builtin; refine wpList_append_sr wr rfl (.tmp 85) (.tmp 89) rfl rfl hf.out.ow (.int .u8 X6) _ rfl rfl h63.out h64.out hbs.out ?_; intro A6 c6 w6 ho6 hkp6 hb6; have hf6 := hide (show Fa w8 w6 (B + 1) A6 c6 n3 (L ++ [b8 at']) from by rw [hone.out, hn3.out] at ho6; exact ⟨by rw [List.length_append, hf.out.len, ← hn3.out]; rfl, .inl ho6, fun _ => ho6, hf.out.bel.trans hb6, hf.out.kp.trans hkp6, hf.out.hB⟩); clear ho6 hkp6 hb6)
                have hk6 := hide ((hf6.out.kp _ _ _ (by decide) hk8.out).drew)
                have z21 : w6.drew.cell? ⟨B, 21, none⟩ = some (.int .i64 cx) := hk6.out.cell 21
                have z22 : w6.drew.cell? ⟨B, 22, none⟩ = some (.int .i64 cy) := hk6.out.cell 22
                have q1 := hide (hf6.out.drew.put4 uc n4 hn4.out (by have := hnb.out; have := hn3.out; omega) huc2.out)
                have q2 := hide (fun W A c L (h : Fa w8 W (B + 1) A c n4 L) => h.put4 ud n5 hn5.out (by have := hnb.out; have := hn3.out; have := hn4.out; omega) hud2.out)
                go_region_with (first
                  | (go_at_call 51; (with_reducible refine q1.out.mono ?_); rintro e w4 ⟨A4, c4, rfl, hf4, hk4⟩; have v1 : w4.cell? ⟨B, 22, none⟩ = some (.int .i64 cy) := (hk4 _ _ _ (by decide) hk6.out).cell 22; have hf4 := hide hf4; clear hk4)
                  | (go_at_call 51; (with_reducible refine (q2.out _ _ _ _ hf4.out).mono ?_); rintro e w5 ⟨A5, c5, rfl, hf5, hk5⟩; have hf5 := hide hf5; clear hk5))
                all_goals
                  go_wp2
                  go_ret
                  have hff := hf5.out
                  rw [hL5.out, hn127.out] at hff
                  exact ⟨A5, c5, by rw [hn127.out]; rfl, by rw [hH.out]; exact hff.own (by decide), hb3.out.trans ((hb8.out.trans hff.bel).mono (Nat.le_succ B))⟩
end Go.Proofs.YtaapjampmnanmaaGreat
