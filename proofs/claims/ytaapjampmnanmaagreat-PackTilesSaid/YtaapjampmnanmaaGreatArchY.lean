/- Layer 13 (arch): parse: the header that bytes are. The conditions: where the slice lies; that it is long enough. Layer 13 (arch): the program's Head of any bytes. The conditions: where the slice lies; what Right says of the header. Layer 13 (arch): headers of any bytes, bytes of any header: the law's walk. The conditions: what the arguments are. -/
import Derived.Test.YtaapjampmnanmaaGreatArchX
import Derived.Laws.EntriesVeiled
import Derived.Test.YtaapjampmnanmaaGreatArchRight
import Derived.Test.YtaapjampmnanmaaGreatArchPH
import Derived.Test.YtaapjampmnanmaaGreatArchK
import Derived.Deep.RegionHeld3
import Derived.Test.YtaapjampmnanmaaGreatArchRPH
import Derived.Deep.OwnRows
import Derived.Laws.StructEq
namespace Go.Proofs.YtaapjampmnanmaaGreat
open Go.RowKit
def byt (bs : List UInt8) (p : Nat) : Int := ((bs.getD p 0).toNat : Int)
def headOf (bs : List UInt8) : Hd where
  r0 := num bs 8 8
  r1 := num bs 16 8
  m0 := num bs 24 8
  m1 := num bs 32 8
  l0 := num bs 40 8
  l1 := num bs 48 8
  d0 := num bs 56 8
  d1 := num bs 64 8
  c0 := num bs 72 8
  c1 := num bs 80 8
  c2 := num bs 88 8
  cl := byt bs 96 == 1
  inn := byt bs 97
  out := byt bs 98
  kind := byt bs 99
  minz := byt bs 100
  maxz := byt bs 101
  minx := sg bs 102
  miny := sg bs 106
  maxx := sg bs 110
  maxy := sg bs 114
  cx := sg bs 119
  cy := sg bs 123
  at' := byt bs 118
theorem Rd.byt {w : World} {B : Nat} {A : Option Addr} {bs : List UInt8} (h : Rd w B A bs.length (bs.map bv)) (p : Nat) (hp : p < bs.length) : ∃ b o, A = some ⟨b, o, none⟩ ∧ b < B ∧ w.cell? ⟨b, o + p, none⟩ = some (.int .u8 (byt bs p)) := by
  obtain ⟨b, o, e, hb, hc⟩ := h.byte hp
  exact ⟨b, o, e, hb, by rw [hc, Go.Proofs.YtaapjampmnanmaaGreat.byt, List.getD_eq_getElem?_getD, List.getElem?_eq_getElem hp]; rfl⟩
theorem quiet_val {P : Program} {C : World → Prop} {o : Oper} {a : Act} {K : Act → Prop} (v : Value) (h : ∀ w, (execOp a.eval o).run P w = .ok (.value v) w) (hk : K (a.put o.dst v)) : o.quiet P a C K :=
  ⟨v, fun w _ => by unfold Oper.quietAt; rw [h]; exact ⟨rfl, rfl⟩, hk⟩
theorem info24 : (Tryz.prog.info? 30).map (·.size) = some 24 := by kernel_rfl
theorem byt_le (bs : List UInt8) (p : Nat) : 0 ≤ byt bs p ∧ byt bs p ≤ 255 := by
  have := toNat_le (bs.getD p 0)
  unfold byt
  omega
theorem Ps.below {w w' : World} {B gb gn : Nat} {A : Option Addr} {c : Nat} {bs : List UInt8} (h : Ps w B gb gn A c bs) (hB : B ≤ w.heap.size) (hb : Below w.heap.size w w') : Ps w' B gb gn A c bs :=
  ⟨h.kb.below hb h.kb.lt, h.kn.below hb h.kn.lt, h.rd.below (hb.mono hB)⟩
set_option maxRecDepth 100000 in
set_option maxHeartbeats 4000000 in
theorem parse_any (A : Option Addr) (c : Nat) (bs : List UInt8) (w : World) (B : Nat) (hr : Rd w B A bs.length (bs.map bv)) (hB : B ≤ w.heap.size) (h127 : 127 ≤ bs.length) (hl : bs.length ≤ 4194304) :
    Calls Tryz.prog 27 #[.slice A bs.length c] w fun e w' => e = .returned (.agg (headOf bs).cells) ∧ Below w.heap.size w w' := by
  obtain ⟨G, hG⟩ : ∃ G, w.heap.size = G := ⟨_, rfl⟩
  obtain ⟨w1, hw1⟩ : ∃ W, w.alloc (.cells #[.slice A bs.length c] 22) = W := ⟨_, rfl⟩
  obtain ⟨w2, hw2⟩ : ∃ W, w1.alloc (.cells #[.int .u64 0, .int .u64 0, .int .u64 0, .int .u64 0, .int .u64 0, .int .u64 0, .int .u64 0, .int .u64 0, .int .u64 0, .int .u64 0, .int .u64 0, .bool false, .int .i64 0, .int .i64 0, .int .i64 0, .int .i64 0, .int .i64 0, .int .i64 0, .int .i64 0, .int .i64 0, .int .i64 0, .int .i64 0, .int .i64 0, .int .i64 0] 30) = W := ⟨_, rfl⟩
  obtain ⟨w3, hw3⟩ : ∃ W, w2.alloc (.cells #[.nilFunc] 102) = W := ⟨_, rfl⟩
  obtain ⟨w4, hw4⟩ : ∃ W, w3.setCell ⟨G + 1 + 1, 0, none⟩ (.func (.func 52) #[] #[.pointer (some ⟨G, 0, none⟩)]) = W := ⟨_, rfl⟩
  obtain ⟨w5, hw5⟩ : ∃ W, w4.alloc (.cells #[.nilFunc] 103) = W := ⟨_, rfl⟩
  obtain ⟨w6, hw6⟩ : ∃ W, w5.setCell ⟨G + 1 + 1 + 1, 0, none⟩ (.func (.func 53) #[] #[.pointer (some ⟨G + 1 + 1, 0, none⟩)]) = W := ⟨_, rfl⟩
  obtain ⟨w7, hw7⟩ : ∃ W, w6.alloc (.cells #[.nilFunc] 104) = W := ⟨_, rfl⟩
  obtain ⟨w8, hw8⟩ : ∃ W, w7.setCell ⟨G + 1 + 1 + 1 + 1, 0, none⟩ (.func (.func 54) #[] #[.pointer (some ⟨G + 1 + 1, 0, none⟩)]) = W := ⟨_, rfl⟩
  have s1 : w1.heap.size = G + 1 := by rw [← hw1, ← hG]; simp
  have s2 : w2.heap.size = G + 1 + 1 := by rw [← hw2, ← s1]; simp
  have s3 : w3.heap.size = G + 1 + 1 + 1 := by rw [← hw3, ← s2]; simp
  have s4 : w4.heap.size = G + 1 + 1 + 1 := by rw [← hw4, ← s3]; simp
  have s5 : w5.heap.size = G + 1 + 1 + 1 + 1 := by rw [← hw5, ← s4]; simp
  have s6 : w6.heap.size = G + 1 + 1 + 1 + 1 := by rw [← hw6, ← s5]; simp
  have s7 : w7.heap.size = G + 1 + 1 + 1 + 1 + 1 := by rw [← hw7, ← s6]; simp
  have s8 : w8.heap.size = G + 1 + 1 + 1 + 1 + 1 := by rw [← hw8, ← s7]; simp
  have k1 : Blk w1 G 22 #[.slice A bs.length c] := by rw [← hw1, ← hG]; exact Blk.new w _ _
  have k2 : Blk w2 (G + 1) 30 #[.int .u64 0, .int .u64 0, .int .u64 0, .int .u64 0, .int .u64 0, .int .u64 0, .int .u64 0, .int .u64 0, .int .u64 0, .int .u64 0, .int .u64 0, .bool false, .int .i64 0, .int .i64 0, .int .i64 0, .int .i64 0, .int .i64 0, .int .i64 0, .int .i64 0, .int .i64 0, .int .i64 0, .int .i64 0, .int .i64 0, .int .i64 0] := by rw [← hw2, ← s1]; exact Blk.new w1 _ _
  have k3 : Blk w3 (G + 1 + 1) 102 #[.nilFunc] := by rw [← hw3, ← s2]; exact Blk.new w2 _ _
  have k4 : Blk w4 (G + 1 + 1) 102 #[(.func (.func 52) #[] #[.pointer (some ⟨G, 0, none⟩)])] := by rw [← hw4]; exact k3.set 0 _
  have k5 : Blk w5 (G + 1 + 1 + 1) 103 #[.nilFunc] := by rw [← hw5, ← s4]; exact Blk.new w4 _ _
  have k6 : Blk w6 (G + 1 + 1 + 1) 103 #[(.func (.func 53) #[] #[.pointer (some ⟨G + 1 + 1, 0, none⟩)])] := by rw [← hw6]; exact k5.set 0 _
  have k7 : Blk w7 (G + 1 + 1 + 1 + 1) 104 #[.nilFunc] := by rw [← hw7, ← s6]; exact Blk.new w6 _ _
  have k8 : Blk w8 (G + 1 + 1 + 1 + 1) 104 #[(.func (.func 54) #[] #[.pointer (some ⟨G + 1 + 1, 0, none⟩)])] := by rw [← hw8]; exact k7.set 0 _
  have bel : Below G w w8 := by
    rw [← hw8, ← hw7, ← hw6, ← hw5, ← hw4, ← hw3, ← hw2, ← hw1, ← hG]
    have b1 := (Below.refl w.heap.size w).alloc (Nat.le_refl _) (.cells #[.slice A bs.length c] 22)
    have b2 := b1.alloc (by simp) (.cells #[.int .u64 0, .int .u64 0, .int .u64 0, .int .u64 0, .int .u64 0, .int .u64 0, .int .u64 0, .int .u64 0, .int .u64 0, .int .u64 0, .int .u64 0, .bool false, .int .i64 0, .int .i64 0, .int .i64 0, .int .i64 0, .int .i64 0, .int .i64 0, .int .i64 0, .int .i64 0, .int .i64 0, .int .i64 0, .int .i64 0, .int .i64 0] 30)
    have b3 := b2.alloc (by simp; omega) (.cells #[.nilFunc] 102)
    have b4 := b3.setCell (p := ⟨w.heap.size + 1 + 1, 0, none⟩) (by simp; omega) (.func (.func 52) #[] #[.pointer (some ⟨w.heap.size, 0, none⟩)])
    have b5 := b4.alloc (by simp; omega) (.cells #[.nilFunc] 103)
    have b6 := b5.setCell (p := ⟨w.heap.size + 1 + 1 + 1, 0, none⟩) (by simp; omega) (.func (.func 53) #[] #[.pointer (some ⟨w.heap.size + 1 + 1, 0, none⟩)])
    have b7 := b6.alloc (by simp; omega) (.cells #[.nilFunc] 104)
    exact b7.setCell (p := ⟨w.heap.size + 1 + 1 + 1 + 1, 0, none⟩) (by simp; omega) (.func (.func 54) #[] #[.pointer (some ⟨w.heap.size + 1 + 1, 0, none⟩)])
  have K1 : Blk w8 G 22 #[.slice A bs.length c] := by
    rw [← hw8, ← hw7, ← hw6, ← hw5, ← hw4, ← hw3, ← hw2]
    exact ((((((k1.alloc _).alloc _).far (by simp; omega) _).alloc _).far (by simp; omega) _).alloc _).far (by simp; omega) _
  have K2 : Blk w8 (G + 1) 30 #[.int .u64 0, .int .u64 0, .int .u64 0, .int .u64 0, .int .u64 0, .int .u64 0, .int .u64 0, .int .u64 0, .int .u64 0, .int .u64 0, .int .u64 0, .bool false, .int .i64 0, .int .i64 0, .int .i64 0, .int .i64 0, .int .i64 0, .int .i64 0, .int .i64 0, .int .i64 0, .int .i64 0, .int .i64 0, .int .i64 0, .int .i64 0] := by
    rw [← hw8, ← hw7, ← hw6, ← hw5, ← hw4, ← hw3]
    exact (((((k2.alloc _).far (by simp) _).alloc _).far (by simp) _).alloc _).far (by simp) _
  have K3 : Blk w8 (G + 1 + 1) 102 #[(.func (.func 52) #[] #[.pointer (some ⟨G, 0, none⟩)])] := by
    rw [← hw8, ← hw7, ← hw6, ← hw5]
    exact (((k4.alloc _).far (by simp) _).alloc _).far (by simp) _
  have K4 : Blk w8 (G + 1 + 1 + 1) 103 #[(.func (.func 53) #[] #[.pointer (some ⟨G + 1 + 1, 0, none⟩)])] := by
    rw [← hw8, ← hw7]
    exact (k6.alloc _).far (by simp) _
  have hp := hide (show Ps w8 B G (G + 1 + 1) A c bs from ⟨K1, K3, hr.below (bel.mono (by omega))⟩)
  have hB8 := hide (show B ≤ w8.heap.size from by rw [s8]; omega)
  have x3 : w3.cell? ⟨G + 1 + 1, 0, none⟩ = some .nilFunc := k3.cell 0
  have y3 : w3.frozen? ⟨G + 1 + 1, 0, none⟩ = false := k3.free 0
  have x5 : w5.cell? ⟨G + 1 + 1 + 1, 0, none⟩ = some .nilFunc := k5.cell 0
  have y5 : w5.frozen? ⟨G + 1 + 1 + 1, 0, none⟩ = false := k5.free 0
  have x7 : w7.cell? ⟨G + 1 + 1 + 1 + 1, 0, none⟩ = some .nilFunc := k7.cell 0
  have y7 : w7.frozen? ⟨G + 1 + 1 + 1 + 1, 0, none⟩ = false := k7.free 0
  have c1 : w8.cell? ⟨G, 0, none⟩ = some (.slice A bs.length c) := K1.cell 0
  have c4 : w8.cell? ⟨G + 1 + 1 + 1, 0, none⟩ = some (.func (.func 53) #[] #[.pointer (some ⟨G + 1 + 1, 0, none⟩)]) := K4.cell 0
  obtain ⟨bb, oo, hA, _, _⟩ := hp.out.rd.byt 0 (by omega)
  subst hA
  have c96 : w8.cell? ⟨bb, oo + 96, none⟩ = some (.int .u8 (byt bs 96)) := by
    obtain ⟨b', o', e, _, hc⟩ := hp.out.rd.byt 96 (by omega)
    injection e with e
    injection e with e1 e2
    subst e1 e2
    exact hc
  have c97 : w8.cell? ⟨bb, oo + 97, none⟩ = some (.int .u8 (byt bs 97)) := by
    obtain ⟨b', o', e, _, hc⟩ := hp.out.rd.byt 97 (by omega)
    injection e with e
    injection e with e1 e2
    subst e1 e2
    exact hc
  have c98 : w8.cell? ⟨bb, oo + 98, none⟩ = some (.int .u8 (byt bs 98)) := by
    obtain ⟨b', o', e, _, hc⟩ := hp.out.rd.byt 98 (by omega)
    injection e with e
    injection e with e1 e2
    subst e1 e2
    exact hc
  have c99 : w8.cell? ⟨bb, oo + 99, none⟩ = some (.int .u8 (byt bs 99)) := by
    obtain ⟨b', o', e, _, hc⟩ := hp.out.rd.byt 99 (by omega)
    injection e with e
    injection e with e1 e2
    subst e1 e2
    exact hc
  have c100 : w8.cell? ⟨bb, oo + 100, none⟩ = some (.int .u8 (byt bs 100)) := by
    obtain ⟨b', o', e, _, hc⟩ := hp.out.rd.byt 100 (by omega)
    injection e with e
    injection e with e1 e2
    subst e1 e2
    exact hc
  have c101 : w8.cell? ⟨bb, oo + 101, none⟩ = some (.int .u8 (byt bs 101)) := by
    obtain ⟨b', o', e, _, hc⟩ := hp.out.rd.byt 101 (by omega)
    injection e with e
    injection e with e1 e2
    subst e1 e2
    exact hc
  have c118 : w8.cell? ⟨bb, oo + 118, none⟩ = some (.int .u8 (byt bs 118)) := by
    obtain ⟨b', o', e, _, hc⟩ := hp.out.rd.byt 118 (by omega)
    injection e with e
    injection e with e1 e2
    subst e1 e2
    exact hc
  have i97 : IntKind.i64.wrap (byt bs 97) = byt bs 97 := by have := byt_le bs 97; rw [IntKind.wrap_i64]; omega
  have i98 : IntKind.i64.wrap (byt bs 98) = byt bs 98 := by have := byt_le bs 98; rw [IntKind.wrap_i64]; omega
  have i99 : IntKind.i64.wrap (byt bs 99) = byt bs 99 := by have := byt_le bs 99; rw [IntKind.wrap_i64]; omega
  have i100 : IntKind.i64.wrap (byt bs 100) = byt bs 100 := by have := byt_le bs 100; rw [IntKind.wrap_i64]; omega
  have i101 : IntKind.i64.wrap (byt bs 101) = byt bs 101 := by have := byt_le bs 101; rw [IntKind.wrap_i64]; omega
  have i118 : IntKind.i64.wrap (byt bs 118) = byt bs 118 := by have := byt_le bs 118; rw [IntKind.wrap_i64]; omega
  have q8 := hide (show ∀ W, Grw w8 W → Calls Tryz.prog 55 #[.int .i64 8, .pointer (some ⟨G + 1 + 1 + 1, 0, none⟩)] W (fun e w'' => e = .returned (.agg #[.int .u64 ((num bs 8 8 : Nat) : Int), .int .u64 ((num bs 16 8 : Nat) : Int)]) ∧ Grw w8 w'') from fun W (hW : Grw w8 W) => grw_step hW (pair_any _ c bs 8 G (G + 1 + 1) (G + 1 + 1 + 1) W B (hp.out.below hB8.out hW.out) (Nat.le_trans hB8.out hW.out.size) (K4.below hW.out K4.lt) (by omega) hl))
  have q24 := hide (show ∀ W, Grw w8 W → Calls Tryz.prog 55 #[.int .i64 24, .pointer (some ⟨G + 1 + 1 + 1, 0, none⟩)] W (fun e w'' => e = .returned (.agg #[.int .u64 ((num bs 24 8 : Nat) : Int), .int .u64 ((num bs 32 8 : Nat) : Int)]) ∧ Grw w8 w'') from fun W (hW : Grw w8 W) => grw_step hW (pair_any _ c bs 24 G (G + 1 + 1) (G + 1 + 1 + 1) W B (hp.out.below hB8.out hW.out) (Nat.le_trans hB8.out hW.out.size) (K4.below hW.out K4.lt) (by omega) hl))
  have q40 := hide (show ∀ W, Grw w8 W → Calls Tryz.prog 55 #[.int .i64 40, .pointer (some ⟨G + 1 + 1 + 1, 0, none⟩)] W (fun e w'' => e = .returned (.agg #[.int .u64 ((num bs 40 8 : Nat) : Int), .int .u64 ((num bs 48 8 : Nat) : Int)]) ∧ Grw w8 w'') from fun W (hW : Grw w8 W) => grw_step hW (pair_any _ c bs 40 G (G + 1 + 1) (G + 1 + 1 + 1) W B (hp.out.below hB8.out hW.out) (Nat.le_trans hB8.out hW.out.size) (K4.below hW.out K4.lt) (by omega) hl))
  have q56 := hide (show ∀ W, Grw w8 W → Calls Tryz.prog 55 #[.int .i64 56, .pointer (some ⟨G + 1 + 1 + 1, 0, none⟩)] W (fun e w'' => e = .returned (.agg #[.int .u64 ((num bs 56 8 : Nat) : Int), .int .u64 ((num bs 64 8 : Nat) : Int)]) ∧ Grw w8 w'') from fun W (hW : Grw w8 W) => grw_step hW (pair_any _ c bs 56 G (G + 1 + 1) (G + 1 + 1 + 1) W B (hp.out.below hB8.out hW.out) (Nat.le_trans hB8.out hW.out.size) (K4.below hW.out K4.lt) (by omega) hl))
  have q72 := hide (show ∀ W, Grw w8 W → Calls Tryz.prog 53 #[.int .i64 72, .pointer (some ⟨G + 1 + 1, 0, none⟩)] W (fun e w'' => e = .returned (.int .u64 ((num bs 72 8 : Nat) : Int)) ∧ Grw w8 w'') from fun W (hW : Grw w8 W) => grw_same hW (word_any _ c bs 72 G (G + 1 + 1) W B (hp.out.below hB8.out hW.out) (by omega) hl))
  have q80 := hide (show ∀ W, Grw w8 W → Calls Tryz.prog 53 #[.int .i64 80, .pointer (some ⟨G + 1 + 1, 0, none⟩)] W (fun e w'' => e = .returned (.int .u64 ((num bs 80 8 : Nat) : Int)) ∧ Grw w8 w'') from fun W (hW : Grw w8 W) => grw_same hW (word_any _ c bs 80 G (G + 1 + 1) W B (hp.out.below hB8.out hW.out) (by omega) hl))
  have q88 := hide (show ∀ W, Grw w8 W → Calls Tryz.prog 53 #[.int .i64 88, .pointer (some ⟨G + 1 + 1, 0, none⟩)] W (fun e w'' => e = .returned (.int .u64 ((num bs 88 8 : Nat) : Int)) ∧ Grw w8 w'') from fun W (hW : Grw w8 W) => grw_same hW (word_any _ c bs 88 G (G + 1 + 1) W B (hp.out.below hB8.out hW.out) (by omega) hl))
  have q102 := hide (show ∀ W, Grw w8 W → Calls Tryz.prog 56 #[.int .i64 102, .pointer (some ⟨G + 1 + 1 + 1 + 1, 0, none⟩)] W (fun e w'' => e = .returned (.agg #[.int .i64 (sg bs 102), .int .i64 (sg bs 106)]) ∧ Grw w8 w'') from fun W (hW : Grw w8 W) => grw_step hW (point_any _ c bs 102 G (G + 1 + 1) (G + 1 + 1 + 1 + 1) W B (hp.out.below hB8.out hW.out) (Nat.le_trans hB8.out hW.out.size) (k8.below hW.out k8.lt) (by omega) hl))
  have q110 := hide (show ∀ W, Grw w8 W → Calls Tryz.prog 56 #[.int .i64 110, .pointer (some ⟨G + 1 + 1 + 1 + 1, 0, none⟩)] W (fun e w'' => e = .returned (.agg #[.int .i64 (sg bs 110), .int .i64 (sg bs 114)]) ∧ Grw w8 w'') from fun W (hW : Grw w8 W) => grw_step hW (point_any _ c bs 110 G (G + 1 + 1) (G + 1 + 1 + 1 + 1) W B (hp.out.below hB8.out hW.out) (Nat.le_trans hB8.out hW.out.size) (k8.below hW.out k8.lt) (by omega) hl))
  have q119 := hide (show ∀ W, Grw w8 W → Calls Tryz.prog 56 #[.int .i64 119, .pointer (some ⟨G + 1 + 1 + 1 + 1, 0, none⟩)] W (fun e w'' => e = .returned (.agg #[.int .i64 (sg bs 119), .int .i64 (sg bs 123)]) ∧ Grw w8 w'') from fun W (hW : Grw w8 W) => grw_step hW (point_any _ c bs 119 G (G + 1 + 1) (G + 1 + 1 + 1 + 1) W B (hp.out.below hB8.out hW.out) (Nat.le_trans hB8.out hW.out.size) (k8.below hW.out k8.lt) (by omega) hl))
  have hcs := hide (show #[.int .u64 ((num bs 8 8 : Nat) : Int), .int .u64 ((num bs 16 8 : Nat) : Int), .int .u64 ((num bs 24 8 : Nat) : Int), .int .u64 ((num bs 32 8 : Nat) : Int), .int .u64 ((num bs 40 8 : Nat) : Int), .int .u64 ((num bs 48 8 : Nat) : Int), .int .u64 ((num bs 56 8 : Nat) : Int), .int .u64 ((num bs 64 8 : Nat) : Int), .int .u64 ((num bs 72 8 : Nat) : Int), .int .u64 ((num bs 80 8 : Nat) : Int), .int .u64 ((num bs 88 8 : Nat) : Int), .bool (byt bs 96 == 1), .int .i64 (byt bs 97), .int .i64 (byt bs 98), .int .i64 (byt bs 99), .int .i64 (byt bs 100), .int .i64 (byt bs 101), .int .i64 (sg bs 102), .int .i64 (sg bs 106), .int .i64 (sg bs 110), .int .i64 (sg bs 114), .int .i64 (sg bs 119), .int .i64 (sg bs 123), .int .i64 (byt bs 118)] = (headOf bs).cells from rfl)
  obtain ⟨L, hL⟩ : ∃ L, bs.length = L := ⟨_, rfl⟩
  have hL96 : (96 : Int) < (L : Int) := by omega
  have hL97 : (97 : Int) < (L : Int) := by omega
  have hL98 : (98 : Int) < (L : Int) := by omega
  have hL99 : (99 : Int) < (L : Int) := by omega
  have hL100 : (100 : Int) < (L : Int) := by omega
  have hL101 : (101 : Int) < (L : Int) := by omega
  have hL118 : (118 : Int) < (L : Int) := by omega
  rw [hL] at c1 hw1 ⊢
  replace bel := hide bel
  replace K2 := hide K2
  rw [hG]
  clear k1 k2 k3 k4 k5 k6 k7 k8 K1 K3 K4 hr hB h127 hl hp hB8 s8
  generalize num bs 8 8 = n8 at *
  generalize num bs 16 8 = n16 at *
  generalize num bs 24 8 = n24 at *
  generalize num bs 32 8 = n32 at *
  generalize num bs 40 8 = n40 at *
  generalize num bs 48 8 = n48 at *
  generalize num bs 56 8 = n56 at *
  generalize num bs 64 8 = n64 at *
  generalize num bs 72 8 = n72 at *
  generalize num bs 80 8 = n80 at *
  generalize num bs 88 8 = n88 at *
  generalize sg bs 102 = n102 at *
  generalize sg bs 106 = n106 at *
  generalize sg bs 110 = n110 at *
  generalize sg bs 114 = n114 at *
  generalize sg bs 119 = n119 at *
  generalize sg bs 123 = n123 at *
  generalize byt bs 96 = n96 at *
  generalize byt bs 97 = n97 at *
  generalize byt bs 98 = n98 at *
  generalize byt bs 99 = n99 at *
  generalize byt bs 100 = n100 at *
  generalize byt bs 101 = n101 at *
  generalize byt bs 118 = n118 at *
  go_enter Tryz.func27, Tryz.ntmps27
  go_upto_region 6 with fail
  refine wp_region_grw_tail 50 (by kernel_rfl) (by kernel_rfl) ?_
  simp only [List.take_succ_cons, List.take_zero, List.drop_succ_cons, List.drop_zero]
  repeat (first
    | go_big_quiet_skip
    | (go_big_quiet_want
       first
         | (with_reducible refine quiet_load_cell 22 (.tmp 1) rfl G 0 _ rfl _ Tryz.underlying22 rfl c1 ?_
            simp only [Act.put, List.setIfInBounds_toArray, List.set_cons_zero, List.set_cons_succ]
            go_big_quiet_on)
         | (with_reducible refine quiet_load_cell 103 (.tmp 4) rfl (G + 1 + 1 + 1) 0 _ rfl _ Tryz.underlying103 rfl c4 ?_
            simp only [Act.put, List.setIfInBounds_toArray, List.set_cons_zero, List.set_cons_succ]
            go_big_quiet_on)
         | (with_reducible refine quiet_load_cell 5 (.tmp 29) rfl bb (oo + 96) _ rfl _ Tryz.underlying5 rfl c96 ?_
            simp only [Act.put, List.setIfInBounds_toArray, List.set_cons_zero, List.set_cons_succ]
            go_big_quiet_on)
         | (with_reducible refine quiet_load_cell 5 (.tmp 33) rfl bb (oo + 97) _ rfl _ Tryz.underlying5 rfl c97 ?_
            simp only [Act.put, List.setIfInBounds_toArray, List.set_cons_zero, List.set_cons_succ]
            go_big_quiet_on)
         | (with_reducible refine quiet_load_cell 5 (.tmp 37) rfl bb (oo + 98) _ rfl _ Tryz.underlying5 rfl c98 ?_
            simp only [Act.put, List.setIfInBounds_toArray, List.set_cons_zero, List.set_cons_succ]
            go_big_quiet_on)
         | (with_reducible refine quiet_load_cell 5 (.tmp 41) rfl bb (oo + 99) _ rfl _ Tryz.underlying5 rfl c99 ?_
            simp only [Act.put, List.setIfInBounds_toArray, List.set_cons_zero, List.set_cons_succ]
            go_big_quiet_on)
         | (with_reducible refine quiet_load_cell 5 (.tmp 45) rfl bb (oo + 100) _ rfl _ Tryz.underlying5 rfl c100 ?_
            simp only [Act.put, List.setIfInBounds_toArray, List.set_cons_zero, List.set_cons_succ]
            go_big_quiet_on)
         | (with_reducible refine quiet_load_cell 5 (.tmp 49) rfl bb (oo + 101) _ rfl _ Tryz.underlying5 rfl c101 ?_
            simp only [Act.put, List.setIfInBounds_toArray, List.set_cons_zero, List.set_cons_succ]
            go_big_quiet_on)
         | (with_reducible refine quiet_load_cell 5 (.tmp 57) rfl bb (oo + 118) _ rfl _ Tryz.underlying5 rfl c118 ?_
            simp only [Act.put, List.setIfInBounds_toArray, List.set_cons_zero, List.set_cons_succ]
            go_big_quiet_on)
         | (go_big_quiet_op
            go_big_quiet_on)
         | (go_big_quiet_op
            refine ⟨_, fun _ _ => rfl, ?_⟩
            go_big_quiet_on)
         | (with_reducible refine quiet_val (o := ⟨some 27, _, _, _, _, _⟩) (.agg #[.int .u64 (n72 : Int), .int .u64 (n80 : Int), .int .u64 (n88 : Int)]) (fun w => by kernel_rfl) ?_
            simp only [Act.put, List.setIfInBounds_toArray, List.set_cons_zero, List.set_cons_succ]
            go_big_quiet_on)
         | (with_reducible refine quiet_val (o := ⟨some 62, _, _, _, _, _⟩) (.agg #[.int .u64 (n8 : Int), .int .u64 (n16 : Int), .int .u64 (n24 : Int), .int .u64 (n32 : Int), .int .u64 (n40 : Int), .int .u64 (n48 : Int), .int .u64 (n56 : Int), .int .u64 (n64 : Int), .int .u64 (n72 : Int), .int .u64 (n80 : Int), .int .u64 (n88 : Int), .bool (n96 == 1), .int .i64 n97, .int .i64 n98, .int .i64 n99, .int .i64 n100, .int .i64 n101, .int .i64 n102, .int .i64 n106, .int .i64 n110, .int .i64 n114, .int .i64 n119, .int .i64 n123, .int .i64 n118]) (fun w => by kernel_rfl) ?_
            simp only [Act.put, List.setIfInBounds_toArray, List.set_cons_zero, List.set_cons_succ]
            go_big_quiet_on)
         | (go_big_quiet_op
            apply Exists.intro
            refine ⟨fun w' hw' => ?_, ?_⟩
            · first
              | (go_at_call 55; (with_reducible exact q8.out w' hw'))
              | (go_at_call 55; (with_reducible exact q24.out w' hw'))
              | (go_at_call 55; (with_reducible exact q40.out w' hw'))
              | (go_at_call 55; (with_reducible exact q56.out w' hw'))
              | (go_at_call 53; (with_reducible exact q72.out w' hw'))
              | (go_at_call 53; (with_reducible exact q80.out w' hw'))
              | (go_at_call 53; (with_reducible exact q88.out w' hw'))
              | (go_at_call 56; (with_reducible exact q102.out w' hw'))
              | (go_at_call 56; (with_reducible exact q110.out w' hw'))
              | (go_at_call 56; (with_reducible exact q119.out w' hw'))
            go_big_quiet_on)))
  refine wpQuiet_nil ?_
  intro w9 hb9
  have hk9 := hide (K2.out.below hb9.out K2.out.lt)
  have hbb := hide (bel.out.trans (hb9.out.mono (by rw [← hw8]; simp; omega)))
  refine wpList_store_row rfl 30 (.tmp 2) (.tmp 62) rfl (G + 1) #[.int .u64 (n8 : Int), .int .u64 (n16 : Int), .int .u64 (n24 : Int), .int .u64 (n32 : Int), .int .u64 (n40 : Int), .int .u64 (n48 : Int), .int .u64 (n56 : Int), .int .u64 (n64 : Int), .int .u64 (n72 : Int), .int .u64 (n80 : Int), .int .u64 (n88 : Int), .bool (n96 == 1), .int .i64 n97, .int .i64 n98, .int .i64 n99, .int .i64 n100, .int .i64 n101, .int .i64 n102, .int .i64 n106, .int .i64 n110, .int .i64 n114, .int .i64 n119, .int .i64 n123, .int .i64 n118] rfl rfl 30 #[.int .u64 0, .int .u64 0, .int .u64 0, .int .u64 0, .int .u64 0, .int .u64 0, .int .u64 0, .int .u64 0, .int .u64 0, .int .u64 0, .int .u64 0, .bool false, .int .i64 0, .int .i64 0, .int .i64 0, .int .i64 0, .int .i64 0, .int .i64 0, .int .i64 0, .int .i64 0, .int .i64 0, .int .i64 0, .int .i64 0, .int .i64 0] hk9.out.eq info24 rfl (by simp [Value.oneCell']) ?_
  have hk10 := hide (hk9.out.row #[.int .u64 (n8 : Int), .int .u64 (n16 : Int), .int .u64 (n24 : Int), .int .u64 (n32 : Int), .int .u64 (n40 : Int), .int .u64 (n48 : Int), .int .u64 (n56 : Int), .int .u64 (n64 : Int), .int .u64 (n72 : Int), .int .u64 (n80 : Int), .int .u64 (n88 : Int), .bool (n96 == 1), .int .i64 n97, .int .i64 n98, .int .i64 n99, .int .i64 n100, .int .i64 n101, .int .i64 n102, .int .i64 n106, .int .i64 n110, .int .i64 n114, .int .i64 n119, .int .i64 n123, .int .i64 n118])
  have hb10 := hide (below_row hbb.out (Nat.le_succ G) #[.int .u64 (n8 : Int), .int .u64 (n16 : Int), .int .u64 (n24 : Int), .int .u64 (n32 : Int), .int .u64 (n40 : Int), .int .u64 (n48 : Int), .int .u64 (n56 : Int), .int .u64 (n64 : Int), .int .u64 (n72 : Int), .int .u64 (n80 : Int), .int .u64 (n88 : Int), .bool (n96 == 1), .int .i64 n97, .int .i64 n98, .int .i64 n99, .int .i64 n100, .int .i64 n101, .int .i64 n102, .int .i64 n106, .int .i64 n110, .int .i64 n114, .int .i64 n119, .int .i64 n123, .int .i64 n118])
  generalize w9.setRow (G + 1) #[.int .u64 (n8 : Int), .int .u64 (n16 : Int), .int .u64 (n24 : Int), .int .u64 (n32 : Int), .int .u64 (n40 : Int), .int .u64 (n48 : Int), .int .u64 (n56 : Int), .int .u64 (n64 : Int), .int .u64 (n72 : Int), .int .u64 (n80 : Int), .int .u64 (n88 : Int), .bool (n96 == 1), .int .i64 n97, .int .i64 n98, .int .i64 n99, .int .i64 n100, .int .i64 n101, .int .i64 n102, .int .i64 n106, .int .i64 n110, .int .i64 n114, .int .i64 n119, .int .i64 n123, .int .i64 n118] = w10 at *
  go_wp2
  exact bodyPost_ret_by (results_cell_row rfl _ _ (G + 1) 30 #[.int .u64 (n8 : Int), .int .u64 (n16 : Int), .int .u64 (n24 : Int), .int .u64 (n32 : Int), .int .u64 (n40 : Int), .int .u64 (n48 : Int), .int .u64 (n56 : Int), .int .u64 (n64 : Int), .int .u64 (n72 : Int), .int .u64 (n80 : Int), .int .u64 (n88 : Int), .bool (n96 == 1), .int .i64 n97, .int .i64 n98, .int .i64 n99, .int .i64 n100, .int .i64 n101, .int .i64 n102, .int .i64 n106, .int .i64 n110, .int .i64 n114, .int .i64 n119, .int .i64 n123, .int .i64 n118] (0, 0) _ rfl hk10.out.eq Tryz.underlying30 rfl info24) rfl ⟨by rw [hcs.out], hb10.out⟩
end Go.Proofs.YtaapjampmnanmaaGreat
namespace Go.Proofs.YtaapjampmnanmaaGreat
open Go.RowKit
theorem str13 {w : World} {B n : Nat} {A : Option Addr} {bs : List UInt8} (hr : Rd w B A n (bs.map bv)) (c : Nat) :
    (convert 22 9 (.slice A n c)).run Tryz.prog w = .ok (.string ⟨bs.toArray⟩) w := by
  have hl := hr.len
  subst hl
  cases A with
  | none =>
    have h0 : bs = [] := by
      cases bs with
      | nil => rfl
      | cons b t => obtain ⟨_, _, h, _⟩ := hr.2 0 (by simp); cases h
    subst h0
    exact run_convert_bytes_nil w _ _ Tryz.underlying22 Tryz.underlying5 _ _ _ Tryz.underlying9
  | some a =>
    refine run_convert_bytes_back w _ _ _ a c bs Tryz.underlying22 Tryz.underlying5 Tryz.underlying9 ?_
    intro j hj
    obtain ⟨g, o, ha, _, hc⟩ := hr.2 j (by simpa using hj)
    injection ha with ha
    subst ha
    rw [Addr.add_mid, hc, List.getElem?_map, List.getElem?_eq_getElem hj]
    rfl
theorem toList_loop (bs : ByteArray) : ∀ (n i : Nat) (r : List UInt8), bs.size - i = n → ByteArray.toList.loop bs i r = r.reverse ++ bs.data.toList.drop i := by
  have hsz : bs.size = bs.data.toList.length := rfl
  intro n
  induction n with
  | zero =>
    intro i r h
    unfold ByteArray.toList.loop
    rw [if_neg (by omega)]
    rw [List.drop_eq_nil_of_le (by omega), List.append_nil]
  | succ n ih =>
    intro i r h
    unfold ByteArray.toList.loop
    rw [if_pos (by omega), ih (i+1) _ (by omega)]
    have hi : i < bs.data.toList.length := by omega
    rw [List.drop_eq_getElem_cons hi, List.reverse_cons, List.append_assoc]
    have hg : bs.get! i = bs.data.toList[i] := by
      show bs.data[i]! = _
      rw [getElem!_pos bs.data i (by simpa using hi)]
      simp
    rw [hg]
    rfl
theorem toList_data (bs : ByteArray) : bs.toList = bs.data.toList := by
  unfold ByteArray.toList
  rw [toList_loop bs _ 0 [] rfl]
  rfl
theorem Rd.take {w : World} {B n : Nat} {A : Option Addr} {xs : List Value} (h : Rd w B A n xs) (k : Nat) (hk : k ≤ n) : Rd w B A k (xs.take k) :=
  ⟨by rw [List.length_take, h.1]; omega, fun j hj => by
    obtain ⟨b, o, e, hb, hc⟩ := h.2 j (by omega)
    exact ⟨b, o, e, hb, by rw [hc, List.getElem?_take, if_pos hj]⟩⟩
theorem results_hd {P : Program} {fn : Func} {p u : Tmp} {ty : TypeId} (h : fn.results = #[.cell p ty, .tmp u]) (tmps : Array Value) (w : World) (g : Nat) (t : TypeId) (cs : Array Value) (fr : Nat × Nat) (d : TypeDesc)
    (hp : tmps.getD p undef = .pointer (some ⟨g, 0, none⟩)) (hg : w.heap[g]? = some (.cells cs t fr))
    (hu : P.underlying ty = some d) (hd : (match d with | .struct _ | .array _ _ => true | _ => false) = true) (hi : (P.info? ty).map (·.size) = some cs.size) :
    (results fn tmps).run P w = .ok (.tuple #[.agg cs, tmps.getD u undef]) w := by
  rw [results_cell_tmp h]
  have hp' : tmps[p]?.getD undef = .pointer (some ⟨g, 0, none⟩) := by simpa using hp
  simp [asAddr, hp', run_loadVar_row w g t ty cs fr d hg hu hd hi]
theorem Hd.size (h : Hd) : h.cells.size = 24 := rfl
theorem Hd.one (h : Hd) : h.cells.all (·.oneCell') = true := by simp [Hd.cells, Value.oneCell']
def Magic (bs : List UInt8) : Prop := bs.take 8 = mag ∧ byt bs 96 ≤ 1
instance (bs : List UInt8) : Decidable (Magic bs) := inferInstanceAs (Decidable (_ ∧ _))
def headV (bs : List UInt8) (r : Int) : Hd × Int :=
  if 4194304 < bs.length then (Hd.zero, 5) else if bs.length < 127 then (Hd.zero, 2) else if Magic bs then (if r = 0 then (headOf bs, 0) else (Hd.zero, r)) else (Hd.zero, 3)
theorem z24info : (Tryz.prog.info? 30).map (·.size) = some (#[.int .u64 0, .int .u64 0, .int .u64 0, .int .u64 0, .int .u64 0, .int .u64 0, .int .u64 0, .int .u64 0, .int .u64 0, .int .u64 0, .int .u64 0, .bool false, .int .i64 0, .int .i64 0, .int .i64 0, .int .i64 0, .int .i64 0, .int .i64 0, .int .i64 0, .int .i64 0, .int .i64 0, .int .i64 0, .int .i64 0, .int .i64 0] : Array Value).size := by kernel_rfl
theorem z24one : (#[.int .u64 0, .int .u64 0, .int .u64 0, .int .u64 0, .int .u64 0, .int .u64 0, .int .u64 0, .int .u64 0, .int .u64 0, .int .u64 0, .int .u64 0, .bool false, .int .i64 0, .int .i64 0, .int .i64 0, .int .i64 0, .int .i64 0, .int .i64 0, .int .i64 0, .int .i64 0, .int .i64 0, .int .i64 0, .int .i64 0, .int .i64 0] : Array Value).all (·.oneCell') = true := by simp [Value.oneCell']
theorem z24hd (h : Hd) : (#[.int .u64 0, .int .u64 0, .int .u64 0, .int .u64 0, .int .u64 0, .int .u64 0, .int .u64 0, .int .u64 0, .int .u64 0, .int .u64 0, .int .u64 0, .bool false, .int .i64 0, .int .i64 0, .int .i64 0, .int .i64 0, .int .i64 0, .int .i64 0, .int .i64 0, .int .i64 0, .int .i64 0, .int .i64 0, .int .i64 0, .int .i64 0] : Array Value).size = h.cells.size := rfl
theorem Hd.info (h : Hd) : (Tryz.prog.info? 30).map (·.size) = some h.cells.size := by rw [h.size]; exact info24
set_option maxRecDepth 100000 in
set_option maxHeartbeats 4000000 in
theorem ahead_any (A : Option Addr) (c : Nat) (bs : List UInt8) (w : World) (B : Nat) (hr : Rd w B A bs.length (bs.map bv)) (hB : B ≤ w.heap.size) (hcap : bs.length ≤ c) (hmax : bs.length ≤ 9223372036854775807) (r : Int) (hR : RightR (headOf bs) bs.length r) :
    Calls Tryz.prog 8 #[.slice A bs.length c] w fun e w' => e = .returned (.tuple #[.agg (headV bs r).1.cells, .int .i64 (headV bs r).2]) ∧ Below w.heap.size w w' := by
  obtain ⟨G, hG⟩ : ∃ G, w.heap.size = G := ⟨_, rfl⟩
  obtain ⟨w1, hw1⟩ : ∃ W, w.alloc (.cells #[.int .u64 0, .int .u64 0, .int .u64 0, .int .u64 0, .int .u64 0, .int .u64 0, .int .u64 0, .int .u64 0, .int .u64 0, .int .u64 0, .int .u64 0, .bool false, .int .i64 0, .int .i64 0, .int .i64 0, .int .i64 0, .int .i64 0, .int .i64 0, .int .i64 0, .int .i64 0, .int .i64 0, .int .i64 0, .int .i64 0, .int .i64 0] 30) = W := ⟨_, rfl⟩
  have hk1 := hide (show Blk w1 G 30 #[.int .u64 0, .int .u64 0, .int .u64 0, .int .u64 0, .int .u64 0, .int .u64 0, .int .u64 0, .int .u64 0, .int .u64 0, .int .u64 0, .int .u64 0, .bool false, .int .i64 0, .int .i64 0, .int .i64 0, .int .i64 0, .int .i64 0, .int .i64 0, .int .i64 0, .int .i64 0, .int .i64 0, .int .i64 0, .int .i64 0, .int .i64 0] from by rw [← hw1, ← hG]; exact Blk.new w _ _)
  have hs1 := hide (show w1.heap.size = G + 1 from by rw [← hw1, ← hG]; simp)
  have hb1 := hide (show Below G w w1 from by rw [← hw1, ← hG]; exact (Below.refl _ w).alloc (Nat.le_refl _) _)
  have hr1 := hide (hr.below (hb1.out.mono (by omega)))
  have hB1 := hide (show B ≤ w1.heap.size from by rw [hs1.out]; omega)
  have hmaxI : (bs.length : Int) ≤ 9223372036854775807 := by omega
  obtain ⟨wz, hwz⟩ : ∃ W, w1.setRow G #[.int .u64 0, .int .u64 0, .int .u64 0, .int .u64 0, .int .u64 0, .int .u64 0, .int .u64 0, .int .u64 0, .int .u64 0, .int .u64 0, .int .u64 0, .bool false, .int .i64 0, .int .i64 0, .int .i64 0, .int .i64 0, .int .i64 0, .int .i64 0, .int .i64 0, .int .i64 0, .int .i64 0, .int .i64 0, .int .i64 0, .int .i64 0] = W := ⟨_, rfl⟩
  have hkz := hide (show Blk wz G 30 #[.int .u64 0, .int .u64 0, .int .u64 0, .int .u64 0, .int .u64 0, .int .u64 0, .int .u64 0, .int .u64 0, .int .u64 0, .int .u64 0, .int .u64 0, .bool false, .int .i64 0, .int .i64 0, .int .i64 0, .int .i64 0, .int .i64 0, .int .i64 0, .int .i64 0, .int .i64 0, .int .i64 0, .int .i64 0, .int .i64 0, .int .i64 0] from by rw [← hwz]; exact hk1.out.row _)
  have hbz := hide (show Below G w wz from by rw [← hwz]; exact below_row hb1.out (Nat.le_refl _) _)
  have hzc := hide (show Hd.zero.cells = #[.int .u64 0, .int .u64 0, .int .u64 0, .int .u64 0, .int .u64 0, .int .u64 0, .int .u64 0, .int .u64 0, .int .u64 0, .int .u64 0, .int .u64 0, .bool false, .int .i64 0, .int .i64 0, .int .i64 0, .int .i64 0, .int .i64 0, .int .i64 0, .int .i64 0, .int .i64 0, .int .i64 0, .int .i64 0, .int .i64 0, .int .i64 0] from rfl)
  rw [hG]
  unfold headV
  by_cases hlong : 4194304 < bs.length
  · rw [if_pos hlong]
    simp only
    rw [hzc.out]
    have hI : (4194304 : Int) < (bs.length : Int) := by omega
    generalize bs.length = L at *
    clear hR hcap hmax hlong hr1 hr hB hB1
    go_enter Tryz.func8, Tryz.ntmps8
    go_wp2_with (with_reducible refine wpList_store_row (o := ⟨none, .store 30 (.tmp 2) (.tmp 10), _, _, _, _⟩) rfl 30 (.tmp 2) (.tmp 10) rfl G #[.int .u64 0, .int .u64 0, .int .u64 0, .int .u64 0, .int .u64 0, .int .u64 0, .int .u64 0, .int .u64 0, .int .u64 0, .int .u64 0, .int .u64 0, .bool false, .int .i64 0, .int .i64 0, .int .i64 0, .int .i64 0, .int .i64 0, .int .i64 0, .int .i64 0, .int .i64 0, .int .i64 0, .int .i64 0, .int .i64 0, .int .i64 0] rfl rfl 30 _ hk1.out.eq z24info rfl z24one ?_)
    exact bodyPost_ret_by (results_hd rfl _ _ G 30 #[.int .u64 0, .int .u64 0, .int .u64 0, .int .u64 0, .int .u64 0, .int .u64 0, .int .u64 0, .int .u64 0, .int .u64 0, .int .u64 0, .int .u64 0, .bool false, .int .i64 0, .int .i64 0, .int .i64 0, .int .i64 0, .int .i64 0, .int .i64 0, .int .i64 0, .int .i64 0, .int .i64 0, .int .i64 0, .int .i64 0, .int .i64 0] (0, 0) _ rfl hkz.out.eq Tryz.underlying30 rfl info24) rfl ⟨rfl, hbz.out⟩
  · rw [if_neg hlong]
    by_cases hshort : bs.length < 127
    · rw [if_pos hshort]
      simp only
      rw [hzc.out]
      have hI : (bs.length : Int) ≤ 4194304 := by omega
      have hI2 : (bs.length : Int) < 127 := by omega
      generalize bs.length = L at *
      clear hR hcap hmax hlong hshort hr1 hr hB hB1 hmaxI
      go_enter Tryz.func8, Tryz.ntmps8
      go_wp2_with (with_reducible refine wpList_store_row (o := ⟨none, .store 30 (.tmp 2) (.tmp 15), _, _, _, _⟩) rfl 30 (.tmp 2) (.tmp 15) rfl G #[.int .u64 0, .int .u64 0, .int .u64 0, .int .u64 0, .int .u64 0, .int .u64 0, .int .u64 0, .int .u64 0, .int .u64 0, .int .u64 0, .int .u64 0, .bool false, .int .i64 0, .int .i64 0, .int .i64 0, .int .i64 0, .int .i64 0, .int .i64 0, .int .i64 0, .int .i64 0, .int .i64 0, .int .i64 0, .int .i64 0, .int .i64 0] rfl rfl 30 _ hk1.out.eq z24info rfl z24one ?_)
      exact bodyPost_ret_by (results_hd rfl _ _ G 30 #[.int .u64 0, .int .u64 0, .int .u64 0, .int .u64 0, .int .u64 0, .int .u64 0, .int .u64 0, .int .u64 0, .int .u64 0, .int .u64 0, .int .u64 0, .bool false, .int .i64 0, .int .i64 0, .int .i64 0, .int .i64 0, .int .i64 0, .int .i64 0, .int .i64 0, .int .i64 0, .int .i64 0, .int .i64 0, .int .i64 0, .int .i64 0] (0, 0) _ rfl hkz.out.eq Tryz.underlying30 rfl info24) rfl ⟨rfl, hbz.out⟩
    · rw [if_neg hshort]
      have hI : (bs.length : Int) ≤ 4194304 := by omega
      have hI2 : (127 : Int) ≤ (bs.length : Int) := by omega
      have hI3 : (96 : Int) < (bs.length : Int) := by omega
      have hI4 : (8 : Int) ≤ (c : Int) := by omega
      have hI5 : (bs.length : Int) ≤ (c : Int) := by omega
      obtain ⟨bb, oo, hA, _, c96⟩ := hr1.out.byt 96 (by omega)
      subst hA
      have ks := str13 (show Rd w1 B (some ⟨bb, oo, none⟩) 8 ((bs.take 8).map bv) from by rw [List.map_take]; exact hr1.out.take 8 (by omega)) c
      obtain ⟨S8, hS8⟩ : ∃ S, ByteArray.mk (bs.take 8).toArray = S := ⟨_, rfl⟩
      rw [hS8] at ks
      by_cases hm1 : bs.take 8 = mag
      · have hS : S8.toList = [80, 77, 84, 105, 108, 101, 115, 3] := by rw [← hS8, hm1, toList_data]; rfl
        by_cases hm2 : byt bs 96 ≤ 1
        · rw [if_pos ⟨hm1, hm2⟩]
          have hp := hide (parse_any (some ⟨bb, oo, none⟩) c bs w1 B hr1.out hB1.out (by omega) (by omega))
          have hq := hide (fun W => right_any (headOf bs) bs.length W hmaxI r hR)
          have hone := hide (headOf bs).one
          have hsz := hide (z24hd (headOf bs))
          have hinfo := hide (headOf bs).info
          generalize bs.length = L at *
          generalize byt bs 96 = n96 at *
          by_cases hr0 : r = 0
          · rw [if_pos hr0]
            subst hr0
            simp only
            generalize (headOf bs).cells = cs at *
            clear hR hcap hmax hlong hshort hr1 hr hB hB1 hmaxI hS8 hm1
            go_enter Tryz.func8, Tryz.ntmps8
            go_wp2_with (first
              | (go_at_call 27; (with_reducible refine hp.out.mono ?_); rintro e w2 ⟨rfl, hb2⟩; obtain ⟨S3, hS3⟩ : ∃ S, w2.heap.size = S := ⟨_, rfl⟩; have hne := hide (show G < S3 from by have := hk1.out.lt; have := hb2.size; omega); obtain ⟨w3, hw3⟩ : ∃ W, w2.alloc (.cells #[.int .u64 0, .int .u64 0, .int .u64 0, .int .u64 0, .int .u64 0, .int .u64 0, .int .u64 0, .int .u64 0, .int .u64 0, .int .u64 0, .int .u64 0, .bool false, .int .i64 0, .int .i64 0, .int .i64 0, .int .i64 0, .int .i64 0, .int .i64 0, .int .i64 0, .int .i64 0, .int .i64 0, .int .i64 0, .int .i64 0, .int .i64 0] 30) = W := ⟨_, rfl⟩; have k3 := hide (show Blk w3 S3 30 #[.int .u64 0, .int .u64 0, .int .u64 0, .int .u64 0, .int .u64 0, .int .u64 0, .int .u64 0, .int .u64 0, .int .u64 0, .int .u64 0, .int .u64 0, .bool false, .int .i64 0, .int .i64 0, .int .i64 0, .int .i64 0, .int .i64 0, .int .i64 0, .int .i64 0, .int .i64 0, .int .i64 0, .int .i64 0, .int .i64 0, .int .i64 0] from by rw [← hw3, ← hS3]; exact Blk.new w2 _ _); have kA3 := hide (show Blk w3 G 30 #[.int .u64 0, .int .u64 0, .int .u64 0, .int .u64 0, .int .u64 0, .int .u64 0, .int .u64 0, .int .u64 0, .int .u64 0, .int .u64 0, .int .u64 0, .bool false, .int .i64 0, .int .i64 0, .int .i64 0, .int .i64 0, .int .i64 0, .int .i64 0, .int .i64 0, .int .i64 0, .int .i64 0, .int .i64 0, .int .i64 0, .int .i64 0] from by rw [← hw3]; exact (hk1.out.below hb2 hk1.out.lt).alloc _); have hb3 := hide (show Below G w w3 from by rw [← hw3]; exact (hb1.out.trans (hb2.mono (by have := hs1.out; omega))).alloc (by have := hne.out; omega) _); obtain ⟨w4, hw4⟩ : ∃ W, w3.setRow S3 cs = W := ⟨_, rfl⟩; have k4 := hide (show Blk w4 S3 30 cs from by rw [← hw4]; exact k3.out.row _); have kA4 := hide (show Blk w4 G 30 #[.int .u64 0, .int .u64 0, .int .u64 0, .int .u64 0, .int .u64 0, .int .u64 0, .int .u64 0, .int .u64 0, .int .u64 0, .int .u64 0, .int .u64 0, .bool false, .int .i64 0, .int .i64 0, .int .i64 0, .int .i64 0, .int .i64 0, .int .i64 0, .int .i64 0, .int .i64 0, .int .i64 0, .int .i64 0, .int .i64 0, .int .i64 0] from by rw [← hw4]; exact (setRow_other w3 S3 G cs (by have := hne.out; omega)).trans kA3.out); have hb4 := hide (show Below G w w4 from by rw [← hw4]; exact below_row hb3.out (by have := hne.out; omega) _))
              | ((with_reducible refine wpList_store_row (o := ⟨none, .store 30 (.tmp 4) (.tmp 29), _, _, _, _⟩) rfl 30 (.tmp 4) (.tmp 29) rfl S3 cs rfl rfl 30 _ k3.out.eq hinfo.out hsz.out hone.out ?_); rw [hw4])
              | (with_reducible refine wpList_load_row (o := ⟨some 30, .load 30 (.tmp 4), _, _, _, _⟩) rfl 30 (.tmp 4) rfl S3 rfl 30 cs (0, 0) _ k4.out.eq Tryz.underlying30 rfl hinfo.out ?_)
              | (go_at_call 28; (with_reducible refine (hq.out _).mono ?_); rintro e w5 ⟨rfl, hb5⟩; have k5 := hide (k4.out.below hb5 k4.out.lt); have kA5 := hide (kA4.out.below hb5 kA4.out.lt); have hb6 := hide (hb4.out.trans (hb5.mono (by have := kA4.out.lt; omega))); obtain ⟨wf, hwf⟩ : ∃ W, w5.setRow G cs = W := ⟨_, rfl⟩; have kz := hide (show Blk wf G 30 cs from by rw [← hwf]; exact kA5.out.row _); have hz := hide (show Below G w wf from by rw [← hwf]; exact below_row hb6.out (Nat.le_refl _) _))
              | (with_reducible refine wpList_load_row (o := ⟨some 38, .load 30 (.tmp 4), _, _, _, _⟩) rfl 30 (.tmp 4) rfl S3 rfl 30 cs (0, 0) _ k5.out.eq Tryz.underlying30 rfl hinfo.out ?_)
              | ((with_reducible refine wpList_store_row (o := ⟨none, .store 30 (.tmp 2) (.tmp 38), _, _, _, _⟩) rfl 30 (.tmp 2) (.tmp 38) rfl G cs rfl rfl 30 _ kA5.out.eq hinfo.out hsz.out hone.out ?_); rw [hwf]))
            exact bodyPost_ret_by (results_hd rfl _ _ G 30 cs (0, 0) _ rfl kz.out.eq Tryz.underlying30 rfl hinfo.out) rfl ⟨rfl, hz.out⟩
          · rw [if_neg hr0]
            simp only
            rw [hzc.out]
            generalize (headOf bs).cells = cs at *
            clear hR hcap hmax hlong hshort hr1 hr hB hB1 hmaxI hS8 hm1
            go_enter Tryz.func8, Tryz.ntmps8
            go_wp2_with (first
              | (go_at_call 27; (with_reducible refine hp.out.mono ?_); rintro e w2 ⟨rfl, hb2⟩; obtain ⟨S3, hS3⟩ : ∃ S, w2.heap.size = S := ⟨_, rfl⟩; have hne := hide (show G < S3 from by have := hk1.out.lt; have := hb2.size; omega); obtain ⟨w3, hw3⟩ : ∃ W, w2.alloc (.cells #[.int .u64 0, .int .u64 0, .int .u64 0, .int .u64 0, .int .u64 0, .int .u64 0, .int .u64 0, .int .u64 0, .int .u64 0, .int .u64 0, .int .u64 0, .bool false, .int .i64 0, .int .i64 0, .int .i64 0, .int .i64 0, .int .i64 0, .int .i64 0, .int .i64 0, .int .i64 0, .int .i64 0, .int .i64 0, .int .i64 0, .int .i64 0] 30) = W := ⟨_, rfl⟩; have k3 := hide (show Blk w3 S3 30 #[.int .u64 0, .int .u64 0, .int .u64 0, .int .u64 0, .int .u64 0, .int .u64 0, .int .u64 0, .int .u64 0, .int .u64 0, .int .u64 0, .int .u64 0, .bool false, .int .i64 0, .int .i64 0, .int .i64 0, .int .i64 0, .int .i64 0, .int .i64 0, .int .i64 0, .int .i64 0, .int .i64 0, .int .i64 0, .int .i64 0, .int .i64 0] from by rw [← hw3, ← hS3]; exact Blk.new w2 _ _); have kA3 := hide (show Blk w3 G 30 #[.int .u64 0, .int .u64 0, .int .u64 0, .int .u64 0, .int .u64 0, .int .u64 0, .int .u64 0, .int .u64 0, .int .u64 0, .int .u64 0, .int .u64 0, .bool false, .int .i64 0, .int .i64 0, .int .i64 0, .int .i64 0, .int .i64 0, .int .i64 0, .int .i64 0, .int .i64 0, .int .i64 0, .int .i64 0, .int .i64 0, .int .i64 0] from by rw [← hw3]; exact (hk1.out.below hb2 hk1.out.lt).alloc _); have hb3 := hide (show Below G w w3 from by rw [← hw3]; exact (hb1.out.trans (hb2.mono (by have := hs1.out; omega))).alloc (by have := hne.out; omega) _); obtain ⟨w4, hw4⟩ : ∃ W, w3.setRow S3 cs = W := ⟨_, rfl⟩; have k4 := hide (show Blk w4 S3 30 cs from by rw [← hw4]; exact k3.out.row _); have kA4 := hide (show Blk w4 G 30 #[.int .u64 0, .int .u64 0, .int .u64 0, .int .u64 0, .int .u64 0, .int .u64 0, .int .u64 0, .int .u64 0, .int .u64 0, .int .u64 0, .int .u64 0, .bool false, .int .i64 0, .int .i64 0, .int .i64 0, .int .i64 0, .int .i64 0, .int .i64 0, .int .i64 0, .int .i64 0, .int .i64 0, .int .i64 0, .int .i64 0, .int .i64 0] from by rw [← hw4]; exact (setRow_other w3 S3 G cs (by have := hne.out; omega)).trans kA3.out); have hb4 := hide (show Below G w w4 from by rw [← hw4]; exact below_row hb3.out (by have := hne.out; omega) _))
              | ((with_reducible refine wpList_store_row (o := ⟨none, .store 30 (.tmp 4) (.tmp 29), _, _, _, _⟩) rfl 30 (.tmp 4) (.tmp 29) rfl S3 cs rfl rfl 30 _ k3.out.eq hinfo.out hsz.out hone.out ?_); rw [hw4])
              | (with_reducible refine wpList_load_row (o := ⟨some 30, .load 30 (.tmp 4), _, _, _, _⟩) rfl 30 (.tmp 4) rfl S3 rfl 30 cs (0, 0) _ k4.out.eq Tryz.underlying30 rfl hinfo.out ?_)
              | (go_at_call 28; (with_reducible refine (hq.out _).mono ?_); rintro e w5 ⟨rfl, hb5⟩; have k5 := hide (k4.out.below hb5 k4.out.lt); have kA5 := hide (kA4.out.below hb5 kA4.out.lt); have hb6 := hide (hb4.out.trans (hb5.mono (by have := kA4.out.lt; omega))); obtain ⟨wf, hwf⟩ : ∃ W, w5.setRow G #[.int .u64 0, .int .u64 0, .int .u64 0, .int .u64 0, .int .u64 0, .int .u64 0, .int .u64 0, .int .u64 0, .int .u64 0, .int .u64 0, .int .u64 0, .bool false, .int .i64 0, .int .i64 0, .int .i64 0, .int .i64 0, .int .i64 0, .int .i64 0, .int .i64 0, .int .i64 0, .int .i64 0, .int .i64 0, .int .i64 0, .int .i64 0] = W := ⟨_, rfl⟩; have kz := hide (show Blk wf G 30 #[.int .u64 0, .int .u64 0, .int .u64 0, .int .u64 0, .int .u64 0, .int .u64 0, .int .u64 0, .int .u64 0, .int .u64 0, .int .u64 0, .int .u64 0, .bool false, .int .i64 0, .int .i64 0, .int .i64 0, .int .i64 0, .int .i64 0, .int .i64 0, .int .i64 0, .int .i64 0, .int .i64 0, .int .i64 0, .int .i64 0, .int .i64 0] from by rw [← hwf]; exact kA5.out.row _); have hz := hide (show Below G w wf from by rw [← hwf]; exact below_row hb6.out (Nat.le_refl _) _))
              | ((with_reducible refine wpList_store_row (o := ⟨none, .store 30 (.tmp 2) (.tmp 36), _, _, _, _⟩) rfl 30 (.tmp 2) (.tmp 36) rfl G #[.int .u64 0, .int .u64 0, .int .u64 0, .int .u64 0, .int .u64 0, .int .u64 0, .int .u64 0, .int .u64 0, .int .u64 0, .int .u64 0, .int .u64 0, .bool false, .int .i64 0, .int .i64 0, .int .i64 0, .int .i64 0, .int .i64 0, .int .i64 0, .int .i64 0, .int .i64 0, .int .i64 0, .int .i64 0, .int .i64 0, .int .i64 0] rfl rfl 30 _ kA5.out.eq z24info rfl z24one ?_); rw [hwf]))
            exact bodyPost_ret_by (results_hd rfl _ _ G 30 #[.int .u64 0, .int .u64 0, .int .u64 0, .int .u64 0, .int .u64 0, .int .u64 0, .int .u64 0, .int .u64 0, .int .u64 0, .int .u64 0, .int .u64 0, .bool false, .int .i64 0, .int .i64 0, .int .i64 0, .int .i64 0, .int .i64 0, .int .i64 0, .int .i64 0, .int .i64 0, .int .i64 0, .int .i64 0, .int .i64 0, .int .i64 0] (0, 0) _ rfl kz.out.eq Tryz.underlying30 rfl info24) rfl ⟨rfl, hz.out⟩
        · have hm2I : 1 < byt bs 96 := by omega
          rw [if_neg (fun h => hm2 h.2)]
          simp only
          rw [hzc.out]
          generalize bs.length = L at *
          generalize byt bs 96 = n96 at *
          clear hR hcap hmax hlong hshort hr1 hr hB hB1 hmaxI hS8 hm1 hm2
          go_enter Tryz.func8, Tryz.ntmps8
          go_wp2_with (with_reducible refine wpList_store_row (o := ⟨none, .store 30 (.tmp 2) (.tmp 27), _, _, _, _⟩) rfl 30 (.tmp 2) (.tmp 27) rfl G #[.int .u64 0, .int .u64 0, .int .u64 0, .int .u64 0, .int .u64 0, .int .u64 0, .int .u64 0, .int .u64 0, .int .u64 0, .int .u64 0, .int .u64 0, .bool false, .int .i64 0, .int .i64 0, .int .i64 0, .int .i64 0, .int .i64 0, .int .i64 0, .int .i64 0, .int .i64 0, .int .i64 0, .int .i64 0, .int .i64 0, .int .i64 0] rfl rfl 30 _ hk1.out.eq z24info rfl z24one ?_)
          exact bodyPost_ret_by (results_hd rfl _ _ G 30 #[.int .u64 0, .int .u64 0, .int .u64 0, .int .u64 0, .int .u64 0, .int .u64 0, .int .u64 0, .int .u64 0, .int .u64 0, .int .u64 0, .int .u64 0, .bool false, .int .i64 0, .int .i64 0, .int .i64 0, .int .i64 0, .int .i64 0, .int .i64 0, .int .i64 0, .int .i64 0, .int .i64 0, .int .i64 0, .int .i64 0, .int .i64 0] (0, 0) _ rfl hkz.out.eq Tryz.underlying30 rfl info24) rfl ⟨rfl, hbz.out⟩
      · have hS : (S8.toList == [80, 77, 84, 105, 108, 101, 115, 3]) = false := by
          rw [beq_eq_false_iff_ne]
          intro h
          rw [← hS8, toList_data] at h
          exact hm1 h
        rw [if_neg (fun h => hm1 h.1)]
        simp only
        rw [hzc.out]
        generalize bs.length = L at *
        generalize byt bs 96 = n96 at *
        clear hR hcap hmax hlong hshort hr1 hr hB hB1 hmaxI hS8 hm1
        go_enter Tryz.func8, Tryz.ntmps8
        go_wp2_with (with_reducible refine wpList_store_row (o := ⟨none, .store 30 (.tmp 2) (.tmp 27), _, _, _, _⟩) rfl 30 (.tmp 2) (.tmp 27) rfl G #[.int .u64 0, .int .u64 0, .int .u64 0, .int .u64 0, .int .u64 0, .int .u64 0, .int .u64 0, .int .u64 0, .int .u64 0, .int .u64 0, .int .u64 0, .bool false, .int .i64 0, .int .i64 0, .int .i64 0, .int .i64 0, .int .i64 0, .int .i64 0, .int .i64 0, .int .i64 0, .int .i64 0, .int .i64 0, .int .i64 0, .int .i64 0] rfl rfl 30 _ hk1.out.eq z24info rfl z24one ?_)
        exact bodyPost_ret_by (results_hd rfl _ _ G 30 #[.int .u64 0, .int .u64 0, .int .u64 0, .int .u64 0, .int .u64 0, .int .u64 0, .int .u64 0, .int .u64 0, .int .u64 0, .int .u64 0, .int .u64 0, .bool false, .int .i64 0, .int .i64 0, .int .i64 0, .int .i64 0, .int .i64 0, .int .i64 0, .int .i64 0, .int .i64 0, .int .i64 0, .int .i64 0, .int .i64 0, .int .i64 0] (0, 0) _ rfl hkz.out.eq Tryz.underlying30 rfl info24) rfl ⟨rfl, hbz.out⟩
end Go.Proofs.YtaapjampmnanmaaGreat
namespace Go.Proofs.YtaapjampmnanmaaGreat
open Go.RowKit
section
variable {P : Program} {ops : Array Oper} {md : Region.Mode} {Q : Exit → Act → World → Prop} {S S' : World → Prop}
theorem yields_row {o : Oper} {a : Act} (hw : Region.wanted o (yielded ops a.tmps) = true) (ty : TypeId) (x : Operand) (ho : o.op = .load ty x) (g : Nat) (hx : a.eval x = .pointer (some ⟨g, 0, none⟩)) (t : TypeId) (cs : Array Value) (d : TypeDesc)
    (hS : ∀ W, S W → Blk W g t cs) (hu : P.underlying ty = some d) (hd : (match d with | .struct _ | .array _ _ => true | _ => false) = true) (hi : (P.info? ty).map (·.size) = some cs.size) : YieldsIf P ops S o (.agg cs) a :=
  .inl ⟨hw, fun W hW => by
    unfold execOp
    simp only [ho, hx, Instr.loadAt, Instr.sureAddr, Sem.run_bind, Sem.run_pure, Result.andThen_ok, run_loadVar_row W g t ty cs (0, 0) d (hS W hW) hu hd hi]⟩
end
end Go.Proofs.YtaapjampmnanmaaGreat
