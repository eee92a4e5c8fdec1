/- Layer 12 (dir): the document's bytes of a number, and of entries. There is no condition but where the slices lie. -/
import Derived.Test.YtmpdoileiniijaaDirPut
import Derived.Deep.DeepCutAuto
import Derived.Deep.RegionWith
namespace Go.Proofs.Ytmpdoileiniijaa
open Go.RowKit

set_option maxRecDepth 100000 in
set_option maxHeartbeats 1000000 in
theorem rbytes_any (v : Nat) (w : World) (hv : Sm v 0) :
    Calls Try.prog 46 #[.int .u64 (v : Int)] w fun e w' => ∃ A c, e = .returned (.slice A (vb v).length c) ∧ Ow w' w.heap.size 5 A (vb v).length c ((vb v).map bv) ∧ Below w.heap.size w w' := by
  go_enter Try.func46, Try.ntmps46
  go_wp2
  go_loopw [0, 3] (fun x s wr => ∃ k V : Nat, ∃ pre : List UInt8, ∃ A c, k ≤ 9 ∧ x = .int .u64 (V : Int) ∧ s = .slice A pre.length c ∧ Sm V k ∧ Hid (vb v = pre ++ vbF (9 - k) V) ∧ Hid (pre.length = k) ∧ Hid (Ow wr w.heap.size 5 A pre.length c (pre.map bv)) ∧ Hid (Below w.heap.size w wr)) (fun x _ _ => (intOf x).toNat)
  case atStart => exact ⟨0, v, [], none, 0, by omega, rfl, rfl, hv, hide rfl, hide rfl, hide (Ow.nil _ _ _), hide (Below.refl _ _)⟩
  case round =>
    obtain ⟨k, V, pre, A, c, hk, rfl, rfl, hV, hpre, hpl, ho, hb⟩ := hrel
    have hpl10 : pre.length ≤ 9 := by have := hpl.out; omega
    by_cases hlt : V < 128
    · have hq : (V : Int).tdiv 128 = 0 := by rw [Int.tdiv_eq_ediv_of_nonneg (by omega)]; omega
      have hq2 : (V : Int) / 128 = 0 := by omega
      have hqn : V / 128 = 0 := by omega
      have hVI : (V : Int) ≤ 127 := by omega
      have hVm : (V : Int) % 256 = V := by omega
      have he : Hid (vb v = pre ++ [UInt8.ofNat V]) := hide (by
        rw [hpre.out]
        cases h9 : 9 - k with
        | zero => rfl
        | succ f => rw [vbF, if_pos hlt])
      have hlen : Hid ((vb v).length = pre.length + 1) := hide (by rw [he.out, List.length_append]; rfl)
      have hbv : Hid (bv (UInt8.ofNat V) = .int .u8 (V : Int)) := hide (by rw [bv, UInt8.toNat_ofNat', Nat.mod_eq_of_lt (by omega)])
      clear hlt hk
      go_wp2_with (at_builtin; refine wpList_append_one wr rfl (.tmp 16) (.tmp 19) rfl elem_byte rfl ho.out (.int .u8 (V : Int)) 5 _ rfl rfl (by simp only [maxLen]; omega) (by omega) hb.out.size ?_; intro A3 c3 w3 ho3 hg3 hn3; have hb3 := hide (hb.out.trans (hg3.to_below (B := w.heap.size) hb.out.size (fun i hi => (ho.out.blk_lt i hi).1))); have ho3 := hide ho3; clear hg3 hn3)
      go_ret
      exact ⟨A3, c3, by rw [hlen.out]; rfl, by rw [hlen.out, he.out, List.map_append, List.map_singleton, hbv.out]; exact ho3.out, hb3.out⟩
    · have hk9 : k < 9 := by
        rcases Nat.lt_or_ge k 9 with h | h
        · exact h
        · obtain rfl : k = 9 := by omega
          have := hV.h
          omega
      have hVI : (128 : Int) ≤ V := by omega
      have he : Hid (vb v = (pre ++ [UInt8.ofNat (V % 128 + 128)]) ++ vbF (9 - (k + 1)) (V / 128)) := hide (by
        rw [hpre.out, show 9 - k = 9 - (k + 1) + 1 from by omega, vbF, if_neg hlt, List.append_assoc]
        rfl)
      have hV2 : Sm (V / 128) (k + 1) := ⟨by rw [Nat.pow_succ, ← Nat.div_div_eq_div_mul]; exact Nat.div_le_div_right hV.h⟩
      have hV64 : V ≤ 18446744073709551615 := Nat.le_trans hV.h (Nat.div_le_self _ _)
      obtain ⟨Q, hQ⟩ : ∃ Q, V / 128 = Q := ⟨_, rfl⟩
      obtain ⟨X, hX⟩ : ∃ X, V % 128 + 128 = X := ⟨_, rfl⟩
      have hq : (V : Int).tdiv 128 = (Q : Int) := by rw [Int.tdiv_eq_ediv_of_nonneg (by omega)]; omega
      have hqI : (1 : Int) ≤ Q := by omega
      have hqw : IntKind.u64.wrap (Q : Int) = (Q : Int) := by rw [IntKind.wrap_u64]; omega
      obtain ⟨R, hR⟩ : ∃ R, V % 128 = R := ⟨_, rfl⟩
      have hr : (V : Int).tmod 128 = (R : Int) := by rw [Int.tmod_eq_emod_of_nonneg (by omega)]; omega
      have hqe : (V : Int) / 128 = (Q : Int) := by omega
      have hre : (R : Int) + 128 = (X : Int) := by omega
      have hrm : (V : Int) % 128 = (R : Int) := by omega
      clear hR
      have hxm : (X : Int) % 256 = X := by omega
      have hxI : (X : Int) ≤ 255 := by omega
      rw [hQ] at he hV2
      rw [hX] at he
      have hbv : Hid (bv (UInt8.ofNat X) = .int .u8 (X : Int)) := hide (by rw [bv, UInt8.toNat_ofNat', Nat.mod_eq_of_lt (by omega)])
      have hm : Hid (Q < V) := hide (by omega)
      clear hlt hX hQ hV64
      go_wp2_with (at_builtin; refine wpList_append_one wr rfl (.tmp 7) (.tmp 12) rfl elem_byte rfl ho.out (.int .u8 (X : Int)) 5 _ rfl rfl (by simp only [maxLen]; omega) (by omega) hb.out.size ?_; intro A3 c3 w3 ho3 hg3 hn3; have hb3 := hide (hb.out.trans (hg3.to_below (B := w.heap.size) hb.out.size (fun i hi => (ho.out.blk_lt i hi).1))); have ho3 := hide ho3; clear hg3 hn3)
      go_roundw
      case rel => exact ⟨k + 1, Q, pre ++ [UInt8.ofNat X], A3, c3, by omega, rfl, by rw [List.length_append]; rfl, hV2, he, hide (by rw [List.length_append, hpl.out]; rfl), hide (by rw [List.map_append, List.map_singleton, hbv.out, List.length_append]; exact ho3.out), hb3⟩
      case measure => simp [intOf] <;> (have := hm.out; omega)

/-! ### Four slices of bytes of the call's own, apart from each other -/
def Ap (A A' : Option Addr) : Prop := ∀ g, blk A = some g → blk A' ≠ some g
theorem Ap.symm {A A' : Option Addr} (h : Ap A A') : Ap A' A := fun g hg h2 => h g h2 hg
theorem Ap.step {w : World} {B n c : Nat} {e : TypeId} {A A1 A' : Option Addr} {xs : List Value} (h : Ap A A') (ho : Ow w B e A' n c xs) (hd : blk A1 = blk A ∨ blk A1 = some w.heap.size) : Ap A1 A' := by
  intro g hg hg'
  rcases hd with hd | hd
  · exact h g (hd ▸ hg) hg'
  · have h1 := (ho.blk_lt g hg').2
    rw [hd] at hg
    injection hg with hg
    omega
structure Fs (w : World) (B : Nat) (A1 : Option Addr) (c1 : Nat) (b1 : List UInt8) (A2 : Option Addr) (c2 : Nat) (b2 : List UInt8) (A3 : Option Addr) (c3 : Nat) (b3 : List UInt8) (A4 : Option Addr) (c4 : Nat) (b4 : List UInt8) : Prop where
  o1 : Ow w B 5 A1 b1.length c1 (b1.map bv)
  o2 : Ow w B 5 A2 b2.length c2 (b2.map bv)
  o3 : Ow w B 5 A3 b3.length c3 (b3.map bv)
  o4 : Ow w B 5 A4 b4.length c4 (b4.map bv)
  a12 : Ap A1 A2
  a13 : Ap A1 A3
  a14 : Ap A1 A4
  a23 : Ap A2 A3
  a24 : Ap A2 A4
  a34 : Ap A3 A4
  hB : B ≤ w.heap.size
section
variable {w w' : World} {B c1 c2 c3 c4 : Nat} {A1 A2 A3 A4 : Option Addr} {b1 b2 b3 b4 : List UInt8}
theorem Fs.rot (h : Fs w B A1 c1 b1 A2 c2 b2 A3 c3 b3 A4 c4 b4) : Fs w B A2 c2 b2 A3 c3 b3 A4 c4 b4 A1 c1 b1 :=
  ⟨h.o2, h.o3, h.o4, h.o1, h.a23, h.a24, h.a12.symm, h.a34, h.a13.symm, h.a14.symm, h.hB⟩
theorem Fs.below (h : Fs w B A1 c1 b1 A2 c2 b2 A3 c3 b3 A4 c4 b4) (hb : Below w.heap.size w w') : Fs w' B A1 c1 b1 A2 c2 b2 A3 c3 b3 A4 c4 b4 :=
  ⟨h.o1.below hb, h.o2.below hb, h.o3.below hb, h.o4.below hb, h.a12, h.a13, h.a14, h.a23, h.a24, h.a34, Nat.le_trans h.hB hb.size⟩
theorem Fs.p1 (h : Fs w B A1 c1 b1 A2 c2 b2 A3 c3 b3 A4 c4 b4) {A : Option Addr} {c : Nat} {n : List UInt8} (ho : Ow w' B 5 A (b1.length + n.length) c (b1.map bv ++ n.map bv)) (hc : Chg (fun k => blk A1 = some k) w w') (hd : blk A = blk A1 ∨ blk A = some w.heap.size) :
    Fs w' B A c (b1 ++ n) A2 c2 b2 A3 c3 b3 A4 c4 b4 :=
  ⟨by rw [List.length_append, List.map_append]; exact ho, h.o2.chg hc (fun g hg h1 => h.a12 g h1 hg), h.o3.chg hc (fun g hg h1 => h.a13 g h1 hg), h.o4.chg hc (fun g hg h1 => h.a14 g h1 hg), h.a12.step h.o2 hd, h.a13.step h.o3 hd, h.a14.step h.o4 hd, h.a23, h.a24, h.a34, Nat.le_trans h.hB hc.size⟩
theorem Fs.p2 (h : Fs w B A1 c1 b1 A2 c2 b2 A3 c3 b3 A4 c4 b4) {A : Option Addr} {c : Nat} {n : List UInt8} (ho : Ow w' B 5 A (b2.length + n.length) c (b2.map bv ++ n.map bv)) (hc : Chg (fun k => blk A2 = some k) w w') (hd : blk A = blk A2 ∨ blk A = some w.heap.size) :
    Fs w' B A1 c1 b1 A c (b2 ++ n) A3 c3 b3 A4 c4 b4 := (h.rot.p1 ho hc hd).rot.rot.rot
theorem Fs.p3 (h : Fs w B A1 c1 b1 A2 c2 b2 A3 c3 b3 A4 c4 b4) {A : Option Addr} {c : Nat} {n : List UInt8} (ho : Ow w' B 5 A (b3.length + n.length) c (b3.map bv ++ n.map bv)) (hc : Chg (fun k => blk A3 = some k) w w') (hd : blk A = blk A3 ∨ blk A = some w.heap.size) :
    Fs w' B A1 c1 b1 A2 c2 b2 A c (b3 ++ n) A4 c4 b4 := (h.rot.rot.p1 ho hc hd).rot.rot
theorem Fs.p4 (h : Fs w B A1 c1 b1 A2 c2 b2 A3 c3 b3 A4 c4 b4) {A : Option Addr} {c : Nat} {n : List UInt8} (ho : Ow w' B 5 A (b4.length + n.length) c (b4.map bv ++ n.map bv)) (hc : Chg (fun k => blk A4 = some k) w w') (hd : blk A = blk A4 ∨ blk A = some w.heap.size) :
    Fs w' B A1 c1 b1 A2 c2 b2 A3 c3 b3 A c (b4 ++ n) := (h.rot.rot.rot.p1 ho hc hd).rot
/-- .. and a fifth. -/
structure F5 (w : World) (B : Nat) (A1 : Option Addr) (c1 : Nat) (b1 : List UInt8) (A2 : Option Addr) (c2 : Nat) (b2 : List UInt8) (A3 : Option Addr) (c3 : Nat) (b3 : List UInt8) (A4 : Option Addr) (c4 : Nat) (b4 : List UInt8) (A5 : Option Addr) (c5 : Nat) (b5 : List UInt8) : Prop where
  f : Fs w B A1 c1 b1 A2 c2 b2 A3 c3 b3 A4 c4 b4
  o5 : Ow w B 5 A5 b5.length c5 (b5.map bv)
  a1 : Ap A5 A1
  a2 : Ap A5 A2
  a3 : Ap A5 A3
  a4 : Ap A5 A4
theorem F5.new (h : Fs w B A1 c1 b1 A2 c2 b2 A3 c3 b3 A4 c4 b4) (hb : Below w.heap.size w w') {A5 : Option Addr} {c5 : Nat} {b5 : List UInt8} (ho : Ow w' w.heap.size 5 A5 b5.length c5 (b5.map bv)) : F5 w' B A1 c1 b1 A2 c2 b2 A3 c3 b3 A4 c4 b4 A5 c5 b5 :=
  ⟨h.below hb, ho.base_le (fun g hg => Nat.le_trans h.hB (ho.blk_lt g hg).1), fun g hg h1 => by have := (ho.blk_lt g hg).1; have := (h.o1.blk_lt g h1).2; omega, fun g hg h1 => by have := (ho.blk_lt g hg).1; have := (h.o2.blk_lt g h1).2; omega, fun g hg h1 => by have := (ho.blk_lt g hg).1; have := (h.o3.blk_lt g h1).2; omega, fun g hg h1 => by have := (ho.blk_lt g hg).1; have := (h.o4.blk_lt g h1).2; omega⟩
theorem F5.push {A5 A : Option Addr} {c5 c : Nat} {b5 n : List UInt8} (h : F5 w B A1 c1 b1 A2 c2 b2 A3 c3 b3 A4 c4 b4 A5 c5 b5) (ho : Ow w' B 5 A (b5.length + n.length) c (b5.map bv ++ n.map bv)) (hc : Chg (fun k => blk A5 = some k) w w') (hd : blk A = blk A5 ∨ blk A = some w.heap.size) : F5 w' B A1 c1 b1 A2 c2 b2 A3 c3 b3 A4 c4 b4 A c (b5 ++ n) :=
  ⟨⟨h.f.o1.chg hc (fun g hg h1 => h.a1 g h1 hg), h.f.o2.chg hc (fun g hg h1 => h.a2 g h1 hg), h.f.o3.chg hc (fun g hg h1 => h.a3 g h1 hg), h.f.o4.chg hc (fun g hg h1 => h.a4 g h1 hg), h.f.a12, h.f.a13, h.f.a14, h.f.a23, h.f.a24, h.f.a34, Nat.le_trans h.f.hB hc.size⟩,
    by rw [List.length_append, List.map_append]; exact ho, h.a1.step h.f.o1 hd, h.a2.step h.f.o2 hd, h.a3.step h.f.o3 hd, h.a4.step h.f.o4 hd⟩
/-- The four, made empty. -/
theorem Fs.new (w : World) (B : Nat) (hB : B ≤ w.heap.size) : Fs ((((w.alloc (.cells #[] 5)).alloc (.cells #[] 5)).alloc (.cells #[] 5)).alloc (.cells #[] 5)) B (some ⟨w.heap.size, 0, none⟩) 0 [] (some ⟨w.heap.size + 1, 0, none⟩) 0 [] (some ⟨w.heap.size + 1 + 1, 0, none⟩) 0 [] (some ⟨w.heap.size + 1 + 1 + 1, 0, none⟩) 0 [] := by
  have h1 := Ow.lit (base := B) (e := 5) w #[] hB (by simp)
  have h2 := Ow.lit (base := B) (e := 5) (w.alloc (.cells #[] 5)) #[] (by simp; omega) (by simp)
  have h3 := Ow.lit (base := B) (e := 5) ((w.alloc (.cells #[] 5)).alloc (.cells #[] 5)) #[] (by simp; omega) (by simp)
  have h4 := Ow.lit (base := B) (e := 5) (((w.alloc (.cells #[] 5)).alloc (.cells #[] 5)).alloc (.cells #[] 5)) #[] (by simp; omega) (by simp)
  have hs1 : (w.alloc (.cells #[] 5)).heap.size = w.heap.size + 1 := by simp
  have hs2 : ((w.alloc (.cells #[] 5)).alloc (.cells #[] 5)).heap.size = w.heap.size + 1 + 1 := by simp
  have hs3 : (((w.alloc (.cells #[] 5)).alloc (.cells #[] 5)).alloc (.cells #[] 5)).heap.size = w.heap.size + 1 + 1 + 1 := by simp
  rw [hs1] at h2
  rw [hs2] at h3
  rw [hs3] at h4
  exact ⟨((h1.alloc _).alloc _).alloc _, (h2.alloc _).alloc _, h3.alloc _, h4, by intro g; simp [blk]; omega, by intro g; simp [blk]; omega, by intro g; simp [blk]; omega, by intro g; simp [blk]; omega, by intro g; simp [blk]; omega, by intro g; simp [blk]; omega, by simp; omega⟩
end

/-- The document's Put. -/
theorem len3 (a b : List UInt8) (x : Nat) (ha : a.length ≤ 10 * x) (hb : b.length ≤ 10) : a.length + b.length ≤ 10 * x + 10 := by omega

set_option maxRecDepth 100000 in
set_option maxHeartbeats 4000000 in
theorem rput_ok (A : Option Addr) (c : Nat) (es : List Ent) (w : World) (B : Nat) (hr : RdE w B A es) (hB : B ≤ w.heap.size) (hn : es.length ≤ 200) (hR : RightE es) :
    Calls Try.prog 26 #[.slice A es.length c] w fun e w' => ∃ A' c', e = .returned (.slice A' (putB es).length c') ∧ Ow w' w.heap.size 5 A' (putB es).length c' ((putB es).map bv) ∧ Below w.heap.size w w' := by
  have hby := hide (fun (v : Nat) W (h : Sm v 0) => rbytes_any v W h)
  have hvl := hide (fun v => vb_len v)
  have hpl := hide (fun f k => partB_len f k)
  have hN := hide (fun W => rbytes_any es.length W (Sm.of (by omega)))
  obtain ⟨G, hG⟩ : ∃ G, w.heap.size = G := ⟨_, rfl⟩
  rw [hG] at hB ⊢
  have hnew := hide (Fs.new w G (by omega))
  have hrW := hide (fun W (h : Below G w W) => (hr.below (h.mono hB)))
  obtain ⟨n, hl⟩ : ∃ n, es.length = n := ⟨_, rfl⟩
  have hpB : Hid (putB es = vb n ++ partB (fId es) n ++ partB (fRun es) n ++ partB (fLen es) n ++ partB (fOff es) n) := hide (by rw [putB, hl])
  rw [hl] at hN ⊢
  have hnI : (n : Int) ≤ 200 := by omega
  have hn200 := hide (show n ≤ 200 by omega)
  replace hR := hide hR
  have hb0 := hide (((((Below.refl G w).alloc (by omega) (.cells #[] 5)).alloc (by simp; omega) (.cells #[] 5)).alloc (by simp; omega) (.cells #[] 5)).alloc (by simp; omega) (.cells #[] 5))
  replace hG := hide hG
  clear hr hn
  go_enter Try.func26, Try.ntmps26
  go_wp2
  go_loopw [3, 4, 5, 6, 7] (fun s1 s2 s3 s4 i wr => ∃ k : Nat, ∃ A1 c1 A2 c2 A3 c3 A4 c4, k ≤ n ∧ i = .int .i64 k ∧ s1 = .slice A1 (partB (fId es) k).length c1 ∧ s2 = .slice A2 (partB (fRun es) k).length c2 ∧ s3 = .slice A3 (partB (fLen es) k).length c3 ∧ s4 = .slice A4 (partB (fOff es) k).length c4 ∧ Hid (Fs wr G A1 c1 (partB (fId es) k) A2 c2 (partB (fRun es) k) A3 c3 (partB (fLen es) k) A4 c4 (partB (fOff es) k)) ∧ Hid (Below G w wr)) (fun _ _ _ _ i _ => n - (intOf i).toNat)
  case atStart => exact ⟨0, _, _, _, _, _, _, _, _, by omega, rfl, rfl, rfl, rfl, rfl, hnew, hb0⟩
  case round =>
    obtain ⟨k, A1, c1, A2, c2, A3, c3, A4, c4, hk, rfl, rfl, rfl, rfl, rfl, hF, hb⟩ := hrel
    by_cases hlt : k < n
    · have hkl : k < es.length := by omega
      have hkI : (k : Int) < n := by omega
      obtain ⟨b, o, rfl, hbB, e0, e1, e2, e3⟩ := (hrW.out wr hb.out) k hkl
      have hok := hR.out.2.2.1 k hkl
      have hprev : prevId es k ≤ es[k].id := by
        unfold prevId
        split
        · exact Nat.zero_le _
        · have h8 := hR.out.2.2.2 (k - 1) (by omega)
          have h9 : es[k - 1 + 1] = es[k] := by congr 1; omega
          rw [h9] at h8
          rw [ent_at es (k - 1) (by omega)]
          unfold Ent.next at h8
          omega
      have hf1 : fId es k = es[k].id - prevId es k := by rw [fId, ent_at es k hkl]
      have hf2 : fRun es k = es[k].run := by rw [fRun, ent_at es k hkl]
      have hf3 : fLen es k = es[k].len := by rw [fLen, ent_at es k hkl]
      have hf4 : fOff es k = if 0 < k ∧ es[k].off = (ent es (k - 1)).off + (ent es (k - 1)).len then 0 else es[k].off + 1 := by rw [fOff, ent_at es k hkl]
      have hps1 := hide (partB_succ (fId es) k)
      have hps2 := hide (partB_succ (fRun es) k)
      have hps3 := hide (partB_succ (fLen es) k)
      have hps4 := hide (partB_succ (fOff es) k)
      have hl1 := hide (show (partB (fId es) k).length + (vb (fId es k)).length ≤ 2010 by have := hpl.out (fId es) k; have := hvl.out (fId es k); have := hn200.out; omega)
      have hl2 := hide (show (partB (fRun es) k).length + (vb (fRun es k)).length ≤ 2010 by have := hpl.out (fRun es) k; have := hvl.out (fRun es k); have := hn200.out; omega)
      have hl3 := hide (show (partB (fLen es) k).length + (vb (fLen es k)).length ≤ 2010 by have := hpl.out (fLen es) k; have := hvl.out (fLen es k); have := hn200.out; omega)
      have hl4 := hide (show (partB (fOff es) k).length + (vb (fOff es k)).length ≤ 2010 by have := hpl.out (fOff es) k; have := hvl.out (fOff es k); have := hn200.out; omega)
      have hpr : Hid (∀ q (hq : k = q + 1), (es[q]'(by omega)).ok) := hide (fun q hq => hR.out.2.2.1 q (by omega))
      obtain ⟨xe, hxe⟩ : ∃ xe, es[k] = xe := ⟨_, rfl⟩
      rw [hxe] at e0 e1 e2 e3 hok hf1 hf2 hf3 hf4 hprev
      obtain ⟨xi, xo, xl, xr⟩ := xe
      simp only [Ent.ok] at e0 e1 e2 e3 hok hf1 hf2 hf3 hf4 hprev
      rw [hf2] at hps2 hl2
      rw [hf3] at hps3 hl3
      obtain ⟨V1, hV1⟩ : ∃ v, fId es k = v := ⟨_, rfl⟩
      obtain ⟨V4, hV4⟩ : ∃ v, fOff es k = v := ⟨_, rfl⟩
      rw [hV1] at hf1 hps1 hl1
      rw [hV4] at hf4 hps4 hl4
      have hx1 : xo + 1 ≤ 4194305 := by omega
      have hxw : IntKind.u64.wrap ((xo : Int) + 1) = ((xo + 1 : Nat) : Int) := by rw [IntKind.wrap_u64]; omega
      have hxm : ((xo : Int) + 1) % 18446744073709551616 = ((xo + 1 : Nat) : Int) := by omega
      have hc1 := hide (fun W => hby.out V1 W (Sm.of (by omega)))
      have hc2 := hide (fun W => hby.out xr W (Sm.of (by omega)))
      have hc3 := hide (fun W => hby.out xl W (Sm.of (by omega)))
      have hc4 := hide (fun W => hby.out V4 W (Sm.of (by split at hf4 <;> omega)))
      replace hxe := hide hxe
      replace hok := hide hok
      replace hprev := hide hprev
      replace hf1 := hide hf1
      replace hf4 := hide hf4
      clear hV1 hV4 hf2 hf3 hx1
      generalize hpe1 : partB (fId es) k = P1 at *
      generalize hpe2 : partB (fRun es) k = P2 at *
      generalize hpe3 : partB (fLen es) k = P3 at *
      generalize hpe4 : partB (fOff es) k = P4 at *
      clear hpe1 hpe2 hpe3 hpe4
      go_upto_region 5 with fail
      go_quiet (fail)
      iterate 3 go_step

      go_cut [8, 9] from 20 to 83 (fun s8 s9 wx => s8 = .int .u64 (V1 : Int) ∧ s9 = .int .u64 (V4 : Int) ∧ ∃ m, wx = wr.drewN m)
      case first =>
        rcases Nat.eq_zero_or_pos k with hk0 | hkp
        · subst hk0
          have h1 := hf1.out
          have h4 := hf4.out
          rw [if_neg (by omega)] at h4
          simp only [prevId, if_true, Nat.sub_zero] at h1
          go_wp2
          go_meet
          exact ⟨by rw [h1], int_eq (by omega), ⟨_, rfl⟩⟩
        · obtain ⟨q, rfl⟩ : ∃ q, k = q + 1 := ⟨k - 1, by omega⟩
          have hql : q < es.length := by omega
          obtain ⟨b2, o2, hA2, _, p0, p1, p2, _⟩ := (hrW.out _ hb.out) q hql
          injection hA2 with hA2
          injection hA2 with ee1 ee2
          subst ee1 ee2
          have hpo := hpr.out q rfl
          have hp9 := hprev.out
          have hf1 := hf1.out
          have hf4 := hf4.out
          have hok := hok.out
          rw [Nat.add_sub_cancel, ent_at es q hql] at hf4
          rw [prevId, if_neg (by omega), Nat.add_sub_cancel, ent_at es q hql] at hf1 hp9
          generalize es[q] = pe at *
          obtain ⟨pi, po, pl, prn⟩ := pe
          simp only [Ent.ok] at hpo hf4 hf1 hp9 p0 p1 p2
          obtain ⟨S, hS⟩ : ∃ S, po + pl = S := ⟨_, rfl⟩
          have hSI : ((po : Int) + (pl : Int)) % 18446744073709551616 = (S : Int) := by omega
          have hSW : IntKind.u64.wrap ((po : Int) + (pl : Int)) = (S : Int) := by rw [IntKind.wrap_u64]; omega
          have hvI : ((xi : Int) - (pi : Int)) % 18446744073709551616 = (V1 : Int) := by omega
          have hvW : IntKind.u64.wrap ((xi : Int) - (pi : Int)) = (V1 : Int) := by rw [IntKind.wrap_u64]; omega
          have hqI : (q : Int) < (n : Int) := by omega
          have hqI0 : (0 : Int) ≤ (q : Int) := by omega
          have hwq : IntKind.i64.wrap (q : Int) = (q : Int) := by rw [IntKind.wrap_i64]; omega
          rw [hS] at hf4
          by_cases heq : xo = S
          · rw [if_pos ⟨by omega, heq⟩] at hf4
            have he1 : ((xo : Int) == (S : Int)) = true := by simp; omega
            have he2 : (xo == S) = true := by simp; omega
            clear hpo hok hp9 hS heq
            go_upto_region 8 with fail
            go_quiet (fail)
            go_wp2
            go_meet
            exact ⟨by rw [hf1], by rw [hf4]; rfl, ⟨_, rfl⟩⟩
          · rw [if_neg (fun h => heq h.2)] at hf4
            have he1 : ((xo : Int) == (S : Int)) = false := by simp; omega
            have he2 : (xo == S) = false := by simp; omega
            clear hpo hok hp9 hS heq
            go_upto_region 8 with fail
            go_quiet (fail)
            go_wp2
            go_meet
            exact ⟨by rw [hf1], int_eq (by omega), ⟨_, rfl⟩⟩
      case rest =>
        obtain ⟨rfl, rfl, md, rfl⟩ := hcut
        replace hF := hide (show Fs (wr.drewN md) G A1 c1 P1 A2 c2 P2 A3 c3 P3 A4 c4 P4 from hF.out.below (below_drewN (Below.refl _ _) _))
        replace hb := hide (below_drewN hb.out md)
        generalize wr.drewN md = W0 at *
        have hxe := hxe.out
        clear e0 e1 e2 e3 hok hprev hf1 hf4 hpr hxw hxm
        have hF0 := hide hF.out.hB
        go_upto_region 11 with (first
          | (go_at_call 46; (with_reducible refine (hc1.out _).mono ?_); rintro e v1 ⟨A9, c9, rfl, ho9, hb9⟩; have ho9 := hide ho9.rd; have hF := hide (hF.out.below hb9); have hb := hide (hb.out.trans (hb9.mono hF0.out)); clear hb9)
          | (at_builtin; refine wpList_append_rd v1 rfl (.tmp 60) (.tmp 62) rfl elem_byte rfl hF.out.o1 rfl ho9.out (bv_one _) (by have := hl1.out; simp only [maxLen]; omega) (by have := hl1.out; omega) hF.out.hB ?_; intro A1n c1n y1 ho hg hd; have hb := hide (hb.out.trans (hg.to_below (B := G) hF.out.hB (fun i hi => (hF.out.o1.blk_lt i hi).1))); have hF := hide (hF.out.p1 ho hg hd); clear ho hg hd ho9 hF0))
        obtain ⟨_, _, hAA, _, e0, e1, e2, e3⟩ := (hrW.out _ hb.out) k hkl
        cases hAA
        rw [hxe] at e0 e1 e2 e3
        simp only at e0 e1 e2 e3
        have hF0 := hide hF.out.hB
        go_upto_region 12 with (first
          | (go_at_call 46; (with_reducible refine (hc2.out _).mono ?_); rintro e v2 ⟨A9, c9, rfl, ho9, hb9⟩; have ho9 := hide ho9.rd; have hF := hide (hF.out.below hb9); have hb := hide (hb.out.trans (hb9.mono hF0.out)); clear hb9)
          | (at_builtin; refine wpList_append_rd v2 rfl (.tmp 64) (.tmp 70) rfl elem_byte rfl hF.out.o2 rfl ho9.out (bv_one _) (by have := hl2.out; simp only [maxLen]; omega) (by have := hl2.out; omega) hF.out.hB ?_; intro A2n c2n y2 ho hg hd; have hb := hide (hb.out.trans (hg.to_below (B := G) hF.out.hB (fun i hi => (hF.out.o2.blk_lt i hi).1))); have hF := hide (hF.out.p2 ho hg hd); clear ho hg hd ho9 hF0))
        obtain ⟨_, _, hAA, _, e0, e1, e2, e3⟩ := (hrW.out _ hb.out) k hkl
        cases hAA
        rw [hxe] at e0 e1 e2 e3
        simp only at e0 e1 e2 e3
        have hF0 := hide hF.out.hB
        go_upto_region 13 with (first
          | (go_at_call 46; (with_reducible refine (hc3.out _).mono ?_); rintro e v3 ⟨A9, c9, rfl, ho9, hb9⟩; have ho9 := hide ho9.rd; have hF := hide (hF.out.below hb9); have hb := hide (hb.out.trans (hb9.mono hF0.out)); clear hb9)
          | (at_builtin; refine wpList_append_rd v3 rfl (.tmp 72) (.tmp 78) rfl elem_byte rfl hF.out.o3 rfl ho9.out (bv_one _) (by have := hl3.out; simp only [maxLen]; omega) (by have := hl3.out; omega) hF.out.hB ?_; intro A3n c3n y3 ho hg hd; have hb := hide (hb.out.trans (hg.to_below (B := G) hF.out.hB (fun i hi => (hF.out.o3.blk_lt i hi).1))); have hF := hide (hF.out.p3 ho hg hd); clear ho hg hd ho9 hF0))
        have hF0 := hide hF.out.hB
        go_upto_region 4 with (first
          | (go_at_call 46; (with_reducible refine (hc4.out _).mono ?_); rintro e v4 ⟨A9, c9, rfl, ho9, hb9⟩; have ho9 := hide ho9.rd; have hF := hide (hF.out.below hb9); have hb := hide (hb.out.trans (hb9.mono hF0.out)); clear hb9)
          | (at_builtin; refine wpList_append_rd v4 rfl (.tmp 80) (.tmp 82) rfl elem_byte rfl hF.out.o4 rfl ho9.out (bv_one _) (by have := hl4.out; simp only [maxLen]; omega) (by have := hl4.out; omega) hF.out.hB ?_; intro A4n c4n y4 ho hg hd; have hb := hide (hb.out.trans (hg.to_below (B := G) hF.out.hB (fun i hi => (hF.out.o4.blk_lt i hi).1))); have hF := hide (hF.out.p4 ho hg hd); clear ho hg hd ho9 hF0))
        go_wp2
        go_roundw
        case rel => exact ⟨k + 1, A1n, c1n, A2n, c2n, A3n, c3n, A4n, c4n, by omega, by go_num, by rw [hps1.out, List.length_append], by rw [hps2.out, List.length_append], by rw [hps3.out, List.length_append], by rw [hps4.out, List.length_append], by rw [hps1.out, hps2.out, hps3.out, hps4.out]; exact hF, hb⟩
        case measure => simp [intOf] <;> omega
    · obtain rfl : k = n := by omega
      have hvn := hide (hvl.out k)
      have hp1 := hide (hpl.out (fId es) k)
      have hp2 := hide (hpl.out (fRun es) k)
      have hp3 := hide (hpl.out (fLen es) k)
      have hp4 := hide (hpl.out (fOff es) k)
      generalize partB (fId es) k = P1 at *
      generalize partB (fRun es) k = P2 at *
      generalize partB (fLen es) k = P3 at *
      generalize partB (fOff es) k = P4 at *
      generalize vb k = P0 at *
      have hq1 := hide (show P0.length + P1.length ≤ 9000 by have := hvn.out; have := hp1.out; have := hn200.out; omega)
      have hq2 := hide (show P0.length + P1.length + P2.length ≤ 9000 by have := hvn.out; have := hp1.out; have := hp2.out; have := hn200.out; omega)
      have hq3 := hide (show P0.length + P1.length + P2.length + P3.length ≤ 9000 by have := hvn.out; have := hp1.out; have := hp2.out; have := hp3.out; have := hn200.out; omega)
      have hq4 := hide (show P0.length + P1.length + P2.length + P3.length + P4.length ≤ 9000 by have := hvn.out; have := hp1.out; have := hp2.out; have := hp3.out; have := hp4.out; have := hn200.out; omega)
      have hF0 := hide hF.out.hB
      clear hvn hp1 hp2 hp3 hp4 hpl hvl hby hrW hB
      go_wp2_with (first
        | (go_at_call 46; (with_reducible refine (hN.out _).mono ?_); rintro e w5 ⟨A9, c9, rfl, ho9, hb9⟩; have hX := hide (F5.new hF.out hb9 ho9); have hb := hide (hb.out.trans (hb9.mono hF0.out)); clear hb9 ho9 hF)
        | (at_builtin; refine wpList_append_rd w5 rfl (.tmp 87) (.tmp 88) rfl elem_byte rfl hX.out.o5 rfl hX.out.f.o1.rd (bv_one _) (by  have := hq1.out; simp only [maxLen]; omega) (by  have := hq1.out; omega) hX.out.f.hB ?_; intro A1n c1n z1 ho hg hd; have hb := hide (hb.out.trans (hg.to_below (B := G) hX.out.f.hB (fun i hi => (hX.out.o5.blk_lt i hi).1))); have hX := hX.out.push ho hg hd; clear ho hg hd; obtain ⟨Q1, hQ1⟩ : ∃ Q, P0 ++ P1 = Q := ⟨_, rfl⟩; rw [hQ1] at hX; replace hX := hide hX; have hL1 : P0.length + P1.length = Q1.length := (by rw [← hQ1, List.length_append]); rw [hL1]; replace hL1 := hide hL1; replace hQ1 := hide hQ1)
        | (at_builtin; refine wpList_append_rd z1 rfl (.tmp 89) (.tmp 90) rfl elem_byte rfl hX.out.o5 rfl hX.out.f.o2.rd (bv_one _) (by have := hL1.out; have := hq2.out; simp only [maxLen]; omega) (by have := hL1.out; have := hq2.out; omega) hX.out.f.hB ?_; intro A2n c2n z2 ho hg hd; have hb := hide (hb.out.trans (hg.to_below (B := G) hX.out.f.hB (fun i hi => (hX.out.o5.blk_lt i hi).1))); have hX := hX.out.push ho hg hd; clear ho hg hd; obtain ⟨Q2, hQ2⟩ : ∃ Q, Q1 ++ P2 = Q := ⟨_, rfl⟩; rw [hQ2] at hX; replace hX := hide hX; have hL2 : Q1.length + P2.length = Q2.length := (by rw [← hQ2, List.length_append]); rw [hL2]; replace hL2 := hide hL2; replace hQ2 := hide hQ2)
        | (at_builtin; refine wpList_append_rd z2 rfl (.tmp 91) (.tmp 92) rfl elem_byte rfl hX.out.o5 rfl hX.out.f.o3.rd (bv_one _) (by have := hL1.out; have := hL2.out; have := hq3.out; simp only [maxLen]; omega) (by have := hL1.out; have := hL2.out; have := hq3.out; omega) hX.out.f.hB ?_; intro A3n c3n z3 ho hg hd; have hb := hide (hb.out.trans (hg.to_below (B := G) hX.out.f.hB (fun i hi => (hX.out.o5.blk_lt i hi).1))); have hX := hX.out.push ho hg hd; clear ho hg hd; obtain ⟨Q3, hQ3⟩ : ∃ Q, Q2 ++ P3 = Q := ⟨_, rfl⟩; rw [hQ3] at hX; replace hX := hide hX; have hL3 : Q2.length + P3.length = Q3.length := (by rw [← hQ3, List.length_append]); rw [hL3]; replace hL3 := hide hL3; replace hQ3 := hide hQ3)
        | (at_builtin; refine wpList_append_rd z3 rfl (.tmp 93) (.tmp 94) rfl elem_byte rfl hX.out.o5 rfl hX.out.f.o4.rd (bv_one _) (by have := hL1.out; have := hL2.out; have := hL3.out; have := hq4.out; simp only [maxLen]; omega) (by have := hL1.out; have := hL2.out; have := hL3.out; have := hq4.out; omega) hX.out.f.hB ?_; intro A4n c4n z4 ho hg hd; have hb := hide (hb.out.trans (hg.to_below (B := G) hX.out.f.hB (fun i hi => (hX.out.o5.blk_lt i hi).1))); have hX := hX.out.push ho hg hd; clear ho hg hd; obtain ⟨Q4, hQ4⟩ : ∃ Q, Q3 ++ P4 = Q := ⟨_, rfl⟩; rw [hQ4] at hX; replace hX := hide hX; have hL4 : Q3.length + P4.length = Q4.length := (by rw [← hQ4, List.length_append]); rw [hL4]; replace hL4 := hide hL4; replace hQ4 := hide hQ4))
      go_ret
      rw [hQ1.out, hQ2.out, hQ3.out, hQ4.out] at hpB
      exact ⟨A4n, c4n, by rw [hpB.out]; rfl, by rw [hpB.out]; exact hX.out.o5, hb.out⟩

end Go.Proofs.Ytmpdoileiniijaa
