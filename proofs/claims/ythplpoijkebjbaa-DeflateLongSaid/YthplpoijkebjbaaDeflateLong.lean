/- The law DeflateLong: a walk. There is no condition. -/
import Derived.Test.YthplpoijkebjbaaDefLive
import Derived.Test.YthplpoijkebjbaaDefPack
namespace Go.Proofs.Ythplpoijkebjbaa
open Go.RowKit

theorem made_bytes (n : Nat) : (madeCells #[.int .u8 0] n).toList = (List.replicate n (0 : UInt8)).map bv := by
  apply List.ext_getElem
  · simp [size_madeCells]
  · intro i h1 h2
    simp [madeCells, Nat.mod_one, bv]
/-- What zeros give. -/
theorem outB_zeros (k : Nat) (h : k ≤ 65535) : Def.outB true (List.replicate k 0) = Def.hdY 1 k ++ List.replicate k 0 := by
  rw [outB_stored, List.length_replicate]
  cases k with
  | zero => rfl
  | succ k => rw [Def.stoY, List.length_replicate, if_pos h]
theorem outB_zeros2 (k : Nat) (h : 65535 < k) (h2 : k - 65535 ≤ 65535) : Def.outB true (List.replicate k 0) = Def.hdY 0 65535 ++ (List.replicate 65535 0 ++ (Def.hdY 1 (k - 65535) ++ List.replicate (k - 65535) 0)) := by
  rw [outB_stored, List.length_replicate]
  cases k with
  | zero => omega
  | succ k =>
    rw [Def.stoY, List.length_replicate, if_neg (by omega), List.take_replicate, List.drop_replicate, Nat.min_eq_left (by omega), List.append_assoc]
    congr 2
    cases k with
    | zero => omega
    | succ k => rw [Def.stoY, List.length_replicate, if_pos (by omega)]
/-- The law's makes. -/
theorem mk_zeros (n : Nat) (h : n ≤ 1048577) : ∃ mk : World → World, ∀ W, (Instr.makeSlice 22 (.int .i64 (n : Int)) (.int .i64 (n : Int))).run Try.prog W = .ok (.slice (some ⟨W.heap.size, 0, none⟩) n n) (mk W) ∧ Below W.heap.size W (mk W) ∧ (mk W).heap.size = W.heap.size + 1 ∧ Rd (mk W) (W.heap.size + 1) (some ⟨W.heap.size, 0, none⟩) n ((List.replicate n (0 : UInt8)).map bv) := by
  refine ⟨fun W => W.alloc (.cells (madeCells #[.int .u8 0] n) 5), fun W => ⟨run_make_row' 22 5 (.int .u8 0) 1 Try.underlying22 (by kernel_rfl) rfl .i64 .i64 n (by omega) (by omega) W, (Below.refl _ W).alloc (Nat.le_refl _) _, by simp, ?_⟩⟩
  have h := Rd.new W (madeCells #[.int .u8 0] n) 5 (0, 0)
  rw [made_bytes, size_madeCells] at h
  simpa using h

/-- Cells of bytes that are known by place. -/
theorem Ow.cells {w : World} {B n c : Nat} {A : Option Addr} {bs : List UInt8} (h : Ow w B 5 A n c (bs.map bv)) (hn : 1 ≤ n) : ∃ b o, A = some ⟨b, o, none⟩ ∧ b < w.heap.size ∧ ∀ j, j < n → ∀ x : UInt8, bs[j]? = some x → w.cell? ⟨b, o + j, none⟩ = some (.int .u8 (x.toNat : Int)) := by
  obtain ⟨b, o, rfl, hb, hc⟩ := h.rd.byte (j := 0) hn
  refine ⟨b, o, rfl, hb, fun j hj x hx => ?_⟩
  obtain ⟨b', o', he, _, hc'⟩ := h.rd.byte (j := j) hj
  injection he with he
  injection he with he1 he2
  subst he1 he2
  rw [hc']
  have hjl : j < bs.length := by rw [h.rd.len]; exact hj
  rw [List.getElem?_eq_getElem hjl] at hx
  injection hx with hx
  rw [hx]
theorem get_after (a r c d : List UInt8) (j : Nat) (h : j < c.length) : (a ++ (r ++ (c ++ d)))[a.length + r.length + j]? = c[j]? := by
  rw [List.getElem?_append_right (by omega), List.getElem?_append_right (by omega), List.getElem?_append_left (by omega)]
  congr 1
  omega
theorem ddata_zeros (k : Nat) (A : Option Addr) (w : World) (hr : Rd w w.heap.size A k ((List.replicate k (0 : UInt8)).map bv)) (h : k ≤ 65535) :
    Calls Try.prog 16 #[.slice A k k, .bool true] w fun e w' => ∃ b o c', e = .returned (.tuple #[.slice (some ⟨b, o, none⟩) (k + 5) c', .int .i64 0]) ∧ b < w'.heap.size ∧ w'.cell? ⟨b, o, none⟩ = some (.int .u8 1) ∧ w'.cell? ⟨b, o + 1, none⟩ = some (.int .u8 ((k % 256 : Nat) : Int)) ∧ w'.cell? ⟨b, o + 2, none⟩ = some (.int .u8 ((k / 256 : Nat) : Int)) ∧ Below w.heap.size w w' := by
  refine (ddata_any A k k (List.replicate k 0) true w hr (Nat.le_refl _) (by omega)).mono ?_
  rintro e w' ⟨A', c', rfl, ho, hb⟩
  rw [outB_zeros k h] at ho ⊢
  have hl : (Def.hdY 1 k ++ List.replicate k 0).length = k + 5 := by simp [Def.hdY]
  rw [hl] at ho ⊢
  obtain ⟨b, o, rfl, hbl, hc⟩ := Ow.cells ho (by omega)
  refine ⟨b, o, c', rfl, hbl, hc 0 (by omega) _ rfl, ?_, ?_, hb⟩
  · rw [hc 1 (by omega) _ rfl, UInt8.toNat_ofNat_of_lt' (by show _ < 256; omega)]
  · rw [hc 2 (by omega) _ rfl, UInt8.toNat_ofNat_of_lt' (by show _ < 256; omega)]
theorem ddata_zeros2 (M : Nat) (hM : M = 65535) (k : Nat) (A : Option Addr) (w : World) (hr : Rd w w.heap.size A k ((List.replicate k (0 : UInt8)).map bv)) (h : 65535 < k) (h2 : k ≤ 65600) :
    Calls Try.prog 16 #[.slice A k k, .bool true] w fun e w' => ∃ b o c', e = .returned (.tuple #[.slice (some ⟨b, o, none⟩) (k + 10) c', .int .i64 0]) ∧ b < w'.heap.size ∧ w'.cell? ⟨b, o, none⟩ = some (.int .u8 0) ∧ w'.cell? ⟨b, o + 1, none⟩ = some (.int .u8 255) ∧ w'.cell? ⟨b, o + 2, none⟩ = some (.int .u8 255) ∧ w'.cell? ⟨b, o + (M + 5), none⟩ = some (.int .u8 1) ∧ w'.cell? ⟨b, o + (M + 6), none⟩ = some (.int .u8 ((k - M : Nat) : Int)) ∧ Below w.heap.size w w' := by
  subst hM
  refine (ddata_any A k k (List.replicate k 0) true w hr (Nat.le_refl _) (by omega)).mono ?_
  rintro e w' ⟨A', c', rfl, ho, hb⟩
  rw [outB_zeros2 k h (by omega)] at ho ⊢
  have hl : (Def.hdY 0 65535 ++ (List.replicate 65535 0 ++ (Def.hdY 1 (k - 65535) ++ List.replicate (k - 65535) 0))).length = k + 10 := by simp only [Def.hdY, List.length_append, List.length_cons, List.length_nil, List.length_replicate]; omega
  rw [hl] at ho ⊢
  obtain ⟨b, o, rfl, hbl, hc⟩ := Ow.cells ho (by omega)
  have hg : ∀ j, j < 5 → (Def.hdY 0 65535 ++ (List.replicate 65535 0 ++ (Def.hdY 1 (k - 65535) ++ List.replicate (k - 65535) 0)))[65540 + j]? = (Def.hdY 1 (k - 65535))[j]? := by
    intro j hj
    have h := get_after (Def.hdY 0 65535) (List.replicate 65535 0) (Def.hdY 1 (k - 65535)) (List.replicate (k - 65535) 0) j hj
    rw [List.length_replicate, show (Def.hdY 0 65535).length = 5 from rfl] at h
    exact h
  refine ⟨b, o, c', rfl, hbl, hc 0 (by omega) _ rfl, hc 1 (by omega) _ rfl, hc 2 (by omega) _ rfl, ?_, ?_, hb⟩
  · rw [hc 65540 (by omega) _ (hg 0 (by omega))]
    rfl
  · rw [hc 65541 (by omega) _ (hg 1 (by omega)), UInt8.toNat_ofNat_of_lt' (by show _ < 256; omega), Nat.mod_eq_of_lt (by omega)]

set_option maxRecDepth 100000 in
set_option maxHeartbeats 4000000 in
theorem deflatelong_walk (n : Nat) (w : World) (hn : n ≤ 4294967295) :
    Calls Try.prog 5 #[.int .u32 (n : Int)] w fun e w' => e = .returned (.bool true) ∧ Below w.heap.size w w' := by
  have hlive := hide (fun W => d5live_any W)
  have hcode := hide (fun (v : Int) W => d5code_any v W)
  obtain ⟨r, hr⟩ : ∃ r, n % 20 = r := ⟨_, rfl⟩
  have hr20 : r ≤ 19 := by omega
  obtain ⟨k, hk⟩ : ∃ k, 65530 + r = k := ⟨_, rfl⟩
  have e1 : IntKind.i64.wrap (n : Int) = (n : Int) := by rw [IntKind.wrap_i64]; omega
  have e2 : Int.tmod (n : Int) 20 = (r : Int) := by rw [← hr]; rfl
  have e3 : IntKind.i64.wrap (65530 + (r : Int)) = (k : Int) := by rw [IntKind.wrap_i64]; omega
  obtain ⟨mk1, hmk1⟩ := mk_zeros k (by omega)
  obtain ⟨mk2, hmk2⟩ := mk_zeros 1048577 (by omega)
  have hm1 := fun W => (hmk1 W).1
  have hm2 : ∀ W : World, (Instr.makeSlice 22 (.int .i64 1048577) (.int .i64 1048577)).run Try.prog W = .ok (.slice (some ⟨W.heap.size, 0, none⟩) 1048577 1048577) (mk2 W) := fun W => (hmk2 W).1
  have hr1 : Rd (mk1 w) (mk1 w).heap.size (some ⟨w.heap.size, 0, none⟩) k ((List.replicate k (0 : UInt8)).map bv) := by rw [(hmk1 w).2.2.1]; exact (hmk1 w).2.2.2
  have hbm := hide (hmk1 w).2.1
  have hd2 := hide (fun (W : World) => ddata_long (some ⟨W.heap.size, 0, none⟩) 1048577 1048577 true (mk2 W) (by decide) (by decide))
  replace hmk1 := hide hmk1
  replace hmk2 := hide hmk2
  by_cases hk2 : k ≤ 65535
  · have hd1 := hide (ddata_zeros k _ (mk1 w) hr1 hk2)
    obtain ⟨X1, hX1⟩ : ∃ X, k % 256 = X := ⟨_, rfl⟩
    obtain ⟨X2, hX2⟩ : ∃ X, k / 256 = X := ⟨_, rfl⟩
    rw [hX1, hX2] at hd1
    have e5 : IntKind.u8.wrap (k : Int) = (X1 : Int) := by rw [IntKind.wrap_u8]; omega
    have e6 : IntKind.u8.wrap (X2 : Int) = (X2 : Int) := by rw [IntKind.wrap_u8]; omega
    have hmin : min (k : Int) 65535 = (k : Int) := by omega
    have e7 : (k : Int) / 256 = (X2 : Int) := by omega
    replace hr1 := hide hr1
    go_enter Try.func5, Try.ntmps5
    go_wp2_with (first
      | (go_at_call 16; (with_reducible refine (hd1.out).mono ?_); rintro e w1 ⟨b, o, c', rfl, hbl, g0, g1, g2, hb1⟩; have hb1 := hide hb1; have hd3 := hide (hd2.out w1); replace g0 : (mk2 w1).cell? ⟨b, o, none⟩ = some (.int .u8 1) := by {rw [(hmk2.out w1).2.1.cell (p := ⟨b, o, none⟩) hbl]; exact g0}; replace g1 : (mk2 w1).cell? ⟨b, o + 1, none⟩ = some (.int .u8 (X1 : Int)) := by {rw [(hmk2.out w1).2.1.cell (p := ⟨b, o + 1, none⟩) hbl]; exact g1}; replace g2 : (mk2 w1).cell? ⟨b, o + 2, none⟩ = some (.int .u8 (X2 : Int)) := by {rw [(hmk2.out w1).2.1.cell (p := ⟨b, o + 2, none⟩) hbl]; exact g2})
      | (go_at_call 16; (with_reducible refine (hd3.out).mono ?_); rintro e w2 ⟨rfl, rfl⟩)
      | (go_at_call 17; (with_reducible refine (hcode.out _ _).mono ?_); rintro e w3 ⟨rfl, rfl⟩)
      | (go_at_call 15; (with_reducible refine (hlive.out _).mono ?_); rintro e w5 ⟨rfl, hb5⟩; have hb5 := hide hb5))
    go_ret
    have b1 := hbm.out.trans (hb1.out.mono hbm.out.size)
    have b2 := b1.trans ((hmk2.out w1).2.1.mono b1.size)
    exact ⟨rfl, b2.trans (hb5.out.mono b2.size)⟩
  · have hkb : k ≤ 65600 := by omega
    have hkI : (65536 : Int) ≤ (k : Int) := by omega
    have hkI2 : (k : Int) ≤ 65600 := by omega
    obtain ⟨M, hM⟩ : ∃ M : Nat, M = 65535 := ⟨_, rfl⟩
    have hd1 := hide (ddata_zeros2 M hM k _ (mk1 w) hr1 (by omega) hkb)
    have hM1 : (M : Int) ≤ 65600 := by omega
    have hM2 : M ≤ 65600 := by omega
    obtain ⟨Z, hZ⟩ : ∃ Z, k - M = Z := ⟨_, rfl⟩
    rw [hZ] at hd1
    have e6 : (k : Int) - (M : Int) = (Z : Int) := by omega
    have e7 : IntKind.i64.wrap (Z : Int) = (Z : Int) := by rw [IntKind.wrap_i64]; omega
    have e8 : IntKind.u8.wrap (M : Int) = 255 := by rw [IntKind.wrap_u8]; omega
    have e9 : (M : Int) / 256 = 255 := by omega
    have e10 : IntKind.i64.wrap ((M : Int) + 5) = (M : Int) + 5 := by rw [IntKind.wrap_i64]; omega
    have e11 : IntKind.i64.wrap ((M : Int) + 6) = (M : Int) + 6 := by rw [IntKind.wrap_i64]; omega
    have hkM : M < k := by omega
    replace hr1 := hide hr1
    replace hM := hide hM
    clear hk2 hkb hZ hk
    go_enter Try.func5, Try.ntmps5
    go_upto_region 10 with (first
      | (go_at_call 16; (with_reducible refine (hd1.out).mono ?_); rintro e w1 ⟨b, o, c', rfl, hbl, g0, g1, g2, g3, g4, hb1⟩; have hb1 := hide hb1; have hd3 := hide (hd2.out w1); replace g0 : (mk2 w1).cell? ⟨b, o, none⟩ = some (.int .u8 0) := by {rw [(hmk2.out w1).2.1.cell (p := ⟨b, o, none⟩) hbl]; exact g0}; replace g1 : (mk2 w1).cell? ⟨b, o + 1, none⟩ = some (.int .u8 255) := by {rw [(hmk2.out w1).2.1.cell (p := ⟨b, o + 1, none⟩) hbl]; exact g1}; replace g2 : (mk2 w1).cell? ⟨b, o + 2, none⟩ = some (.int .u8 255) := by {rw [(hmk2.out w1).2.1.cell (p := ⟨b, o + 2, none⟩) hbl]; exact g2}; replace g3 : (mk2 w1).cell? ⟨b, o + (M + 5), none⟩ = some (.int .u8 1) := by {rw [(hmk2.out w1).2.1.cell (p := ⟨b, o + (M + 5), none⟩) hbl]; exact g3}; replace g4 : (mk2 w1).cell? ⟨b, o + (M + 6), none⟩ = some (.int .u8 (Z : Int)) := by {rw [(hmk2.out w1).2.1.cell (p := ⟨b, o + (M + 6), none⟩) hbl]; exact g4})
      | (go_at_call 16; (with_reducible refine (hd3.out).mono ?_); rintro e w2 ⟨rfl, rfl⟩)
      | (go_at_call 17; (with_reducible refine (hcode.out _ _).mono ?_); rintro e w3 ⟨rfl, rfl⟩)
      | (go_at_call 15; (with_reducible refine (hlive.out _).mono ?_); rintro e w5 ⟨rfl, hb5⟩; have hb5 := hide hb5))
    rw [show (65535 : Int) = (M : Int) from by have := hM.out; omega]
    go_wp2_with (go_at_call 15; (with_reducible refine (hlive.out _).mono ?_); rintro e w5 ⟨rfl, hb5⟩; have hb5 := hide hb5)
    go_ret
    have b1 := hbm.out.trans (hb1.out.mono hbm.out.size)
    have b2 := b1.trans ((hmk2.out w1).2.1.mono b1.size)
    exact ⟨rfl, b2.trans (hb5.out.mono b2.size)⟩

end Go.Proofs.Ythplpoijkebjbaa
