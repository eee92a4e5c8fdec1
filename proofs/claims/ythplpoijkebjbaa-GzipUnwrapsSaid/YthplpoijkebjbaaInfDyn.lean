/- Layer 4 (inflate): the unpacker's codes: given, fixed, and told. The conditions: where things lie. -/
import Derived.Test.YthplpoijkebjbaaInfSyms
import Derived.Test.YthplpoijkebjbaaDefFix
import Derived.Deep.RegionWith
import Derived.Deep.DeepCutAuto
import Derived.Deep.CutBlock
namespace Go.Proofs.Ythplpoijkebjbaa
open Go.RowKit
set_option linter.unusedVariables false

theorem ucode_ok (A : Option Addr) (n c : Nat) (ls : List Nat) (short : Bool) (w : World) (B0 : Nat) (hr : Rd w B0 A n ((nz ls).map iv)) (hB0 : B0 ≤ w.heap.size) (hn : n ≤ 288) (h15 : ∀ x ∈ ls, x ≤ 15) (hf : Huf.fits ls short) :
    Calls Try.prog 112 #[.slice A n c, .bool short] w fun e w' => ∃ g, e = .returned (.pointer (some ⟨g, 0, none⟩)) ∧ CodeAt w.heap.size w' g ls ∧ Below w.heap.size w w' := by
  have h := hide (new_ok A n c ls short w B0 hr hB0 hn h15 hf)
  clear hr hB0 hn h15 hf
  go_enter Try.func112, Try.ntmps112
  go_wp2_with fail
  refine h.out.mono ?_
  rintro e w1 ⟨g, rfl, h1, h2⟩
  have h1 := hide h1
  have h2 := hide h2
  go_wp2
  go_ret
  exact ⟨g, rfl, h1.out, h2.out⟩
theorem ucode_err (A : Option Addr) (n c : Nat) (ls : List Nat) (short : Bool) (w : World) (B0 : Nat) (hr : Rd w B0 A n ((nz ls).map iv)) (hn : n ≤ 288) (h15 : ∀ x ∈ ls, x ≤ 15) (hf : ¬ Huf.fits ls short) :
    Calls Try.prog 112 #[.slice A n c, .bool short] w fun e w' => e = .panicked (stopE 3) ∧ w = w' := by
  have h := hide (new_form A n c ls short w B0 hr hn h15 hf)
  clear hr hn h15 hf
  go_enter Try.func112, Try.ntmps112
  go_wp2_with fail
  refine h.out.mono ?_
  rintro e w1 ⟨rfl, rfl⟩
  go_wp2
  exact ⟨rfl, rfl, rfl⟩

set_option maxHeartbeats 2000000 in
theorem ufixed (w : World) : Calls Try.prog 81 #[] w fun e w' => ∃ g1 g2 B1 B2, e = .returned (.tuple #[.pointer (some ⟨g1, 0, none⟩), .pointer (some ⟨g2, 0, none⟩)]) ∧ CodeAt B1 w' g1 lsF ∧ CodeAt B2 w' g2 (List.replicate 32 5) ∧ Below w.heap.size w w' := by
  have hfix := hide (fixed_any w)
  go_enter Try.func81, Try.ntmps81
  go_wp2_with fail
  refine hfix.out.mono ?_
  rintro e w2 ⟨A1, c1, A2, c2, rfl, ho1, ho2, hb2⟩
  have hnew1 := hide (ucode_ok A1 288 c1 lsF false w2 w2.heap.size (by rw [← lsF_rd]; exact ho1.rd) (Nat.le_refl _) (by decide) lsF_le lsF_fits)
  replace ho1 := hide ho1
  replace ho2 := hide ho2
  replace hb2 := hide hb2
  go_wp2_with fail
  refine hnew1.out.mono ?_
  rintro e w3 ⟨g3, rfl, hc3, hb3⟩
  have hc3 := hide hc3
  have hb3 := hide hb3
  have hA2 := hide (show ∀ k, blk A2 = some k → w.heap.size ≤ k ∧ k < w2.heap.size from fun k hk => (ho2.out.blk_lt k hk))
  obtain ⟨w6, hw6⟩ : ∃ W, w3.alloc (.cells #[.int .i64 5, .int .i64 5] 3) = W := ⟨_, rfl⟩
  have be36 := hide (show Below w3.heap.size w3 w6 from by rw [← hw6]; exact (Below.refl _ w3).alloc (Nat.le_refl _) _)
  have ho6 := hide ((ho2.out.below hb3.out).below be36.out)
  have rd6 := hide (show Rd w6 (w3.heap.size + 1) (some ⟨w3.heap.size, 0, none⟩) 2 [jv 5, jv 5] from by rw [← hw6]; exact Rd.new w3 #[.int .i64 5, .int .i64 5] 3 (0, 0))
  have b26 := hide (hb3.out.trans (be36.out.mono hb3.out.size))
  have b6 := hide (hb2.out.trans (b26.out.mono hb2.out.size))
  have code6 := hide (hc3.out.below be36.out)
  go_wp2_with (first
    | (at_builtin; refine wpList_append_rd w6 rfl (.tmp 10) (.tmp 11) rfl elem_int rfl ho6.out rfl rd6.out (by intro u hu; simp at hu; subst hu; rfl) (by decide) (by decide) b6.out.size ?_; intro A7 c7 w7 ho7 hc7 hn7; have hc7 := hide hc7; have hnew2 := hide (ucode_ok A7 32 c7 (List.replicate 32 5) false w7 w7.heap.size (by rw [show (nz (List.replicate 32 5)).map iv = ((List.range 30).map fun _ => jv 5) ++ [jv 5, jv 5] from rfl]; exact ho7.rd) (Nat.le_refl _) (by decide) ls5_le ls5_fits); have ho7 := hide ho7)
    | (go_at_call 112; (with_reducible refine (hnew2.out).mono ?_); rintro e w8 ⟨g8, rfl, hc8, hb8⟩; have hc8 := hide hc8; have hb8 := hide hb8))
  go_ret2
  have code7 := code6.out.chg hc7.out (fun k hk hr => by have := (hA2.out k hr).2; omega)
  have b7 := b6.out.trans (hc7.out.to_below b6.out.size (fun k hr => (hA2.out k hr).1))
  exact ⟨g3, g8, _, _, rfl, code7.below hb8.out, hc8.out, b7.trans (hb8.out.mono b7.size)⟩

theorem Ow.type {w : World} {base n c k : Nat} {e t : TypeId} {A : Option Addr} {xs : List Value} {cs : Array Value} {fz : Nat × Nat} (h : Ow w base e A n c xs) (hk : blk A = some k) (hx : w.heap[k]? = some (.cells cs t fz)) : e = t := by
  rcases h.2 with ⟨hv, _⟩ | ⟨g', cap, cur, hv, _, hh, _⟩
  · injection hv with e1
    rw [e1] at hk
    simp [blk] at hk
  · injection hv with e1
    rw [e1] at hk
    have : g' = k := by simpa [blk] using hk
    subst this
    rw [hh] at hx
    injection hx with hx
    injection hx
theorem KeepU.past {R : Nat → Prop} {w a b : World} (h : KeepU w a) (hc : Chg R a b) (hR : ∀ k, R k → w.heap.size ≤ k) : KeepU w b := by
  refine ⟨Nat.le_trans h.1 hc.size, fun k cs t fz x h1 h2 h3 => ?_⟩
  have hk := lt_of_block x
  exact (hc.block k (Nat.lt_of_lt_of_le hk h.1) (fun hr => by have := hR k hr; omega)).trans (h.2 k cs t fz x h1 h2 h3)

section
variable {B gu gr most a : Nat} {bs o : List UInt8} {w : World}
set_option maxRecDepth 100000 in
set_option maxHeartbeats 4000000 in
theorem ulengths (h : UAt B gu gr most bs w a o) (gc B0 many : Nat) (ls : List Nat) (hc : CodeAt B0 w gc ls) (hn : ls.length ≤ 19) (hsum : Huf.sum ls ≤ 32768) (hm : many ≤ 1000) (R : Inf.R (List Nat)) (hR : Inf.lens (Bit.bitsOf bs) ls many (many + 1) [] a o = R) :
    Calls Try.prog 113 #[.pointer (some ⟨gu, 0, none⟩), .pointer (some ⟨gc, 0, none⟩), .int .i64 (many : Int)] w (UQ B gu gr most bs w (fun x v w' => ∃ A c, v = .slice A x.length c ∧ Ow w' w.heap.size 3 A x.length c (x.map jv)) R) := by
  have hsy := hide (fun (w' : World) (a' : Nat) (o' : List UInt8) (u : UAt B gu gr most bs w' a' o') (k : KeepU w w') => usym u gc B0 ls (hc.keepU k) (by omega) hsum)
  have hBw := hide (Below.refl B w)
  have hK := hide (KeepU.refl w)
  replace h := hide h
  replace hR := hide hR
  replace hn := hide hn
  have hBs := hide (show B ≤ w.heap.size from h.out.size)
  clear hc hsum
  go_enter Try.func113, Try.ntmps113
  go_wp2
  go_loopg [7] (many + 1) (fun gk s7 wr => ∃ (acc : List Nat) (a' : Nat) (o' : List UInt8) (A : Option Addr) (N c : Nat), s7 = .slice A N c ∧ N ≤ many ∧ Hid (acc.length = N) ∧ Hid (Inf.lens (Bit.bitsOf bs) ls many gk acc a' o' = R) ∧ Hid (many < gk + N) ∧ Hid (Ow wr w.heap.size 3 A N c (acc.map jv)) ∧ Hid (UAt B gu gr most bs wr a' o') ∧ Hid (Below B w wr) ∧ Hid (KeepU w wr))
  case atStart => exact ⟨[], a, o, none, 0, 0, rfl, Nat.zero_le _, hide rfl, hR, hide (by omega), hide (Ow.nil _ _ _), h, hBw, hK⟩
  case round =>
    clear hR h hBw hK
    obtain ⟨acc, a', o', A, N, c, rfl, hN, hacc, hR, hF, ho, u, b, k⟩ := hrel
    obtain ⟨wo, rfl⟩ : ∃ W, W = wr := ⟨_, rfl⟩
    obtain ⟨g, rfl⟩ : ∃ g, gk = g + 1 := ⟨gk - 1, by have := hF.out; omega⟩
    by_cases hlt : N < many
    · have hltI : (N : Int) < (many : Int) := by omega
      have hR1 := hide (show Inf.bind (Inf.sym (Bit.bitsOf bs) ls) (fun s => Inf.bind (Inf.often (Bit.bitsOf bs) acc s) fun nv =>
        if many - acc.length < nv.1 then Inf.err 3 else Inf.lens (Bit.bitsOf bs) ls many g (acc ++ List.replicate nv.1 nv.2)) a' o' = R from by
          have := hR.out
          rwa [Inf.lens, if_neg (by rw [hacc.out]; omega)] at this)
      have hs1 := hide (hsy.out _ _ _ u.out k.out)
      clear hR u
      go_wp2_with fail
      refine UP.go hs1.out (fun er w2 e2 b2 k2 => ⟨rfl, .inl ⟨er, hR1.out.symm.trans (Inf.bind_err e2), rfl, b.out.trans b2, k.out.trans k2⟩⟩) ?_
      intro t a2 o2 w2 e2 u2 b2 k2
      have hR2 := hide ((Inf.bind_ok e2).symm.trans hR1.out)
      obtain ⟨ht1, ht2, _⟩ := Inf.sym_is e2
      have htb : t ≤ 18 := by have := hn.out; omega
      have ho2 := hide (k2.ow ho.out (by decide) (by decide) (by decide))
      have b2 := hide (b.out.trans b2)
      have k2 := hide (k.out.trans k2)
      have u2 := hide u2
      clear e2 hR1 hs1 b k ht1 ht2 ho
      go_upto_block 2 with fail
      go_cut [9, 10] (fun s9 s10 wx => ∃ (n v a3 : Nat) (o3 : List UInt8), s9 = .int .i64 (n : Int) ∧ s10 = .int .i64 (v : Int) ∧ 1 ≤ n ∧ n ≤ 200 ∧ Hid ((if many - acc.length < n then Inf.err 3 else Inf.lens (Bit.bitsOf bs) ls many g (acc ++ List.replicate n v)) a3 o3 = R) ∧ Hid (UAt B gu gr most bs wx a3 o3) ∧ Hid (Ow wx w.heap.size 3 A N c (acc.map jv)) ∧ Hid (Below B w wx) ∧ Hid (KeepU w wx))
      case first =>
        by_cases h16 : t = 16
        · subst h16
          by_cases h0 : acc = []
          · have hN0 : N = 0 := by rw [← hacc.out, h0]; rfl
            have hR4 := hide (show Sum.inl 3 = R from by
              have h := hR2.out
              rw [Inf.bind_err (e := 3) (by unfold Inf.often; rw [if_pos rfl, if_pos h0]; rfl)] at h
              exact h)
            subst hN0
            clear h0 hR2 u2 ho2 hacc
            go_wp2
            exact ⟨rfl, .inl ⟨3, hR4.out.symm, rfl, b2.out, k2.out⟩⟩
          · have hN0 : 0 < N := by rw [← hacc.out]; exact List.length_pos_iff.2 h0
            have hNb : ((N : Int) == 0) = false := by simp; omega
            obtain ⟨q, hq⟩ : ∃ q, N - 1 = q := ⟨_, rfl⟩
            have hqI : (N : Int) - 1 = (q : Int) := by omega
            have hqw : IntKind.i64.wrap (q : Int) = (q : Int) := by rw [IntKind.wrap_i64]; omega
            have hq0 : (0 : Int) ≤ (q : Int) := by omega
            have hqN : (q : Int) < (N : Int) := by omega
            have hql : q < acc.length := by rw [hacc.out]; omega
            have hR4 := hide (show Inf.bind (Inf.bits (Bit.bitsOf bs) 2) (fun k => Inf.bind (Inf.ret (3 + k, acc.getD q 0)) fun nv => if many - acc.length < nv.1 then Inf.err 3 else Inf.lens (Bit.bitsOf bs) ls many g (acc ++ List.replicate nv.1 nv.2)) a2 o2 = R from by
              have h := hR2.out
              have e : Inf.often (Bit.bitsOf bs) acc 16 = Inf.bind (Inf.bits (Bit.bitsOf bs) 2) fun k => Inf.ret (3 + k, acc.getD q 0) := by unfold Inf.often; rw [if_pos rfl, if_neg h0, hacc.out, hq]
              rw [e] at h
              rw [← h]
              unfold Inf.bind
              cases Inf.bits (Bit.bitsOf bs) 2 a2 o2 <;> rfl)
            obtain ⟨v, hv⟩ : ∃ v, acc.getD q 0 = v := ⟨_, rfl⟩
            rw [hv] at hR4
            obtain ⟨ga, rfl, _, _⟩ := ho2.out.pos hN0
            have hcl := hide (fun (W : World) (hh : Ow W w.heap.size 3 (some ⟨ga, 0, none⟩) N c (acc.map jv)) => (show W.cell? ⟨ga, q, none⟩ = some (.int .i64 (v : Int)) from by
              have h := hh.cells (g := ga) rfl q (jv v) (by rw [List.getElem?_map, List.getElem?_eq_getElem hql, ← hv, List.getD_eq_getElem?_getD, List.getElem?_eq_getElem hql]; rfl)
              rwa [Addr.add_mid, Nat.zero_add] at h))
            have ud := hide (show UAt B gu gr most bs w2.drew a2 o2 from u2.out.below (below_drewN (Below.refl _ w2) 1))
            have hu3 := hide (ubits ud.out 2 (by decide))
            have z0 := hide (hcl.out w2.drew ho2.out.drew)
            have bd := hide (show Below B w w2.drew from below_drewN b2.out 1)
            have kd := hide (show KeepU w w2.drew from k2.out.trans (KeepU.below (below_drewN (Below.refl _ w2) 1)))
            clear hq hql h0 hv hR2 u2 ud b2 k2
            go_wp2
            have z0 := z0.out
            go_region_with (go_at_call 78; refine UP.go hu3.out (fun er w3 e3 b3 k3 => ⟨rfl, .inl ⟨er, hR4.out.symm.trans (Inf.bind_err e3), rfl, bd.out.trans b3, kd.out.trans k3⟩⟩) ?_; intro kk a3 o3 w3 e3 u3 b3 k3; have ho3 := hide (k3.ow ho2.out.drew (by decide) (by decide) (by decide)); have z1 := hcl.out w3 ho3.out; have hR5 := hide ((Inf.bind_ok e3).symm.trans hR4.out); have hk3 := (Inf.bits_is e3).1; have u3 := hide u3; have b3 := hide (bd.out.trans b3); have k3 := hide (kd.out.trans k3); clear e3)
            all_goals (
            have hkkw : IntKind.i64.wrap (3 + (kk : Int)) = 3 + (kk : Int) := by rw [IntKind.wrap_i64]; omega
            go_wp2
            go_meet
            exact ⟨3 + kk, v, a3, o3, int_eq (by push_cast; omega), rfl, by omega, by omega, hR5, u3, ho3, b3, k3⟩)
        · have h16b : ((t : Int) == 16) = false := by simp; omega
          have hR3 := hR2.out
          unfold Inf.often at hR3
          rw [if_neg h16] at hR3
          by_cases h17 : t = 17
          · rw [if_pos h17] at hR3
            subst h17
            have hR4 := hide (show Inf.bind (Inf.bits (Bit.bitsOf bs) 3) (fun k => Inf.bind (Inf.ret (3 + k, 0)) fun nv => if many - acc.length < nv.1 then Inf.err 3 else Inf.lens (Bit.bitsOf bs) ls many g (acc ++ List.replicate nv.1 nv.2)) a2 o2 = R from by
              rw [← hR3]
              unfold Inf.bind
              cases Inf.bits (Bit.bitsOf bs) 3 a2 o2 <;> rfl)
            have hu3 := hide (ubits u2.out 3 (by decide))
            clear hR2 hR3 u2 h16
            go_wp2_with fail
            refine UP.go hu3.out (fun er w3 e3 b3 k3 => ⟨rfl, .inl ⟨er, hR4.out.symm.trans (Inf.bind_err e3), rfl, b2.out.trans b3, k2.out.trans k3⟩⟩) ?_
            intro kk a3 o3 w3 e3 u3 b3 k3
            have ho3 := hide (k3.ow ho2.out (by decide) (by decide) (by decide))
            have hR5 := hide ((Inf.bind_ok e3).symm.trans hR4.out)
            have hk3 := (Inf.bits_is e3).1
            have u3 := hide u3
            have b3 := hide (b2.out.trans b3)
            have k3 := hide (k2.out.trans k3)
            have hkkw : IntKind.i64.wrap (3 + (kk : Int)) = 3 + (kk : Int) := by rw [IntKind.wrap_i64]; omega
            clear e3
            go_wp2
            go_meet
            exact ⟨3 + kk, 0, a3, o3, int_eq (by push_cast; omega), rfl, by omega, by omega, hR5, u3, ho3, b3, k3⟩
          · rw [if_neg h17] at hR3
            have h17b : ((t : Int) == 17) = false := by simp; omega
            by_cases h18 : t = 18
            · rw [if_pos h18] at hR3
              subst h18
              have hR4 := hide (show Inf.bind (Inf.bits (Bit.bitsOf bs) 7) (fun k => Inf.bind (Inf.ret (11 + k, 0)) fun nv => if many - acc.length < nv.1 then Inf.err 3 else Inf.lens (Bit.bitsOf bs) ls many g (acc ++ List.replicate nv.1 nv.2)) a2 o2 = R from by
                rw [← hR3]
                unfold Inf.bind
                cases Inf.bits (Bit.bitsOf bs) 7 a2 o2 <;> rfl)
              have hu3 := hide (ubits u2.out 7 (by decide))
              clear hR2 hR3 u2 h16 h17
              go_wp2_with fail
              refine UP.go hu3.out (fun er w3 e3 b3 k3 => ⟨rfl, .inl ⟨er, hR4.out.symm.trans (Inf.bind_err e3), rfl, b2.out.trans b3, k2.out.trans k3⟩⟩) ?_
              intro kk a3 o3 w3 e3 u3 b3 k3
              have ho3 := hide (k3.ow ho2.out (by decide) (by decide) (by decide))
              have hR5 := hide ((Inf.bind_ok e3).symm.trans hR4.out)
              have hk3 := (Inf.bits_is e3).1
              have u3 := hide u3
              have b3 := hide (b2.out.trans b3)
              have k3 := hide (k2.out.trans k3)
              have hkkw : IntKind.i64.wrap (11 + (kk : Int)) = 11 + (kk : Int) := by rw [IntKind.wrap_i64]; omega
              clear e3
              go_wp2
              go_meet
              exact ⟨11 + kk, 0, a3, o3, int_eq (by push_cast; omega), rfl, by omega, by omega, hR5, u3, ho3, b3, k3⟩
            · rw [if_neg h18] at hR3
              have h18b : ((t : Int) == 18) = false := by simp; omega
              have hR4 := hide (show (if many - acc.length < 1 then Inf.err 3 else Inf.lens (Bit.bitsOf bs) ls many g (acc ++ List.replicate 1 t)) a2 o2 = R from hR3)
              clear hR2 hR3 h16 h17 h18
              go_wp2
              go_meet
              exact ⟨1, t, a2, o2, rfl, rfl, by omega, by omega, hR4, u2, ho2, b2, k2⟩
      case rest =>
        clear hR2 u2 ho2 b2 k2
        obtain ⟨n, v, a3, o3, rfl, rfl, hn1, hn2, hR3, u3, ho3, b3, k3⟩ := hcut
        have hsub : IntKind.i64.wrap ((many : Int) - (N : Int)) = (many : Int) - (N : Int) := by rw [IntKind.wrap_i64]; omega
        by_cases hbig : many - N < n
        · have hbI : (many : Int) - (N : Int) < (n : Int) := by omega
          have hR4 := hide (show Sum.inl 3 = R from by have := hR3.out; rwa [if_pos (by rw [hacc.out]; exact hbig)] at this)
          clear hR3 hbig
          go_wp2
          exact ⟨rfl, .inl ⟨3, hR4.out.symm, rfl, b3.out, k3.out⟩⟩
        · have hbI : (n : Int) ≤ (many : Int) - (N : Int) := by omega
          have hbN : N + n ≤ many := by omega
          have hR4 := hide (show Inf.lens (Bit.bitsOf bs) ls many g (acc ++ List.replicate n v) a3 o3 = R from by have := hR3.out; rwa [if_neg (by rw [hacc.out]; exact hbig)] at this)
          have hn2I : (n : Int) ≤ 200 := by omega
          clear hR3 hbig
          go_wp2
          clear hbI hsub
          go_loopw [7, 62] (fun s7 s62 wr => ∃ (i M : Nat) (A : Option Addr) (c : Nat), i ≤ n ∧ s62 = .int .i64 (i : Int) ∧ s7 = .slice A M c ∧ M ≤ many ∧ Hid (M = N + i) ∧ Hid (Ow wr w.heap.size 3 A M c ((acc ++ List.replicate i v).map jv)) ∧ Hid (UAt B gu gr most bs wr a3 o3) ∧ Hid (Below B w wr) ∧ Hid (KeepU w wr)) (fun _ s62 _ => n - (intOf s62).toNat)
          case atStart => exact ⟨0, N, A, c, Nat.zero_le _, rfl, rfl, hN, hide rfl, hide (by simpa using ho3.out), u3, b3, k3⟩
          case round =>
            clear u3 ho3 b3 k3
            obtain ⟨i, M, A, c, hi, rfl, rfl, hMm, hM, ho, u, b, k⟩ := hrel
            by_cases hlt : i < n
            · have hltI : (i : Int) < (n : Int) := by omega
              have hsn := hide (show (acc ++ List.replicate i v).map jv ++ [jv v] = (acc ++ List.replicate (i + 1) v).map jv from by rw [List.replicate_succ', ← List.append_assoc, List.map_append (l₁ := acc ++ List.replicate i v)]; rfl)
              have hbase := hide k.out.1
              have hM1 := hide (show M + 1 ≤ many from by have := hM.out; omega)
              go_wp2_with (at_builtin; refine wpList_append_one wr rfl (.tmp 64) (.tmp 66) rfl elem_int rfl ho.out (jv v) 3 _ rfl rfl (by simp only [maxLen]; omega) (by omega) hbase.out ?_; intro A4 c4 w4 ho4 hg4 hn4; have hpast := fun k hk => (ho.out.blk_lt k hk).1; have u4 := hide (u.out.calm hg4 (fun k cs t fz hk hx => (by have := Ow.type ho.out hk hx; subst this; exact ⟨by decide, by decide, by decide⟩))); have k4 := hide (k.out.past hg4 hpast); have b4 := hide (b.out.trans (hg4.to_below (Nat.le_trans hBs.out hbase.out) (fun k hk => Nat.le_trans hBs.out (hpast k hk)))); rw [hsn.out] at ho4; have ho4 := hide ho4; clear hg4 hn4 hpast)
              go_roundw
              case rel => exact ⟨i + 1, M + 1, A4, c4, by omega, by go_num, rfl, hM1.out, hide (by have := hM.out; omega), ho4, u4, b4, k4⟩
              case measure => simp [intOf] <;> omega
            · obtain rfl : i = n := by omega
              have hacc2 := hide (show (acc ++ List.replicate i v).length = M from by rw [List.length_append, List.length_replicate, hacc.out, hM.out])
              have hF2 := hide (show many < g + M from by have := hF.out; have := hM.out; omega)
              go_wp2
              go_roundg g
              case rel => exact ⟨acc ++ List.replicate i v, a3, o3, A, M, c, rfl, hMm, hacc2, hR4, hF2, ho, u, b, k⟩
              case measure => omega
    · obtain rfl : N = many := by omega
      have hR' := hide (show Sum.inr (acc, a', o') = R from by have := hR.out; rwa [Inf.lens, if_pos (by rw [hacc.out]; exact Nat.le_refl _)] at this)
      go_wp2
      refine bodyPost_ret (v := .slice A N c) (by simp [results, Try.results113, go_sem]) rfl ?_
      exact .inr ⟨acc, a', o', _, hR'.out.symm, rfl, ⟨A, c, by rw [hacc.out], by rw [hacc.out]; exact ho.out⟩, u.out, b.out, k.out⟩
end

end Go.Proofs.Ythplpoijkebjbaa
