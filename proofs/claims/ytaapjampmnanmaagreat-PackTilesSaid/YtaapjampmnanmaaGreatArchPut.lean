/- Layer 13 (arch): a number's lowest bytes, put behind others by the program, made by the document. There is no condition but the numbers' bounds. -/
import Derived.Test.YtaapjampmnanmaaGreatArchK
import Derived.ArgAppend
import Derived.Lib.SlBytesConst
namespace Go.Proofs.YtaapjampmnanmaaGreat
open Go.RowKit
theorem elem_b8 : Elem1 Tryz.prog 22 5 (.int .u8 0) 1 := ⟨Tryz.underlying22, by kernel_rfl, rfl⟩
def leB (v i : Nat) : UInt8 := UInt8.ofNat (v / 256 ^ i % 256)
def le (k v : Nat) : List UInt8 := (List.range k).map (leB v)
theorem le_len (k v : Nat) : (le k v).length = k := by simp [le]
theorem le_succ (k v : Nat) : le (k + 1) v = le k v ++ [leB v k] := by simp [le, List.range_succ]
theorem bv_leB (v i : Nat) : bv (leB v i) = .int .u8 ((v / 256 ^ i % 256 : Nat) : Int) := by
  rw [bv, leB, UInt8.toNat_ofNat', Nat.mod_eq_of_lt (by omega)]
def Kp (w w' : World) : Prop := ∀ g t cs, t ≠ 5 → Blk w g t cs → Blk w' g t cs
theorem Kp.refl (w : World) : Kp w w := fun _ _ _ _ h => h
theorem Kp.trans {a b c : World} (h : Kp a b) (k : Kp b c) : Kp a c := fun g t cs ht hb => k g t cs ht (h g t cs ht hb)
theorem Kp.alloc {a b : World} (h : Kp a b) (o : Obj) : Kp a (b.alloc o) := fun g t cs ht hb => (h g t cs ht hb).alloc o
theorem Kp.drew {a b : World} (h : Kp a b) : Kp a b.drew := fun g t cs ht hb => (h g t cs ht hb).drew
theorem kp_chg {w w' : World} {B n c : Nat} {A : Option Addr} {xs : List Value} (ho : Ow w B 5 A n c xs) (hc : Chg (fun k => blk A = some k) w w') : Kp w w' := fun _ _ _ ht hb => hb.chg hc (ho.ne hb (Ne.symm ht))
def Sr (w : World) (B : Nat) (A : Option Addr) (n c : Nat) (xs : List Value) : Prop := Ow w B 5 A n c xs ∨ (c = n ∧ 0 < n ∧ ∃ B', B' ≤ w.heap.size ∧ Rd w B' A n xs)
theorem Sr.alloc {w : World} {B : Nat} {A : Option Addr} {n c : Nat} {xs : List Value} (h : Sr w B A n c xs) (o : Obj) : Sr (w.alloc o) B A n c xs := by
  rcases h with h | ⟨h1, h2, B', h3, h4⟩
  · exact .inl (h.alloc o)
  · exact .inr ⟨h1, h2, B', by simp; omega, h4.alloc h3 o⟩
theorem Sr.drew {w : World} {B : Nat} {A : Option Addr} {n c : Nat} {xs : List Value} (h : Sr w B A n c xs) : Sr w.drew B A n c xs := h
theorem run_append_full (w : World) {B' n : Nat} {A : Option Addr} {xs : List Value} (hr : Rd w B' A n xs) (h0 : 0 < n) (u : Value) (fr : Nat × Nat) (ty : TypeId) (h63 : n + 1 ≤ maxLen) (hb8 : (n + 1) * 1 ≤ 140737488355328) :
    ∃ A' c' w', (Builtin.append_ #[22, 22] ty #[.slice A n n, .slice (some ⟨w.heap.size, 0, none⟩) 1 1]).run Tryz.prog (w.alloc (.cells #[u] 5 fr)) = .ok (.slice A' (n + 1) c') w' ∧ Ow w' w.heap.size 5 A' (n + 1) c' (xs ++ [u]) ∧ Chg (fun _ => False) w w' := by
  obtain ⟨i, hi, hz, hs, hb⟩ := info_parts elem_b8.info
  obtain ⟨b, o, rfl, _, _⟩ := hr.at h0
  have hold : ∀ j v, xs[j]? = some v → (w.alloc (.cells #[u] 5 fr)).cell? ((⟨b, o, none⟩ : Addr).add j) = some v := by
    intro j v hv
    have hj : j < n := by rw [← hr.1]; exact (List.getElem?_eq_some_iff.1 hv).1
    obtain ⟨b', o', ha, _, hc⟩ := hr.2 j hj
    obtain ⟨e1, e2, _⟩ := Addr.mk.inj (Option.some.inj ha)
    subst e1 e2
    rw [Addr.add_mid]
    exact Go.Lib.cell?_alloc_marked _ (by rw [hc, hv])
  have hnew : ∀ j v, [u][j]? = some v → (w.alloc (.cells #[u] 5 fr)).cell? ((⟨w.heap.size, 0, none⟩ : Addr).add j) = some v := by
    intro j v hv
    rw [Addr.add_mid, cell_of_row _ _ _ #[u] 5 fr (heap_alloc_new w _)]
    simpa using hv
  obtain ⟨v', w', hrun, h2, h3⟩ := run_append_arg_grows (P := Tryz.prog) (w.alloc (.cells #[u] 5 fr)) 22 ty 5 i _ 1 1 elem_b8.under hi hz hs hb elem_b8.one (by decide) ⟨b, o, none⟩ n n xs (by rw [hr.1]; omega) hold ⟨w.heap.size, 0, none⟩ 1 1 [u] rfl hnew (by omega) h63 hb8
  have hc : Chg (fun _ => False) w w' := ((Chg.refl _ w).alloc _).trans (chg_of_grown h3) (fun _ _ h => by cases h)
  rcases h2.2 with ⟨_, hn⟩ | ⟨g, cap, cur, hv, r⟩
  · omega
  · rw [hv] at hrun h2
    refine ⟨_, cap, w', hrun, ?_, hc⟩
    exact Ow.base_le (show Ow w' _ 5 _ (n + 1) cap (xs ++ [u]) from h2) (fun k hk => by
      have := (show Ow w' _ 5 _ (n + 1) cap (xs ++ [u]) from h2).blk_lt k hk
      have h5 : (w.alloc (.cells #[u] 5 fr)).heap.size = w.heap.size + 1 := by simp
      omega)
theorem wpList_append_sr {ops : Array Oper} {rest : List Oper} {o : Oper} {a : Act} {Q : Exit → Act → World → Prop} (w : World) (hgd : o.guard = none) (s x : Operand)
    (ho : o.op = .call { callee := .builtin .append, args := #[s, x], argTypes := #[22, 22] })
    {B n c : Nat} {A : Option Addr} {xs : List Value} (hs : a.eval s = .slice A n c) (h : Sr w B A n c xs) (u : Value) (fr : Nat × Nat) (hx : a.eval x = .slice (some ⟨w.heap.size, 0, none⟩) 1 1) (h1 : u.oneCell' = true)
    (h63 : n + 1 ≤ maxLen) (hbytes : (n + 1) * 1 ≤ 140737488355328) (hbase : B ≤ w.heap.size)
    (hk : ∀ A' c' w', Ow w' B 5 A' (n + 1) c' (xs ++ [u]) → Kp w w' → Below B w w' → wpList Tryz.prog ops Q rest (a.put o.dst (.slice A' (n + 1) c')) w') :
    wpList Tryz.prog ops Q (o :: rest) a (w.alloc (.cells #[u] 5 fr)) := by
  rcases h with h | ⟨rfl, h0, B', _, hr⟩
  · exact wpList_append_one w hgd s x ho elem_b8 hs h u 5 fr hx h1 h63 hbytes hbase (fun A' c' w' h2 h3 _ => hk A' c' w' h2 (kp_chg h h3) (h3.to_below hbase (fun i hi => (h.blk_lt i hi).1)))
  · refine wpList_plain hgd fun _ hK => ?_
    obtain ⟨A', c', w', hrun, h2, h3⟩ := run_append_full w hr h0 u fr o.type h63 hbytes
    unfold Oper.wp execOp
    simp only [ho, resolve, invoke, builtin, Sem.run_bind, Sem.run_pure, Result.andThen_ok, List.map_toArray, List.map_cons, List.map_nil, hs, hx, hrun]
    exact hK _ _ (hk A' c' w' (h2.base_le (fun k hk => by have := (h2.blk_lt k hk).1; omega)) (fun _ _ _ _ hb => hb.chg h3 (fun h => h)) (h3.to_below hbase (fun _ h => absurd h id)))
set_option maxRecDepth 100000 in
set_option maxHeartbeats 1000000 in
theorem put13_any (B : Nat) (A : Option Addr) (c : Nat) (L : List UInt8) (v k : Nat) (w : World) (ho : Sr w B A L.length c (L.map bv)) (hB : B ≤ w.heap.size) (hk0 : 0 < k) (hL : L.length ≤ 1000) (hk8 : k ≤ 8) (hv : v ≤ 18446744073709551615) :
    Calls Tryz.prog 51 #[.slice A L.length c, .int .u64 (v : Int), .int .i64 (k : Int)] w fun e w' => ∃ A' c', e = .returned (.slice A' (L.length + k) c') ∧ Ow w' B 5 A' (L.length + k) c' ((L ++ le k v).map bv) ∧ Below B w w' ∧ Kp w w' := by
  have hkI : (k : Int) ≤ 8 := by omega
  obtain ⟨n, hn⟩ : ∃ n, L.length = n := ⟨_, rfl⟩
  rw [hn] at ho hL ⊢
  replace hv := hide hv
  replace ho := hide ho
  replace hB := hide hB
  replace hn := hide hn
  go_enter Tryz.func51, Tryz.ntmps51
  go_wp2
  go_loopw [0, 9] (fun s0 s9 wr => ∃ (i : Nat) (A : Option Addr) (c : Nat), i ≤ k ∧ s0 = .slice A (n + i) c ∧ s9 = .int .i64 (i : Int) ∧ Hid (Sr wr B A (n + i) c ((L ++ le i v).map bv)) ∧ Hid (0 < i → Ow wr B 5 A (n + i) c ((L ++ le i v).map bv)) ∧ Hid (Below B w wr) ∧ Hid (Kp w wr)) (fun _ s9 _ => k - (intOf s9).toNat)
  case atStart => exact ⟨0, A, c, by omega, rfl, rfl, hide (by simpa [le] using ho.out), hide (fun h => absurd h (by decide)), hide (Below.refl _ _), hide (Kp.refl _)⟩
  case round =>
    obtain ⟨i, A, c, hik, rfl, rfl, ho, ho0, hb, hkp⟩ := hrel
    by_cases hlt : i < k
    · have hiI : (i : Int) < (k : Int) := by omega
      obtain ⟨X, hX⟩ : ∃ X, v / 256 ^ i % 256 = X := ⟨_, rfl⟩
      have hXI : (v : Int) / 2 ^ (8 * i) % 256 = (X : Int) := by
        rw [← hX, show (256 : Nat) ^ i = 2 ^ (8 * i) by rw [Nat.pow_mul]]
        simp
      have hbv : Hid (bv (leB v i) = .int .u8 (X : Int)) := hide (by rw [bv_leB, hX])
      have h63 := hide (show n + i + 1 ≤ maxLen by simp only [maxLen]; omega)
      have h64 := hide (show (n + i + 1) * 1 ≤ 140737488355328 by omega)
      have hBr := hide (show B ≤ wr.heap.size from Nat.le_trans hB.out hb.out.size)
      clear hX
      go_wp2_with (at_builtin; refine wpList_append_sr wr rfl (.tmp 12) (.tmp 18) rfl rfl ho.out (.int .u8 (X : Int)) _ rfl rfl h63.out h64.out hBr.out ?_; intro A3 c3 w3 ho3 hg3 hn3; have hb3 := hide (hb.out.trans hn3); have hkp3 := hide (hkp.out.trans hg3); have ho3 := hide ho3; clear hg3 hn3)
      go_roundw
      case rel =>
        have ho4 := hide (show Ow w3 B 5 A3 (n + (i + 1)) c3 ((L ++ le (i + 1) v).map bv) from by rw [le_succ, ← List.append_assoc, List.map_append, List.map_singleton, hbv.out]; exact ho3.out)
        exact ⟨i + 1, A3, c3, by omega, rfl, by go_num, hide (.inl ho4.out), hide (fun _ => ho4.out), hb3, hkp3⟩
      case measure => simp [intOf] <;> omega
    · obtain rfl : i = k := by omega
      go_wp2
      go_ret
      exact ⟨A, c, rfl, ho0.out hk0, hb.out, hkp.out⟩
end Go.Proofs.YtaapjampmnanmaaGreat
