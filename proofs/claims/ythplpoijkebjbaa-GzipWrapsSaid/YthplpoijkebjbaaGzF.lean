/- Layer 6 (gzip), the document's answer: low and Wrap, walked. The conditions: where the bytes lie, and how many they are. Layer 6 (gzip), the document's answer: Wrap, walked. The conditions: where the bytes lie, and how many they are. The law GzipWraps: a walk. The conditions: where the bytes lie, and how many they are. -/
import Derived.Test.YthplpoijkebjbaaGzD
import Derived.Test.YthplpoijkebjbaaDefR
import Derived.Deep.LoopGhost
import Derived.Deep.RegionWith
import Derived.Deep.RegionHeld3
namespace Go.Proofs.Ythplpoijkebjbaa
open Go.RowKit Go.Shelf
set_option linter.unusedVariables false
set_option linter.unusedSimpArgs false

def Gz.leN : Nat → Nat → List UInt8
  | 0, _ => []
  | k + 1, v => UInt8.ofNat (v % 256) :: Gz.leN k (v / 256)
theorem Gz.leN_four (v : Nat) : Gz.leN 4 v = Gz.le v := by
  simp only [Gz.leN, Gz.le, Nat.div_div_eq_div_mul]
theorem Gz.leN_len (k v : Nat) : (Gz.leN k v).length = k := by
  induction k generalizing v with
  | zero => rfl
  | succ k ih => simp only [Gz.leN, List.length_cons, ih]

set_option maxRecDepth 100000 in
set_option maxHeartbeats 1000000 in
theorem rlow_any (v k : Nat) (w : World) (hv : v ≤ 4294967295) (hk : k ≤ 4) :
    Calls Try.prog 66 #[.int .u32 (v : Nat), .int .i64 (k : Nat)] w fun e w' => ∃ A c, e = .returned (.slice A k c) ∧ Ow w' w.heap.size 5 A k c ((Gz.leN k v).map bv) ∧ Below w.heap.size w w' := by
  go_enter Try.func66, Try.ntmps66
  go_wp2
  go_loopw [0, 5, 6] (fun s0 s5 s6 wr => ∃ (j V : Nat) (A : Option Addr) (c : Nat) (xs : List UInt8), j ≤ k ∧ V ≤ 4294967295 ∧ s6 = .int .i64 (j : Int) ∧ s0 = .int .u32 (V : Int) ∧ s5 = .slice A j c ∧ Hid (xs ++ Gz.leN (k - j) V = Gz.leN k v) ∧ Hid (Ow wr w.heap.size 5 A j c (xs.map bv)) ∧ Hid (Below w.heap.size w wr)) (fun _ _ i _ => k - (intOf i).toNat)
  case atStart => exact ⟨0, v, none, 0, [], Nat.zero_le _, hv, rfl, rfl, rfl, hide rfl, hide (Ow.nil _ _ _), hide (Below.refl _ _)⟩
  case round =>
    obtain ⟨j, V, A, c, xs, hj, hV, rfl, rfl, rfl, hx, ho, hb⟩ := hrel
    by_cases hlt : j < k
    · have hB := hide hb.out.size
      have hq : IntKind.i64.wrap ((j : Int) + 1) = (j : Int) + 1 := by rw [IntKind.wrap_i64]; omega
      have hbv := hide (show bv (UInt8.ofNat (V % 256)) = .int .u8 ((V : Int) % 256) from by simp only [bv, UInt8.toNat_ofNat']; congr 1; omega)
      go_wp2_with (at_builtin; go_loud (refine wpList_append_one wr rfl (.tmp 12) (.tmp 16) rfl elem_byte rfl ho.out (.int .u8 ((V : Int) % 256)) 5 _ rfl rfl (by simp only [maxLen]; omega) (by omega) hB.out ?_); intro A8 c8 w8 o8 k8 n8; have b8 := hide (hb.out.trans (k8.to_below hB.out (fun i hi => (ho.out.blk_lt i hi).1))); have o8 := hide o8; clear k8 n8)
      go_roundw
      case rel =>
        refine ⟨j + 1, V / 256, A8, c8, xs ++ [UInt8.ofNat (V % 256)], by omega, by omega, by simp, by simp, rfl, ?_, ?_, b8⟩
        · rw [← hx.out, show k - j = k - (j + 1) + 1 from by omega, Gz.leN, List.append_assoc]
          exact hide rfl
        · rw [List.map_append, List.map_cons, List.map_nil, hbv.out]
          exact o8
      all_goals (simp [intOf]; omega)
    · obtain rfl : j = k := by omega
      go_wp2
      go_ret
      have hx := hx.out
      rw [Nat.sub_self, Gz.leN, List.append_nil] at hx
      exact ⟨A, c, rfl, by rw [← hx]; exact ho.out, hb.out⟩

end Go.Proofs.Ythplpoijkebjbaa

namespace Go.Proofs.Ythplpoijkebjbaa
open Go.RowKit Go.Shelf
set_option linter.unusedVariables false
set_option linter.unusedSimpArgs false

theorem rlow4 (v : Nat) (w : World) (hv : v ≤ 4294967295) :
    Calls Try.prog 66 #[.int .u32 (v : Nat), .int .i64 4] w fun e w' => ∃ A c, e = .returned (.slice A 4 c) ∧ Ow w' w.heap.size 5 A 4 c ((Gz.le v).map bv) ∧ Below w.heap.size w w' := by
  rw [← Gz.leN_four]
  exact rlow_any v 4 w hv (by decide)

set_option maxRecDepth 100000 in
set_option maxHeartbeats 2000000 in
theorem rwrap_any (A : Option Addr) (n c : Nat) (bs : List UInt8) (w : World) (hr : Rd w w.heap.size A n (bs.map bv)) (hc : n ≤ c) (hn : n ≤ 400) :
    Calls Try.prog 40 #[.slice A n c] w fun e w' => ∃ A' m c', e = .returned (.slice A' m c') ∧ Rd w' w'.heap.size A' m ((Gz.wrap bs).map bv) ∧ Below w.heap.size w w' := by
  have hl : bs.length = n := hr.len
  have hDl := Gz.out_len false bs (by omega)
  obtain ⟨g1, hg1⟩ : ∃ k, w.heap.size = k := ⟨_, rfl⟩
  obtain ⟨w1, hw1⟩ : ∃ W, w.alloc (.cells #[.int .u8 31, .int .u8 139, .int .u8 8, .int .u8 0, .int .u8 0, .int .u8 0, .int .u8 0, .int .u8 0, .int .u8 0, .int .u8 255] 5) = W := ⟨_, rfl⟩
  have o1 := hide (show Ow w1 g1 5 (some ⟨g1, 0, none⟩) 10 10 (Gz.hd.map bv) from by rw [← hw1, ← hg1]; exact Ow.lit w #[.int .u8 31, .int .u8 139, .int .u8 8, .int .u8 0, .int .u8 0, .int .u8 0, .int .u8 0, .int .u8 0, .int .u8 0, .int .u8 255] (Nat.le_refl _) (by decide))
  have b1 := hide (show Below g1 w w1 from by rw [← hw1, ← hg1]; exact (Below.refl _ w).alloc (Nat.le_refl _) _)
  have hs1 := hide (show g1 ≤ w1.heap.size from by rw [← hg1]; exact b1.out.size)
  have hd := hide (rdata_any A n c bs false w1 (by rw [hg1] at hr; exact (hr.below b1.out).mono hs1.out) hc hn)
  obtain ⟨D, hD⟩ : ∃ D, Def.outB false bs = D := ⟨_, rfl⟩
  rw [hD] at hd hDl
  have hres := hide (show Gz.wrap bs = Gz.hd ++ D ++ Gz.le (Crc.sum bs) ++ Gz.le n from by rw [← hD, ← hl]; rfl)
  generalize Gz.wrap bs = WR at *
  obtain ⟨Sm, hSm⟩ : ∃ Sm, Crc.sum bs = Sm := ⟨_, rfl⟩
  have hSl := Crc.sum_lt bs
  have hof := hide (fun W (h : Below g1 w W) => refof_any A n c bs W g1 (by rw [hg1] at hr; exact hr.below h) (by omega))
  rw [hSm] at hSl hof hres
  have hnu : IntKind.u32.wrap (n : Int) = (n : Int) := by rw [IntKind.wrap_u32]; omega
  have hl1 := hide (fun W => rlow4 Sm W (by omega))
  have hl2 := hide (fun W => rlow4 n W (by omega))
  replace hr := hide hr
  rw [hg1]
  go_enter Try.func40, Try.ntmps40
  go_wp2_with fail
  refine hd.out.mono ?_
  rintro e w2 ⟨A2, m, c2, rfl, r2, b2⟩
  have hm : m ≤ 40000 := by have h := r2.len; omega
  have o2 := hide (o1.out.below b2)
  have r2 := hide r2
  have b2 := hide (b1.out.trans (b2.mono hs1.out))
  have hs2 := hide (show g1 ≤ w2.heap.size from by rw [← hg1]; exact b2.out.size)
  have q1 := hide (show 10 + m ≤ maxLen from by simp only [maxLen]; omega)
  have q2 := hide (show 10 + m + 4 ≤ maxLen from by simp only [maxLen]; omega)
  have q3 := hide (show 10 + m + 4 + 4 ≤ maxLen from by simp only [maxLen]; omega)
  have p1 := hide (show (10 + m) * 1 ≤ 140737488355328 from by omega)
  have p2 := hide (show (10 + m + 4) * 1 ≤ 140737488355328 from by omega)
  have p3 := hide (show (10 + m + 4 + 4) * 1 ≤ 140737488355328 from by omega)
  clear o1
  go_wp2_with (first
    | (at_builtin; refine wpList_append_rd w2 rfl (.tmp 4) (.tmp 6) rfl elem_byte rfl o2.out rfl r2.out (one_bv2 D) q1.out p1.out hs2.out ?_; intro A3 c3 w3 o3 k3 n3; have b3 := hide (b2.out.trans (k3.to_below hs2.out (fun i hi => (o2.out.blk_lt i hi).1))); have hof := hide (hof.out w3 b3.out); have hl1 := hide (hl1.out w3); have o3 := hide o3; clear k3 n3)
    | (go_at_call 67; (with_reducible refine (hof.out).mono ?_); rintro e w' ⟨rfl, rfl⟩)
    | (go_at_call 66; (with_reducible refine (hl1.out).mono ?_); rintro e w4 ⟨A4, c4, rfl, o4, b4⟩; have o3 := hide (o3.out.below b4); have hs3 := hide (show g1 ≤ w3.heap.size from by rw [← hg1]; exact b3.out.size); have b4 := hide (b3.out.trans (b4.mono hs3.out)); have hs4 := hide (show g1 ≤ w4.heap.size from by rw [← hg1]; exact b4.out.size); have r4 := hide o4.rd; clear o4)
    | (at_builtin; refine wpList_append_rd w4 rfl (.tmp 8) (.tmp 11) rfl elem_byte rfl o3.out rfl r4.out (one_bv2 _) q2.out p2.out hs4.out ?_; intro A5 c5 w5 o5 k5 n5; have b5 := hide (b4.out.trans (k5.to_below hs4.out (fun i hi => (o3.out.blk_lt i hi).1))); have hl2 := hide (hl2.out w5); have hs5 := hide (show g1 ≤ w5.heap.size from by rw [← hg1]; exact b5.out.size); have o5 := hide o5; clear k5 n5)
    | (go_at_call 66; (with_reducible refine (hl2.out).mono ?_); rintro e w6 ⟨A6, c6, rfl, o6, b6⟩; have o5 := hide (o5.out.below b6); have b6 := hide (b5.out.trans (b6.mono hs5.out)); have hs6 := hide (show g1 ≤ w6.heap.size from by rw [← hg1]; exact b6.out.size); have r6 := hide o6.rd; clear o6)
    | (at_builtin; refine wpList_append_rd w6 rfl (.tmp 12) (.tmp 16) rfl elem_byte rfl o5.out rfl r6.out (one_bv2 _) q3.out p3.out hs6.out ?_; intro A7 c7 w7 o7 k7 n7; have b7 := hide (b6.out.trans (k7.to_below hs6.out (fun i hi => (o5.out.blk_lt i hi).1))); have o7 := hide o7; clear k7 n7))
  go_ret
  exact ⟨A7, _, c7, rfl, by rw [hres.out, List.map_append, List.map_append, List.map_append]; exact o7.out.rd, b7.out⟩

end Go.Proofs.Ythplpoijkebjbaa

namespace Go.Proofs.Ythplpoijkebjbaa
open Go.RowKit Go.Shelf
set_option linter.unusedVariables false
set_option linter.unusedSimpArgs false

theorem gz_toList_loop (bs : ByteArray) : ∀ (n i : Nat) (r : List UInt8), bs.size - i = n → ByteArray.toList.loop bs i r = r.reverse ++ bs.data.toList.drop i := by
  have hsz : bs.size = bs.data.toList.length := rfl
  intro n
  induction n with
  | zero =>
    intro i r h
    unfold ByteArray.toList.loop
    rw [if_neg (by omega)]
    rw [List.drop_eq_nil_of_le (by omega), List.append_nil]
  | succ n ih =>
    intro i r h
    unfold ByteArray.toList.loop
    rw [if_pos (by omega), ih (i+1) _ (by omega)]
    have hi : i < bs.data.toList.length := by omega
    rw [List.drop_eq_getElem_cons hi, List.reverse_cons, List.append_assoc]
    have hg : bs.get! i = bs.data.toList[i] := by
      show bs.data[i]! = _
      rw [getElem!_pos bs.data i (by simpa using hi)]
      simp
    rw [hg]
    rfl
theorem gz_toList (bs : ByteArray) : bs.toList = bs.data.toList := by
  unfold ByteArray.toList
  rw [gz_toList_loop bs _ 0 [] rfl]
  rfl
theorem two_strs (xs ys : List UInt8) : (xs ++ ys == ((⟨xs.toArray⟩ : ByteArray) ++ (⟨ys.toArray⟩ : ByteArray)).toList) = true := by
  have h : ((⟨xs.toArray⟩ : ByteArray) ++ (⟨ys.toArray⟩ : ByteArray)) = ⟨(xs ++ ys).toArray⟩ := by
    apply ByteArray.ext
    rw [ByteArray.data_append]
    simp
  rw [h, gz_toList]
  simp
theorem gtake {P : Program} {ops : Array Oper} {md : Region.Mode} {Q : Exit → Act → World → Prop} {S : World → Prop} {i d : Nat} {oi : Oper} {v : Value} {fuel : Nat} {listed : Array Bool} {a : Act} {w : World} (hi : ops[i]? = some oi) (hd : oi.dst = some d)
    (hs : Region.noSelect ops = true) (hf : Region.free md ops listed i = true) (hr : (Region.ready md ops listed).contains i = true)
    (hQ : ∀ c a w, Q (.panic c) (a.put (some d) v) w → Q (.panic c) a w) (hy : YieldsIf P ops S oi v a) (hS : S w)
    (h : wpAnyH P md ops Q S fuel (listed.setIfInBounds i true) (a.put (some d) v) w) : wpAnyH P md ops Q S (fuel + 1) listed a w :=
  wpAnyH_take hi hs hf hr (by rw [hd]; exact hQ) hy hS (by rw [hd]; exact h)
section
variable {P : Program} {ops : Array Oper} {md : Region.Mode} {Q : Exit → Act → World → Prop} {S S' : World → Prop}
/-- A condition that says more may be kept instead. -/
theorem gAnyH_strong (h : ∀ W, S' W → S W) : ∀ (fuel : Nat) (listed : Array Bool) (a : Act) (w : World), wpAnyH P md ops Q S' fuel listed a w → wpAnyH P md ops Q S fuel listed a w
  | 0, _, _, _, hh => hh
  | fuel + 1, _, _, _, hh => ⟨hh.1, fun i hi => wpOp_mono (fun a' w' h' => ⟨h _ h'.1, gAnyH_strong h fuel _ a' w' h'.2⟩) (hh.2 i hi)⟩
theorem gyields_str {o : Oper} {a : Act} (hw : Region.wanted o (yielded ops a.tmps) = true) (x : Operand) (ho : o.op = .convert 22 9 x) (A : Option Addr) (n c B : Nat) (bs : List UInt8) (hx : a.eval x = .slice A n c)
    (hS : ∀ W, S W → Rd W B A n (bs.map bv)) : YieldsIf Try.prog ops S o (.string ⟨bs.toArray⟩) a :=
  .inl ⟨hw, fun W hW => by
    unfold execOp
    simp only [ho, hx, Sem.run_bind, Sem.run_pure, Result.andThen_ok, str_of_rd (hS W hW) c]⟩
end
theorem UnPost.ok {w w' : World} {o : List UInt8} {e : Ending} (h : UnPost w (.inr o) e w') (k : Nat) (hk : o.length = k) : ∃ A c, e = .returned (.tuple #[.slice A k c, .int .i64 0]) ∧ Ow w' w.heap.size 5 A k c (o.map bv) ∧ Below w.heap.size w w' := by
  obtain ⟨b, ⟨er, h4, _⟩ | ⟨o4, A4, c4, h4, rfl, o4⟩⟩ := h
  · cases h4
  · cases h4
    rw [hk] at o4 ⊢
    exact ⟨A4, c4, rfl, o4, b⟩
set_option maxRecDepth 100000 in
set_option maxHeartbeats 8000000 in
theorem gzipwraps_walk (A : Option Addr) (n c : Nat) (xs : List UInt8) (A' : Option Addr) (n' c' : Nat) (ys : List UInt8) (w : World) (hr : Rd w w.heap.size A n (xs.map bv)) (hr' : Rd w w.heap.size A' n' (ys.map bv)) (hn : n ≤ maxLen) (hn' : n' ≤ maxLen) (hc : n ≤ c) (hc' : n' ≤ c') :
    Calls Try.prog 12 #[.slice A n c, .slice A' n' c'] w fun e w' => e = .returned (.bool true) ∧ Below w.heap.size w w' := by
  unfold maxLen at hn hn'
  have hlive := hide (fun W => g6live_any W)
  have hcode := hide (fun W => g6code_any 0 W)
  by_cases hbig : 300 < n ∨ 300 < n'
  · clear hr hr'
    by_cases h1 : 300 < n
    all_goals (
      go_enter Try.func12, Try.ntmps12
      go_wp2_with fail
      refine (hlive.out _).mono ?_
      rintro e w5 ⟨rfl, hb5⟩
      have hb5 := hide hb5
      go_wp2
      go_ret
      exact ⟨rfl, hb5.out⟩)
  · have t1n : n ≤ 300 := by omega
    have t2n : n' ≤ 300 := by omega
    have t1 : (n : Int) ≤ 300 := by omega
    have t2 : (n' : Int) ≤ 300 := by omega
    have hl : xs.length = n := hr.len
    have hl' : ys.length = n' := hr'.len
    have hw1 := hide (wrap_any A n c xs w hr hc (by omega))
    have hw2 := hide (fun W (h : Below w.heap.size w W) => wrap_any A' n' c' ys W ((hr'.below h).mono h.size) hc' (by omega))
    have hR := hide (fun W (h : Below w.heap.size w W) => rwrap_any A n c xs W ((hr.below h).mono h.size) hc (by omega))
    obtain ⟨m, hm⟩ : ∃ m, (Gz.wrap xs).length = m := ⟨_, rfl⟩
    obtain ⟨m', hm'⟩ : ∃ m, (Gz.wrap ys).length = m := ⟨_, rfl⟩
    have hmb : m ≤ 41000 := by have := Gz.wrap_len xs; have := Gz.out_len false xs (by omega); omega
    have hmb' : m' ≤ 41000 := by have := Gz.wrap_len ys; have := Gz.out_len false ys (by omega); omega
    have h2m : 2 ≤ m := by have := Gz.wrap_len xs; omega
    rw [hm] at hw1
    rw [hm'] at hw2
    have hun := hide (fun A1 c1 W (h : Rd W W.heap.size A1 (m + m') ((Gz.wrap xs ++ Gz.wrap ys).map bv)) (hc : m + m' ≤ c1) => show Calls Try.prog 38 #[.slice A1 (m + m') c1, .int .i64 1000] W (UnPost W (.inr (xs ++ ys))) from by
      rw [← Gz.all_two xs ys 1000 (8 * (m + m') + 400) (m + m') (by omega) (by omega) (by omega) (by omega) (by omega)]
      exact unwrap_any A1 (m + m') c1 1000 _ _ _ W h hc (by omega) (by decide) (by omega) (by omega))
    have hun2 := hide (fun A1 c1 W (h : Rd W W.heap.size A1 m ((Gz.wrap xs).map bv)) (hc : m ≤ c1) => show Calls Try.prog 38 #[.slice A1 m c1, .int .i64 (n : Int)] W (UnPost W (.inr xs)) from by
      have h3 := Gz.all_one xs [] n (8 * m + 400) m (by show 0 + _ ≤ _; omega) (by omega) (by omega)
      rw [List.nil_append] at h3
      rw [← h3]
      exact unwrap_any A1 m c1 n _ _ _ W h hc (by omega) (by omega) (by omega) (by omega))
    have hisx := Gz.is_made xs
    have his := hide (fun A1 c1 W (h : Rd W W.heap.size A1 m ((Gz.wrap xs).map bv)) => is_any A1 m c1 W.heap.size (Gz.wrap xs) W h (by omega))
    rw [hisx] at his
    have hra := hide (fun W (h : Below w.heap.size w W) => hr.below h)
    have hrb := hide (fun W (h : Below w.heap.size w W) => hr'.below h)
    generalize Gz.wrap xs = WX at *
    generalize Gz.wrap ys = WY at *
    clear hr hr' hbig hn hn' hisx
    replace hm := hide hm
    replace hm' := hide hm'
    go_enter Try.func12, Try.ntmps12
    go_wp2_with fail
    refine hw1.out.mono ?_
    rintro e w1 ⟨A1, c1, rfl, o1, b1⟩
    have hc1 := hide (show m ≤ c1 from by rcases o1.form with ⟨_, h, _⟩ | ⟨_, _, _, _, h, _⟩; (omega); exact h)
    have hw2 := hide (hw2.out w1 b1)
    have r1 := hide (fun W (h : Below w1.heap.size w1 W) => o1.rd.below h)
    have hs1 := hide (show ∀ W, Below w1.heap.size w1 W → w1.heap.size ≤ W.heap.size from fun W h => h.size)
    have b1 := hide b1
    clear o1
    have hh := hide (fun W (h : Below w1.heap.size w1 W) => b1.out.trans (h.mono b1.out.size))
    go_wp2_with fail
    refine hw2.out.mono ?_
    rintro e w2 ⟨A2, c2, rfl, o2, b2⟩
    have b2 := hide b2
    have o2 := hide o2
    obtain ⟨g3, hg3⟩ : ∃ k, w2.heap.size = k := ⟨_, rfl⟩
    obtain ⟨w3, hw3⟩ : ∃ W, w2.alloc (.cells #[] 5) = W := ⟨_, rfl⟩
    have hg13 := hide (show w1.heap.size ≤ g3 from by rw [← hg3]; exact b2.out.size)
    have b3 := hide (show Below w1.heap.size w1 w3 from by rw [← hw3]; exact b2.out.alloc b2.out.size _)
    have o3 := hide (show Ow w3 w1.heap.size 5 (some ⟨g3, 0, none⟩) 0 0 [] from by rw [← hw3, ← hg3]; exact Ow.lit w2 #[] b2.out.size (by decide))
    have p3 := hide (show Ow w3 w1.heap.size 5 A2 m' c2 (WY.map bv) from by rw [← hw3]; exact o2.out.alloc _)
    have ha2 := hide (show ∀ k, blk A2 = some k → k ≠ g3 from fun k hk => by have := (o2.out.blk_lt k hk).2; omega)
    have r3 := hide (r1.out w3 b3.out)
    have q1 := hide (show 0 + m ≤ maxLen from by simp only [maxLen]; omega)
    have q2 := hide (show m + m' ≤ maxLen from by simp only [maxLen]; omega)
    have q3 := hide (show (0 + m) * 1 ≤ 140737488355328 from by omega)
    have q4 := hide (show (m + m') * 1 ≤ 140737488355328 from by omega)
    clear o2
    go_wp2_with (first
      | (at_builtin; refine wpList_append_rd w3 rfl (.tmp 33) (.tmp 34) rfl elem_byte rfl o3.out rfl r3.out (one_bv2 WX) q1.out q3.out b3.out.size ?_; intro A4 c4 w4 o4 k4 n4; have b4 := hide (b3.out.trans (k4.to_below b3.out.size (fun i hi => (o3.out.blk_lt i hi).1))); rw [Nat.zero_add, List.nil_append] at o4; have o4 := hide o4; have p4 := hide (p3.out.chg k4 (fun k h1 h2 => ha2.out k h1 (by simpa [blk] using h2.symm))); clear k4 n4)
      | (at_builtin; refine wpList_append_rd w4 rfl (.tmp 35) (.tmp 36) rfl elem_byte rfl o4.out rfl p4.out.rd (one_bv2 WY) q2.out q4.out b4.out.size ?_; intro A5 c5 w5 o5 k5 n5; have b5 := hide (b4.out.trans (k5.to_below b4.out.size (fun i hi => (o4.out.blk_lt i hi).1))); have hun := hide ((hun.out A5 c5 w5 (by rw [List.map_append]; exact o5.rd) (by rcases o5.form with ⟨_, h, _⟩ | ⟨_, _, _, _, h, _⟩; (omega); exact h))); clear k5 n5 o5)
      | fail)
    refine (hun.out.mono fun e w' h => UnPost.ok h (n + n') (by rw [List.length_append, hl, hl'])) |>.mono ?_
    rintro e w6 ⟨A6, c6, rfl, o6, b6⟩
    have b6 := hide (b5.out.trans (b6.mono b5.out.size))
    have r6 := hide (fun W (h : Below w6.heap.size w6 W) => o6.rd.below h)
    have hun2 := hide ((hun2.out A1 c1 w6 ((r1.out w6 b6.out).mono b6.out.size) hc1.out).mono fun e w' h => UnPost.ok h n hl)
    clear hun p3 p4 o3 o4 r3
    go_wp2_with fail
    refine hun2.out.mono ?_
    rintro e w7 ⟨A7, c7, rfl, o7, b7⟩
    have r6 := hide (fun W (h : Below w7.heap.size w7 W) => r6.out W (b7.trans (h.mono b7.size)))
    have b7 := hide (b6.out.trans (b7.mono b6.out.size))
    have r7 := hide (fun W (h : Below w7.heap.size w7 W) => o7.rd.below h)
    clear hun2 o7
    go_upto_region 8 with fail
    have hcmp := two_strs xs ys
    have hz0 : IntKind.i64.wrap 0 = 0 := by rw [IntKind.wrap_i64]; rfl
    have hnn : n + n' ≤ 9223372036854775807 := by omega
    have hs0 := hide (show Grw w7 w7.drew from ⟨rfl, rfl, rfl, Nat.le_refl _, fun _ _ => rfl⟩)
    have hw8 : ∃ W, w7.drew = W := ⟨_, rfl⟩
    have b17 := hide (fun W (h : Grw w7 W) => b7.out.trans (h.out.mono b7.out.size))
    clear hw1 hw2
    refine wp_region_held_drew (S := Grw w7) (by kernel_rfl) hs0.out ?_
    obtain ⟨wd, hwd⟩ := hw8
    rw [hwd] at hs0 ⊢
    have hRd := hide (hR.out wd (hh.out _ (b17.out _ hs0.out)))
    intro hS0
    refine gtake (i := 0) (d := 50) (v := .int .i64 0) rfl rfl (by kernel_rfl) (by kernel_rfl) (by kernel_rfl) (fun _ _ _ h => h) (.inl ⟨rfl, fun W _ => by go_simp⟩) (by assumption) ?_
    simp only [Act.put, List.setIfInBounds_toArray, List.set_cons_zero, List.set_cons_succ]
    refine gtake (i := 2) (d := 52) (v := .int .i64 0) rfl rfl (by kernel_rfl) (by kernel_rfl) (by kernel_rfl) (fun _ _ _ h => h) (.inl ⟨rfl, fun W _ => by go_simp⟩) (by assumption) ?_
    simp only [Act.put, List.setIfInBounds_toArray, List.set_cons_zero, List.set_cons_succ]
    refine gtake (i := 5) (d := 55) (v := .int .i64 0) rfl rfl (by kernel_rfl) (by kernel_rfl) (by kernel_rfl) (fun _ _ _ h => h) (.inl ⟨rfl, fun W _ => by go_simp⟩) (by assumption) ?_
    simp only [Act.put, List.setIfInBounds_toArray, List.set_cons_zero, List.set_cons_succ]
    refine gtake (i := 8) (d := 58) (v := .int .i64 0) rfl rfl (by kernel_rfl) (by kernel_rfl) (by kernel_rfl) (fun _ _ _ h => h) (.inl ⟨rfl, fun W _ => by go_simp⟩) (by assumption) ?_
    simp only [Act.put, List.setIfInBounds_toArray, List.set_cons_zero, List.set_cons_succ]
    refine wpAnyH_ready (rs := [1]) (by kernel_rfl) (by simp) ?_
    refine AllReadyH.cons (o := ⟨some 51, _, _, _, _, _⟩) rfl (fun K hK => ?_) AllReadyH.nil
    rw [if_pos (by rfl)]
    go_simp
    go_at_call 39
    (with_reducible refine (hcode.out _).mono ?_)
    rintro e w' ⟨rfl, rfl⟩
    refine hK.out _ _ (by assumption) (fun hS => ?_)
    clear hK
    refine wpAnyH_ready (rs := [3]) (by kernel_rfl) (by simp) ?_
    refine AllReadyH.cons (o := ⟨some 53, _, _, _, _, _⟩) rfl (fun K hK => ?_) AllReadyH.nil
    rw [if_pos (by rfl)]
    go_simp
    go_at_call 39
    (with_reducible refine (hcode.out _).mono ?_)
    rintro e w' ⟨rfl, rfl⟩
    refine hK.out _ _ (by assumption) (fun hS => ?_)
    clear hK
    refine gtake (i := 4) (d := 54) (v := .int .i64 0) rfl rfl (by kernel_rfl) (by kernel_rfl) (by kernel_rfl) (fun _ _ _ h => h) (.inl ⟨rfl, fun W _ => by go_simp⟩) (by assumption) ?_
    simp only [Act.put, List.setIfInBounds_toArray, List.set_cons_zero, List.set_cons_succ]
    refine wpAnyH_ready (rs := [6]) (by kernel_rfl) (by simp) ?_
    refine AllReadyH.cons (o := ⟨some 56, _, _, _, _, _⟩) rfl (fun K hK => ?_) AllReadyH.nil
    rw [if_pos (by rfl)]
    go_simp
    go_at_call 39
    (with_reducible refine (hcode.out _).mono ?_)
    rintro e w' ⟨rfl, rfl⟩
    refine hK.out _ _ (by assumption) (fun hS => ?_)
    clear hK
    refine gtake (i := 7) (d := 57) (v := .int .i64 0) rfl rfl (by kernel_rfl) (by kernel_rfl) (by kernel_rfl) (fun _ _ _ h => h) (.inl ⟨rfl, fun W _ => by go_simp⟩) (by assumption) ?_
    simp only [Act.put, List.setIfInBounds_toArray, List.set_cons_zero, List.set_cons_succ]
    refine wpAnyH_ready (rs := [9]) (by kernel_rfl) (by simp) ?_
    refine AllReadyH.cons (o := ⟨some 59, _, _, _, _, _⟩) rfl (fun K hK => ?_) AllReadyH.nil
    rw [if_pos (by rfl)]
    go_simp
    go_at_call 39
    (with_reducible refine (hcode.out _).mono ?_)
    rintro e w' ⟨rfl, rfl⟩
    refine hK.out _ _ (by assumption) (fun hS => ?_)
    clear hK
    refine gtake (i := 10) (d := 60) (v := .int .i64 0) rfl rfl (by kernel_rfl) (by kernel_rfl) (by kernel_rfl) (fun _ _ _ h => h) (.inl ⟨rfl, fun W _ => by go_simp⟩) (by assumption) ?_
    simp only [Act.put, List.setIfInBounds_toArray, List.set_cons_zero, List.set_cons_succ]
    refine gtake (i := 11) (d := 61) (v := .bool true) rfl rfl (by kernel_rfl) (by kernel_rfl) (by kernel_rfl) (fun _ _ _ h => h) (.inl ⟨rfl, fun W _ => by go_simp⟩) (by assumption) ?_
    simp only [Act.put, List.setIfInBounds_toArray, List.set_cons_zero, List.set_cons_succ]
    refine gtake (i := 12) (d := 62) (v := .bool true) rfl rfl (by kernel_rfl) (by kernel_rfl) (by kernel_rfl) (fun _ _ _ h => h) (.inl ⟨rfl, fun W _ => by go_simp⟩) (by assumption) ?_
    simp only [Act.put, List.setIfInBounds_toArray, List.set_cons_zero, List.set_cons_succ]
    refine gtake (i := 13) (d := 63) (v := .slice A1 m c1) rfl rfl (by kernel_rfl) (by kernel_rfl) (by kernel_rfl) (fun _ _ _ h => h) (.inl ⟨rfl, fun W _ => by go_simp⟩) (by assumption) ?_
    simp only [Act.put, List.setIfInBounds_toArray, List.set_cons_zero, List.set_cons_succ]
    refine gtake (i := 14) (d := 64) (v := .string ⟨(WX).toArray⟩) rfl rfl (by kernel_rfl) (by kernel_rfl) (by kernel_rfl) (fun _ _ _ h => h) (gyields_str rfl (.tmp 63) rfl A1 m c1 w1.heap.size (WX) rfl (fun W hW => r1.out W (b17.out W hW))) (by assumption) ?_
    simp only [Act.put, List.setIfInBounds_toArray, List.set_cons_zero, List.set_cons_succ]
    refine gtake (i := 15) (d := 65) (v := .slice A n c) rfl rfl (by kernel_rfl) (by kernel_rfl) (by kernel_rfl) (fun _ _ _ h => h) (.inl ⟨rfl, fun W _ => by go_simp⟩) (by assumption) ?_
    simp only [Act.put, List.setIfInBounds_toArray, List.set_cons_zero, List.set_cons_succ]
    refine wpAnyH_ready (rs := [16]) (by kernel_rfl) (by simp) ?_
    refine AllReadyH.cons (o := ⟨some 66, _, _, _, _, _⟩) rfl (fun K hK => ?_) AllReadyH.nil
    rw [if_pos (by rfl)]
    go_simp
    go_at_call 40
    (with_reducible refine (hRd.out).mono ?_)
    rintro e w8 ⟨A8, m8, c8, rfl, r8, hbw8⟩
    have hsw8 : Grw w7 w8 := (hS0).out.trans (hbw8.mono (hS0).out.size)
    clear hbw8
    have r8 := hide r8
    have g8 := hide (fun W (h : Grw w8 W) => hsw8.out.trans (h.out.mono hsw8.out.size))
    have his := hide (his.out A1 c1 w8 ((r1.out w8 (b17.out _ hsw8)).mono (b17.out _ hsw8).size))
    refine hK.out _ _ hsw8 (fun _ => ?_)
    clear hK
    refine gAnyH_strong (S' := Grw w8) (fun W hW => Below.trans hsw8 (hW.out.mono hsw8.out.size)) _ _ _ _ ?_
    have h0w8 : Grw w8 w8 := Below.refl _ _
    refine gtake (i := 17) (d := 67) (v := .string ⟨(WX).toArray⟩) rfl rfl (by kernel_rfl) (by kernel_rfl) (by kernel_rfl) (fun _ _ _ h => h) (gyields_str rfl (.tmp 66) rfl A8 m8 c8 w8.heap.size (WX) rfl (fun W hW => r8.out.below hW.out)) (by assumption) ?_
    simp only [Act.put, List.setIfInBounds_toArray, List.set_cons_zero, List.set_cons_succ]
    refine gtake (i := 18) (d := 68) (v := .bool true) rfl rfl (by kernel_rfl) (by kernel_rfl) (by kernel_rfl) (fun _ _ _ h => h) (.inl ⟨rfl, fun W _ => by go_simp⟩) (by assumption) ?_
    simp only [Act.put, List.setIfInBounds_toArray, List.set_cons_zero, List.set_cons_succ]
    refine gtake (i := 19) (d := 69) (v := .bool true) rfl rfl (by kernel_rfl) (by kernel_rfl) (by kernel_rfl) (fun _ _ _ h => h) (.inl ⟨rfl, fun W _ => by go_simp⟩) (by assumption) ?_
    simp only [Act.put, List.setIfInBounds_toArray, List.set_cons_zero, List.set_cons_succ]
    refine gtake (i := 20) (d := 70) (v := .bool true) rfl rfl (by kernel_rfl) (by kernel_rfl) (by kernel_rfl) (fun _ _ _ h => h) (.inl ⟨rfl, fun W _ => by go_simp⟩) (by assumption) ?_
    simp only [Act.put, List.setIfInBounds_toArray, List.set_cons_zero, List.set_cons_succ]
    refine gtake (i := 21) (d := 71) (v := (.slice A6 (n + n') c6)) rfl rfl (by kernel_rfl) (by kernel_rfl) (by kernel_rfl) (fun _ _ _ h => h) (.inl ⟨rfl, fun W _ => by go_simp⟩) (by assumption) ?_
    simp only [Act.put, List.setIfInBounds_toArray, List.set_cons_zero, List.set_cons_succ]
    refine gtake (i := 22) (d := 72) (v := .string ⟨(xs ++ ys).toArray⟩) rfl rfl (by kernel_rfl) (by kernel_rfl) (by kernel_rfl) (fun _ _ _ h => h) (gyields_str rfl (.tmp 71) rfl A6 (n + n') c6 w6.heap.size (xs ++ ys) rfl (fun W hW => r6.out W (g8.out W hW))) (by assumption) ?_
    simp only [Act.put, List.setIfInBounds_toArray, List.set_cons_zero, List.set_cons_succ]
    refine gtake (i := 23) (d := 73) (v := .slice A n c) rfl rfl (by kernel_rfl) (by kernel_rfl) (by kernel_rfl) (fun _ _ _ h => h) (.inl ⟨rfl, fun W _ => by go_simp⟩) (by assumption) ?_
    simp only [Act.put, List.setIfInBounds_toArray, List.set_cons_zero, List.set_cons_succ]
    refine gtake (i := 24) (d := 74) (v := .string ⟨(xs).toArray⟩) rfl rfl (by kernel_rfl) (by kernel_rfl) (by kernel_rfl) (fun _ _ _ h => h) (gyields_str rfl (.tmp 73) rfl A n c w.heap.size (xs) rfl (fun W hW => hra.out W (hh.out W (b17.out W (g8.out W hW))))) (by assumption) ?_
    simp only [Act.put, List.setIfInBounds_toArray, List.set_cons_zero, List.set_cons_succ]
    refine gtake (i := 25) (d := 75) (v := (.slice A' n' c')) rfl rfl (by kernel_rfl) (by kernel_rfl) (by kernel_rfl) (fun _ _ _ h => h) (.inl ⟨rfl, fun W _ => by go_simp⟩) (by assumption) ?_
    simp only [Act.put, List.setIfInBounds_toArray, List.set_cons_zero, List.set_cons_succ]
    refine gtake (i := 26) (d := 76) (v := .string ⟨(ys).toArray⟩) rfl rfl (by kernel_rfl) (by kernel_rfl) (by kernel_rfl) (fun _ _ _ h => h) (gyields_str rfl (.tmp 75) rfl A' n' c' w.heap.size (ys) rfl (fun W hW => hrb.out W (hh.out W (b17.out W (g8.out W hW))))) (by assumption) ?_
    simp only [Act.put, List.setIfInBounds_toArray, List.set_cons_zero, List.set_cons_succ]
    refine gtake (i := 27) (d := 77) (v := .string ((⟨xs.toArray⟩ : ByteArray) ++ (⟨ys.toArray⟩ : ByteArray))) rfl rfl (by kernel_rfl) (by kernel_rfl) (by kernel_rfl) (fun _ _ _ h => h) (.inl ⟨rfl, fun W _ => by go_simp⟩) (by assumption) ?_
    simp only [Act.put, List.setIfInBounds_toArray, List.set_cons_zero, List.set_cons_succ]
    refine gtake (i := 28) (d := 78) (v := .bool true) rfl rfl (by kernel_rfl) (by kernel_rfl) (by kernel_rfl) (fun _ _ _ h => h) (.inl ⟨rfl, fun W _ => by go_simp⟩) (by assumption) ?_
    simp only [Act.put, List.setIfInBounds_toArray, List.set_cons_zero, List.set_cons_succ]
    refine gtake (i := 29) (d := 79) (v := .bool true) rfl rfl (by kernel_rfl) (by kernel_rfl) (by kernel_rfl) (fun _ _ _ h => h) (.inl ⟨rfl, fun W _ => by go_simp⟩) (by assumption) ?_
    simp only [Act.put, List.setIfInBounds_toArray, List.set_cons_zero, List.set_cons_succ]
    refine gtake (i := 30) (d := 80) (v := .bool true) rfl rfl (by kernel_rfl) (by kernel_rfl) (by kernel_rfl) (fun _ _ _ h => h) (.inl ⟨rfl, fun W _ => by go_simp⟩) (by assumption) ?_
    simp only [Act.put, List.setIfInBounds_toArray, List.set_cons_zero, List.set_cons_succ]
    refine gtake (i := 31) (d := 81) (v := .slice A7 n c7) rfl rfl (by kernel_rfl) (by kernel_rfl) (by kernel_rfl) (fun _ _ _ h => h) (.inl ⟨rfl, fun W _ => by go_simp⟩) (by assumption) ?_
    simp only [Act.put, List.setIfInBounds_toArray, List.set_cons_zero, List.set_cons_succ]
    refine gtake (i := 32) (d := 82) (v := .string ⟨(xs).toArray⟩) rfl rfl (by kernel_rfl) (by kernel_rfl) (by kernel_rfl) (fun _ _ _ h => h) (gyields_str rfl (.tmp 81) rfl A7 n c7 w7.heap.size (xs) rfl (fun W hW => r7.out W (g8.out W hW))) (by assumption) ?_
    simp only [Act.put, List.setIfInBounds_toArray, List.set_cons_zero, List.set_cons_succ]
    refine gtake (i := 33) (d := 83) (v := .slice A n c) rfl rfl (by kernel_rfl) (by kernel_rfl) (by kernel_rfl) (fun _ _ _ h => h) (.inl ⟨rfl, fun W _ => by go_simp⟩) (by assumption) ?_
    simp only [Act.put, List.setIfInBounds_toArray, List.set_cons_zero, List.set_cons_succ]
    refine gtake (i := 34) (d := 84) (v := .string ⟨(xs).toArray⟩) rfl rfl (by kernel_rfl) (by kernel_rfl) (by kernel_rfl) (fun _ _ _ h => h) (gyields_str rfl (.tmp 83) rfl A n c w.heap.size (xs) rfl (fun W hW => hra.out W (hh.out W (b17.out W (g8.out W hW))))) (by assumption) ?_
    simp only [Act.put, List.setIfInBounds_toArray, List.set_cons_zero, List.set_cons_succ]
    refine gtake (i := 35) (d := 85) (v := .bool true) rfl rfl (by kernel_rfl) (by kernel_rfl) (by kernel_rfl) (fun _ _ _ h => h) (.inl ⟨rfl, fun W _ => by go_simp⟩) (by assumption) ?_
    simp only [Act.put, List.setIfInBounds_toArray, List.set_cons_zero, List.set_cons_succ]
    refine gtake (i := 36) (d := 86) (v := .bool true) rfl rfl (by kernel_rfl) (by kernel_rfl) (by kernel_rfl) (fun _ _ _ h => h) (.inl ⟨rfl, fun W _ => by go_simp⟩) (by assumption) ?_
    simp only [Act.put, List.setIfInBounds_toArray, List.set_cons_zero, List.set_cons_succ]
    refine gtake (i := 37) (d := 87) (v := .bool true) rfl rfl (by kernel_rfl) (by kernel_rfl) (by kernel_rfl) (fun _ _ _ h => h) (.inl ⟨rfl, fun W _ => by go_simp⟩) (by assumption) ?_
    simp only [Act.put, List.setIfInBounds_toArray, List.set_cons_zero, List.set_cons_succ]
    refine gtake (i := 38) (d := 88) (v := .slice A1 m c1) rfl rfl (by kernel_rfl) (by kernel_rfl) (by kernel_rfl) (fun _ _ _ h => h) (.inl ⟨rfl, fun W _ => by go_simp⟩) (by assumption) ?_
    simp only [Act.put, List.setIfInBounds_toArray, List.set_cons_zero, List.set_cons_succ]
    refine wpAnyH_ready (rs := [39]) (by kernel_rfl) (by simp) ?_
    refine AllReadyH.cons (o := ⟨some 89, _, _, _, _, _⟩) rfl (fun K hK => ?_) AllReadyH.nil
    rw [if_pos (by rfl)]
    go_simp
    go_at_call 41
    (with_reducible refine (his.out).mono ?_)
    rintro e w' ⟨rfl, rfl⟩
    refine hK.out _ _ (by assumption) (fun hS => ?_)
    clear hK
    refine gtake (i := 40) (d := 90) (v := .bool true) rfl rfl (by kernel_rfl) (by kernel_rfl) (by kernel_rfl) (fun _ _ _ h => h) (.inl ⟨rfl, fun W _ => by go_simp⟩) (by assumption) ?_
    simp only [Act.put, List.setIfInBounds_toArray, List.set_cons_zero, List.set_cons_succ]
    refine gtake (i := 41) (d := 91) (v := .bool true) rfl rfl (by kernel_rfl) (by kernel_rfl) (by kernel_rfl) (fun _ _ _ h => h) (.inl ⟨rfl, fun W _ => by go_simp⟩) (by assumption) ?_
    simp only [Act.put, List.setIfInBounds_toArray, List.set_cons_zero, List.set_cons_succ]
    refine wpAnyH_ready (rs := [42]) (by kernel_rfl) (by simp) ?_
    refine AllReadyH.cons (o := ⟨some 92, _, _, _, _, _⟩) rfl (fun K hK => ?_) AllReadyH.nil
    rw [if_pos (by rfl)]
    go_simp
    go_at_call 36
    (with_reducible refine (hlive.out _).mono ?_)
    rintro e w9 ⟨rfl, hbw9⟩
    have hsw9 : Grw w8 w9 := (h0w8).out.trans (hbw9.mono (h0w8).out.size)
    clear hbw9
    have b9 := hide (hh.out _ (b17.out _ (g8.out _ hsw9)))
    refine hK.out _ _ hsw9 (fun _ => ?_)
    clear hK
    refine gAnyH_strong (S' := Grw w9) (fun W hW => Below.trans hsw9 (hW.out.mono hsw9.out.size)) _ _ _ _ ?_
    have h0w9 : Grw w9 w9 := Below.refl _ _
    refine gtake (i := 43) (d := 93) (v := .bool true) rfl rfl (by kernel_rfl) (by kernel_rfl) (by kernel_rfl) (fun _ _ _ h => h) (.inl ⟨rfl, fun W _ => by go_simp⟩) (by assumption) ?_
    simp only [Act.put, List.setIfInBounds_toArray, List.set_cons_zero, List.set_cons_succ]
    refine gtake (i := 44) (d := 4) (v := .bool true) rfl rfl (by kernel_rfl) (by kernel_rfl) (by kernel_rfl) (fun _ _ _ h => h) (.inl ⟨rfl, fun W _ => by go_simp⟩) (by assumption) ?_
    simp only [Act.put, List.setIfInBounds_toArray, List.set_cons_zero, List.set_cons_succ]
    refine wpAnyH_done (by kernel_rfl) ?_ _
    go_wp2
    go_ret
    exact ⟨rfl, b9.out⟩

end Go.Proofs.Ythplpoijkebjbaa
