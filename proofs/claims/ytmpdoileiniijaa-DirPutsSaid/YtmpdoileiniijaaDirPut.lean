/- Layer 12 (dir): entries put as bytes: numbers as bytes (wire), the closure that appends one, and Put. There is no condition but where the slice lies. -/
import Derived.Test.YtmpdoileiniijaaDir
import Derived.Deep.AppendLies
import Derived.Deep.RegionLaw
import Derived.Deep.Cut
import Derived.BigQuiet
import Derived.BigRegion
import Derived.RegionTactic
namespace Go.Proofs.Ytmpdoileiniijaa
open Go.RowKit

/-- A number as bytes, seven bits in each, the lowest first. -/
def vbF : Nat → Nat → List UInt8
  | 0, v => [UInt8.ofNat v]
  | f + 1, v => if v < 128 then [UInt8.ofNat v] else UInt8.ofNat (v % 128 + 128) :: vbF f (v / 128)
def vb (v : Nat) : List UInt8 := vbF 9 v
theorem vbF_len (f v : Nat) : (vbF f v).length ≤ f + 1 := by
  induction f generalizing v with
  | zero => simp [vbF]
  | succ f ih =>
    unfold vbF
    split
    · simp
    · have := ih (v / 128)
      simp
      omega
theorem vb_len (v : Nat) : (vb v).length ≤ 10 := vbF_len 9 v
theorem elem_byte : Elem1 Try.prog 22 5 (.int .u8 0) 1 := ⟨Try.underlying22, by kernel_rfl, rfl⟩
theorem bv_one (bs : List UInt8) : ∀ u ∈ bs.map bv, u.oneCell' = true := by
  intro u hu
  obtain ⟨b, _, rfl⟩ := List.mem_map.1 hu
  rfl
theorem or128 : ∀ x, x < 256 → x ||| 128 = x % 128 + 128 := by decide +kernel

theorem clone_nil (w : World) : Calls Try.prog 54 #[.slice none 0 0] w fun e w' => e = .returned (.slice none 0 0) ∧ w = w' := by
  have he := fun (W : World) (x : Option Addr) (i j : Nat) => Lib.run_eql_slice_nil (P := Try.prog) W 22 5 x i j 0 0 Try.underlying22
  go_enter Try.func54, Try.ntmps54
  go_wp2
  go_ret
  exact ⟨rfl, rfl⟩

structure Sm (V k : Nat) : Prop where
  h : V ≤ 18446744073709551615 / 128 ^ k

set_option maxRecDepth 100000 in
set_option maxHeartbeats 1000000 in
theorem putvarint_any (v : Nat) (w : World) (hv : Sm v 0) :
    Calls Try.prog 43 #[.slice none 0 0, .int .u64 (v : Int)] w fun e w' => ∃ A c, e = .returned (.slice A (vb v).length c) ∧ Ow w' w.heap.size 5 A (vb v).length c ((vb v).map bv) ∧ Below w.heap.size w w' := by
  have hcl := hide (fun W => clone_nil W)
  go_enter Try.func43, Try.ntmps43
  go_wp2_with (go_at_call 54; (with_reducible refine (hcl.out _).mono ?_); rintro e w' ⟨rfl, rfl⟩)
  go_loopw [0, 1] (fun s x wr => ∃ k V : Nat, ∃ pre : List UInt8, ∃ A c, k ≤ 9 ∧ x = .int .u64 (V : Int) ∧ s = .slice A pre.length c ∧ Sm V k ∧ Hid (vb v = pre ++ vbF (9 - k) V) ∧ Hid (pre.length = k) ∧ Hid (Ow wr w.heap.size 5 A pre.length c (pre.map bv)) ∧ Hid (Below w.heap.size w wr)) (fun _ x _ => (intOf x).toNat)
  case atStart => exact ⟨0, v, [], none, 0, by omega, rfl, rfl, hv, hide rfl, hide rfl, hide (Ow.nil _ _ _), hide (Below.refl _ _)⟩
  case round =>
    obtain ⟨k, V, pre, A, c, hk, rfl, rfl, hV, hpre, hpl, ho, hb⟩ := hrel
    have hpl10 : pre.length ≤ 9 := by have := hpl.out; omega
    by_cases hlt : V < 128
    · have hVI : (V : Int) ≤ 127 := by omega
      have he : Hid (vb v = pre ++ [UInt8.ofNat V]) := hide (by
        rw [hpre.out]
        cases h9 : 9 - k with
        | zero => rfl
        | succ f => rw [vbF, if_pos hlt])
      have hlen : Hid ((vb v).length = pre.length + 1) := hide (by rw [he.out, List.length_append]; rfl)
      have hbv : Hid (bv (UInt8.ofNat V) = .int .u8 (V : Int)) := hide (by rw [bv, UInt8.toNat_ofNat', Nat.mod_eq_of_lt (by omega)])
      clear hlt hk
      go_wp2_with (at_builtin; refine wpList_append_one wr rfl (.tmp 17) (.tmp 20) rfl elem_byte rfl ho.out (.int .u8 (V : Int)) 5 _ rfl rfl (by simp only [maxLen]; omega) (by omega) hb.out.size ?_; intro A3 c3 w3 ho3 hg3 hn3; have hb3 := hide (hb.out.trans (hg3.to_below (B := w.heap.size) hb.out.size (fun i hi => (ho.out.blk_lt i hi).1))); have ho3 := hide ho3; clear hg3 hn3)
      go_ret
      exact ⟨A3, c3, by rw [hlen.out]; rfl, by rw [hlen.out, he.out, List.map_append, List.map_singleton, hbv.out]; exact ho3.out, hb3.out⟩
    · have hk9 : k < 9 := by
        rcases Nat.lt_or_ge k 9 with h | h
        · exact h
        · obtain rfl : k = 9 := by omega
          have := hV.h
          omega
      have hVI : (128 : Int) ≤ V := by omega
      have he : Hid (vb v = (pre ++ [UInt8.ofNat (V % 128 + 128)]) ++ vbF (9 - (k + 1)) (V / 128)) := hide (by
        rw [hpre.out, show 9 - k = 9 - (k + 1) + 1 from by omega, vbF, if_neg hlt, List.append_assoc]
        rfl)
      have hV2 : Sm (V / 128) (k + 1) := ⟨by rw [Nat.pow_succ, ← Nat.div_div_eq_div_mul]; exact Nat.div_le_div_right hV.h⟩
      have hor : bits .or .u8 ((V : Int) % 256) 128 = ((V % 128 + 128 : Nat) : Int) := by
        rw [show (V : Int) % 256 = ((V % 256 : Nat) : Int) from by omega, show (128 : Int) = ((128 : Nat) : Int) from rfl, u8_or_nat _ _ (by omega) (by omega), or128 _ (by omega)]
        omega
      have hbv : Hid (bv (UInt8.ofNat (V % 128 + 128)) = .int .u8 ((V % 128 + 128 : Nat) : Int)) := hide (by rw [bv, UInt8.toNat_ofNat', Nat.mod_eq_of_lt (by omega)])
      have hm : Hid (V / 128 < V) := hide (by omega)
      obtain ⟨X, hX⟩ : ∃ X, V % 128 + 128 = X := ⟨_, rfl⟩
      rw [hX] at hor hbv he
      clear hlt hX
      go_wp2_with (at_builtin; refine wpList_append_one wr rfl (.tmp 9) (.tmp 13) rfl elem_byte rfl ho.out (.int .u8 (X : Int)) 5 _ rfl rfl (by simp only [maxLen]; omega) (by omega) hb.out.size ?_; intro A3 c3 w3 ho3 hg3 hn3; have hb3 := hide (hb.out.trans (hg3.to_below (B := w.heap.size) hb.out.size (fun i hi => (ho.out.blk_lt i hi).1))); have ho3 := hide ho3; clear hg3 hn3)
      go_roundw
      case rel => exact ⟨k + 1, V / 128, pre ++ [UInt8.ofNat X], A3, c3, by omega, int_eq (by omega), by rw [List.length_append]; rfl, hV2, he, hide (by rw [List.length_append, hpl.out]; rfl), hide (by rw [List.map_append, List.map_singleton, hbv.out, List.length_append]; exact ho3.out), hb3⟩
      case measure => simp [intOf] <;> (have := hm.out; omega)

theorem step_append_rd' {P : Program} (w : World) {ops : Array Oper} {o : Oper} {a : Act} {K : Act → World → Prop} {Q : Exit → Act → World → Prop} {E0 : Prop} (hgd : o.guard = none) (s x : Operand) {t e : TypeId}
    (ho : o.op = .call { callee := .builtin .append, args := #[s, x], argTypes := #[t, t] }) {z : Value} {bytes : Nat} (E : Elem1 P t e z bytes)
    {base n c : Nat} {A : Option Addr} {xs : List Value} (hs : a.eval s = .slice A n c) (h : Ow w base e A n c xs)
    {B m c2 : Nat} {A2 : Option Addr} {news : List Value} (hx : a.eval x = .slice A2 m c2) (hr : Rd w B A2 m news) (h1 : ∀ u ∈ news, u.oneCell' = true)
    (h63 : n + m ≤ maxLen) (hbytes : (n + m) * bytes ≤ 140737488355328) (hbase : base ≤ w.heap.size)
    (hk : ∀ A' c' w', Ow w' base e A' (n + m) c' (xs ++ news) → Chg (fun k => blk A = some k) w w' → (blk A' = blk A ∨ blk A' = some w.heap.size) → K (a.put o.dst (.slice A' (n + m) c')) w') :
    if Region.wanted o (yielded ops a.tmps) = true then Oper.wp P o a w K Q else E0 := by
  have hw : Region.wanted o (yielded ops a.tmps) = true := by simp [Region.wanted, hgd]
  rw [if_pos hw]
  obtain ⟨A', c', w', hrun, h2, h3, h4⟩ := run_append_rd (P := P) w E o.type (c2 := c2) h hr h1 h63 hbytes hbase
  unfold Oper.wp execOp
  simp only [ho, resolve, invoke, builtin, Sem.run_bind, Sem.run_pure, Result.andThen_ok, List.map_toArray, List.map_cons, List.map_nil, hs, hx, hrun]
  exact hk A' c' w' h2 h3 h4

/-- The variable at block g holds the call's own bytes. -/
def BoxB (B : Nat) (w : World) (g : Nat) (bs : List UInt8) : Prop := ∃ A c, Blk w g 22 #[.slice A bs.length c] ∧ Ow w B 5 A bs.length c (bs.map bv) ∧ B ≤ g ∧ B ≤ w.heap.size
theorem BoxB.below {B g : Nat} {w w' : World} {bs : List UInt8} (h : BoxB B w g bs) (hb : Below w.heap.size w w') : BoxB B w' g bs := by
  obtain ⟨A, c, hk, ho, h1, h2⟩ := h
  exact ⟨A, c, hk.below hb hk.lt, ho.below hb, h1, Nat.le_trans h2 hb.size⟩

set_option maxRecDepth 100000 in
set_option maxHeartbeats 1000000 in
theorem put_any (B g v : Nat) (bs : List UInt8) (w : World) (h : BoxB B w g bs) (hv : Sm v 0) (hn : bs.length ≤ 1048576) :
    Calls Try.prog 44 #[.int .u64 (v : Int), .pointer (some ⟨g, 0, none⟩)] w fun e w' => e = .returned (.tuple #[]) ∧ BoxB B w' g (bs ++ vb v) ∧ Below B w w' ∧ ∀ k cs, Blk w k 43 cs → Blk w' k 43 cs := by
  obtain ⟨A, c, hk, ho, hBg, hBw⟩ := h
  have hE : Hid (∀ k cs, Blk w k 43 cs → Blk w.drew k 43 cs) := hide (fun _ _ h => h)
  have hpv := hide (fun W => putvarint_any v W hv)
  have hvl := vb_len v
  have c0 : w.cell? ⟨g, 0, none⟩ = some (.slice A bs.length c) := hk.cell 0
  have hq1 := hide (show bs.length + (vb v).length ≤ maxLen by simp only [maxLen]; omega)
  have hq2 := hide (show (bs.length + (vb v).length) * 1 ≤ 140737488355328 by omega)
  have hk' := hide (show Blk w.drew g 22 #[.slice A bs.length c] from hk)
  have ho' := hide (show Ow w.drew B 5 A bs.length c (bs.map bv) from ho)
  have hbd := hide (show Below B w w.drew from below_drewN (Below.refl B w) 1)
  have hBd : Hid (B ≤ w.drew.heap.size) := hide (by have := hbd.out.size; omega)
  have hone := hide (bv_one (vb v))
  have hlen : Hid ((bs ++ vb v).length = bs.length + (vb v).length) := hide (by simp)
  have hmap : Hid ((bs ++ vb v).map bv = bs.map bv ++ (vb v).map bv) := hide (by simp)
  generalize bs ++ vb v = bs2 at *
  generalize vb v = vs at *
  clear hn hvl ho
  go_enter Try.func44, Try.ntmps44
  go_upto_region 0 with fail
  go_region_law (first
    | (refine step_append_rd' _ (by rfl) (.tmp 3) (.tmp 5) (by rfl) elem_byte (by rfl) ho1.out (by rfl) hv1.out.rd hone.out hq1.out hq2.out hs1.out ?_; intro A3 c3 w3 ho3 hc3 hn3; have hk3 := hk1.out.chg hc3 (by intro hx; exact ho1.out.ne hk1.out (by decide) hx); have f3 := hk3.free 0; have d3 := hk3.cell 0; have hb3 := hide (hb1.out.trans (hc3.to_below (B := B) hs1.out (fun i hi => (ho1.out.blk_lt i hi).1))); have hE3 := hide (fun k cs (h : Blk w k 43 cs) => (hE1.out k cs h).chg hc3 (fun hx => ho1.out.ne (hE1.out k cs h) (by decide) hx)); have ho3 := hide ho3; have hk3 := hide hk3; clear hc3 hn3)
    | (go_simp; go_at_call 43; (with_reducible refine (hpv.out _).mono ?_); rintro e w1 ⟨A1, c1, rfl, hv1, hb1⟩; have hk1 := hide (hk'.out.below hb1 hk'.out.lt); have hE1 := hide (fun k cs (h : Blk w k 43 cs) => (hE.out k cs h).below hb1 (hE.out k cs h).lt); have ho1 := hide (ho'.out.below hb1); have d1 := hk1.out.cell 0; have hb1 := hide (hbd.out.trans (hb1.mono hBd.out)); have hs1 := hide (show B ≤ w1.heap.size by have := hb1.out.size; omega); have hv1 := hide hv1))
  all_goals
    go_end0
    have hset : Chg (fun k => k = g) w3 (w3.setCell ⟨g, 0, none⟩ (.slice A3 (bs.length + vs.length) c3)) := (Chg.refl (fun k => k = g) w3).setCell (p := ⟨g, 0, none⟩) (.inr rfl) _
    have hw3 : B ≤ w3.heap.size := by have := hb3.out.size; omega
    refine ⟨rfl, ⟨A3, c3, ?_, ?_, hBg, ?_⟩, ?_, ?_⟩
    · rw [hlen.out]
      exact hk3.out.set 0 _
    · rw [hlen.out, hmap.out]
      exact ho3.out.chg hset (by rintro k hkk rfl; exact ho3.out.ne hk3.out (by decide) hkk)
    · exact Nat.le_trans hw3 hset.size
    · exact hb3.out.trans (hset.to_below hw3 (by rintro k rfl; exact hBg))
    · intro k cs h
      have h3 := hE3.out k cs h
      exact h3.chg hset (by rintro rfl; exact h3.same hk3.out (by decide) rfl)

/-- Numbers as bytes, one behind the other. -/
def partB (f : Nat → Nat) (k : Nat) : List UInt8 := (List.range k).flatMap fun j => vb (f j)
theorem partB_succ (f : Nat → Nat) (k : Nat) : partB f (k + 1) = partB f k ++ vb (f k) := by simp [partB, List.range_succ]
theorem partB_len (f : Nat → Nat) (k : Nat) : (partB f k).length ≤ 10 * k := by
  induction k with
  | zero => simp [partB]
  | succ k ih => rw [partB_succ, List.length_append]; have := vb_len (f k); omega
def ent (es : List Ent) (j : Nat) : Ent := es.getD j ⟨0, 0, 0, 0⟩
def prevId (es : List Ent) (k : Nat) : Nat := if k = 0 then 0 else (ent es (k - 1)).id
def fId (es : List Ent) (j : Nat) : Nat := (ent es j).id - prevId es j
def fRun (es : List Ent) (j : Nat) : Nat := (ent es j).run
def fLen (es : List Ent) (j : Nat) : Nat := (ent es j).len
def fOff (es : List Ent) (j : Nat) : Nat := if 0 < j ∧ (ent es j).off = (ent es (j - 1)).off + (ent es (j - 1)).len then 0 else (ent es j).off + 1
/-- The bytes of entries. -/
def putB (es : List Ent) : List UInt8 := vb es.length ++ partB (fId es) es.length ++ partB (fRun es) es.length ++ partB (fLen es) es.length ++ partB (fOff es) es.length
theorem ent_at (es : List Ent) (j : Nat) (h : j < es.length) : ent es j = es[j] := by rw [ent, List.getD_eq_getElem?_getD, List.getElem?_eq_getElem h]; rfl
theorem Sm.of {v : Nat} (h : v ≤ 4611686018427387904) : Sm v 0 := ⟨by simp; omega⟩

set_option maxRecDepth 100000 in
set_option maxHeartbeats 4000000 in
theorem put_ok (A : Option Addr) (c : Nat) (es : List Ent) (w : World) (B : Nat) (hr : RdE w B A es) (hB : B ≤ w.heap.size) (hbg : ∀ x ∈ es, x.big) (hn : es.length ≤ 200) (hR : RightE es) :
    Calls Try.prog 22 #[.slice A es.length c] w fun e w' => ∃ A' c', e = .returned (.tuple #[.slice A' (putB es).length c', .int .i64 0]) ∧ Ow w' w.heap.size 5 A' (putB es).length c' ((putB es).map bv) ∧ Below w.heap.size w w' := by
  have hrt := hide (dright_any A c es w B hr hB hbg (by simp only [maxLen]; omega) true ⟨fun _ => rfl, fun _ => hR⟩)
  have hpv := hide (fun W => putvarint_any es.length W (Sm.of (by omega)))
  have hvl0 := hide (vb_len es.length)
  have hpl := hide (fun f => partB_len f es.length)
  obtain ⟨G, hG⟩ : ∃ G, w.heap.size = G := ⟨_, rfl⟩
  rw [hG] at hrt hB ⊢
  have hput := hide (fun (W : World) (g v : Nat) (bs : List UInt8) (h : BoxB G W g bs) (hv : Sm v 0) (hn : bs.length ≤ 1048576) => put_any G g v bs W h hv hn)
  have hrW := hide (fun W (h : Below G w W) => (hr.below (h.mono hB)))
  obtain ⟨n, hl⟩ : ∃ n, es.length = n := ⟨_, rfl⟩
  rw [hl] at hrt hpv hvl0 hpl ⊢
  have hnI : (n : Int) ≤ 200 := by omega
  have hn200 := hide (show n ≤ 200 by omega)
  replace hR := hide hR
  clear hr hbg hn
  go_enter Try.func22, Try.ntmps22
  go_upto_region 6 with (first
    | (go_at_call 23; (with_reducible refine hrt.out.mono ?_); rintro e w1 ⟨rfl, hb1⟩; have hb1 := hide hb1)
    | (go_at_call 43; (with_reducible refine (hpv.out _).mono ?_); rintro e w2 ⟨A2, c2, rfl, hv2, hb2⟩; have hz1 := hide hb1.out.size; have hv2 := hide (hv2.base_le (base' := G) (fun g hg => by have := (hv2.blk_lt g hg).1; have := hz1.out; omega)); have hb2 := hide (hb1.out.trans (hb2.mono (by have := hz1.out; omega)))))
  have hbx : Hid (BoxB G (w2.alloc (.cells #[Value.slice A2 (vb n).length c2] 22)) w2.heap.size (vb n)) := hide ⟨A2, c2, Blk.new w2 _ _, hv2.out.alloc _, by have := hb2.out.size; have := hz1.out; omega, by have := hb2.out.size; simp; omega⟩
  have hb3 := hide (hb2.out.trans ((Below.refl G w2).alloc (by have := hb2.out.size; omega) (.cells #[Value.slice A2 (vb n).length c2] 22)))
  generalize w2.alloc (.cells #[Value.slice A2 (vb n).length c2] 22) = W0 at *
  generalize w2.heap.size = gb at *
  clear hv2 hb2 hz1 hrt hpv hb1
  have hstep : Hid (∀ (wr : World) (f : Nat → Nat) (bs : List UInt8) (k : Nat), BoxB G wr gb (bs ++ partB f k) → ∀ (o : Obj), BoxB G (wr.alloc o) gb (bs ++ partB f k)) := hide (fun wr f bs k h o => h.below ((Below.refl _ wr).alloc (Nat.le_refl _) o))
  go_wp2
  go_loopw [6, 25] (fun x i wr => ∃ k : Nat, k ≤ n ∧ i = .int .i64 k ∧ x = .int .u64 (prevId es k : Int) ∧ Hid (BoxB G wr gb (vb n ++ partB (fId es) k)) ∧ Hid (Below G w wr)) (fun _ i _ => n - (intOf i).toNat)
  case atStart => exact ⟨0, by omega, rfl, rfl, by rw [show partB (fId es) 0 = [] from rfl, List.append_nil]; exact hbx, hb3⟩
  case round =>
    obtain ⟨k, hk, rfl, rfl, hbx, hb⟩ := hrel
    by_cases hlt : k < n
    · have hkl : k < es.length := by omega
      have hkI : (k : Int) < n := by omega
      obtain ⟨b, o, rfl, hbB, e0, e1, e2, e3⟩ := (hrW.out wr hb.out) k hkl
      have hok := hR.out.2.2.1 k hkl
      have hprev : prevId es k ≤ es[k].id := by
        unfold prevId
        split
        · exact Nat.zero_le _
        · have h8 := hR.out.2.2.2 (k - 1) (by omega)
          have h9 : es[k - 1 + 1] = es[k] := by congr 1; omega
          rw [h9] at h8
          rw [ent_at es (k - 1) (by omega)]
          unfold Ent.next at h8
          omega
      have hf : fId es k = es[k].id - prevId es k := by rw [fId, ent_at es k hkl]
      have hnx : Hid (prevId es (k + 1) = es[k].id) := hide (by rw [prevId, if_neg (by omega), Nat.add_sub_cancel, ent_at es k hkl])
      have hps := hide (partB_succ (fId es) k)
      have hln := hide (show (vb n ++ partB (fId es) k).length ≤ 1048576 by rw [List.length_append]; have := partB_len (fId es) k; have := hvl0.out; have := hn200.out; omega)
      generalize es[k] = xe at *
      obtain ⟨xi, xo, xl, xr⟩ := xe
      simp only [Ent.ok] at e0 e1 e2 e3 hok hprev hf hnx
      generalize prevId es k = P at *
      obtain ⟨v, hv⟩ : ∃ v, fId es k = v := ⟨_, rfl⟩
      rw [hv] at hf hps
      have hvI : ((xi : Int) - (P : Int)) % 18446744073709551616 = (v : Int) := by omega
      have hvW : IntKind.u64.wrap ((xi : Int) - (P : Int)) = (v : Int) := by rw [IntKind.wrap_u64]; omega
      have hsm : Sm v 0 := Sm.of (by omega)
      have hbx2 := hide (hstep.out wr _ _ _ hbx.out (Obj.cells #[Value.int .u64 (xi : Int), .int .u64 (xo : Int), .int .u64 (xl : Int), .int .u64 (xr : Int)] 43))
      have hba := hide (hb.out.trans ((Below.refl G wr).alloc (by have := hb.out.size; omega) (Obj.cells #[Value.int .u64 (xi : Int), .int .u64 (xo : Int), .int .u64 (xl : Int), .int .u64 (xr : Int)] 43)))
      have hcall := hide (hput.out _ _ v _ hbx2.out hsm hln.out)
      have hkb := hide (Blk.new wr 43 #[Value.int .u64 (xi : Int), .int .u64 (xo : Int), .int .u64 (xl : Int), .int .u64 (xr : Int)])
      clear hok hprev hf hv
      go_wp2_with (go_at_call 44; (with_reducible refine hcall.out.mono ?_); rintro e w3 ⟨rfl, hbx3, hbb3, hkk3⟩; have hbx3 := hide hbx3; have hbb3 := hide (hba.out.trans hbb3); have f0 := (hkk3 _ _ hkb.out).cell 0; simp only [List.getElem?_toArray, List.getElem?_cons_zero] at f0; clear hkk3)
      go_roundw
      case rel => exact ⟨k + 1, by omega, by go_num, by rw [hnx.out], by rw [hps.out, ← List.append_assoc]; exact hbx3, hbb3⟩
      case measure => simp [intOf] <;> omega
    · obtain rfl : k = n := by omega
      obtain ⟨S1, hS1e⟩ : ∃ S, vb k ++ partB (fId es) k = S := ⟨_, rfl⟩
      have hS1 : Hid (S1.length ≤ 10 + 2000 * 1) := hide (by rw [← hS1e, List.length_append]; have := partB_len (fId es) k; have := hn200.out; have := hvl0.out; omega)
      rw [hS1e] at hbx
      replace hS1e := hide hS1e
      go_wp2
      go_loopw [40] (fun i wr => ∃ j : Nat, j ≤ k ∧ i = .int .i64 j ∧ Hid (BoxB G wr gb (S1 ++ partB (fRun es) j)) ∧ Hid (Below G w wr)) (fun i _ => k - (intOf i).toNat)
      case atStart => exact ⟨0, by omega, rfl, by rw [show partB (fRun es) 0 = [] from rfl, List.append_nil]; exact hbx, hb⟩
      case round =>
        obtain ⟨j, hj, rfl, hbx, hb⟩ := hrel
        by_cases hlt : j < k
        · have hkl : j < es.length := by omega
          have hkI : (j : Int) < k := by omega
          obtain ⟨b, o, rfl, hbB, e0, e1, e2, e3⟩ := (hrW.out _ hb.out) j hkl
          have hok := hR.out.2.2.1 j hkl
          have hf : fRun es j = es[j].run := by rw [fRun, ent_at es j hkl]
          have hps := hide (partB_succ (fRun es) j)
          have hln := hide (show (S1 ++ partB (fRun es) j).length ≤ 1048576 by rw [List.length_append]; have := partB_len (fRun es) j; have := hS1.out; have := hn200.out; omega)
          generalize es[j] = xe at *
          obtain ⟨xi, xo, xl, xr⟩ := xe
          simp only [Ent.ok] at e0 e1 e2 e3 hok hf
          rw [hf] at hps
          have hsm : Sm xr 0 := Sm.of (by omega)
          have hbx2 := hide (hbx.out.below ((Below.refl _ _).alloc (Nat.le_refl _) (Obj.cells #[Value.int .u64 (xi : Int), .int .u64 (xo : Int), .int .u64 (xl : Int), .int .u64 (xr : Int)] 43)))
          have hba := hide (hb.out.trans ((Below.refl G _).alloc (by have := hb.out.size; omega) (Obj.cells #[Value.int .u64 (xi : Int), .int .u64 (xo : Int), .int .u64 (xl : Int), .int .u64 (xr : Int)] 43)))
          have hcall := hide (hput.out _ _ xr _ hbx2.out hsm hln.out)
          clear hok hf
          go_wp2_with (go_at_call 44; (with_reducible refine hcall.out.mono ?_); rintro e w3 ⟨rfl, hbx3, hbb3, _⟩; have hbx3 := hide hbx3; have hbb3 := hide (hba.out.trans hbb3))
          go_roundw
          case rel => exact ⟨j + 1, by omega, by go_num, by rw [hps.out, ← List.append_assoc]; exact hbx3, hbb3⟩
          case measure => simp [intOf] <;> omega
        · have hjk : Hid (j = k) := hide (by omega)
          rw [hjk.out] at hbx
          obtain ⟨S2, hS2e⟩ : ∃ S, S1 ++ partB (fRun es) k = S := ⟨_, rfl⟩
          have hS2 : Hid (S2.length ≤ 10 + 2000 * 2) := hide (by rw [← hS2e, List.length_append]; have := partB_len (fRun es) k; have := hn200.out; have := hS1.out; omega)
          rw [hS2e] at hbx
          replace hS2e := hide hS2e
          go_wp2
          go_loopw [51] (fun i wr => ∃ j : Nat, j ≤ k ∧ i = .int .i64 j ∧ Hid (BoxB G wr gb (S2 ++ partB (fLen es) j)) ∧ Hid (Below G w wr)) (fun i _ => k - (intOf i).toNat)
          case atStart => exact ⟨0, by omega, rfl, by rw [show partB (fLen es) 0 = [] from rfl, List.append_nil]; exact hbx, hb⟩
          case round =>
            obtain ⟨j, hj, rfl, hbx, hb⟩ := hrel
            by_cases hlt : j < k
            · have hkl : j < es.length := by omega
              have hkI : (j : Int) < k := by omega
              obtain ⟨b, o, rfl, hbB, e0, e1, e2, e3⟩ := (hrW.out _ hb.out) j hkl
              have hok := hR.out.2.2.1 j hkl
              have hf : fLen es j = es[j].len := by rw [fLen, ent_at es j hkl]
              have hps := hide (partB_succ (fLen es) j)
              have hln := hide (show (S2 ++ partB (fLen es) j).length ≤ 1048576 by rw [List.length_append]; have := partB_len (fLen es) j; have := hS2.out; have := hn200.out; omega)
              generalize es[j] = xe at *
              obtain ⟨xi, xo, xl, xr⟩ := xe
              simp only [Ent.ok] at e0 e1 e2 e3 hok hf
              rw [hf] at hps
              have hsm : Sm xl 0 := Sm.of (by omega)
              have hbx2 := hide (hbx.out.below ((Below.refl _ _).alloc (Nat.le_refl _) (Obj.cells #[Value.int .u64 (xi : Int), .int .u64 (xo : Int), .int .u64 (xl : Int), .int .u64 (xr : Int)] 43)))
              have hba := hide (hb.out.trans ((Below.refl G _).alloc (by have := hb.out.size; omega) (Obj.cells #[Value.int .u64 (xi : Int), .int .u64 (xo : Int), .int .u64 (xl : Int), .int .u64 (xr : Int)] 43)))
              have hcall := hide (hput.out _ _ xl _ hbx2.out hsm hln.out)
              clear hok hf
              go_wp2_with (go_at_call 44; (with_reducible refine hcall.out.mono ?_); rintro e w3 ⟨rfl, hbx3, hbb3, _⟩; have hbx3 := hide hbx3; have hbb3 := hide (hba.out.trans hbb3))
              go_roundw
              case rel => exact ⟨j + 1, by omega, by go_num, by rw [hps.out, ← List.append_assoc]; exact hbx3, hbb3⟩
              case measure => simp [intOf] <;> omega
            · have hjk : Hid (j = k) := hide (by omega)
              rw [hjk.out] at hbx
              obtain ⟨S3, hS3e⟩ : ∃ S, S2 ++ partB (fLen es) k = S := ⟨_, rfl⟩
              have hS3 : Hid (S3.length ≤ 10 + 2000 * 3) := hide (by rw [← hS3e, List.length_append]; have := partB_len (fLen es) k; have := hn200.out; have := hS2.out; omega)
              rw [hS3e] at hbx
              replace hS3e := hide hS3e
              go_wp2
              go_loopw [62] (fun i wr => ∃ j : Nat, j ≤ k ∧ i = .int .i64 j ∧ Hid (BoxB G wr gb (S3 ++ partB (fOff es) j)) ∧ Hid (Below G w wr)) (fun i _ => k - (intOf i).toNat)
              case atStart => exact ⟨0, by omega, rfl, by rw [show partB (fOff es) 0 = [] from rfl, List.append_nil]; exact hbx, hb⟩
              case round =>
                obtain ⟨j, hj, rfl, hbx, hb⟩ := hrel
                by_cases hlt : j < k
                · have hkl : j < es.length := by omega
                  have hkI : (j : Int) < k := by omega
                  obtain ⟨b, o, rfl, hbB, e0, e1, e2, e3⟩ := (hrW.out _ hb.out) j hkl
                  have hok := hR.out.2.2.1 j hkl
                  have hpr : Hid (∀ q (hq : j = q + 1), (es[q]'(by omega)).ok) := hide (fun q hq => hR.out.2.2.1 q (by omega))
                  have hf : fOff es j = if 0 < j ∧ es[j].off = (ent es (j - 1)).off + (ent es (j - 1)).len then 0 else es[j].off + 1 := by rw [fOff, ent_at es j hkl]
                  have hps := hide (partB_succ (fOff es) j)
                  have hln := hide (show (S3 ++ partB (fOff es) j).length ≤ 1048576 by rw [List.length_append]; have := partB_len (fOff es) j; have := hS3.out; have := hn200.out; omega)
                  obtain ⟨xe, hxe⟩ : ∃ xe, es[j] = xe := ⟨_, rfl⟩
                  rw [hxe] at e0 e1 e2 e3 hok hf
                  clear hxe
                  obtain ⟨xi, xo, xl, xr⟩ := xe
                  simp only [Ent.ok] at e0 e1 e2 e3 hok hf
                  have hbx2 := hide (hbx.out.below ((Below.refl _ wr).alloc (Nat.le_refl _) (Obj.cells #[Value.int .u64 (xi : Int), .int .u64 (xo : Int), .int .u64 (xl : Int), .int .u64 (xr : Int)] 43)))
                  have hba := hide (hb.out.trans ((Below.refl G wr).alloc (by have := hb.out.size; omega) (Obj.cells #[Value.int .u64 (xi : Int), .int .u64 (xo : Int), .int .u64 (xl : Int), .int .u64 (xr : Int)] 43)))
                  have hkb := Blk.new wr 43 #[Value.int .u64 (xi : Int), .int .u64 (xo : Int), .int .u64 (xl : Int), .int .u64 (xr : Int)]
                  have f1 := hkb.cell 1
                  simp only [List.getElem?_toArray, List.getElem?_cons_zero, List.getElem?_cons_succ] at f1
                  have hcall := hide (fun (v m : Nat) (hsm : Sm v 0) => hput.out ((wr.alloc (Obj.cells #[Value.int .u64 (xi : Int), .int .u64 (xo : Int), .int .u64 (xl : Int), .int .u64 (xr : Int)] 43)).drewN m) _ v _ (hbx2.out.below (below_drewN (Below.refl _ _) m)) hsm hln.out)
                  have hbd := hide (fun m => below_drewN hba.out m)
                  have hbw := hide hb.out.size
                  rcases Nat.eq_zero_or_pos j with hj0 | hjp
                  · subst hj0
                    rw [if_neg (by omega)] at hf
                    rw [hf] at hps
                    simp only [Nat.zero_mul, Nat.add_zero] at e0 e1 e2 e3
                    obtain ⟨v, hv⟩ : ∃ v, xo + 1 = v := ⟨_, rfl⟩
                    rw [hv] at hps
                    have hvI : ((xo : Int) + 1) % 18446744073709551616 = (v : Int) := by omega
                    have hvW : IntKind.u64.wrap ((xo : Int) + 1) = (v : Int) := by rw [IntKind.wrap_u64]; omega
                    have hsm : Sm v 0 := Sm.of (by omega)
                    have hcl := hide (fun m => hcall.out v m hsm)
                    clear hok hf hv hkb hpr hcall
                    go_upto_region 25 with fail
                    clear e0 e1 e2 e3
                    generalize wr.alloc (Obj.cells #[Value.int .u64 (xi : Int), .int .u64 (xo : Int), .int .u64 (xl : Int), .int .u64 (xr : Int)] 43) = W at *
                    generalize wr.heap.size = Gx at *
                    go_quiet (fail)
                    go_wp2_with (go_at_call 44; (with_reducible refine (hcl.out _).mono ?_); rintro e w3 ⟨rfl, hbx3, hbb3, _⟩; have hbx3 := hide hbx3; have hbb3 := hide ((hbd.out _).trans hbb3))
                    go_roundw
                    case rel => exact ⟨1, by omega, by go_num, by rw [hps.out, ← List.append_assoc]; exact hbx3, hbb3⟩
                    case measure => simp [intOf] <;> omega
                  · obtain ⟨q, rfl⟩ : ∃ q, j = q + 1 := ⟨j - 1, by omega⟩
                    have hql : q < es.length := by omega
                    have hqI : (q : Int) < (k : Int) := by omega
                    have hqI0 : (0 : Int) ≤ (q : Int) := by omega
                    have hk2 : (k : Int) ≤ 200 := by have := hn200.out; omega
                    have hwq : IntKind.i64.wrap (q : Int) = (q : Int) := by rw [IntKind.wrap_i64]; omega
                    obtain ⟨b2, o2, hA2, _, _, p1, p2, _⟩ := (hrW.out _ hb.out) q hql
                    injection hA2 with hA2
                    injection hA2 with ee1 ee2
                    subst ee1 ee2
                    have hpo := hpr.out q rfl
                    rw [Nat.add_sub_cancel, ent_at es q hql] at hf
                    generalize es[q] = pe at *
                    obtain ⟨pi, po, pl, prn⟩ := pe
                    simp only [Ent.ok] at hpo hf p1 p2
                    have hbr : b < wr.heap.size := by have := hbw.out; omega
                    have g1 := ((Below.refl wr.heap.size wr).alloc (Nat.le_refl _) (Obj.cells #[Value.int .u64 (xi : Int), .int .u64 (xo : Int), .int .u64 (xl : Int), .int .u64 (xr : Int)] 43)).cell (p := ⟨b, o + q * 4 + 1, none⟩) hbr
                    have g2 := ((Below.refl wr.heap.size wr).alloc (Nat.le_refl _) (Obj.cells #[Value.int .u64 (xi : Int), .int .u64 (xo : Int), .int .u64 (xl : Int), .int .u64 (xr : Int)] 43)).cell (p := ⟨b, o + q * 4 + 2, none⟩) hbr
                    rw [p1] at g1
                    rw [p2] at g2
                    obtain ⟨S, hS⟩ : ∃ S, po + pl = S := ⟨_, rfl⟩
                    have hSI : ((po : Int) + (pl : Int)) % 18446744073709551616 = (S : Int) := by omega
                    have hSW : IntKind.u64.wrap ((po : Int) + (pl : Int)) = (S : Int) := by rw [IntKind.wrap_u64]; omega
                    rw [hS] at hf
                    by_cases heq : xo = S
                    · rw [if_pos ⟨by omega, heq⟩] at hf
                      rw [hf] at hps
                      have he1 : ((xo : Int) == (S : Int)) = true := by simp; omega
                      have he2 : (xo == S) = true := by simp; omega
                      have hcl := hide (fun m => hcall.out 0 m (Sm.of (by omega)))
                      rw [show ((0 : Nat) : Int) = 0 from rfl] at hcl
                      clear hok hf hpo hS heq hkb hpr hcall hbr p1 p2
                      go_upto_region 25 with fail
                      clear e0 e1 e2 e3
                      generalize wr.alloc (Obj.cells #[Value.int .u64 (xi : Int), .int .u64 (xo : Int), .int .u64 (xl : Int), .int .u64 (xr : Int)] 43) = W at *
                      generalize wr.heap.size = Gx at *
                      go_quiet (fail)
                      go_wp2_with (go_at_call 44; (with_reducible refine (hcl.out _).mono ?_); rintro e w3 ⟨rfl, hbx3, hbb3, _⟩; have hbx3 := hide hbx3; have hbb3 := hide ((hbd.out _).trans hbb3))
                      go_roundw
                      case rel => exact ⟨q + 1 + 1, by omega, by go_num, by rw [hps.out, ← List.append_assoc]; exact hbx3, hbb3⟩
                      case measure => simp [intOf] <;> omega
                    · rw [if_neg (fun h => heq h.2)] at hf
                      rw [hf] at hps
                      have he1 : ((xo : Int) == (S : Int)) = false := by simp; omega
                      have he2 : (xo == S) = false := by simp; omega
                      obtain ⟨v, hv⟩ : ∃ v, xo + 1 = v := ⟨_, rfl⟩
                      rw [hv] at hps
                      have hvI : ((xo : Int) + 1) % 18446744073709551616 = (v : Int) := by omega
                      have hvW : IntKind.u64.wrap ((xo : Int) + 1) = (v : Int) := by rw [IntKind.wrap_u64]; omega
                      have hsm : Sm v 0 := Sm.of (by omega)
                      have hcl := hide (fun m => hcall.out v m hsm)
                      clear hok hf hpo hS heq hkb hpr hcall hbr p1 p2 hv
                      go_upto_region 25 with fail
                      clear e0 e1 e2 e3
                      generalize wr.alloc (Obj.cells #[Value.int .u64 (xi : Int), .int .u64 (xo : Int), .int .u64 (xl : Int), .int .u64 (xr : Int)] 43) = W at *
                      generalize wr.heap.size = Gx at *
                      go_quiet (fail)
                      go_wp2_with (go_at_call 44; (with_reducible refine (hcl.out _).mono ?_); rintro e w3 ⟨rfl, hbx3, hbb3, _⟩; have hbx3 := hide hbx3; have hbb3 := hide ((hbd.out _).trans hbb3))
                      go_roundw
                      case rel => exact ⟨q + 1 + 1, by omega, by go_num, by rw [hps.out, ← List.append_assoc]; exact hbx3, hbb3⟩
                      case measure => simp [intOf] <;> omega
                · have hjk : Hid (j = k) := hide (by omega)
                  rw [hjk.out] at hbx
                  obtain ⟨A9, c9, hk9, ho9, _, _⟩ := hbx.out
                  have d9 := hk9.cell 0
                  simp only [List.getElem?_toArray, List.getElem?_cons_zero] at d9
                  have hpB : Hid (putB es = S3 ++ partB (fOff es) k) := hide (by rw [putB, hl, hS1e.out, hS2e.out, hS3e.out])
                  replace ho9 := hide ho9
                  go_wp2
                  go_ret2
                  exact ⟨A9, c9, by rw [hpB.out, List.length_append]; rfl, by rw [hpB.out]; exact ho9.out, hb.out⟩

end Go.Proofs.Ytmpdoileiniijaa
