/- Layer 12 (dir): the walks that find an entry. There is no condition but where the slice lies. -/
import Derived.Test.YtmpdoileiniijaaDir
import Derived.Laws.ResultCell
import Derived.Laws.Rows
import Derived.Laws.Tables
namespace Go.Proofs.Ytmpdoileiniijaa
open Go.RowKit

def Ent.zero : Ent := ⟨0, 0, 0, 0⟩
/-- The entries' numbers ascend. -/
def Asc (es : List Ent) : Prop := ∀ a b (ha : a < es.length) (hb : b < es.length), a ≤ b → es[a].id ≤ es[b].id
theorem RightE.asc {es : List Ent} (h : RightE es) : Asc es := by
  intro a b ha hb hab
  obtain ⟨d, rfl⟩ : ∃ d, b = a + d := ⟨b - a, by omega⟩
  induction d with
  | zero => exact Nat.le_refl _
  | succ d ih =>
    have h1 := ih (by omega) (by omega)
    have h2 := h.2.2.2 (a + d) hb
    unfold Ent.next at h2
    have : es[a + d + 1] = es[a + (d + 1)] := rfl
    rw [this] at h2
    omega
/-- i entries, the first ones, have numbers up to id. -/
def CutAt (es : List Ent) (id i : Nat) : Prop := i ≤ es.length ∧ (∀ j (h : j < es.length), j < i → es[j].id ≤ id) ∧ ∀ j (h : j < es.length), i ≤ j → id < es[j].id
theorem CutAt.unique {es : List Ent} {id i k : Nat} (h : CutAt es id i) (h' : CutAt es id k) : i = k := by
  rcases Nat.lt_trichotomy i k with hl | hl | hl
  · have h1 := h.2.2 i (by have := h'.1; omega) (Nat.le_refl _)
    have h2 := h'.2.1 i (by have := h'.1; omega) hl
    omega
  · exact hl
  · have h1 := h'.2.2 k (by have := h.1; omega) (Nat.le_refl _)
    have h2 := h.2.1 k (by have := h.1; omega) hl
    omega

theorem cmp_any (x : Ent) (id : Nat) (w : World) : Calls Try.prog 39 #[.agg x.cells, .int .u64 (id : Int)] w fun e w' => e = .returned (.int .i64 (if x.id ≤ id then -1 else 1)) ∧ Below w.heap.size w w' := by
  obtain ⟨a, b, c, d⟩ := x
  have hb := hide ((Below.refl w.heap.size w).alloc (Nat.le_refl _) (.cells #[Value.int .u64 (a : Int), .int .u64 (b : Int), .int .u64 (c : Int), .int .u64 (d : Int)] 43))
  unfold Ent.cells
  simp only
  by_cases h : a ≤ id
  · have hI : (a : Int) ≤ id := by omega
    rw [if_pos h]
    clear h
    go_enter Try.func39, Try.ntmps39
    go_wp2
    go_ret
    exact ⟨rfl, hb.out⟩
  · have hI : (id : Int) < a := by omega
    rw [if_neg h]
    clear h
    go_enter Try.func39, Try.ntmps39
    go_wp2
    go_ret
    exact ⟨rfl, hb.out⟩

theorem results_row_tmp {P : Program} {fn : Func} {p u : Tmp} {ty : TypeId} (h : fn.results = #[.cell p ty, .tmp u]) (tmps : Array Value) (w : World) (g : Nat) (t : TypeId) (cs : Array Value) (fr : Nat × Nat) (d : TypeDesc)
    (hp : tmps.getD p undef = .pointer (some ⟨g, 0, none⟩)) (hg : w.heap[g]? = some (.cells cs t fr))
    (hu : P.underlying ty = some d) (hd : (match d with | .struct _ | .array _ _ => true | _ => false) = true) (hi : (P.info? ty).map (·.size) = some cs.size) :
    (results fn tmps).run P w = .ok (.tuple #[.agg cs, tmps.getD u undef]) w := by
  rw [results_cell_tmp h]
  have hp' : tmps[p]?.getD undef = .pointer (some ⟨g, 0, none⟩) := by simpa using hp
  simp [asAddr, hp', run_loadVar_row w g t ty cs fr d hg hu hd hi]
theorem info_ent (a b c d : Value) : (Try.prog.info? 43).map (·.size) = some (#[a, b, c, d] : Array Value).size := by kernel_rfl
theorem info_ent' (x : Ent) : (Try.prog.info? 43).map (·.size) = some x.cells.size := by kernel_rfl
theorem ent_one (a b c d : Int) : (#[Value.int .u64 a, .int .u64 b, .int .u64 c, .int .u64 d] : Array Value).all (·.oneCell') = true := by simp [Value.oneCell']

/-- What the reference and the program answer: the entry, and whether there is one. -/
def Fd (es : List Ent) (id i : Nat) : Ent × Bool :=
  if i = 0 then (Ent.zero, false) else if 0 < (es.getD (i - 1) Ent.zero).run ∧ (es.getD (i - 1) Ent.zero).run ≤ id - (es.getD (i - 1) Ent.zero).id then (Ent.zero, false) else (es.getD (i - 1) Ent.zero, true)

set_option maxRecDepth 100000 in
set_option maxHeartbeats 1000000 in
theorem search_any (A : Option Addr) (c : Nat) (es : List Ent) (id : Nat) (w : World) (B : Nat) (hr : RdE w B A es) (hB : B ≤ w.heap.size) (hn : es.length ≤ 65536) (i0 : Nat) (hcut : CutAt es id i0) :
    Calls Try.prog 38 #[.slice A es.length c, .int .u64 (id : Int), .func (.func 39) #[] #[]] w fun e w' => e = .returned (.tuple #[.int .i64 (i0 : Int), .bool false]) ∧ Below w.heap.size w w' := by
  obtain ⟨n, hl⟩ : ∃ n, es.length = n := ⟨_, rfl⟩
  rw [hl]
  replace hr := hide hr
  replace hB := hide hB
  replace hcut := hide hcut
  have hnI : (n : Int) ≤ 65536 := by omega
  have hi0n : i0 ≤ n := by have := hcut.out.1; omega
  clear hn
  go_enter Try.func38, Try.ntmps38
  go_wp2
  go_loopw [9, 10] (fun x y wr => ∃ a b : Nat, x = .int .i64 (a : Int) ∧ y = .int .i64 (b : Int) ∧ a ≤ i0 ∧ i0 ≤ b ∧ b ≤ n ∧ Hid (Below w.heap.size w wr)) (fun x y _ => ((intOf y) - (intOf x)).toNat)
  case atStart => exact ⟨0, n, rfl, rfl, by omega, hi0n, by omega, hide (Below.refl _ _)⟩
  case round =>
    obtain ⟨a, b, rfl, rfl, ha, hbi, hbn, hb⟩ := hrel
    by_cases hlt : a < b
    · obtain ⟨h, hh⟩ : ∃ h, (a + b) / 2 = h := ⟨_, rfl⟩
      have hhn : h < n := by omega
      have hhl : h < es.length := by omega
      have hhI : ((a : Int) + b) / 2 = h := by omega
      have hhI2 : (h : Int) < n := by omega
      have haI : (a : Int) ≤ 65536 := by omega
      have hbI : (b : Int) ≤ 65536 := by omega
      have hlI : (a : Int) < b := by omega
      obtain ⟨bb, o, rfl, hbB, e0, e1, e2, e3⟩ := (hr.out.below (hb.out.mono hB.out)) h hhl
      have hcm := hide (fun W => cmp_any es[h] id W)
      have hup := hcut.out.2.1 h hhl
      have hdn := hcut.out.2.2 h hhl
      generalize es[h] = xe at *
      obtain ⟨xi, xo, xl, xr⟩ := xe
      unfold Ent.cells at hcm
      simp only at e0 e1 e2 e3 hcm hup hdn
      by_cases hle : xi ≤ id
      · simp only [if_pos hle] at hcm
        have h1 : h < i0 := by rcases Nat.lt_or_ge h i0 with h1 | h1; exact h1; have := hdn h1; omega
        go_wp2_with (go_at_call 39; (with_reducible refine (hcm.out _).mono ?_); rintro e w1 ⟨rfl, hb1⟩; have hb1 := hide (hb.out.trans (hb1.mono hb.out.size)))
        go_roundw
        case rel => exact ⟨h + 1, b, by go_num, rfl, by omega, by omega, by omega, hb1⟩
        case measure => simp [intOf] <;> omega
      · simp only [if_neg hle] at hcm
        have h1 : i0 ≤ h := by rcases Nat.lt_or_ge h i0 with h1 | h1; exact absurd (hup h1) hle; exact h1
        go_wp2_with (go_at_call 39; (with_reducible refine (hcm.out _).mono ?_); rintro e w1 ⟨rfl, hb1⟩; have hb1 := hide (hb.out.trans (hb1.mono hb.out.size)))
        go_roundw
        case rel => exact ⟨a, h, rfl, rfl, by omega, by omega, by omega, hb1⟩
        case measure => simp [intOf] <;> omega
    · obtain rfl : a = i0 := by omega
      obtain rfl : b = a := by omega
      by_cases hbn2 : b < n
      · have hbl : b < es.length := by omega
        have hbI : (b : Int) < n := by omega
        obtain ⟨bb, o, rfl, hbB, e0, e1, e2, e3⟩ := (hr.out.below (hb.out.mono hB.out)) b hbl
        have hcm := hide (fun W => cmp_any es[b] id W)
        have hdn := hcut.out.2.2 b hbl (Nat.le_refl _)
        generalize es[b] = xe at *
        obtain ⟨xi, xo, xl, xr⟩ := xe
        unfold Ent.cells at hcm
        simp only at e0 e1 e2 e3 hcm hdn
        rw [if_neg (by omega)] at hcm
        go_wp2_with (go_at_call 39; (with_reducible refine (hcm.out _).mono ?_); rintro e w1 ⟨rfl, hb1⟩; have hb1 := hide (hb.out.trans (hb1.mono hb.out.size)))
        go_ret2
        exact ⟨rfl, hb1.out⟩
      · have hbI : (n : Int) ≤ b := by omega
        go_wp2
        go_ret2
        exact ⟨rfl, hb.out⟩

/-- The block that a named result of an entry's type takes, and what a store into it leaves. -/
theorem row_ret {B : Nat} {w w' : World} {g : Nat} (h : Below B w w') (hg : B ≤ g) (cs : Array Value) : Below B w (w'.setRow g cs) := below_row h hg cs

set_option maxRecDepth 100000 in
set_option maxHeartbeats 1000000 in
theorem dfind_any (A : Option Addr) (c : Nat) (es : List Ent) (id : Nat) (w : World) (B : Nat) (hr : RdE w B A es) (hB : B ≤ w.heap.size) (hbg : ∀ x ∈ es, x.big) (hn : es.length ≤ maxLen) (hid : id ≤ 18446744073709551615) (r : Ent × Bool) (h1 : ¬ RightE es → r = (Ent.zero, false)) (h2 : RightE es → ∃ i, CutAt es id i ∧ r = Fd es id i) :
    Calls Try.prog 16 #[.slice A es.length c, .int .u64 (id : Int)] w fun e w' => e = .returned (.tuple #[.agg r.1.cells, .bool r.2]) ∧ Below w.heap.size w w' := by
  have hz : Ent.zero.cells = #[Value.int .u64 0, .int .u64 0, .int .u64 0, .int .u64 0] := rfl
  have hrW := hide (fun W (h : Below B w W) v hv => dright_any A c es W B (hr.below h) (by have := h.size; omega) hbg hn v hv)
  obtain ⟨G, hG⟩ : ∃ G, w.heap.size = G := ⟨_, rfl⟩
  have hb0 := hide ((Below.refl w.heap.size w).alloc (Nat.le_refl _) (.cells #[Value.int .u64 0, .int .u64 0, .int .u64 0, .int .u64 0] 43))
  have hk0 := hide (Blk.new w 43 #[Value.int .u64 0, .int .u64 0, .int .u64 0, .int .u64 0])
  rw [hG] at hb0 hk0 hB ⊢
  have hs0 := hide (show G + 1 ≤ (w.alloc (.cells #[Value.int .u64 0, .int .u64 0, .int .u64 0, .int .u64 0] 43)).heap.size by simp; omega)
  generalize hW0 : w.alloc (.cells #[Value.int .u64 0, .int .u64 0, .int .u64 0, .int .u64 0] 43) = W0 at *
  by_cases hR : RightE es
  · obtain ⟨i, hci, rfl⟩ := h2 hR
    have hrt := hide (hrW.out W0 (hb0.out.mono hB) true ⟨fun _ => rfl, fun _ => hR⟩)
    have hsr := hide (fun W (h : Below G w W) => search_any A c es id W B (hr.below (h.mono hB)) (by have := h.size; omega) hR.2.1 i hci)
    have hrL := hide (fun W (h : Below G w W) => hr.below (h.mono hB))
    by_cases hi0 : i = 0
    · subst hi0
      have hfd : Fd es id 0 = (Ent.zero, false) := rfl
      rw [hfd]
      generalize es.length = n at *
      clear h1 h2 hrW hbg hR hci hr
      go_enter Try.func16, Try.ntmps16
      go_wp2_with (first
        | (go_at_call 23; (with_reducible refine hrt.out.mono ?_); rintro e w1 ⟨rfl, hb1⟩; have hk1 := hide (hk0.out.below hb1 hk0.out.lt); have hb1 := hide (hb0.out.trans (hb1.mono (by have := hs0.out; omega))))
        | (go_at_call 38; (with_reducible refine (hsr.out _ hb1.out).mono ?_); rintro e w2 ⟨rfl, hb2⟩; have hkL := hide (hk1.out.below hb2 hk1.out.lt); have hbL := hide (hb1.out.trans (hb2.mono (by have := hb1.out.size; omega))))
        | (with_reducible refine wpList_store_row (o := ⟨none, .store 43 (.tmp 4) (.tmp 21), _, _, _, _⟩) rfl 43 (.tmp 4) (.tmp 21) rfl G #[Value.int .u64 0, .int .u64 0, .int .u64 0, .int .u64 0] rfl rfl 43 _ hkL.out.eq (info_ent _ _ _ _) rfl (ent_one 0 0 0 0) ?_))
      refine bodyPost_ret_by (results_row_tmp rfl _ _ G 43 #[Value.int .u64 0, .int .u64 0, .int .u64 0, .int .u64 0] (0, 0) _ rfl (hkL.out.row _) Try.underlying43 rfl (info_ent _ _ _ _)) rfl ⟨rfl, below_row hbL.out (Nat.le_refl _) _⟩
    · obtain ⟨q, rfl⟩ : ∃ q, i = q + 1 := ⟨i - 1, by omega⟩
      have hql : q < es.length := by have := hci.1; omega
      have hxq : es.getD q Ent.zero = es[q] := by rw [List.getD_eq_getElem?_getD, List.getElem?_eq_getElem hql]; rfl
      have hfd : Fd es id (q + 1) = if 0 < es[q].run ∧ es[q].run ≤ id - es[q].id then (Ent.zero, false) else (es[q], true) := by
        unfold Fd
        rw [if_neg (by omega), Nat.add_sub_cancel, hxq]
      have hle := hci.2.1 q hql (by omega)
      have hxb := hbg es[q] (List.getElem_mem hql)
      have hcells := hide (fun W (h : Below G w W) => (hrL.out W h) q hql)
      rw [hfd]
      have hnI : (q : Int) < es.length := by omega
      have hn6 : (es.length : Int) ≤ 65536 := by have := hR.2.1; omega
      have hwq : IntKind.i64.wrap (q : Int) = (q : Int) := by rw [IntKind.wrap_i64]; omega
      generalize es[q] = xe at *
      obtain ⟨xi, xo, xl, xr⟩ := xe
      simp only at hle hcells hxb ⊢
      simp only [Ent.big] at hxb
      obtain ⟨D, hD⟩ : ∃ D, id - xi = D := ⟨_, rfl⟩
      have hDI : ((id : Int) - (xi : Int)) % 18446744073709551616 = (D : Int) := by omega
      have hDW : IntKind.u64.wrap ((id : Int) - (xi : Int)) = (D : Int) := by rw [IntKind.wrap_u64]; omega
      rw [hD]
      generalize es.length = n at *
      clear h1 h2 hrW hbg hR hci hr hfd hxq hql hle hxb hD hrL hn hid
      by_cases hc : 0 < xr ∧ xr ≤ D
      · rw [if_pos hc]
        have hc1 : (0 : Int) < xr := by omega
        have hc2 : (xr : Int) ≤ D := by omega
        clear hc
        go_enter Try.func16, Try.ntmps16
        go_wp2_with (first
          | (go_at_call 23; (with_reducible refine hrt.out.mono ?_); rintro e w1 ⟨rfl, hb1⟩; have hk1 := hide (hk0.out.below hb1 hk0.out.lt); have hb1 := hide (hb0.out.trans (hb1.mono (by have := hs0.out; omega))))
          | (go_at_call 38; (with_reducible refine (hsr.out _ hb1.out).mono ?_); rintro e w2 ⟨rfl, hb2⟩; have hkL := hide (hk1.out.below hb2 hk1.out.lt); have hbL := hide (hb1.out.trans (hb2.mono (by have := hb1.out.size; omega))); obtain ⟨bb, o, rfl, hbB, e0, e1, e2, e3⟩ := hcells.out _ hbL.out; have hkM := hide (hkL.out.alloc (Obj.cells #[Value.int .u64 (xi : Int), .int .u64 (xo : Int), .int .u64 (xl : Int), .int .u64 (xr : Int)] 43)); have hbM := hide (hbL.out.trans ((Below.refl G w2).alloc (by have := hbL.out.size; omega) (Obj.cells #[Value.int .u64 (xi : Int), .int .u64 (xo : Int), .int .u64 (xl : Int), .int .u64 (xr : Int)] 43))))
          | (with_reducible refine wpList_store_row (o := ⟨none, .store 43 (.tmp 4) (.tmp 39), _, _, _, _⟩) rfl 43 (.tmp 4) (.tmp 39) rfl G #[Value.int .u64 0, .int .u64 0, .int .u64 0, .int .u64 0] rfl rfl 43 _ hkM.out.eq (info_ent _ _ _ _) rfl (ent_one 0 0 0 0) ?_))
        refine bodyPost_ret_by (results_row_tmp rfl _ _ G 43 #[Value.int .u64 0, .int .u64 0, .int .u64 0, .int .u64 0] (0, 0) _ rfl (hkM.out.row _) Try.underlying43 rfl (info_ent _ _ _ _)) rfl ⟨rfl, below_row hbM.out (Nat.le_refl _) _⟩
      · rw [if_neg hc]
        have hc' : xr = 0 ∨ (0 < xr ∧ D < xr) := by omega
        clear hc
        rcases hc' with hc1 | ⟨hc1, hc2⟩
        · have hc1I : (xr : Int) ≤ 0 := by omega
          clear hc1
          go_enter Try.func16, Try.ntmps16
          go_wp2_with (first
            | (go_at_call 23; (with_reducible refine hrt.out.mono ?_); rintro e w1 ⟨rfl, hb1⟩; have hk1 := hide (hk0.out.below hb1 hk0.out.lt); have hb1 := hide (hb0.out.trans (hb1.mono (by have := hs0.out; omega))))
            | (go_at_call 38; (with_reducible refine (hsr.out _ hb1.out).mono ?_); rintro e w2 ⟨rfl, hb2⟩; have hkL := hide (hk1.out.below hb2 hk1.out.lt); have hbL := hide (hb1.out.trans (hb2.mono (by have := hb1.out.size; omega))); obtain ⟨bb, o, rfl, hbB, e0, e1, e2, e3⟩ := hcells.out _ hbL.out; have hkM := hide (hkL.out.alloc (Obj.cells #[Value.int .u64 (xi : Int), .int .u64 (xo : Int), .int .u64 (xl : Int), .int .u64 (xr : Int)] 43)); have hbM := hide (hbL.out.trans ((Below.refl G w2).alloc (by have := hbL.out.size; omega) (Obj.cells #[Value.int .u64 (xi : Int), .int .u64 (xo : Int), .int .u64 (xl : Int), .int .u64 (xr : Int)] 43))))
            | (with_reducible refine wpList_store_row (o := ⟨none, .store 43 (.tmp 4) (.tmp 40), _, _, _, _⟩) rfl 43 (.tmp 4) (.tmp 40) rfl G #[Value.int .u64 (xi : Int), .int .u64 (xo : Int), .int .u64 (xl : Int), .int .u64 (xr : Int)] rfl rfl 43 _ hkM.out.eq (info_ent _ _ _ _) rfl (ent_one _ _ _ _) ?_))
          refine bodyPost_ret_by (results_row_tmp rfl _ _ G 43 #[Value.int .u64 (xi : Int), .int .u64 (xo : Int), .int .u64 (xl : Int), .int .u64 (xr : Int)] (0, 0) _ rfl (hkM.out.row _) Try.underlying43 rfl (info_ent _ _ _ _)) rfl ⟨rfl, below_row hbM.out (Nat.le_refl _) _⟩
        · have hc1I : (0 : Int) < xr := by omega
          have hc2I : (D : Int) < xr := by omega
          clear hc1 hc2
          go_enter Try.func16, Try.ntmps16
          go_wp2_with (first
            | (go_at_call 23; (with_reducible refine hrt.out.mono ?_); rintro e w1 ⟨rfl, hb1⟩; have hk1 := hide (hk0.out.below hb1 hk0.out.lt); have hb1 := hide (hb0.out.trans (hb1.mono (by have := hs0.out; omega))))
            | (go_at_call 38; (with_reducible refine (hsr.out _ hb1.out).mono ?_); rintro e w2 ⟨rfl, hb2⟩; have hkL := hide (hk1.out.below hb2 hk1.out.lt); have hbL := hide (hb1.out.trans (hb2.mono (by have := hb1.out.size; omega))); obtain ⟨bb, o, rfl, hbB, e0, e1, e2, e3⟩ := hcells.out _ hbL.out; have hkM := hide (hkL.out.alloc (Obj.cells #[Value.int .u64 (xi : Int), .int .u64 (xo : Int), .int .u64 (xl : Int), .int .u64 (xr : Int)] 43)); have hbM := hide (hbL.out.trans ((Below.refl G w2).alloc (by have := hbL.out.size; omega) (Obj.cells #[Value.int .u64 (xi : Int), .int .u64 (xo : Int), .int .u64 (xl : Int), .int .u64 (xr : Int)] 43))))
            | (with_reducible refine wpList_store_row (o := ⟨none, .store 43 (.tmp 4) (.tmp 40), _, _, _, _⟩) rfl 43 (.tmp 4) (.tmp 40) rfl G #[Value.int .u64 (xi : Int), .int .u64 (xo : Int), .int .u64 (xl : Int), .int .u64 (xr : Int)] rfl rfl 43 _ hkM.out.eq (info_ent _ _ _ _) rfl (ent_one _ _ _ _) ?_))
          refine bodyPost_ret_by (results_row_tmp rfl _ _ G 43 #[Value.int .u64 (xi : Int), .int .u64 (xo : Int), .int .u64 (xl : Int), .int .u64 (xr : Int)] (0, 0) _ rfl (hkM.out.row _) Try.underlying43 rfl (info_ent _ _ _ _)) rfl ⟨rfl, below_row hbM.out (Nat.le_refl _) _⟩
  · obtain rfl := h1 hR
    have hrt := hide (hrW.out W0 (hb0.out.mono hB) false ⟨fun h => absurd h hR, fun h => by cases h⟩)
    generalize es.length = n at *
    clear h1 h2 hrW hbg
    go_enter Try.func16, Try.ntmps16
    go_wp2_with (first
      | (go_at_call 23; (with_reducible refine hrt.out.mono ?_); rintro e w1 ⟨rfl, hb1⟩; have hk1 := hide (hk0.out.below hb1 hk0.out.lt); have hb1 := hide (hb0.out.trans (hb1.mono (by have := hs0.out; omega))))
      | (with_reducible refine wpList_store_row (o := ⟨none, .store 43 (.tmp 4) (.tmp 12), _, _, _, _⟩) rfl 43 (.tmp 4) (.tmp 12) rfl G #[Value.int .u64 0, .int .u64 0, .int .u64 0, .int .u64 0] rfl rfl 43 _ hk1.out.eq (info_ent _ _ _ _) rfl (ent_one 0 0 0 0) ?_))
    refine bodyPost_ret_by (results_row_tmp rfl _ _ G 43 #[Value.int .u64 0, .int .u64 0, .int .u64 0, .int .u64 0] (0, 0) _ rfl (hk1.out.row _) Try.underlying43 rfl (info_ent _ _ _ _)) rfl ⟨rfl, below_row hb1.out (Nat.le_refl _) _⟩

set_option maxRecDepth 100000 in
set_option maxHeartbeats 2000000 in
theorem refdfind_any (A : Option Addr) (c : Nat) (es : List Ent) (id : Nat) (w : World) (B : Nat) (hr : RdE w B A es) (hB : B ≤ w.heap.size) (hbg : ∀ x ∈ es, x.big) (hn : es.length ≤ 100) (hid : id ≤ 18446744073709551615) (r : Ent × Bool) (h1 : ¬ RightE es → r = (Ent.zero, false)) (h2 : RightE es → ∃ i, CutAt es id i ∧ r = Fd es id i) :
    Calls Try.prog 17 #[.slice A es.length c, .int .u64 (id : Int)] w fun e w' => e = .returned (.tuple #[.agg r.1.cells, .bool r.2]) ∧ Below w.heap.size w w' := by
  have hrW := hide (fun W (h : Below B w W) v hv => refdright_any A c es W B (hr.below h) (by have := h.size; omega) hbg (by simp only [maxLen]; omega) v hv)
  obtain ⟨G, hG⟩ : ∃ G, w.heap.size = G := ⟨_, rfl⟩
  have hb0 := hide ((Below.refl w.heap.size w).alloc (Nat.le_refl _) (.cells #[Value.int .u64 0, .int .u64 0, .int .u64 0, .int .u64 0] 43))
  have hk0 := hide (Blk.new w 43 #[Value.int .u64 0, .int .u64 0, .int .u64 0, .int .u64 0])
  rw [hG] at hb0 hk0 hB ⊢
  have hs0 := hide (show G + 1 ≤ (w.alloc (.cells #[Value.int .u64 0, .int .u64 0, .int .u64 0, .int .u64 0] 43)).heap.size by simp; omega)
  obtain ⟨n, hl⟩ : ∃ n, es.length = n := ⟨_, rfl⟩
  have hnI : (n : Int) ≤ 100 := by omega
  rw [hl] at hrW ⊢
  replace hr := hide hr
  replace hbg := hide hbg
  replace h1 := hide h1
  replace h2 := hide h2
  replace hid := hide hid
  clear hn
  go_enter Try.func17, Try.ntmps17
  go_upto_region 1 with fail
  generalize hW0 : w.alloc (.cells #[Value.int .u64 0, .int .u64 0, .int .u64 0, .int .u64 0] 43) = W0 at *
  go_wp2
  go_loop [6, 7] (fun x i => ∃ k : Nat, ∃ t : Int, k ≤ n ∧ i = .int .i64 k ∧ x = .int .i64 t ∧ -1 ≤ t ∧ t ≤ 100 ∧ Hid (t < max (k : Int) 0 ∨ t = -1) ∧ Hid (∀ i, CutAt es id i → t + 1 = min (k : Int) i)) (fun _ i => n - (intOf i).toNat)
  case atStart => exact ⟨0, -1, by omega, rfl, rfl, by omega, by omega, hide (.inr rfl), hide (fun i _ => by omega)⟩
  case round =>
    obtain ⟨k, t, hk, rfl, rfl, ht0, ht1, ht2, ht3⟩ := hrel
    by_cases hlt : k < n
    · have hkl : k < es.length := by omega
      have hkI : (k : Int) < n := by omega
      obtain ⟨b, o, rfl, hbB, e0, e1, e2, e3⟩ := (hr.out.below (hb0.out.mono hB)) k hkl
      have hcut := hide (fun i (h : CutAt es id i) => (⟨h.2.1 k hkl, h.2.2 k hkl⟩ : _ ∧ _))
      generalize es[k] = xe at *
      obtain ⟨xi, xo, xl, xr⟩ := xe
      simp only at e0 e1 e2 e3 hcut
      by_cases hle : xi ≤ id
      · have hleI : (xi : Int) ≤ id := by omega
        go_wp2
        go_round
        case rel => exact ⟨k + 1, k, by omega, by go_num, rfl, by omega, by omega, hide (.inl (by omega)), hide (fun i hi => by
          have h4 := (hcut.out i hi).2
          have h5 := ht3.out i hi
          have : k < i := by rcases Nat.lt_or_ge k i with h6 | h6; exact h6; have := h4 h6; omega
          push_cast
          omega)⟩
        case measure => simp [intOf] <;> omega
      · have hleI : (id : Int) < xi := by omega
        go_wp2
        go_round
        case rel => exact ⟨k + 1, t, by omega, by go_num, rfl, ht0, ht1, hide (by have := ht2.out; push_cast; omega), hide (fun i hi => by
          have h4 := (hcut.out i hi).1
          have h5 := ht3.out i hi
          have : i ≤ k := by rcases Nat.lt_or_ge k i with h6 | h6; exact absurd (h4 h6) hle; exact h6
          push_cast
          omega)⟩
        case measure => simp [intOf] <;> omega
    · obtain rfl : k = n := by omega
      by_cases hR : RightE es
      · obtain ⟨i, hci, rfl⟩ := h2.out hR
        have hrt := hide (hrW.out W0 (hb0.out.mono hB) true ⟨fun _ => rfl, fun _ => hR⟩)
        have hti := ht3.out i hci
        have hin := hci.1
        have htI : t + 1 = i := by omega
        by_cases hi0 : i = 0
        · subst hi0
          have hfd : Fd es id 0 = (Ent.zero, false) := rfl
          have htm : t < 0 := by omega
          have hz1 : (Fd es id 0).1.cells = #[Value.int .u64 0, .int .u64 0, .int .u64 0, .int .u64 0] := rfl
          have hz2 : (Fd es id 0).2 = false := rfl
          clear h1 h2 hrW hbg hR hci hr hti htI ht2 ht3 hlt hin hfd
          go_wp2_with (first
            | (go_at_call 24; (with_reducible refine hrt.out.mono ?_); rintro e w1 ⟨rfl, hb1⟩; have hk1 := hide (hk0.out.below hb1 hk0.out.lt); have hb1 := hide (hb0.out.trans (hb1.mono (by have := hs0.out; omega))))
            | (with_reducible refine wpList_store_row (o := ⟨none, .store 43 (.tmp 4) (.tmp 30), _, _, _, _⟩) rfl 43 (.tmp 4) (.tmp 30) rfl G #[Value.int .u64 0, .int .u64 0, .int .u64 0, .int .u64 0] rfl rfl 43 _ hk1.out.eq (info_ent _ _ _ _) rfl (ent_one 0 0 0 0) ?_))
          refine bodyPost_ret_by (results_row_tmp rfl _ _ G 43 #[Value.int .u64 0, .int .u64 0, .int .u64 0, .int .u64 0] (0, 0) _ rfl (hk1.out.row _) Try.underlying43 rfl (info_ent _ _ _ _)) rfl ⟨rfl, below_row hb1.out (Nat.le_refl _) _⟩
        · obtain ⟨q, rfl⟩ : ∃ q, i = q + 1 := ⟨i - 1, by omega⟩
          obtain rfl : t = (q : Int) := by omega
          have hql : q < es.length := by omega
          have hxq : es.getD q Ent.zero = es[q] := by rw [List.getD_eq_getElem?_getD, List.getElem?_eq_getElem hql]; rfl
          have hfd : Fd es id (q + 1) = if 0 < es[q].run ∧ es[q].run ≤ id - es[q].id then (Ent.zero, false) else (es[q], true) := by
            unfold Fd
            rw [if_neg (by omega), Nat.add_sub_cancel, hxq]
          have hle := hci.2.1 q hql (by omega)
          have hxb := hbg.out es[q] (List.getElem_mem hql)
          have hcells := hide (fun W (h : Below G w W) => (hr.out.below (h.mono hB)) q hql)
          have hqI : (q : Int) < k := by omega
          have hidI := hid.out
          generalize es[q] = xe at *
          obtain ⟨xi, xo, xl, xr⟩ := xe
          simp only at hle hcells hxb hfd
          simp only [Ent.big] at hxb
          obtain ⟨D, hD⟩ : ∃ D, id - xi = D := ⟨_, rfl⟩
          have hDI : ((id : Int) - (xi : Int)) % 18446744073709551616 = (D : Int) := by omega
          have hDW : IntKind.u64.wrap ((id : Int) - (xi : Int)) = (D : Int) := by rw [IntKind.wrap_u64]; omega
          rw [hD] at hfd
          clear h1 h2 hrW hbg hR hci hr hxq hql hle hxb hD hti htI ht2 ht3 hlt hin hidI hid hi0 ht1
          by_cases hc : 0 < xr ∧ xr ≤ D
          · rw [if_pos hc] at hfd
            have hz1 : (Fd es id (q + 1)).1.cells = #[Value.int .u64 0, .int .u64 0, .int .u64 0, .int .u64 0] := by rw [hfd]; rfl
            have hz2 : (Fd es id (q + 1)).2 = false := by rw [hfd]
            have hc0 : ((xr : Int) == 0) = false := by simp; omega
            have hc2 : (xr : Int) ≤ D := by omega
            clear hc hfd
            replace hz1 := hide hz1
            replace hz2 := hide hz2
            go_wp2_with (first
              | (go_at_call 24; (with_reducible refine hrt.out.mono ?_); rintro e w1 ⟨rfl, hb1⟩; have hk1 := hide (hk0.out.below hb1 hk0.out.lt); have hb1 := hide (hb0.out.trans (hb1.mono (by have := hs0.out; omega))); obtain ⟨bb, o, rfl, hbB, e0, e1, e2, e3⟩ := hcells.out _ hb1.out; have hkM := hide (hk1.out.alloc (Obj.cells #[Value.int .u64 (xi : Int), .int .u64 (xo : Int), .int .u64 (xl : Int), .int .u64 (xr : Int)] 43)); have hbM := hide (hb1.out.trans ((Below.refl G w1).alloc (by have := hb1.out.size; omega) (Obj.cells #[Value.int .u64 (xi : Int), .int .u64 (xo : Int), .int .u64 (xl : Int), .int .u64 (xr : Int)] 43))))
              | (with_reducible refine wpList_store_row (o := ⟨none, .store 43 (.tmp 4) (.tmp 48), _, _, _, _⟩) rfl 43 (.tmp 4) (.tmp 48) rfl G #[Value.int .u64 0, .int .u64 0, .int .u64 0, .int .u64 0] rfl rfl 43 _ hkM.out.eq (info_ent _ _ _ _) rfl (ent_one 0 0 0 0) ?_))
            refine bodyPost_ret_by (results_row_tmp rfl _ _ G 43 #[Value.int .u64 0, .int .u64 0, .int .u64 0, .int .u64 0] (0, 0) _ rfl (hkM.out.row _) Try.underlying43 rfl (info_ent _ _ _ _)) rfl ⟨by rw [hz1.out, hz2.out]; rfl, below_row hbM.out (Nat.le_refl _) _⟩
          · rw [if_neg hc] at hfd
            have hz1 : (Fd es id (q + 1)).1.cells = #[Value.int .u64 (xi : Int), .int .u64 (xo : Int), .int .u64 (xl : Int), .int .u64 (xr : Int)] := by rw [hfd]; rfl
            have hz2 : (Fd es id (q + 1)).2 = true := by rw [hfd]
            have hc' : xr = 0 ∨ (0 < xr ∧ D < xr) := by omega
            clear hc hfd
            rcases hc' with hc1 | ⟨hc1, hc2⟩
            · have hc0 : ((xr : Int) == 0) = true := by simp; omega
              clear hc1
              replace hz1 := hide hz1
              replace hz2 := hide hz2
              go_wp2_with (first
                | (go_at_call 24; (with_reducible refine hrt.out.mono ?_); rintro e w1 ⟨rfl, hb1⟩; have hk1 := hide (hk0.out.below hb1 hk0.out.lt); have hb1 := hide (hb0.out.trans (hb1.mono (by have := hs0.out; omega))); obtain ⟨bb, o, rfl, hbB, e0, e1, e2, e3⟩ := hcells.out _ hb1.out; have hkM := hide (hk1.out.alloc (Obj.cells #[Value.int .u64 (xi : Int), .int .u64 (xo : Int), .int .u64 (xl : Int), .int .u64 (xr : Int)] 43)); have hbM := hide (hb1.out.trans ((Below.refl G w1).alloc (by have := hb1.out.size; omega) (Obj.cells #[Value.int .u64 (xi : Int), .int .u64 (xo : Int), .int .u64 (xl : Int), .int .u64 (xr : Int)] 43))))
                | (with_reducible refine wpList_store_row (o := ⟨none, .store 43 (.tmp 4) (.tmp 47), _, _, _, _⟩) rfl 43 (.tmp 4) (.tmp 47) rfl G #[Value.int .u64 (xi : Int), .int .u64 (xo : Int), .int .u64 (xl : Int), .int .u64 (xr : Int)] rfl rfl 43 _ hkM.out.eq (info_ent _ _ _ _) rfl (ent_one _ _ _ _) ?_))
              refine bodyPost_ret_by (results_row_tmp rfl _ _ G 43 #[Value.int .u64 (xi : Int), .int .u64 (xo : Int), .int .u64 (xl : Int), .int .u64 (xr : Int)] (0, 0) _ rfl (hkM.out.row _) Try.underlying43 rfl (info_ent _ _ _ _)) rfl ⟨by rw [hz1.out, hz2.out]; rfl, below_row hbM.out (Nat.le_refl _) _⟩
            · have hc0 : ((xr : Int) == 0) = false := by simp; omega
              have hc2I : (D : Int) < xr := by omega
              clear hc1 hc2
              replace hz1 := hide hz1
              replace hz2 := hide hz2
              go_wp2_with (first
                | (go_at_call 24; (with_reducible refine hrt.out.mono ?_); rintro e w1 ⟨rfl, hb1⟩; have hk1 := hide (hk0.out.below hb1 hk0.out.lt); have hb1 := hide (hb0.out.trans (hb1.mono (by have := hs0.out; omega))); obtain ⟨bb, o, rfl, hbB, e0, e1, e2, e3⟩ := hcells.out _ hb1.out; have hkM := hide (hk1.out.alloc (Obj.cells #[Value.int .u64 (xi : Int), .int .u64 (xo : Int), .int .u64 (xl : Int), .int .u64 (xr : Int)] 43)); have hbM := hide (hb1.out.trans ((Below.refl G w1).alloc (by have := hb1.out.size; omega) (Obj.cells #[Value.int .u64 (xi : Int), .int .u64 (xo : Int), .int .u64 (xl : Int), .int .u64 (xr : Int)] 43))))
                | (with_reducible refine wpList_store_row (o := ⟨none, .store 43 (.tmp 4) (.tmp 47), _, _, _, _⟩) rfl 43 (.tmp 4) (.tmp 47) rfl G #[Value.int .u64 (xi : Int), .int .u64 (xo : Int), .int .u64 (xl : Int), .int .u64 (xr : Int)] rfl rfl 43 _ hkM.out.eq (info_ent _ _ _ _) rfl (ent_one _ _ _ _) ?_))
              refine bodyPost_ret_by (results_row_tmp rfl _ _ G 43 #[Value.int .u64 (xi : Int), .int .u64 (xo : Int), .int .u64 (xl : Int), .int .u64 (xr : Int)] (0, 0) _ rfl (hkM.out.row _) Try.underlying43 rfl (info_ent _ _ _ _)) rfl ⟨by rw [hz1.out, hz2.out]; rfl, below_row hbM.out (Nat.le_refl _) _⟩
      · have hr0 := h1.out hR
        subst hr0
        have hrt := hide (hrW.out W0 (hb0.out.mono hB) false ⟨fun h => absurd h hR, fun h => by cases h⟩)
        clear h1 h2 hrW hbg hr hlt
        go_wp2_with (first
          | (go_at_call 24; (with_reducible refine hrt.out.mono ?_); rintro e w1 ⟨rfl, hb1⟩; have hk1 := hide (hk0.out.below hb1 hk0.out.lt); have hb1 := hide (hb0.out.trans (hb1.mono (by have := hs0.out; omega))))
          | (with_reducible refine wpList_store_row (o := ⟨none, .store 43 (.tmp 4) (.tmp 30), _, _, _, _⟩) rfl 43 (.tmp 4) (.tmp 30) rfl G #[Value.int .u64 0, .int .u64 0, .int .u64 0, .int .u64 0] rfl rfl 43 _ hk1.out.eq (info_ent _ _ _ _) rfl (ent_one 0 0 0 0) ?_))
        refine bodyPost_ret_by (results_row_tmp rfl _ _ G 43 #[Value.int .u64 0, .int .u64 0, .int .u64 0, .int .u64 0] (0, 0) _ rfl (hk1.out.row _) Try.underlying43 rfl (info_ent _ _ _ _)) rfl ⟨rfl, below_row hb1.out (Nat.le_refl _) _⟩

end Go.Proofs.Ytmpdoileiniijaa
