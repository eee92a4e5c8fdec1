/- Layer 4 (inflate), the document's answer: fail, bits, symbol and put, walked, by a state as a value. The conditions: where the bits and the bytes lie. Layer 4 (inflate), the document's answer: symbol and put, walked, by a state as a value. The conditions: where the bits and the bytes lie. Layer 4 (inflate), the document's answer: a state in memory and as a value; the contracts of fail, bits, symbol and put once more. The conditions: where things lie. Layer 4 (inflate), the document's answer: stored, walked. The conditions: where things lie. Layer 4 (inflate), the document's answer: copied, walked. The conditions: where things lie. Layer 4 (inflate), the document's answer: symbols, walked. The conditions: where things lie. -/
import Derived.Test.YtaapjampmnanmaaGreatHuffX
import Derived.Test.YtaapjampmnanmaaGreatInfX
import Derived.Test.YtaapjampmnanmaaGreatGz
import Derived.Deep.LoopGhost
import Derived.StillTailTactics
namespace Go.Proofs.YtaapjampmnanmaaGreat
open Go.RowKit Go.Shelf
set_option linter.unusedVariables false
set_option linter.unusedSimpArgs false

/-- What the document's bits and symbol do with the place and the error; and what they tell. -/
def RI.bits (l : List Bool) (k a e : Nat) : Nat × Nat × Nat := if e = 0 then (if a + k ≤ l.length then (a + k, 0, Bit.num ((l.drop a).take k)) else (a, 2, 0)) else (a, e, 0)
def RI.sym (l : List Bool) (ls : List Nat) (a e : Nat) : Nat × Nat × Nat := if e = 0 then (match Huf.dec ls (l.drop a) 15 0 0 with | (m, x, 0) => (a + x, 0, m) | (_, _, e + 1) => (a, e + 1, 0)) else (a, e, 0)
/-- A state's cells. -/
abbrev sc (Al : Option Addr) (n cl a : Nat) (Ao : Option Addr) (m co most e : Nat) : Value := .agg #[.slice Al n cl, .int .i64 (a : Nat), .slice Ao m co, .int .i64 (most : Nat), .int .i64 (e : Nat)]

set_option maxRecDepth 100000 in
set_option maxHeartbeats 1000000 in
theorem ri_fail (Al Ao : Option Addr) (n cl m co a most e er : Nat) (w : World) :
    Calls Tryz.prog 124 #[.agg #[.slice Al n cl, .int .i64 (a : Nat), .slice Ao m co, .int .i64 (most : Nat), .int .i64 (e : Nat)], .int .i64 (er : Nat)] w fun x w' => x = .returned (sc Al n cl a Ao m co most (if e = 0 then er else e)) ∧ Below w.heap.size w w' := by
  by_cases he : e = 0
  all_goals (
    obtain ⟨E, hE⟩ : ∃ E : Int, (e : Int) = E := ⟨_, rfl⟩
    obtain ⟨ER, hER⟩ : ∃ E : Int, (er : Int) = E := ⟨_, rfl⟩
    unfold sc)
  · subst he
    rw [if_pos rfl, hER]
    obtain rfl : E = 0 := by omega
    clear hE
    go_enter Tryz.func124, Tryz.ntmps124
    go_wp2
    refine bodyPost_ret (v := .agg #[.slice Al n cl, .int .i64 (a : Nat), .slice Ao m co, .int .i64 (most : Nat), .int .i64 ER]) (by simp [results, Tryz.results124, go_sem]) rfl ?_
    exact ⟨rfl, ((Below.refl _ w).alloc (Nat.le_refl _) _).alloc (by simp) _⟩
  · have hne : (E == 0) = false := by simp; omega
    rw [if_neg he, hE, hER]
    clear he
    go_enter Tryz.func124, Tryz.ntmps124
    go_wp2
    refine bodyPost_ret (v := .agg #[.slice Al n cl, .int .i64 (a : Nat), .slice Ao m co, .int .i64 (most : Nat), .int .i64 E]) (by simp [results, Tryz.results124, go_sem]) rfl ?_
    exact ⟨rfl, ((Below.refl _ w).alloc (Nat.le_refl _) _).alloc (by simp) _⟩

theorem ri_fail0 (Al Ao : Option Addr) (n cl m co a most er : Nat) (w : World) :
    Calls Tryz.prog 124 #[.agg #[.slice Al n cl, .int .i64 (a : Nat), .slice Ao m co, .int .i64 (most : Nat), .int .i64 0], .int .i64 (er : Nat)] w fun x w' => x = .returned (sc Al n cl a Ao m co most er) ∧ Below w.heap.size w w' := ri_fail Al Ao n cl m co a most 0 er w
theorem ri_sub {W : World} {B n : Nat} {A : Option Addr} {l : List Bool} (h : Rd W B A n (l.map Value.bool)) (p k : Nat) (hk : p + k ≤ n) : Rd W B (A.map fun x => x.add p) k (((l.drop p).take k).map Value.bool) := by
  have h1 := h.sub p k hk
  rwa [← List.map_drop, ← List.map_take] at h1

set_option maxRecDepth 100000 in
set_option maxHeartbeats 1000000 in
theorem ri_bits_bad (Al Ao : Option Addr) (n cl m co a most e k : Nat) (w : World) (he : e ≠ 0) :
    Calls Tryz.prog 119 #[.agg #[.slice Al n cl, .int .i64 (a : Nat), .slice Ao m co, .int .i64 (most : Nat), .int .i64 (e : Nat)], .int .i64 (k : Nat)] w fun x w' => x = .returned (.tuple #[sc Al n cl a Ao m co most e, .int .i64 0]) ∧ Below w.heap.size w w' := by
  obtain ⟨E, hE⟩ : ∃ E : Int, (e : Int) = E := ⟨_, rfl⟩
  unfold sc
  have hne : (E != 0) = true := by simp; omega
  rw [hE]
  clear he
  go_enter Tryz.func119, Tryz.ntmps119
  go_wp2
  refine bodyPost_ret (v := .tuple #[.agg #[.slice Al n cl, .int .i64 (a : Nat), .slice Ao m co, .int .i64 (most : Nat), .int .i64 E], .int .i64 0]) (by simp [results, Tryz.results119, go_sem]) rfl ?_
  exact ⟨rfl, ((Below.refl _ w).alloc (Nat.le_refl _) _).alloc (by simp) _⟩

theorem st_info : (Tryz.prog.info? 173).map (·.size) = some 5 := by kernel_rfl
theorem st_infos (c0 c1 c2 c3 c4 : Value) : (Tryz.prog.info? 173).map (·.size) = some (#[c0, c1, c2, c3, c4] : Array Value).size := st_info
theorem st_hold (d0 d1 d2 d3 d4 c0 c1 c2 c3 c4 : Value) : (#[d0, d1, d2, d3, d4] : Array Value).size = (#[c0, c1, c2, c3, c4] : Array Value).size := rfl
theorem st_one (Al Ao : Option Addr) (n cl m co : Nat) (a most e : Int) : (#[.slice Al n cl, .int .i64 a, .slice Ao m co, .int .i64 most, .int .i64 e] : Array Value).all (·.oneCell') = true := by simp [Value.oneCell']
theorem st_res {fn : Func} {p u : Tmp} (h : fn.results = #[.cell p 173, .tmp u]) (tmps : Array Value) (w : World) (g : Nat) (c0 c1 c2 c3 c4 : Value)
    (hp : tmps.getD p undef = .pointer (some ⟨g, 0, none⟩)) (hg : Blk w g 173 #[c0, c1, c2, c3, c4]) :
    (results fn tmps).run Tryz.prog w = .ok (.tuple #[.agg #[c0, c1, c2, c3, c4], tmps.getD u undef]) w := by
  rw [results_cell_tmp h]
  have hp' : tmps[p]?.getD undef = .pointer (some ⟨g, 0, none⟩) := by simpa using hp
  simp [asAddr, hp', run_loadVar_row w g 173 173 _ (0, 0) _ hg Tryz.underlying173 rfl st_info]

set_option maxRecDepth 100000 in
set_option maxHeartbeats 1000000 in
theorem ri_bits_short (Al Ao : Option Addr) (n cl m co a most k : Nat) (w : World) (hn : n ≤ 1048576) (ha : a ≤ n) (hk : n < a + k) (hk2 : k ≤ 32) :
    Calls Tryz.prog 119 #[.agg #[.slice Al n cl, .int .i64 (a : Nat), .slice Ao m co, .int .i64 (most : Nat), .int .i64 0], .int .i64 (k : Nat)] w fun x w' => x = .returned (.tuple #[sc Al n cl a Ao m co most 2, .int .i64 0]) ∧ Below w.heap.size w w' := by
  have hf := hide (fun W => show Calls Tryz.prog 124 #[.agg #[.slice Al n cl, .int .i64 (a : Nat), .slice Ao m co, .int .i64 (most : Nat), .int .i64 0], .int .i64 2] W fun x w' => x = .returned (.agg #[.slice Al n cl, .int .i64 (a : Nat), .slice Ao m co, .int .i64 (most : Nat), .int .i64 2]) ∧ Below W.heap.size W w' from ri_fail0 Al Ao n cl m co a most 2 W)
  have hlt : (n : Int) - (a : Int) < (k : Int) := by omega
  have hw1 : IntKind.i64.wrap ((n : Int) - (a : Int)) = (n : Int) - (a : Int) := by rw [IntKind.wrap_i64]; omega
  obtain ⟨G, hG⟩ : ∃ G, w.heap.size = G := ⟨_, rfl⟩
  rw [hG]
  go_enter Tryz.func119, Tryz.ntmps119
  go_wp2_with fail
  refine (hf.out _).mono ?_
  rintro e w2 ⟨rfl, b2⟩
  have k2 := hide (show Blk w2 (G + 1) 173 #[.slice none 0 0, .int .i64 0, .slice none 0 0, .int .i64 0, .int .i64 0] from by
    refine Blk.below ?_ b2 (by simp; omega)
    rw [← hG]
    have := Blk.new (w.alloc (.cells #[.slice Al n cl, .int .i64 (a : Nat), .slice Ao m co, .int .i64 (most : Nat), .int .i64 0] 173)) 173 #[.slice none 0 0, .int .i64 0, .slice none 0 0, .int .i64 0, .int .i64 0]
    simpa using this)
  have b2 := hide (show Below G w w2 from (((Below.refl G w).alloc (by omega) _).alloc (by simp; omega) _).trans (b2.mono (by simp; omega)))
  obtain ⟨w3, hw3⟩ : ∃ W, w2.setRow (G + 1) #[.slice Al n cl, .int .i64 (a : Nat), .slice Ao m co, .int .i64 (most : Nat), .int .i64 2] = W := ⟨_, rfl⟩
  have k3 := hide (show Blk w3 (G + 1) 173 #[.slice Al n cl, .int .i64 (a : Nat), .slice Ao m co, .int .i64 (most : Nat), .int .i64 2] from by rw [← hw3]; exact k2.out.row _)
  have b3 := hide (show Below G w w3 from by rw [← hw3]; exact below_row b2.out (by omega) _)
  go_wp2_with ((with_reducible refine wpList_store_row (o := ⟨none, .store 173 (.tmp 4) (.tmp 20), _, _, _, _⟩) rfl 173 (.tmp 4) (.tmp 20) rfl (G + 1) #[.slice Al n cl, .int .i64 (a : Nat), .slice Ao m co, .int .i64 (most : Nat), .int .i64 2] rfl rfl 173 _ k2.out.eq (st_infos _ _ _ _ _) (st_hold _ _ _ _ _ _ _ _ _ _) (st_one _ _ _ _ _ _ _ _ _) ?_); rw [hw3])
  exact bodyPost_ret_by (st_res rfl _ _ (G + 1) _ _ _ _ _ rfl k3.out) rfl ⟨rfl, b3.out⟩

set_option maxRecDepth 100000 in
set_option maxHeartbeats 2000000 in
theorem ri_bits_ok (Al Ao : Option Addr) (n cl m co a most k y B : Nat) (l : List Bool) (w : World) (hr : Rd w B Al n (l.map Value.bool)) (hB : B ≤ w.heap.size) (hc : n ≤ cl) (hn : n ≤ 1048576) (hk : a + k ≤ n) (hk2 : k ≤ 32) (hy : Bit.num ((l.drop a).take k) = y) :
    Calls Tryz.prog 119 #[.agg #[.slice Al n cl, .int .i64 (a : Nat), .slice Ao m co, .int .i64 (most : Nat), .int .i64 0], .int .i64 (k : Nat)] w fun x w' => x = .returned (.tuple #[.agg #[.slice Al n cl, .int .i64 ((a : Int) + (k : Int)), .slice Ao m co, .int .i64 (most : Nat), .int .i64 0], .int .i64 (y : Nat)]) ∧ Below w.heap.size w w' := by
  have hnlt : ¬ (n : Int) - (a : Int) < (k : Int) := by omega
  have hw1 : IntKind.i64.wrap ((n : Int) - (a : Int)) = (n : Int) - (a : Int) := by rw [IntKind.wrap_i64]; omega
  have hw2 : IntKind.i64.wrap ((a : Int) + (k : Int)) = (a : Int) + (k : Int) := by rw [IntKind.wrap_i64]; omega
  have hyl : y < 4294967296 := by
    rw [← hy]
    refine Nat.lt_of_lt_of_le (Bit.num_lt _) ?_
    have : ((l.drop a).take k).length ≤ k := by rw [List.length_take]; omega
    calc 2 ^ ((l.drop a).take k).length ≤ 2 ^ 32 := Nat.pow_le_pow_right (by decide) (by omega)
      _ = 4294967296 := by decide
  have hw3 : IntKind.i64.wrap (y : Int) = (y : Int) := by rw [IntKind.wrap_i64]; omega
  have hs1 : (a : Int) ≤ (a : Int) + (k : Int) := by omega
  have hs2 : (a : Int) + (k : Int) ≤ (cl : Int) := by omega
  have hrd := hide (fun A' c' W (h : Rd W B A' k (((l.drop a).take k).map Value.bool)) => refnumber_any A' k c' ((l.drop a).take k) W B h hk2)
  rw [hy] at hrd
  obtain ⟨G, hG⟩ : ∃ G, w.heap.size = G := ⟨_, rfl⟩
  have hbel : ∀ cs cs', Below G w ((w.alloc (.cells cs 173)).alloc (.cells cs' 173)) := fun cs cs' => ((Below.refl G w).alloc (by omega) _).alloc (by simp; omega) _
  rw [hG]
  have hBG : B ≤ G := by omega
  have hr := hide hr
  have hbel := hide hbel
  have hk := hide hk
  clear hyl hy hB
  rcases (show cl = a ∨ cl ≠ a by omega) with hca | hca
  · have hca2 := hca.symm
    subst hca2
    obtain rfl : k = 0 := by have := hk.out; omega
    have hrd := hide (hrd.out Al 0 ((w.alloc (.cells #[.slice Al n a, .int .i64 (a : Nat), .slice Ao m co, .int .i64 (most : Nat), .int .i64 0] 173)).alloc (.cells #[.slice none 0 0, .int .i64 0, .slice none 0 0, .int .i64 0, .int .i64 0] 173)) (by rw [List.take_zero]; exact Rd.nil _ _ _))
    have hnI : (a : Int) ≤ (n : Int) := by have := hk.out; omega
    clear hs1 hs2 hw2 hnlt
    go_enter Tryz.func119, Tryz.ntmps119
    go_wp2_with (go_at_call 150; (with_reducible refine (hrd.out).mono ?_); rintro e w' ⟨rfl, rfl⟩)
    refine bodyPost_ret (v := .tuple #[.agg #[.slice Al n a, .int .i64 (a : Nat), .slice Ao m co, .int .i64 (most : Nat), .int .i64 0], .int .i64 (y : Nat)]) (by simp [results, Tryz.results119, go_sem, hG]) rfl ?_
    exact ⟨by simp, hbel.out _ _⟩
  · have hrd := hide (hrd.out (Al.map fun x => x.add a) (cl - a) ((w.alloc (.cells #[.slice Al n cl, .int .i64 (a : Nat), .slice Ao m co, .int .i64 (most : Nat), .int .i64 0] 173)).alloc (.cells #[.slice none 0 0, .int .i64 0, .slice none 0 0, .int .i64 0, .int .i64 0] 173)) (ri_sub (hr.out.below ((hbel.out _ _).mono hBG)) a k hk.out))
    go_enter Tryz.func119, Tryz.ntmps119
    go_wp2_with (go_at_call 150; (with_reducible refine (hrd.out).mono ?_); rintro e w' ⟨rfl, rfl⟩)
    refine bodyPost_ret (v := .tuple #[.agg #[.slice Al n cl, .int .i64 ((a : Int) + (k : Int)), .slice Ao m co, .int .i64 (most : Nat), .int .i64 0], .int .i64 (y : Nat)]) (by simp [results, Tryz.results119, go_sem, hG]) rfl ?_
    exact ⟨rfl, hbel.out _ _⟩

theorem ri_bits (Al Ao : Option Addr) (n cl m co a most e k B : Nat) (l : List Bool) (w : World) (hr : Rd w B Al n (l.map Value.bool)) (hB : B ≤ w.heap.size) (hc : n ≤ cl) (hn : n ≤ 1048576) (ha : a ≤ n) (hk2 : k ≤ 32) :
    Calls Tryz.prog 119 #[.agg #[.slice Al n cl, .int .i64 (a : Nat), .slice Ao m co, .int .i64 (most : Nat), .int .i64 (e : Nat)], .int .i64 (k : Nat)] w fun x w' => x = .returned (.tuple #[.agg #[.slice Al n cl, .int .i64 ((RI.bits l k a e).1 : Nat), .slice Ao m co, .int .i64 (most : Nat), .int .i64 ((RI.bits l k a e).2.1 : Nat)], .int .i64 ((RI.bits l k a e).2.2 : Nat)]) ∧ Below w.heap.size w w' := by
  have hl : l.length = n := hr.len
  unfold RI.bits
  by_cases he : e = 0
  · subst he
    rw [if_pos rfl]
    by_cases hk : a + k ≤ n
    · rw [if_pos (by omega)]
      refine (show Calls Tryz.prog 119 #[.agg #[.slice Al n cl, .int .i64 (a : Nat), .slice Ao m co, .int .i64 (most : Nat), .int .i64 0], .int .i64 (k : Nat)] w _ from ri_bits_ok Al Ao n cl m co a most k _ B l w hr hB hc hn hk hk2 rfl).mono ?_
      rintro e w' ⟨rfl, h⟩
      exact ⟨by simp, h⟩
    · rw [if_neg (by omega)]
      exact ri_bits_short Al Ao n cl m co a most k w hn ha (by omega) hk2
  · rw [if_neg he]
    exact ri_bits_bad Al Ao n cl m co a most e k w he

end Go.Proofs.YtaapjampmnanmaaGreat

namespace Go.Proofs.YtaapjampmnanmaaGreat
open Go.RowKit Go.Shelf
set_option linter.unusedVariables false
set_option linter.unusedSimpArgs false

set_option maxRecDepth 100000 in
set_option maxHeartbeats 2000000 in
theorem ri_sym_bad (Al Ao : Option Addr) (n cl m co a most e : Nat) (cs : Array Value) (w : World) (he : e ≠ 0) :
    Calls Tryz.prog 153 #[.agg #[.slice Al n cl, .int .i64 (a : Nat), .slice Ao m co, .int .i64 (most : Nat), .int .i64 (e : Nat)], .agg cs] w fun x w' => x = .returned (.tuple #[.agg #[.slice Al n cl, .int .i64 (a : Nat), .slice Ao m co, .int .i64 (most : Nat), .int .i64 (e : Nat)], .int .i64 0]) ∧ Below w.heap.size w w' := by
  obtain ⟨E, hE⟩ : ∃ E : Int, (e : Int) = E := ⟨_, rfl⟩
  have hne : (E != 0) = true := by simp; omega
  rw [hE]
  clear he
  go_enter Tryz.func153, Tryz.ntmps153
  go_wp2
  refine bodyPost_ret (v := .tuple #[.agg #[.slice Al n cl, .int .i64 (a : Nat), .slice Ao m co, .int .i64 (most : Nat), .int .i64 E], .int .i64 0]) (by simp [results, Tryz.results153, go_sem]) rfl ?_
  exact ⟨rfl, (((Below.refl _ w).alloc (Nat.le_refl _) _).alloc (by simp) _).alloc (by simp; omega) _⟩

set_option maxRecDepth 100000 in
set_option maxHeartbeats 4000000 in
theorem ri_sym_ok (Al Ao : Option Addr) (n cl m co a most B0 B : Nat) (ls : List Nat) (cs : Array Value) (l : List Bool) (w : World) (hv : BookV B0 w ls cs) (hr : Rd w B Al n (l.map Value.bool)) (hB : B ≤ w.heap.size) (hc : n ≤ cl) (hn : n ≤ 1048576) (ha : a ≤ n) (hsl : Huf.sum ls ≤ 32768)
    (y x er : Nat) (hd : Huf.dec ls (l.drop a) 15 0 0 = (y, x, er)) :
    Calls Tryz.prog 153 #[.agg #[.slice Al n cl, .int .i64 (a : Nat), .slice Ao m co, .int .i64 (most : Nat), .int .i64 0], .agg cs] w fun z w' => z = .returned (.tuple #[.agg #[.slice Al n cl, .int .i64 ((if er = 0 then a + x else a : Nat) : Int), .slice Ao m co, .int .i64 (most : Nat), .int .i64 (er : Nat)], .int .i64 ((if er = 0 then y else 0 : Nat) : Int)]) ∧ Below w.heap.size w w' := by
  obtain ⟨G, hG⟩ : ∃ G, w.heap.size = G := ⟨_, rfl⟩
  rw [hG]
  have hsz : cs.size = 32 := by obtain ⟨Ao, co, h, _⟩ := hv; exact h.size
  have hone : cs.all (·.oneCell') = true := by obtain ⟨Ao, co, h, _⟩ := hv; exact h.one
  have hib := hide (info_book' hsz)
  obtain ⟨w1, hw1⟩ : ∃ W, w.alloc (.cells #[.slice Al n cl, .int .i64 (a : Nat), .slice Ao m co, .int .i64 (most : Nat), .int .i64 0] 173) = W := ⟨_, rfl⟩
  obtain ⟨w2, hw2⟩ : ∃ W, w1.alloc (.cells cs 180) = W := ⟨_, rfl⟩
  obtain ⟨w3, hw3⟩ : ∃ W, w2.alloc (.cells #[.slice none 0 0, .int .i64 0, .slice none 0 0, .int .i64 0, .int .i64 0] 173) = W := ⟨_, rfl⟩
  have s1 : w1.heap.size = G + 1 := by rw [← hw1, ← hG]; simp
  have s2 : w2.heap.size = G + 1 + 1 := by rw [← hw2, ← s1]; simp
  have s3 : w3.heap.size = G + 1 + 1 + 1 := by rw [← hw3, ← s2]; simp
  have k1 := hide (show Blk w3 G 173 #[.slice Al n cl, .int .i64 (a : Nat), .slice Ao m co, .int .i64 (most : Nat), .int .i64 0] from by rw [← hw3, ← hw2]; exact ((show Blk w1 G _ _ from by rw [← hw1, ← hG]; exact Blk.new w _ _).alloc _).alloc _)
  have k2 := hide (show Blk w3 (G + 1) 180 cs from by rw [← hw3]; exact (show Blk w2 (G + 1) _ _ from by rw [← hw2, ← s1]; exact Blk.new w1 _ _).alloc _)
  have k3 := hide (show Blk w3 (G + 1 + 1) 173 #[.slice none 0 0, .int .i64 0, .slice none 0 0, .int .i64 0, .int .i64 0] from by rw [← hw3, ← s2]; exact Blk.new w2 _ _)
  have b3 := hide (show Below G w w3 from by rw [← hw3, ← hw2, ← hw1]; exact (((Below.refl G w).alloc (by omega) _).alloc (by simp; omega) _).alloc (by simp; omega) _)
  have hv3 := hide (show BookV B0 w3 ls cs from by
    obtain ⟨Ao', co', h1, h2⟩ := hv
    exact ⟨Ao', co', h1, fun s hs => (h2 s hs).below (by rw [hG]; exact b3.out)⟩)
  have hnx := hide (rhnext_any cs Al n cl a ls l w3 B0 B hv3.out (hr.below (b3.out.mono (by omega))) (by rw [s3]; omega) hn ha hsl y x er hd)
  have e0 := k1.out.cell 0
  have e1 := k1.out.cell 1
  have e4 := k1.out.cell 4
  simp only [List.getElem?_toArray, List.getElem?_cons_succ, List.getElem?_cons_zero] at e0 e1 e4
  have s3 := hide s3
  obtain ⟨ER, hER⟩ : ∃ E : Int, (er : Int) = E := ⟨_, rfl⟩
  obtain ⟨AX, hAX⟩ : ∃ E : Int, ((a + x : Nat) : Int) = E := ⟨_, rfl⟩
  rw [hER, hAX] at hnx
  replace hd := hide hd
  replace hv := hide hv
  replace hr := hide hr
  clear hsz hone
  by_cases he : er = 0
  · have hz : (ER != 0) = false := by simp; omega
    have hER0 : ER = 0 := by omega
    rw [if_pos he, if_pos he, hER, hAX, hER0]
    rw [hER0] at hnx hz
    replace hER := hide hER
    replace hAX := hide hAX
    clear hER0
    go_enter Tryz.func153, Tryz.ntmps153
    go_wp2_with (first
      | (with_reducible refine wpList_load_row (o := ⟨some 14, .load 180 (.tmp 3), _, _, _, _⟩) rfl 180 (.tmp 3) rfl (G + 1) rfl 180 cs (0, 0) _ k2.out.eq Tryz.underlying180 rfl hib.out ?_)
      | (go_at_call 179; (with_reducible refine (hnx.out).mono ?_); rintro e w4 ⟨rfl, b4⟩; have l4 := s3.out; have k14 := hide (k1.out.below b4 (by omega)); have k34 := hide (k3.out.below b4 (by omega)); have b4 := hide (b3.out.trans (b4.mono (by omega))); have f4 := k14.out.free 1; have c4 := k14.out.cell 1; simp only [List.getElem?_toArray, List.getElem?_cons_succ, List.getElem?_cons_zero] at c4;
         obtain ⟨w5, hw5⟩ : ∃ W, w4.setCell ⟨G, 1, none⟩ (.int .i64 AX) = W := ⟨_, rfl⟩;
         have k15 := hide (show Blk w5 G 173 #[.slice Al n cl, .int .i64 AX, .slice Ao m co, .int .i64 (most : Nat), .int .i64 0] from by rw [← hw5]; exact k14.out.set 1 _);
         have k35 := hide (show Blk w5 (G + 1 + 1) 173 #[.slice none 0 0, .int .i64 0, .slice none 0 0, .int .i64 0, .int .i64 0] from by rw [← hw5]; exact k34.out.far (by simp; omega) _);
         have b5 := hide (show Below G w w5 from by rw [← hw5]; exact b4.out.setCell (by simp) _);
         obtain ⟨w6, hw6⟩ : ∃ W, w5.setRow (G + 1 + 1) #[.slice Al n cl, .int .i64 AX, .slice Ao m co, .int .i64 (most : Nat), .int .i64 0] = W := ⟨_, rfl⟩;
         have k6 := hide (show Blk w6 (G + 1 + 1) 173 #[.slice Al n cl, .int .i64 AX, .slice Ao m co, .int .i64 (most : Nat), .int .i64 0] from by rw [← hw6]; exact k35.out.row _);
         have b6 := hide (show Below G w w6 from by rw [← hw6]; exact below_row b5.out (by omega) _))
      | (with_reducible refine wpList_load_row (o := ⟨some 30, .load 173 (.tmp 2), _, _, _, _⟩) rfl 173 (.tmp 2) rfl G rfl 173 _ (0, 0) _ k15.out.eq Tryz.underlying173 rfl (st_infos _ _ _ _ _) ?_)
      | ((with_reducible refine wpList_store_row (o := ⟨none, .store 173 (.tmp 4) (.tmp 30), _, _, _, _⟩) rfl 173 (.tmp 4) (.tmp 30) rfl (G + 1 + 1) #[.slice Al n cl, .int .i64 AX, .slice Ao m co, .int .i64 (most : Nat), .int .i64 0] rfl rfl 173 _ k35.out.eq (st_infos _ _ _ _ _) (st_hold _ _ _ _ _ _ _ _ _ _) (st_one _ _ _ _ _ _ _ _ _) ?_); rw [hw6]))
    exact bodyPost_ret_by (st_res rfl _ _ (G + 1 + 1) _ _ _ _ _ rfl k6.out) rfl ⟨rfl, b6.out⟩
  · have hz : (ER != 0) = true := by simp; omega
    rw [if_neg he, if_neg he, hER]
    have hf := hide (fun W => ri_fail0 Al Ao n cl m co a most er W)
    unfold sc at hf
    rw [hER] at hf
    replace hER := hide hER
    replace hAX := hide hAX
    go_enter Tryz.func153, Tryz.ntmps153
    go_wp2_with (first
      | (with_reducible refine wpList_load_row (o := ⟨some 14, .load 180 (.tmp 3), _, _, _, _⟩) rfl 180 (.tmp 3) rfl (G + 1) rfl 180 cs (0, 0) _ k2.out.eq Tryz.underlying180 rfl hib.out ?_)
      | (go_at_call 179; (with_reducible refine (hnx.out).mono ?_); rintro e w4 ⟨rfl, b4⟩; have l4 := s3.out; have k14 := hide (k1.out.below b4 (by omega)); have k34 := hide (k3.out.below b4 (by omega)); have b4 := hide (b3.out.trans (b4.mono (by omega))); have hf := hide (hf.out w4))
      | (with_reducible refine wpList_load_row (o := ⟨some 25, .load 173 (.tmp 2), _, _, _, _⟩) rfl 173 (.tmp 2) rfl G rfl 173 _ (0, 0) _ k14.out.eq Tryz.underlying173 rfl (st_infos _ _ _ _ _) ?_)
      | (go_at_call 124; (with_reducible refine (hf.out).mono ?_); rintro e w5 ⟨rfl, b5⟩; have k35 := hide (k34.out.below b5 k34.out.lt); have b5 := hide (b4.out.trans (b5.mono (by have := k34.out.lt; omega)));
         obtain ⟨w6, hw6⟩ : ∃ W, w5.setRow (G + 1 + 1) #[.slice Al n cl, .int .i64 (a : Nat), .slice Ao m co, .int .i64 (most : Nat), .int .i64 ER] = W := ⟨_, rfl⟩;
         have k6 := hide (show Blk w6 (G + 1 + 1) 173 #[.slice Al n cl, .int .i64 (a : Nat), .slice Ao m co, .int .i64 (most : Nat), .int .i64 ER] from by rw [← hw6]; exact k35.out.row _);
         have b6 := hide (show Below G w w6 from by rw [← hw6]; exact below_row b5.out (by omega) _))
      | ((with_reducible refine wpList_store_row (o := ⟨none, .store 173 (.tmp 4) (.tmp 27), _, _, _, _⟩) rfl 173 (.tmp 4) (.tmp 27) rfl (G + 1 + 1) #[.slice Al n cl, .int .i64 (a : Nat), .slice Ao m co, .int .i64 (most : Nat), .int .i64 ER] rfl rfl 173 _ k35.out.eq (st_infos _ _ _ _ _) (st_hold _ _ _ _ _ _ _ _ _ _) (st_one _ _ _ _ _ _ _ _ _) ?_); rw [hw6]))
    exact bodyPost_ret_by (st_res rfl _ _ (G + 1 + 1) _ _ _ _ _ rfl k6.out) rfl ⟨rfl, b6.out⟩

theorem ri_sym (Al Ao : Option Addr) (n cl m co a most e B0 B : Nat) (ls : List Nat) (cs : Array Value) (l : List Bool) (w : World) (hv : BookV B0 w ls cs) (hr : Rd w B Al n (l.map Value.bool)) (hB : B ≤ w.heap.size) (hc : n ≤ cl) (hn : n ≤ 1048576) (ha : a ≤ n) (hsl : Huf.sum ls ≤ 32768) :
    Calls Tryz.prog 153 #[.agg #[.slice Al n cl, .int .i64 (a : Nat), .slice Ao m co, .int .i64 (most : Nat), .int .i64 (e : Nat)], .agg cs] w fun z w' => z = .returned (.tuple #[.agg #[.slice Al n cl, .int .i64 ((RI.sym l ls a e).1 : Nat), .slice Ao m co, .int .i64 (most : Nat), .int .i64 ((RI.sym l ls a e).2.1 : Nat)], .int .i64 ((RI.sym l ls a e).2.2 : Nat)]) ∧ Below w.heap.size w w' := by
  unfold RI.sym
  by_cases he : e = 0
  · subst he
    rw [if_pos rfl]
    obtain ⟨⟨y, x, er⟩, hd⟩ : ∃ r, Huf.dec ls (l.drop a) 15 0 0 = r := ⟨_, rfl⟩
    have h := ri_sym_ok Al Ao n cl m co a most B0 B ls cs l w hv hr hB hc hn ha hsl y x er hd
    rw [hd]
    cases er with
    | zero => exact h
    | succ er => exact h
  · rw [if_neg he]
    exact ri_sym_bad Al Ao n cl m co a most e cs w he

/-- What the document's put does with the bytes and the error. -/
def RI.put (most : Nat) (c : UInt8) (o : List UInt8) (e : Nat) : List UInt8 × Nat := if e = 0 then (if most ≤ o.length then (o, 5) else (o ++ [c], 0)) else (o, e)
theorem KeepX.ow_chg {B n c : Nat} {A : Option Addr} {w w' : World} {xs : List Value} (h : Ow w B 5 A n c xs) (h2 : Chg (fun k => blk A = some k) w w') : KeepX w w' := by
  refine ⟨h2.size, fun k cs t fz x t1 _ t3 => (h2.block k (lt_of_block x) ?_).trans x⟩
  intro hr
  rcases h.2 with ⟨hv, _⟩ | ⟨g', cap, cur, hv, _, hh, _⟩
  · injection hv with e1
    rw [e1] at hr
    simp [blk] at hr
  · injection hv with e1
    rw [e1] at hr
    have : g' = k := by simpa [blk] using hr
    subst this
    rw [hh] at x
    injection x with x
    injection x with _ ht
    exact t3 ht.symm

set_option maxRecDepth 100000 in
set_option maxHeartbeats 2000000 in
theorem ri_put_bad (Al Ao : Option Addr) (n cl m co a most e : Nat) (c : Int) (w : World) (he : e ≠ 0) :
    Calls Tryz.prog 151 #[.agg #[.slice Al n cl, .int .i64 (a : Nat), .slice Ao m co, .int .i64 (most : Nat), .int .i64 (e : Nat)], .int .u8 c] w fun x w' => x = .returned (.agg #[.slice Al n cl, .int .i64 (a : Nat), .slice Ao m co, .int .i64 (most : Nat), .int .i64 (e : Nat)]) ∧ Below w.heap.size w w' := by
  obtain ⟨E, hE⟩ : ∃ E : Int, (e : Int) = E := ⟨_, rfl⟩
  have hne : (E == 0) = false := by simp; omega
  rw [hE]
  clear he
  go_enter Tryz.func151, Tryz.ntmps151
  go_wp2
  refine bodyPost_ret (v := .agg #[.slice Al n cl, .int .i64 (a : Nat), .slice Ao m co, .int .i64 (most : Nat), .int .i64 E]) (by simp [results, Tryz.results151, go_sem]) rfl ?_
  exact ⟨rfl, ((Below.refl _ w).alloc (Nat.le_refl _) _).alloc (by simp) _⟩

set_option maxRecDepth 100000 in
set_option maxHeartbeats 2000000 in
theorem ri_put_full (Al Ao : Option Addr) (n cl m co a most : Nat) (c : Int) (w : World) (hm : most ≤ m) :
    Calls Tryz.prog 151 #[.agg #[.slice Al n cl, .int .i64 (a : Nat), .slice Ao m co, .int .i64 (most : Nat), .int .i64 0], .int .u8 c] w fun x w' => x = .returned (.agg #[.slice Al n cl, .int .i64 (a : Nat), .slice Ao m co, .int .i64 (most : Nat), .int .i64 5]) ∧ Below w.heap.size w w' := by
  have hmI : (most : Int) ≤ (m : Int) := by omega
  obtain ⟨G, hG⟩ : ∃ G, w.heap.size = G := ⟨_, rfl⟩
  rw [hG]
  obtain ⟨w1, hw1⟩ : ∃ W, w.alloc (.cells #[.slice Al n cl, .int .i64 (a : Nat), .slice Ao m co, .int .i64 (most : Nat), .int .i64 0] 173) = W := ⟨_, rfl⟩
  obtain ⟨w3, hw3⟩ : ∃ W, w1.alloc (.cells #[.slice none 0 0, .int .i64 0, .slice none 0 0, .int .i64 0, .int .i64 0] 173) = W := ⟨_, rfl⟩
  have s1 : w1.heap.size = G + 1 := by rw [← hw1, ← hG]; simp
  have s3 := hide (show w3.heap.size = G + 1 + 1 from by rw [← hw3, ← s1]; simp)
  have k1 := (show Blk w3 G 173 #[.slice Al n cl, .int .i64 (a : Nat), .slice Ao m co, .int .i64 (most : Nat), .int .i64 0] from by rw [← hw3]; exact (show Blk w1 G _ _ from by rw [← hw1, ← hG]; exact Blk.new w _ _).alloc _)
  have k3 := hide (show Blk w3 (G + 1) 173 #[.slice none 0 0, .int .i64 0, .slice none 0 0, .int .i64 0, .int .i64 0] from by rw [← hw3, ← s1]; exact Blk.new w1 _ _)
  have b3 := hide (show Below G w w3 from by rw [← hw3, ← hw1]; exact ((Below.refl G w).alloc (by omega) _).alloc (by simp; omega) _)
  have hf := hide (show Calls Tryz.prog 124 #[.agg #[.slice Al n cl, .int .i64 (a : Nat), .slice Ao m co, .int .i64 (most : Nat), .int .i64 0], .int .i64 5] w3 fun x w' => x = .returned (.agg #[.slice Al n cl, .int .i64 (a : Nat), .slice Ao m co, .int .i64 (most : Nat), .int .i64 5]) ∧ Below w3.heap.size w3 w' from ri_fail0 Al Ao n cl m co a most 5 w3)
  have e0 := k1.cell 0
  have e1 := k1.cell 1
  have e2 := k1.cell 2
  have e3 := k1.cell 3
  have e4 := k1.cell 4
  simp only [List.getElem?_toArray, List.getElem?_cons_succ, List.getElem?_cons_zero] at e0 e1 e2 e3 e4
  have k1 := hide k1
  go_enter Tryz.func151, Tryz.ntmps151
  go_wp2_with (first
    | (with_reducible refine wpList_load_row (o := ⟨some 16, .load 173 (.tmp 2), _, _, _, _⟩) rfl 173 (.tmp 2) rfl G rfl 173 _ (0, 0) _ k1.out.eq Tryz.underlying173 rfl (st_infos _ _ _ _ _) ?_)
    | (go_at_call 124; (with_reducible refine (hf.out).mono ?_); rintro e w5 ⟨rfl, b5⟩; have k35 := hide (k3.out.below b5 k3.out.lt); have b5 := hide (b3.out.trans (b5.mono (by have := s3.out; omega)));
         obtain ⟨w6, hw6⟩ : ∃ W, w5.setRow (G + 1) #[.slice Al n cl, .int .i64 (a : Nat), .slice Ao m co, .int .i64 (most : Nat), .int .i64 5] = W := ⟨_, rfl⟩;
         have k6 := hide (show Blk w6 (G + 1) 173 #[.slice Al n cl, .int .i64 (a : Nat), .slice Ao m co, .int .i64 (most : Nat), .int .i64 5] from by rw [← hw6]; exact k35.out.row _);
         have b6 := hide (show Below G w w6 from by rw [← hw6]; exact below_row b5.out (by omega) _))
    | ((with_reducible refine wpList_store_row (o := ⟨none, .store 173 (.tmp 4) (.tmp 17), _, _, _, _⟩) rfl 173 (.tmp 4) (.tmp 17) rfl (G + 1) #[.slice Al n cl, .int .i64 (a : Nat), .slice Ao m co, .int .i64 (most : Nat), .int .i64 5] rfl rfl 173 _ k35.out.eq (st_infos _ _ _ _ _) (st_hold _ _ _ _ _ _ _ _ _ _) (st_one _ _ _ _ _ _ _ _ _) ?_); rw [hw6]))
  exact bodyPost_ret_by (results_cell_row rfl _ _ (G + 1) 173 _ (0, 0) _ rfl k6.out Tryz.underlying173 rfl (st_infos _ _ _ _ _)) rfl ⟨rfl, b6.out⟩

set_option maxRecDepth 100000 in
set_option maxHeartbeats 2000000 in
theorem ri_put_ok (Al Ao : Option Addr) (n cl m co a most B : Nat) (c : UInt8) (o : List UInt8) (w : World) (hm : m < most) (hmo : most ≤ 1048576) (ho : Ow w B 5 Ao m co (o.map bv)) (hB : B ≤ w.heap.size) :
    Calls Tryz.prog 151 #[.agg #[.slice Al n cl, .int .i64 (a : Nat), .slice Ao m co, .int .i64 (most : Nat), .int .i64 0], .int .u8 (c.toNat : Int)] w fun x w' => ∃ A' c', x = .returned (.agg #[.slice Al n cl, .int .i64 (a : Nat), .slice A' (m + 1) c', .int .i64 (most : Nat), .int .i64 0]) ∧ Ow w' B 5 A' (m + 1) c' ((o ++ [c]).map bv) ∧ Below B w w' ∧ KeepX w w' := by
  have hmI : (m : Int) < (most : Int) := by omega
  obtain ⟨G, hG⟩ : ∃ G, w.heap.size = G := ⟨_, rfl⟩
  obtain ⟨CI, hCI⟩ : ∃ I : Int, (c.toNat : Int) = I := ⟨_, rfl⟩
  rw [hCI]
  obtain ⟨w1, hw1⟩ : ∃ W, w.alloc (.cells #[.slice Al n cl, .int .i64 (a : Nat), .slice Ao m co, .int .i64 (most : Nat), .int .i64 0] 173) = W := ⟨_, rfl⟩
  obtain ⟨w3, hw3⟩ : ∃ W, w1.alloc (.cells #[.slice none 0 0, .int .i64 0, .slice none 0 0, .int .i64 0, .int .i64 0] 173) = W := ⟨_, rfl⟩
  have s1 : w1.heap.size = G + 1 := by rw [← hw1, ← hG]; simp
  have s3 := hide (show w3.heap.size = G + 1 + 1 from by rw [← hw3, ← s1]; simp)
  have k1 := (show Blk w3 G 173 #[.slice Al n cl, .int .i64 (a : Nat), .slice Ao m co, .int .i64 (most : Nat), .int .i64 0] from by rw [← hw3]; exact (show Blk w1 G _ _ from by rw [← hw1, ← hG]; exact Blk.new w _ _).alloc _)
  have k3 := hide (show Blk w3 (G + 1) 173 #[.slice none 0 0, .int .i64 0, .slice none 0 0, .int .i64 0, .int .i64 0] from by rw [← hw3, ← s1]; exact Blk.new w1 _ _)
  have b3 := hide (show Below G w w3 from by rw [← hw3, ← hw1]; exact ((Below.refl G w).alloc (by omega) _).alloc (by simp; omega) _)
  have o3 := hide (show Ow w3 B 5 Ao m co (o.map bv) from ho.below (by rw [hG]; exact b3.out))
  have hBG := hide (show B ≤ w3.heap.size from by rw [s3.out]; omega)
  have e0 := k1.cell 0
  have e1 := k1.cell 1
  have e2 := k1.cell 2
  have e3 := k1.cell 3
  have e4 := k1.cell 4
  simp only [List.getElem?_toArray, List.getElem?_cons_succ, List.getElem?_cons_zero] at e0 e1 e2 e3 e4
  have k1 := hide k1
  have hbv := hide (show bv c = .int .u8 CI from by rw [← hCI]; rfl)
  replace ho := hide ho
  go_enter Tryz.func151, Tryz.ntmps151
  go_wp2_with (first
    | (at_builtin; refine wpList_append_one w3 rfl (.tmp 22) (.tmp 24) rfl elem_byte rfl o3.out (.int .u8 CI) 5 _ rfl rfl (by simp only [maxLen]; omega) (by omega) hBG.out ?_; intro A4 c4 w4 o4 h4 n4;
       have k14 := hide (k1.out.chg h4 (fun hx => o3.out.ne k1.out (by decide) hx)); have k34 := hide (k3.out.chg h4 (fun hx => o3.out.ne k3.out (by decide) hx)); have x4 := hide (KeepX.ow_chg o3.out h4); have b4 := hide (show Below B w w4 from (b3.out.mono (by omega)).trans (h4.to_below hBG.out (fun i hi => (o3.out.blk_lt i hi).1)));
       have f4 := k14.out.free 2; have c4' := k14.out.cell 2; simp only [List.getElem?_toArray, List.getElem?_cons_succ, List.getElem?_cons_zero] at c4'; have o4 := hide o4; have h4 := hide h4; clear n4;
       obtain ⟨w5, hw5⟩ : ∃ W, w4.setCell ⟨G, 2, none⟩ (.slice A4 (m + 1) c4) = W := ⟨_, rfl⟩;
       have k15 := hide (show Blk w5 G 173 #[.slice Al n cl, .int .i64 (a : Nat), .slice A4 (m + 1) c4, .int .i64 (most : Nat), .int .i64 0] from by rw [← hw5]; exact k14.out.set 2 _);
       have k35 := hide (show Blk w5 (G + 1) 173 #[.slice none 0 0, .int .i64 0, .slice none 0 0, .int .i64 0, .int .i64 0] from by rw [← hw5]; exact k34.out.far (by simp) _);
       obtain ⟨w6, hw6⟩ : ∃ W, w5.setRow (G + 1) #[.slice Al n cl, .int .i64 (a : Nat), .slice A4 (m + 1) c4, .int .i64 (most : Nat), .int .i64 0] = W := ⟨_, rfl⟩;
       have k6 := hide (show Blk w6 (G + 1) 173 #[.slice Al n cl, .int .i64 (a : Nat), .slice A4 (m + 1) c4, .int .i64 (most : Nat), .int .i64 0] from by rw [← hw6]; exact k35.out.row _);
       have h46 := hide (show Chg (fun k => k = G ∨ k = G + 1) w4 w6 from by rw [← hw6, ← hw5]; exact ((Chg.refl (fun k => k = G ∨ k = G + 1) w4).setCell (p := ⟨G, 2, none⟩) (.inr (.inl rfl)) _).setRow (.inr (.inr rfl)) _))
    | (with_reducible refine wpList_load_row (o := ⟨some 27, .load 173 (.tmp 2), _, _, _, _⟩) rfl 173 (.tmp 2) rfl G rfl 173 _ (0, 0) _ k15.out.eq Tryz.underlying173 rfl (st_infos _ _ _ _ _) ?_)
    | ((with_reducible refine wpList_store_row (o := ⟨none, .store 173 (.tmp 4) (.tmp 27), _, _, _, _⟩) rfl 173 (.tmp 4) (.tmp 27) rfl (G + 1) #[.slice Al n cl, .int .i64 (a : Nat), .slice A4 (m + 1) c4, .int .i64 (most : Nat), .int .i64 0] rfl rfl 173 _ k35.out.eq (st_infos _ _ _ _ _) (st_hold _ _ _ _ _ _ _ _ _ _) (st_one _ _ _ _ _ _ _ _ _) ?_); rw [hw6]))
  refine bodyPost_ret_by (results_cell_row rfl _ _ (G + 1) 173 _ (0, 0) _ rfl k6.out Tryz.underlying173 rfl (st_infos _ _ _ _ _)) rfl ⟨A4, c4, rfl, ?_, ?_, ?_⟩
  · rw [List.map_append, List.map_cons, List.map_nil, hbv.out]
    refine o4.out.chg h46.out ?_
    rintro k hk (rfl | rfl)
    · exact o4.out.ne k14.out (by decide) hk
    · exact o4.out.ne k34.out (by decide) hk
  · exact b4.out.trans (h46.out.to_below (Nat.le_trans hB b4.out.size) (by rintro i (rfl | rfl) <;> omega))
  · have c3 : Chg (fun k => blk Ao = some k) w w3 := (Chg.of_below b3.out).mono (fun i hi h => absurd h (by omega))
    have c6 : Chg (fun k => blk Ao = some k) w w6 := (c3.trans h4.out (fun _ _ h => h)).trans h46.out (by rintro i hi (rfl | rfl) <;> omega)
    exact KeepX.ow_chg ho.out c6

end Go.Proofs.YtaapjampmnanmaaGreat

namespace Go.Proofs.YtaapjampmnanmaaGreat
open Go.RowKit Go.Shelf
set_option linter.unusedVariables false
set_option linter.unusedSimpArgs false

/-- A state: where its bits and its bytes lie. -/
structure RSt (W : World) (B : Nat) (l : List Bool) (most a : Nat) (o : List UInt8) (e : Nat) (Al : Option Addr) (n cl : Nat) (Ao : Option Addr) (m co : Nat) : Prop where
  ha : a ≤ n
  hm : o.length = m
  hmm : m ≤ most
  he : e ≤ 7
  hB : B ≤ W.heap.size
  hc : n ≤ cl
  hn : n ≤ 1048576
  hmost : most ≤ 1048576
  rd : Rd W B Al n (l.map Value.bool)
  ow : Ow W B 5 Ao m co (o.map bv)

section
variable {w W W' : World} {B G R : Nat} {l : List Bool} {most a : Nat} {o : List UInt8} {e : Nat} {Al : Option Addr} {n cl : Nat} {Ao : Option Addr} {m co : Nat} {c0 c1 c2 c3 c4 : Value}
theorem RSt.len (h : RSt W B l most a o e Al n cl Ao m co) : l.length = n := h.rd.len
theorem RSt.below (h : RSt W B l most a o e Al n cl Ao m co) (hb : Below W.heap.size W W') : RSt W' B l most a o e Al n cl Ao m co :=
  ⟨h.ha, h.hm, h.hmm, h.he, Nat.le_trans h.hB hb.size, h.hc, h.hn, h.hmost, h.rd.below (hb.mono h.hB), h.ow.below hb⟩
theorem RSt.at' (h : RSt W B l most a o e Al n cl Ao m co) {a' e' : Nat} (ha : a' ≤ n) (he : e' ≤ 7) : RSt W B l most a' o e' Al n cl Ao m co :=
  ⟨ha, h.hm, h.hmm, he, h.hB, h.hc, h.hn, h.hmost, h.rd, h.ow⟩
/-- A function's own blocks: its state, and its result. -/
structure SB (w : World) (B G R : Nat) (c0 c1 c2 c3 c4 : Value) (W : World) : Prop where
  kG : Blk W G 173 #[c0, c1, c2, c3, c4]
  kR : Blk W R 173 #[.slice none 0 0, .int .i64 0, .slice none 0 0, .int .i64 0, .int .i64 0]
  hG : w.heap.size ≤ G
  hR : w.heap.size ≤ R
  hne : G ≠ R
  hB : B ≤ w.heap.size
  bl : Below B w W
  kx : KeepX w W
theorem SB.below (h : SB w B G R c0 c1 c2 c3 c4 W) (hb : Below W.heap.size W W') : SB w B G R c0 c1 c2 c3 c4 W' :=
  ⟨h.kG.below hb h.kG.lt, h.kR.below hb h.kR.lt, h.hG, h.hR, h.hne, h.hB, h.bl.trans (hb.mono (Nat.le_trans h.hB h.bl.size)), h.kx.trans (KeepX.below hb)⟩
theorem SB.keep (h : SB w B G R c0 c1 c2 c3 c4 W) (hb : Below B W W') (hx : KeepX W W') : SB w B G R c0 c1 c2 c3 c4 W' :=
  ⟨hx.row h.kG (by decide) (by decide) (by decide), hx.row h.kR (by decide) (by decide) (by decide), h.hG, h.hR, h.hne, h.hB, h.bl.trans hb, h.kx.trans hx⟩
theorem keepx_row (w : World) {W : World} {g : Nat} (h : KeepX w W) (hg : w.heap.size ≤ g) (cs : Array Value) : KeepX w (W.setRow g cs) :=
  ⟨by simpa using h.1, fun k cs' t fz x h1 h2 h3 => by
    rw [setRow_other W g k cs (by have := lt_of_block x; omega)]
    exact h.2 k cs' t fz x h1 h2 h3⟩
theorem keepx_cell (w : World) {W : World} {p : Addr} (h : KeepX w W) (hg : w.heap.size ≤ p.block) (u : Value) : KeepX w (W.setCell p u) := by
  refine ⟨by simpa using h.1, fun k cs' t fz x h1 h2 h3 => ?_⟩
  have h4 := h.2 k cs' t fz x h1 h2 h3
  have hc := (Chg.refl (fun k => k = p.block) W).setCell (p := p) (.inr rfl) u
  rw [hc.block k (lt_of_block h4) (by have := lt_of_block x; omega)]
  exact h4
theorem RSt.row (h : RSt W B l most a o e Al n cl Ao m co) {g : Nat} {cs : Array Value} (hk : Blk W g 173 cs) (hg : B ≤ g) (cs' : Array Value) : RSt (W.setRow g cs') B l most a o e Al n cl Ao m co := by
  have hc : Chg (fun k => k = g) W (W.setRow g cs') := (Chg.refl (fun k => k = g) W).setRow (g := g) (.inr rfl) _
  exact ⟨h.ha, h.hm, h.hmm, h.he, Nat.le_trans h.hB hc.size, h.hc, h.hn, h.hmost, h.rd.below (hc.to_below h.hB (by rintro i rfl; exact hg)), h.ow.chg hc (by rintro k hk' rfl; exact h.ow.ne hk (by decide) hk')⟩
theorem RSt.setCell (h : RSt W B l most a o e Al n cl Ao m co) {g : Nat} {cs : Array Value} (hk : Blk W g 173 cs) (hg : B ≤ g) (i : Nat) (u : Value) : RSt (W.setCell ⟨g, i, none⟩ u) B l most a o e Al n cl Ao m co := by
  have hc : Chg (fun k => k = g) W (W.setCell ⟨g, i, none⟩ u) := (Chg.refl (fun k => k = g) W).setCell (p := ⟨g, i, none⟩) (.inr rfl) u
  exact ⟨h.ha, h.hm, h.hmm, h.he, Nat.le_trans h.hB hc.size, h.hc, h.hn, h.hmost, h.rd.below (hc.to_below h.hB (by rintro i rfl; exact hg)), h.ow.chg hc (by rintro k hk' rfl; exact h.ow.ne hk (by decide) hk')⟩
theorem SB.row (h : SB w B G R c0 c1 c2 c3 c4 W) (d0 d1 d2 d3 d4 : Value) : SB w B G R d0 d1 d2 d3 d4 (W.setRow G #[d0, d1, d2, d3, d4]) :=
  ⟨h.kG.row _, (setRow_other W G R _ (Ne.symm h.hne)).trans h.kR, h.hG, h.hR, h.hne, h.hB, below_row h.bl (Nat.le_trans h.hB h.hG) _, keepx_row w h.kx h.hG _⟩
theorem SB.alloc (h : SB w B G R c0 c1 c2 c3 c4 W) (x : Obj) : SB w B G R c0 c1 c2 c3 c4 (W.alloc x) := h.below ((Below.refl _ W).alloc (Nat.le_refl _) x)
/-- A block of the function's own besides. -/
theorem SB.other (h : SB w B G R c0 c1 c2 c3 c4 W) {T : Nat} (hT : w.heap.size ≤ T) (hTG : T ≠ G) (hTR : T ≠ R) (cs : Array Value) : SB w B G R c0 c1 c2 c3 c4 (W.setRow T cs) :=
  ⟨(setRow_other W T G _ (Ne.symm hTG)).trans h.kG, (setRow_other W T R _ (Ne.symm hTR)).trans h.kR, h.hG, h.hR, h.hne, h.hB, below_row h.bl (Nat.le_trans h.hB hT) _, keepx_row w h.kx hT _⟩

/-- What a function leaves that hands on a state. -/
def RPost (w : World) (B : Nat) (l : List Bool) (most : Nat) (Al : Option Addr) (n cl : Nat) (Q : Nat → List UInt8 → Nat → Prop) (x : Ending) (w' : World) : Prop :=
  ∃ a o e Ao m co, x = .returned (.agg #[.slice Al n cl, .int .i64 (a : Nat), .slice Ao m co, .int .i64 (most : Nat), .int .i64 (e : Nat)]) ∧ RSt w' B l most a o e Al n cl Ao m co ∧ Below B w w' ∧ KeepX w w' ∧ Q a o e
/-- The state is what was read. -/
def RI.is (r : Inf.R Unit) (a : Nat) (o : List UInt8) (e : Nat) : Prop := match r with | .inl er => e = er ∧ er ≠ 0 | .inr (_, a', o') => e = 0 ∧ a = a' ∧ o = o'

/-- The end of a function that hands on a state: its result is stored, and read. -/
theorem RPost.done {fn : Func} {p : Tmp} {Q : Nat → List UInt8 → Nat → Prop} {tmps : Array Value} {a' : Nat} {o' : List UInt8} {e' : Nat} {m' co' : Nat} {Ao' : Option Addr} {e4 : Value} (hfn : fn.results = #[.cell p 173]) (f : SB w B G R c0 c1 c2 c3 c4 W) (st : RSt W B l most a' o' e' Al n cl Ao' m' co')
    (hp : tmps.getD p undef = .pointer (some ⟨R, 0, none⟩)) (hw : W.setRow R #[.slice Al n cl, .int .i64 (a' : Nat), .slice Ao' m' co', .int .i64 (most : Nat), e4] = W') (he4 : e4 = .int .i64 (e' : Nat)) (hQ : Q a' o' e') :
    bodyPost Tryz.prog fn (RPost w B l most Al n cl Q) .ret { tmps := tmps, defers := [] } W' := by
  subst he4 hw
  refine bodyPost_ret_by (results_cell_row hfn _ _ R 173 _ (0, 0) _ hp (f.kR.row _) Tryz.underlying173 rfl (st_infos _ _ _ _ _)) rfl ⟨a', o', e', Ao', m', co', rfl, ?_, ?_, ?_, hQ⟩
  · exact st.row f.kR (Nat.le_trans f.hB f.hR) _
  · exact below_row f.bl (Nat.le_trans f.hB f.hR) _
  · exact keepx_row w f.kx f.hR _
theorem c_fail (h : RSt W B l most a o e Al n cl Ao m co) {E : Int} (hE : (e : Int) = E) (er : Nat) (h7 : er ≤ 7) {K : Int} (hK : (er : Int) = K) :
    Calls Tryz.prog 124 #[.agg #[.slice Al n cl, .int .i64 (a : Nat), .slice Ao m co, .int .i64 (most : Nat), .int .i64 E], .int .i64 K] W fun x w' => x = .returned (.agg #[.slice Al n cl, .int .i64 (a : Nat), .slice Ao m co, .int .i64 (most : Nat), .int .i64 ((if e = 0 then er else e : Nat) : Int)]) ∧ RSt w' B l most a o (if e = 0 then er else e) Al n cl Ao m co ∧ Below W.heap.size W w' := by
  subst hE
  subst hK
  refine (ri_fail Al Ao n cl m co a most e er W).mono ?_
  rintro x w' ⟨rfl, hb⟩
  exact ⟨rfl, (h.below hb).at' h.ha (by split <;> first | exact h7 | exact h.he), hb⟩
theorem RI.bits_le {l : List Bool} {k a e a1 e1 y : Nat} (h : RI.bits l k a e = (a1, e1, y)) (ha : a ≤ l.length) (he : e ≤ 7) : a1 ≤ l.length ∧ e1 ≤ 7 := by
  unfold RI.bits at h
  split at h
  · split at h
    · cases h; exact ⟨by assumption, by decide⟩
    · cases h; exact ⟨ha, by decide⟩
  · cases h; exact ⟨ha, he⟩
theorem Huf.dec_took (ls : List Nat) (l : List Bool) (r s v m x e : Nat) (h : Huf.dec ls l r s v = (m, x, e)) (hs : s ≤ l.length) : x ≤ l.length ∧ e ≤ 7 := by
  have h1 := (Huf.dec_le ls l r s v).2.2 hs
  have h2 := Huf.dec_err ls l r s v
  rw [h] at h1 h2
  exact ⟨h1, by rcases h2 with h2 | h2 | h2 <;> simp at h2 <;> omega⟩
theorem RI.sym_le {l : List Bool} {ls : List Nat} {a e a1 e1 y : Nat} (h : RI.sym l ls a e = (a1, e1, y)) (ha : a ≤ l.length) (he : e ≤ 7) : a1 ≤ l.length ∧ e1 ≤ 7 := by
  unfold RI.sym at h
  split at h
  · split at h
    · rename_i m x hd
      cases h
      have := Huf.dec_took ls _ _ _ _ _ _ _ hd (Nat.zero_le _)
      rw [List.length_drop] at this
      exact ⟨by omega, by decide⟩
    · rename_i e2 hd
      cases h
      have := Huf.dec_took ls _ _ _ _ _ _ _ hd (Nat.zero_le _)
      exact ⟨ha, this.2⟩
  · cases h; exact ⟨ha, he⟩
theorem c_bits (h : RSt W B l most a o e Al n cl Ao m co) {E : Int} (hE : (e : Int) = E) (k : Nat) (hk : k ≤ 32) {K : Int} (hK : (k : Int) = K) {a1 e1 y : Nat} (hq : RI.bits l k a e = (a1, e1, y)) :
    Calls Tryz.prog 119 #[.agg #[.slice Al n cl, .int .i64 (a : Nat), .slice Ao m co, .int .i64 (most : Nat), .int .i64 E], .int .i64 K] W fun x w' => x = .returned (.tuple #[.agg #[.slice Al n cl, .int .i64 (a1 : Nat), .slice Ao m co, .int .i64 (most : Nat), .int .i64 (e1 : Nat)], .int .i64 (y : Nat)]) ∧ RSt w' B l most a1 o e1 Al n cl Ao m co ∧ Below W.heap.size W w' := by
  subst hE
  subst hK
  have h2 := RI.bits_le hq (by rw [h.len]; exact h.ha) h.he
  rw [h.len] at h2
  refine (ri_bits Al Ao n cl m co a most e k B l W h.rd h.hB h.hc h.hn h.ha hk).mono ?_
  rintro x w' ⟨rfl, hb⟩
  rw [hq]
  exact ⟨rfl, (h.below hb).at' h2.1 h2.2, hb⟩
theorem c_sym (h : RSt W B l most a o e Al n cl Ao m co) {E : Int} (hE : (e : Int) = E) {B0 : Nat} {ls : List Nat} {cs : Array Value} (hv : BookV B0 W ls cs) (hsl : Huf.sum ls ≤ 32768) {a1 e1 y : Nat} (hq : RI.sym l ls a e = (a1, e1, y)) :
    Calls Tryz.prog 153 #[.agg #[.slice Al n cl, .int .i64 (a : Nat), .slice Ao m co, .int .i64 (most : Nat), .int .i64 E], .agg cs] W fun x w' => x = .returned (.tuple #[.agg #[.slice Al n cl, .int .i64 (a1 : Nat), .slice Ao m co, .int .i64 (most : Nat), .int .i64 (e1 : Nat)], .int .i64 (y : Nat)]) ∧ RSt w' B l most a1 o e1 Al n cl Ao m co ∧ Below W.heap.size W w' := by
  subst hE
  have h2 := RI.sym_le hq (by rw [h.len]; exact h.ha) h.he
  rw [h.len] at h2
  refine (ri_sym Al Ao n cl m co a most e B0 B ls cs l W hv h.rd h.hB h.hc h.hn h.ha hsl).mono ?_
  rintro x w' ⟨rfl, hb⟩
  rw [hq]
  exact ⟨rfl, (h.below hb).at' h2.1 h2.2, hb⟩
theorem c_put (h : RSt W B l most a o e Al n cl Ao m co) {E : Int} (hE : (e : Int) = E) (c : UInt8) {K : Int} (hK : (c.toNat : Int) = K) {o1 : List UInt8} {e1 : Nat} (hq : RI.put most c o e = (o1, e1)) :
    Calls Tryz.prog 151 #[.agg #[.slice Al n cl, .int .i64 (a : Nat), .slice Ao m co, .int .i64 (most : Nat), .int .i64 E], .int .u8 K] W fun x w' => ∃ A' m' c', x = .returned (.agg #[.slice Al n cl, .int .i64 (a : Nat), .slice A' m' c', .int .i64 (most : Nat), .int .i64 (e1 : Nat)]) ∧ RSt w' B l most a o1 e1 Al n cl A' m' c' ∧ Below B W w' ∧ KeepX W w' := by
  subst hE
  subst hK
  unfold RI.put at hq
  have hm := h.hm
  by_cases he : e = 0
  · subst he
    rw [if_pos rfl] at hq
    by_cases hf : most ≤ o.length
    · rw [if_pos hf] at hq
      cases hq
      refine (show Calls Tryz.prog 151 #[.agg #[.slice Al n cl, .int .i64 (a : Nat), .slice Ao m co, .int .i64 (most : Nat), .int .i64 0], .int .u8 (c.toNat : Int)] W _ from ri_put_full Al Ao n cl m co a most (c.toNat : Int) W (by omega)).mono ?_
      rintro x w' ⟨rfl, hb⟩
      exact ⟨Ao, m, co, rfl, (h.below hb).at' h.ha (by decide), hb.mono h.hB, KeepX.below hb⟩
    · rw [if_neg hf] at hq
      cases hq
      refine (show Calls Tryz.prog 151 #[.agg #[.slice Al n cl, .int .i64 (a : Nat), .slice Ao m co, .int .i64 (most : Nat), .int .i64 0], .int .u8 (c.toNat : Int)] W _ from ri_put_ok Al Ao n cl m co a most B c o W (by omega) h.hmost h.ow h.hB).mono ?_
      rintro x w' ⟨A', c', rfl, ho, hb, hx⟩
      exact ⟨A', m + 1, c', rfl, ⟨h.ha, by rw [List.length_append, hm]; rfl, by omega, by decide, Nat.le_trans h.hB hb.size, h.hc, h.hn, h.hmost, h.rd.below hb, ho⟩, hb, hx⟩
  · rw [if_neg he] at hq
    cases hq
    refine (ri_put_bad Al Ao n cl m co a most e (c.toNat : Int) W he).mono ?_
    rintro x w' ⟨rfl, hb⟩
    exact ⟨Ao, m, co, rfl, h.below hb, hb.mono h.hB, KeepX.below hb⟩
end

end Go.Proofs.YtaapjampmnanmaaGreat

namespace Go.Proofs.YtaapjampmnanmaaGreat
open Go.RowKit Go.Shelf
set_option linter.unusedVariables false
set_option linter.unusedSimpArgs false

theorem RI.stored_start {l : List Bool} {most a a1 e1 x1 a2 e2 x2 e3 : Nat} {o : List UInt8} (h1 : RI.bits l 16 (a + Bit.gap a) 0 = (a1, e1, x1)) (h2 : RI.bits l 16 a1 e1 = (a2, e2, x2)) (h3 : (if x1 + x2 = 65535 then e2 else if e2 = 0 then 3 else e2) = e3) :
    (e3 = 0 → Inf.stored l most a o = Inf.raw l most x1 a2 o ∧ x1 ≤ 65535) ∧ (e3 ≠ 0 → Inf.stored l most a o = .inl e3) := by
  have hu : Inf.stored l most a o = Inf.bind (Inf.bits l 16) (fun n => Inf.bind (Inf.bits l 16) fun m => if n + m = 65535 then Inf.raw l most n else Inf.err 3) (a + Bit.gap a) o := rfl
  rw [hu]
  unfold RI.bits at h1
  rw [if_pos rfl] at h1
  split at h1
  · rename_i hb
    cases h1
    rw [Inf.bind_ok (show Inf.bits l 16 (a + Bit.gap a) o = .inr (_, _, o) from if_pos hb)]
    unfold RI.bits at h2
    rw [if_pos rfl] at h2
    split at h2
    · rename_i hb2
      cases h2
      rw [Inf.bind_ok (show Inf.bits l 16 (a + Bit.gap a + 16) o = .inr (_, _, o) from if_pos hb2)]
      split at h3
      · rename_i hs
        subst h3
        rw [if_pos hs]
        exact ⟨fun _ => ⟨rfl, by omega⟩, fun h => absurd rfl h⟩
      · rename_i hs
        rw [if_neg hs]
        rw [if_pos rfl] at h3
        subst h3
        exact ⟨fun h => (by cases h), fun _ => rfl⟩
    · rename_i hb2
      cases h2
      rw [Inf.bind_err (show Inf.bits l 16 (a + Bit.gap a + 16) o = .inl 2 from if_neg hb2)]
      have : e3 = 2 := by rw [← h3]; split <;> first | rfl | (rw [if_neg (by decide)])
      subst this
      exact ⟨fun h => (by cases h), fun _ => rfl⟩
  · rename_i hb
    cases h1
    rw [Inf.bind_err (show Inf.bits l 16 (a + Bit.gap a) o = .inl 2 from if_neg hb)]
    unfold RI.bits at h2
    rw [if_neg (by decide)] at h2
    cases h2
    have : e3 = 2 := by rw [← h3]; rfl
    subst this
    exact ⟨fun h => (by cases h), fun _ => rfl⟩
theorem RI.bits_lt {l : List Bool} {k a e a1 e1 y : Nat} (h : RI.bits l k a e = (a1, e1, y)) : y < 2 ^ k := by
  have hp : 0 < 2 ^ k := Nat.pow_pos (by decide)
  unfold RI.bits at h
  split at h
  · split at h
    · cases h
      refine Nat.lt_of_lt_of_le (Bit.num_lt _) (Nat.pow_le_pow_right (by decide) ?_)
      rw [List.length_take]
      omega
    · cases h; exact hp
  · cases h; exact hp
theorem c_put_bad {W : World} {B : Nat} {l : List Bool} {most a : Nat} {o : List UInt8} {e : Nat} {Al : Option Addr} {n cl : Nat} {Ao : Option Addr} {m co : Nat} (h : RSt W B l most a o e Al n cl Ao m co) {E : Int} (hE : (e : Int) = E) (he : e ≠ 0) (K : Int) :
    Calls Tryz.prog 151 #[.agg #[.slice Al n cl, .int .i64 (a : Nat), .slice Ao m co, .int .i64 (most : Nat), .int .i64 E], .int .u8 K] W fun x w' => x = .returned (.agg #[.slice Al n cl, .int .i64 (a : Nat), .slice Ao m co, .int .i64 (most : Nat), .int .i64 (e : Nat)]) ∧ RSt w' B l most a o e Al n cl Ao m co ∧ Below W.heap.size W w' := by
  subst hE
  refine (ri_put_bad Al Ao n cl m co a most e K W he).mono ?_
  rintro x w' ⟨rfl, hb⟩
  exact ⟨rfl, h.below hb, hb⟩
theorem RI.raw_next {l : List Bool} {most k a a1 e1 c e2 : Nat} {o o1 : List UInt8} {r : Inf.R Unit} (h1 : RI.bits l 8 a 0 = (a1, e1, c)) (h2 : RI.put most (UInt8.ofNat c) o e1 = (o1, e2)) (hr : Inf.raw l most (k + 1) a o = r) :
    (e2 = 0 → Inf.raw l most k a1 o1 = r) ∧ (e2 ≠ 0 → r = .inl e2) := by
  subst hr
  have hu : Inf.raw l most (k + 1) a o = Inf.bind (Inf.bits l 8) (fun c => Inf.bind (Inf.put most (UInt8.ofNat c)) fun _ => Inf.raw l most k) a o := rfl
  rw [hu]
  unfold RI.bits at h1
  rw [if_pos rfl] at h1
  split at h1
  · rename_i hb
    cases h1
    rw [Inf.bind_ok (show Inf.bits l 8 a o = .inr (_, _, o) from if_pos hb)]
    unfold RI.put at h2
    rw [if_pos rfl] at h2
    split at h2
    · rename_i hf
      cases h2
      rw [Inf.bind_err (show Inf.put most _ _ o = .inl 5 from if_pos hf)]
      exact ⟨fun h => (by cases h), fun _ => rfl⟩
    · rename_i hf
      cases h2
      rw [Inf.bind_ok (show Inf.put most _ _ o = .inr ((), _, _) from if_neg hf)]
      exact ⟨fun _ => rfl, fun h => absurd rfl h⟩
  · rename_i hb
    cases h1
    rw [Inf.bind_err (show Inf.bits l 8 a o = .inl 2 from if_neg hb)]
    unfold RI.put at h2
    rw [if_neg (by decide)] at h2
    cases h2
    exact ⟨fun h => (by cases h), fun _ => rfl⟩

set_option maxRecDepth 100000 in
set_option maxHeartbeats 8000000 in
theorem ri_stored {w : World} {B : Nat} {l : List Bool} {most a : Nat} {o : List UInt8} {Al : Option Addr} {n cl : Nat} {Ao : Option Addr} {m co : Nat} (h : RSt w B l most a o 0 Al n cl Ao m co) (h8 : n % 8 = 0) :
    Calls Tryz.prog 120 #[.agg #[.slice Al n cl, .int .i64 (a : Nat), .slice Ao m co, .int .i64 (most : Nat), .int .i64 0]] w (RPost w B l most Al n cl (RI.is (Inf.stored l most a o))) := by
  obtain ⟨G, hG⟩ : ∃ G, w.heap.size = G := ⟨_, rfl⟩
  obtain ⟨w1, hw1⟩ : ∃ W, w.alloc (.cells #[.slice Al n cl, .int .i64 (a : Nat), .slice Ao m co, .int .i64 (most : Nat), .int .i64 0] 173) = W := ⟨_, rfl⟩
  obtain ⟨w2, hw2⟩ : ∃ W, w1.alloc (.cells #[.slice none 0 0, .int .i64 0, .slice none 0 0, .int .i64 0, .int .i64 0] 173) = W := ⟨_, rfl⟩
  have z1 : w1.heap.size = G + 1 := by rw [← hw1, ← hG]; simp
  have b2 : Below w.heap.size w w2 := by rw [← hw2, ← hw1]; exact ((Below.refl _ w).alloc (Nat.le_refl _) _).alloc (by simp) _
  have s2 := hide (h.below b2)
  have f2 := hide (show SB w B G (G + 1) (.slice Al n cl) (.int .i64 (a : Nat)) (.slice Ao m co) (.int .i64 (most : Nat)) (.int .i64 0) w2 from
    ⟨by rw [← hw2]; exact (show Blk w1 G _ _ from by rw [← hw1, ← hG]; exact Blk.new w _ _).alloc _, by rw [← hw2, ← z1]; exact Blk.new w1 _ _, by omega, by omega, by omega, h.hB, b2.mono h.hB, KeepX.below b2⟩)
  have hgap : Bit.gap a < 8 := by unfold Bit.gap; omega
  have hgap8 : (a + Bit.gap a) % 8 = 0 := by unfold Bit.gap; omega
  have han : a + Bit.gap a ≤ n := by have := h.ha; unfold Bit.gap; omega
  obtain ⟨P, hP⟩ : ∃ P, a + Bit.gap a = P := ⟨_, rfl⟩
  obtain ⟨⟨a1, e1, x1⟩, hq1⟩ : ∃ r, RI.bits l 16 P 0 = r := ⟨_, rfl⟩
  obtain ⟨⟨a2, e2, x2⟩, hq2⟩ : ∃ r, RI.bits l 16 a1 e1 = r := ⟨_, rfl⟩
  obtain ⟨e3, he3⟩ : ∃ r, (if x1 + x2 = 65535 then e2 else if e2 = 0 then 3 else e2) = r := ⟨_, rfl⟩
  have hst := hide (RI.stored_start (l := l) (most := most) (a := a) (o := o) (by rw [hP]; exact hq1) hq2 he3)
  obtain ⟨RR, hRR⟩ : ∃ R, Inf.stored l most a o = R := ⟨_, rfl⟩
  rw [hRR] at hst ⊢
  have hn := hide h.hn
  have hw0 := hide h.hB
  rw [hP] at hgap8 han
  have hPa : P < a + 8 := by omega
  have haP : a ≤ P := by omega
  have hx1 : x1 ≤ 65535 := by have := RI.bits_lt hq1; omega
  have hx2 : x2 ≤ 65535 := by have := RI.bits_lt hq2; omega
  replace hq1 := hide hq1
  replace hq2 := hide hq2
  replace he3 := hide he3
  replace hRR := hide hRR
  clear h hgap hP b2
  go_enter Tryz.func120, Tryz.ntmps120
  go_wp2
  go_loopg [8] 9 (fun gk _ wr => ∃ j : Nat, a ≤ j ∧ j ≤ P ∧ Hid (P < j + gk) ∧ Hid (RSt wr B l most j o 0 Al n cl Ao m co) ∧ Hid (SB w B G (G + 1) (.slice Al n cl) (.int .i64 (j : Nat)) (.slice Ao m co) (.int .i64 (most : Nat)) (.int .i64 0) wr))
  case atStart => exact ⟨a, by omega, by omega, hide (by omega), s2, f2⟩
  case round =>
    clear s2 f2
    obtain ⟨j, hj1, hj2, hj3, sj, fj⟩ := hrel
    obtain ⟨g, rfl⟩ : ∃ g, gk = g + 1 := ⟨gk - 1, by have := hj3.out; omega⟩
    obtain ⟨M, hM⟩ : ∃ M : Int, (((j % 8 : Nat)) : Int) = M := ⟨_, rfl⟩
    have hm1 : Int.tmod (j : Int) 8 = M := hM
    have hm2 : (j : Int) % 8 = M := hM
    have d1 := fj.out.kG.cell 1
    have g1 := fj.out.kG.free 1
    simp only [List.getElem?_toArray, List.getElem?_cons_succ, List.getElem?_cons_zero] at d1
    have hji : IntKind.i64.wrap ((j : Int) + 1) = (j : Int) + 1 := by rw [IntKind.wrap_i64]; have := hn.out; omega
    by_cases hj8 : j % 8 = 0
    · have hjP : j = P := by omega
      subst hjP
      have hM0 : (M != 0) = false := by simp; omega
      replace hM := hide hM
      clear hj1 hj2 hj3
      have hc1 := hide (c_bits sj.out (E := 0) rfl 16 (by decide) (K := 16) rfl hq1.out)
      go_upto_region 5 with (first
        | (with_reducible refine wpList_load_row (o := ⟨some 17, .load 173 (.tmp 1), _, _, _, _⟩) rfl 173 (.tmp 1) rfl G rfl 173 _ (0, 0) _ fj.out.kG.eq Tryz.underlying173 rfl (st_infos _ _ _ _ _) ?_)
        | (go_at_call 119; (with_reducible refine (hc1.out).mono ?_); rintro e w5 ⟨rfl, s5, b5⟩; have s5 := hide s5; have f5 := hide (fj.out.below b5); clear b5; obtain ⟨w6, hw6⟩ : ∃ W, w5.setRow G #[.slice Al n cl, .int .i64 (a1 : Nat), .slice Ao m co, .int .i64 (most : Nat), .int .i64 (e1 : Nat)] = W := ⟨_, rfl⟩; have sw6 := hide (show RSt w6 B l most a1 o e1 Al n cl Ao m co from by rw [← hw6]; exact s5.out.row f5.out.kG (Nat.le_trans f5.out.hB f5.out.hG) _); have fw6 := hide (show SB w B G (G + 1) (.slice Al n cl) (.int .i64 (a1 : Nat)) (.slice Ao m co) (.int .i64 (most : Nat)) (.int .i64 (e1 : Nat)) w6 from by rw [← hw6]; exact f5.out.row _ _ _ _ _); have hc2 := hide (c_bits sw6.out rfl 16 (by decide) (K := 16) rfl hq2.out))
        | ((with_reducible refine wpList_store_row (o := ⟨none, .store 173 (.tmp 1) (.tmp 19), _, _, _, _⟩) rfl 173 (.tmp 1) (.tmp 19) rfl G #[.slice Al n cl, .int .i64 (a1 : Nat), .slice Ao m co, .int .i64 (most : Nat), .int .i64 (e1 : Nat)] rfl rfl 173 _ f5.out.kG.eq (st_infos _ _ _ _ _) (st_hold _ _ _ _ _ _ _ _ _ _) (st_one _ _ _ _ _ _ _ _ _) ?_); rw [hw6])
        | (with_reducible refine wpList_load_row (o := ⟨some 22, .load 173 (.tmp 1), _, _, _, _⟩) rfl 173 (.tmp 1) rfl G rfl 173 _ (0, 0) _ fw6.out.kG.eq Tryz.underlying173 rfl (st_infos _ _ _ _ _) ?_)
        | (go_at_call 119; (with_reducible refine (hc2.out).mono ?_); rintro e w7 ⟨rfl, s7, b7⟩; have s7 := hide s7; have f7 := hide (fw6.out.below b7); clear b7; obtain ⟨w8, hw8⟩ : ∃ W, w7.setRow G #[.slice Al n cl, .int .i64 (a2 : Nat), .slice Ao m co, .int .i64 (most : Nat), .int .i64 (e2 : Nat)] = W := ⟨_, rfl⟩; have sw8 := hide (show RSt w8 B l most a2 o e2 Al n cl Ao m co from by rw [← hw8]; exact s7.out.row f7.out.kG (Nat.le_trans f7.out.hB f7.out.hG) _); have fw8 := hide (show SB w B G (G + 1) (.slice Al n cl) (.int .i64 (a2 : Nat)) (.slice Ao m co) (.int .i64 (most : Nat)) (.int .i64 (e2 : Nat)) w8 from by rw [← hw8]; exact f7.out.row _ _ _ _ _))
        | ((with_reducible refine wpList_store_row (o := ⟨none, .store 173 (.tmp 1) (.tmp 24), _, _, _, _⟩) rfl 173 (.tmp 1) (.tmp 24) rfl G #[.slice Al n cl, .int .i64 (a2 : Nat), .slice Ao m co, .int .i64 (most : Nat), .int .i64 (e2 : Nat)] rfl rfl 173 _ f7.out.kG.eq (st_infos _ _ _ _ _) (st_hold _ _ _ _ _ _ _ _ _ _) (st_one _ _ _ _ _ _ _ _ _) ?_); rw [hw8]))
      have hwa : IntKind.i64.wrap ((x1 : Int) + (x2 : Int)) = (x1 : Int) + (x2 : Int) := by rw [IntKind.wrap_i64]; omega
      replace hx2 := hide hx2
      by_cases hs : x1 + x2 = 65535
      · have hsI : ((x1 : Int) + (x2 : Int) != 65535) = false := by simp; omega
        have hst2 := hide (show (e2 = 0 → RR = Inf.raw l most x1 a2 o) ∧ (e2 ≠ 0 → RR = .inl e2) from by
          have h3 := he3.out
          rw [if_pos hs] at h3
          subst h3
          exact ⟨fun h => (hst.out.1 h).1, hst.out.2⟩)
        replace hs := hide hs
        clear d1 g1 hji hm1 hm2 hM0 sj fj hc1 hc2 s5 f5 s7 f7 sw6 fw6 hst
        go_wp2
        go_loopw [5, 6, 7] (fun s5 s6 s7 wr => ∃ (i a' e' m' co' : Nat) (o' : List UInt8) (Ao' : Option Addr), s5 = .int .i64 (i : Int) ∧ i ≤ x1 ∧ Hid (RSt wr B l most a' o' e' Al n cl Ao' m' co') ∧ Hid (SB w B G (G + 1) (.slice Al n cl) (.int .i64 (a' : Nat)) (.slice Ao' m' co') (.int .i64 (most : Nat)) (.int .i64 (e' : Nat)) wr) ∧ Hid ((e' = 0 → Inf.raw l most (x1 - i) a' o' = RR) ∧ (e' ≠ 0 → RR = .inl e'))) (fun i _ _ _ => x1 - (intOf i).toNat)
        case atStart => exact ⟨0, a2, e2, m, co, o, Ao, rfl, Nat.zero_le _, sw8, fw8, hide ⟨fun h => (hst2.out.1 h).symm, hst2.out.2⟩⟩
        case round =>
          clear sw8 fw8 hst2
          obtain ⟨i, a3, e3', m3, co3, o3, Ao3, rfl, hi, s3, f3, hr3⟩ := hrel
          by_cases hgo : i < x1 ∧ e3' = 0
          · obtain ⟨hlt, rfl⟩ := hgo
            obtain ⟨⟨a4, e4, c4⟩, hq4⟩ : ∃ r, RI.bits l 8 a3 0 = r := ⟨_, rfl⟩
            obtain ⟨⟨o5, e5⟩, hq5⟩ : ∃ r, RI.put most (UInt8.ofNat c4) o3 e4 = r := ⟨_, rfl⟩
            have hnx := hide (RI.raw_next (r := RR) (k := x1 - (i + 1)) hq4 hq5 (by rw [show x1 - (i + 1) + 1 = x1 - i from by omega]; exact hr3.out.1 rfl))
            have hc4 := RI.bits_lt hq4
            have hK : ((UInt8.ofNat c4).toNat : Int) = (c4 : Int) := by rw [UInt8.toNat_ofNat']; omega
            have hu8 : IntKind.u8.wrap (c4 : Int) = (c4 : Int) := by rw [IntKind.wrap_u8]; omega
            have hii : IntKind.i64.wrap ((i : Int) + 1) = (i : Int) + 1 := by rw [IntKind.wrap_i64]; omega
            have hltI : (i : Int) < (x1 : Int) := by omega
            have d4 := f3.out.kG.cell 4
            simp only [List.getElem?_toArray, List.getElem?_cons_succ, List.getElem?_cons_zero] at d4
            have hcb := hide (c_bits s3.out (E := 0) rfl 8 (by decide) (K := 8) rfl hq4)
            replace hc4 := hide hc4
            replace hK := hide hK
            replace hr3 := hide hr3
            by_cases he4 : e4 = 0
            · subst he4
              go_upto_region 12 with (first
              | (with_reducible refine wpList_load_row (o := ⟨some 43, .load 173 (.tmp 1), _, _, _, _⟩) rfl 173 (.tmp 1) rfl G rfl 173 _ (0, 0) _ f3.out.kG.eq Tryz.underlying173 rfl (st_infos _ _ _ _ _) ?_)
              | (go_at_call 119; (with_reducible refine (hcb.out).mono ?_); rintro e w4 ⟨rfl, s4, b4⟩; have s4 := hide s4; have f4 := hide (f3.out.below b4); clear b4;
                 obtain ⟨T, hT⟩ : ∃ T, w4.heap.size = T := ⟨_, rfl⟩; have hTG := hide (show T ≠ G ∧ T ≠ G + 1 ∧ w.heap.size ≤ T from ⟨by have := f4.out.kG.lt; omega, by have := f4.out.kR.lt; omega, by have := f4.out.kG.lt; have := f4.out.hG; omega⟩);
                 obtain ⟨w5, hw5⟩ : ∃ W, w4.alloc (.cells #[.slice none 0 0, .int .i64 0, .slice none 0 0, .int .i64 0, .int .i64 0] 173) = W := ⟨_, rfl⟩; have kT5 := hide (show Blk w5 T 173 #[.slice none 0 0, .int .i64 0, .slice none 0 0, .int .i64 0, .int .i64 0] from by rw [← hw5, ← hT]; exact Blk.new w4 _ _); have f5 := hide (show SB w B G (G + 1) (.slice Al n cl) (.int .i64 (a3 : Nat)) (.slice Ao3 m3 co3) (.int .i64 (most : Nat)) (.int .i64 0) w5 from by rw [← hw5]; exact f4.out.alloc _);
                 have s5 := hide (show RSt w5 B l most a4 o3 0 Al n cl Ao3 m3 co3 from by rw [← hw5]; exact s4.out.below ((Below.refl _ w4).alloc (Nat.le_refl _) _));
                 obtain ⟨w6, hw6⟩ : ∃ W, w5.setRow T #[.slice Al n cl, .int .i64 (a4 : Nat), .slice Ao3 m3 co3, .int .i64 (most : Nat), .int .i64 0] = W := ⟨_, rfl⟩; have kT6 := hide (show Blk w6 T 173 #[.slice Al n cl, .int .i64 (a4 : Nat), .slice Ao3 m3 co3, .int .i64 (most : Nat), .int .i64 0] from by rw [← hw6]; exact kT5.out.row _); have f6 := hide (show SB w B G (G + 1) (.slice Al n cl) (.int .i64 (a3 : Nat)) (.slice Ao3 m3 co3) (.int .i64 (most : Nat)) (.int .i64 0) w6 from by rw [← hw6]; exact f5.out.other hTG.out.2.2 hTG.out.1 hTG.out.2.1 _);
                 have s6 := hide (show RSt w6 B l most a4 o3 0 Al n cl Ao3 m3 co3 from by rw [← hw6]; exact s5.out.row kT5.out (Nat.le_trans f5.out.hB hTG.out.2.2) _); have hcp := hide (c_put s6.out (E := 0) rfl (UInt8.ofNat c4) hK.out hq5))
              | ((with_reducible refine wpList_store_row (o := ⟨none, .store 173 (.tmp 6) (.tmp 45), _, _, _, _⟩) rfl 173 (.tmp 6) (.tmp 45) rfl T #[.slice Al n cl, .int .i64 (a4 : Nat), .slice Ao3 m3 co3, .int .i64 (most : Nat), .int .i64 0] rfl rfl 173 _ kT5.out.eq (st_infos _ _ _ _ _) (st_hold _ _ _ _ _ _ _ _ _ _) (st_one _ _ _ _ _ _ _ _ _) ?_); rw [hw6])
              | (with_reducible refine wpList_load_row (o := ⟨some 47, .load 173 (.tmp 6), _, _, _, _⟩) rfl 173 (.tmp 6) rfl T rfl 173 _ (0, 0) _ kT6.out.eq Tryz.underlying173 rfl (st_infos _ _ _ _ _) ?_)
              | (go_at_call 151; (with_reducible refine (hcp.out).mono ?_); rintro e w7 ⟨A7, m7, c7, rfl, s7, b7, x7⟩; have s7 := hide s7; have f7 := hide (f6.out.keep b7 x7); have kT7 := hide (x7.row kT6.out (by decide) (by decide) (by decide)); clear b7 x7;
                 obtain ⟨w8, hw8⟩ : ∃ W, w7.setRow G #[.slice Al n cl, .int .i64 (a4 : Nat), .slice A7 m7 c7, .int .i64 (most : Nat), .int .i64 (e5 : Nat)] = W := ⟨_, rfl⟩; have sw8 := hide (show RSt w8 B l most a4 o5 e5 Al n cl A7 m7 c7 from by rw [← hw8]; exact s7.out.row f7.out.kG (Nat.le_trans f7.out.hB f7.out.hG) _); have fw8 := hide (show SB w B G (G + 1) (.slice Al n cl) (.int .i64 (a4 : Nat)) (.slice A7 m7 c7) (.int .i64 (most : Nat)) (.int .i64 (e5 : Nat)) w8 from by rw [← hw8]; exact f7.out.row _ _ _ _ _); have kT8 := hide (show Blk w8 T 173 #[.slice Al n cl, .int .i64 (a4 : Nat), .slice Ao3 m3 co3, .int .i64 (most : Nat), .int .i64 0] from by rw [← hw8]; exact (setRow_other w7 G T _ hTG.out.1).trans kT7.out))
              | ((with_reducible refine wpList_store_row (o := ⟨none, .store 173 (.tmp 1) (.tmp 50), _, _, _, _⟩) rfl 173 (.tmp 1) (.tmp 50) rfl G #[.slice Al n cl, .int .i64 (a4 : Nat), .slice A7 m7 c7, .int .i64 (most : Nat), .int .i64 (e5 : Nat)] rfl rfl 173 _ f7.out.kG.eq (st_infos _ _ _ _ _) (st_hold _ _ _ _ _ _ _ _ _ _) (st_one _ _ _ _ _ _ _ _ _) ?_); rw [hw8]))
              have t4 := kT8.out.cell 4
              simp only [List.getElem?_toArray, List.getElem?_cons_succ, List.getElem?_cons_zero] at t4
              go_wp2
              go_roundw
              case rel => exact ⟨i + 1, a4, e5, m7, c7, o5, A7, by simp, by omega, sw8, fw8, hide ⟨hnx.out.1, hnx.out.2⟩⟩
              all_goals (simp [intOf]; omega)
            · have he4n : ((e4 : Int) != 0) = true := by simp; omega
              have hq5b : o5 = o3 ∧ e5 = e4 := by
                unfold RI.put at hq5
                rw [if_neg he4] at hq5
                cases hq5
                exact ⟨rfl, rfl⟩
              have ho5 := hq5b.1.symm
              subst ho5
              have he5 := hq5b.2.symm
              subst he5
              replace he4 := hide he4
              go_wp2_with (first
              | (with_reducible refine wpList_load_row (o := ⟨some 43, .load 173 (.tmp 1), _, _, _, _⟩) rfl 173 (.tmp 1) rfl G rfl 173 _ (0, 0) _ f3.out.kG.eq Tryz.underlying173 rfl (st_infos _ _ _ _ _) ?_)
              | (go_at_call 119; (with_reducible refine (hcb.out).mono ?_); rintro e w4 ⟨rfl, s4, b4⟩; have s4 := hide s4; have f4 := hide (f3.out.below b4); clear b4;
                 obtain ⟨T, hT⟩ : ∃ T, w4.heap.size = T := ⟨_, rfl⟩; have hTG := hide (show T ≠ G ∧ T ≠ G + 1 ∧ w.heap.size ≤ T from ⟨by have := f4.out.kG.lt; omega, by have := f4.out.kR.lt; omega, by have := f4.out.kG.lt; have := f4.out.hG; omega⟩);
                 obtain ⟨w5, hw5⟩ : ∃ W, w4.alloc (.cells #[.slice none 0 0, .int .i64 0, .slice none 0 0, .int .i64 0, .int .i64 0] 173) = W := ⟨_, rfl⟩; have kT5 := hide (show Blk w5 T 173 #[.slice none 0 0, .int .i64 0, .slice none 0 0, .int .i64 0, .int .i64 0] from by rw [← hw5, ← hT]; exact Blk.new w4 _ _); have f5 := hide (show SB w B G (G + 1) (.slice Al n cl) (.int .i64 (a3 : Nat)) (.slice Ao3 m3 co3) (.int .i64 (most : Nat)) (.int .i64 0) w5 from by rw [← hw5]; exact f4.out.alloc _);
                 have s5 := hide (show RSt w5 B l most a4 o3 e4 Al n cl Ao3 m3 co3 from by rw [← hw5]; exact s4.out.below ((Below.refl _ w4).alloc (Nat.le_refl _) _));
                 obtain ⟨w6, hw6⟩ : ∃ W, w5.setRow T #[.slice Al n cl, .int .i64 (a4 : Nat), .slice Ao3 m3 co3, .int .i64 (most : Nat), .int .i64 (e4 : Nat)] = W := ⟨_, rfl⟩; have kT6 := hide (show Blk w6 T 173 #[.slice Al n cl, .int .i64 (a4 : Nat), .slice Ao3 m3 co3, .int .i64 (most : Nat), .int .i64 (e4 : Nat)] from by rw [← hw6]; exact kT5.out.row _); have f6 := hide (show SB w B G (G + 1) (.slice Al n cl) (.int .i64 (a3 : Nat)) (.slice Ao3 m3 co3) (.int .i64 (most : Nat)) (.int .i64 0) w6 from by rw [← hw6]; exact f5.out.other hTG.out.2.2 hTG.out.1 hTG.out.2.1 _);
                 have s6 := hide (show RSt w6 B l most a4 o3 e4 Al n cl Ao3 m3 co3 from by rw [← hw6]; exact s5.out.row kT5.out (Nat.le_trans f5.out.hB hTG.out.2.2) _); have hcp := hide (c_put_bad s6.out rfl he4.out (c4 : Int)))
              | ((with_reducible refine wpList_store_row (o := ⟨none, .store 173 (.tmp 6) (.tmp 45), _, _, _, _⟩) rfl 173 (.tmp 6) (.tmp 45) rfl T #[.slice Al n cl, .int .i64 (a4 : Nat), .slice Ao3 m3 co3, .int .i64 (most : Nat), .int .i64 (e4 : Nat)] rfl rfl 173 _ kT5.out.eq (st_infos _ _ _ _ _) (st_hold _ _ _ _ _ _ _ _ _ _) (st_one _ _ _ _ _ _ _ _ _) ?_); rw [hw6])
              | (with_reducible refine wpList_load_row (o := ⟨some 47, .load 173 (.tmp 6), _, _, _, _⟩) rfl 173 (.tmp 6) rfl T rfl 173 _ (0, 0) _ kT6.out.eq Tryz.underlying173 rfl (st_infos _ _ _ _ _) ?_)
              | (go_at_call 151; (with_reducible refine (hcp.out).mono ?_); rintro e w7 ⟨rfl, s7, b7⟩; have s7 := hide s7; have f7 := hide (f6.out.below b7); have kT7 := hide (kT6.out.below b7 kT6.out.lt); clear b7;
                 obtain ⟨w8, hw8⟩ : ∃ W, w7.setRow G #[.slice Al n cl, .int .i64 (a4 : Nat), .slice Ao3 m3 co3, .int .i64 (most : Nat), .int .i64 (e4 : Nat)] = W := ⟨_, rfl⟩; have sw8 := hide (show RSt w8 B l most a4 o3 e4 Al n cl Ao3 m3 co3 from by rw [← hw8]; exact s7.out.row f7.out.kG (Nat.le_trans f7.out.hB f7.out.hG) _); have fw8 := hide (show SB w B G (G + 1) (.slice Al n cl) (.int .i64 (a4 : Nat)) (.slice Ao3 m3 co3) (.int .i64 (most : Nat)) (.int .i64 (e4 : Nat)) w8 from by rw [← hw8]; exact f7.out.row _ _ _ _ _); have kT8 := hide (show Blk w8 T 173 #[.slice Al n cl, .int .i64 (a4 : Nat), .slice Ao3 m3 co3, .int .i64 (most : Nat), .int .i64 (e4 : Nat)] from by rw [← hw8]; exact (setRow_other w7 G T _ hTG.out.1).trans kT7.out);
                 have t4 := kT8.out.cell 4; simp only [List.getElem?_toArray, List.getElem?_cons_succ, List.getElem?_cons_zero] at t4;
                 obtain ⟨w9, hw9⟩ : ∃ W, w8.setRow G #[.slice Al n cl, .int .i64 (a4 : Nat), .slice Ao3 m3 co3, .int .i64 (most : Nat), .int .i64 (e4 : Nat)] = W := ⟨_, rfl⟩; have sw9 := hide (show RSt w9 B l most a4 o3 e4 Al n cl Ao3 m3 co3 from by rw [← hw9]; exact sw8.out.row fw8.out.kG (Nat.le_trans fw8.out.hB fw8.out.hG) _); have fw9 := hide (show SB w B G (G + 1) (.slice Al n cl) (.int .i64 (a4 : Nat)) (.slice Ao3 m3 co3) (.int .i64 (most : Nat)) (.int .i64 (e4 : Nat)) w9 from by rw [← hw9]; exact fw8.out.row _ _ _ _ _))
              | ((with_reducible refine wpList_store_row (o := ⟨none, .store 173 (.tmp 1) (.tmp 50), _, _, _, _⟩) rfl 173 (.tmp 1) (.tmp 50) rfl G #[.slice Al n cl, .int .i64 (a4 : Nat), .slice Ao3 m3 co3, .int .i64 (most : Nat), .int .i64 (e4 : Nat)] rfl rfl 173 _ f7.out.kG.eq (st_infos _ _ _ _ _) (st_hold _ _ _ _ _ _ _ _ _ _) (st_one _ _ _ _ _ _ _ _ _) ?_); rw [hw8])
              | (with_reducible refine wpList_load_row (o := ⟨some 54, .load 173 (.tmp 6), _, _, _, _⟩) rfl 173 (.tmp 6) rfl T rfl 173 _ (0, 0) _ kT8.out.eq Tryz.underlying173 rfl (st_infos _ _ _ _ _) ?_)
              | ((with_reducible refine wpList_store_row (o := ⟨none, .store 173 (.tmp 1) (.tmp 54), _, _, _, _⟩) rfl 173 (.tmp 1) (.tmp 54) rfl G #[.slice Al n cl, .int .i64 (a4 : Nat), .slice Ao3 m3 co3, .int .i64 (most : Nat), .int .i64 (e4 : Nat)] rfl rfl 173 _ fw8.out.kG.eq (st_infos _ _ _ _ _) (st_hold _ _ _ _ _ _ _ _ _ _) (st_one _ _ _ _ _ _ _ _ _) ?_); rw [hw9]))
              go_roundw
              case rel => exact ⟨i + 1, a4, e4, m3, co3, o3, Ao3, by simp, by omega, sw9, fw9, hide ⟨hnx.out.1, hnx.out.2⟩⟩
              all_goals (simp [intOf]; omega)
          · have hfin := hide (show RI.is RR a3 o3 e3' from by
              by_cases h0 : e3' = 0
              · subst h0
                rw [← hr3.out.1 rfl, show x1 - i = 0 from by omega]
                exact ⟨rfl, rfl, rfl⟩
              · rw [hr3.out.2 h0]
                exact ⟨rfl, h0⟩)
            have d4 := f3.out.kG.cell 4
            simp only [List.getElem?_toArray, List.getElem?_cons_succ, List.getElem?_cons_zero] at d4
            have hcond : ¬ (i : Int) < (x1 : Int) ∨ (i : Int) < (x1 : Int) ∧ ((e3' : Int) == 0) = false := by
              by_cases h1 : i < x1
              · exact .inr ⟨by omega, by simp; omega⟩
              · exact .inl (by omega)
            obtain ⟨w11, hw11⟩ : ∃ W, wr.setRow (G + 1) #[.slice Al n cl, .int .i64 (a3 : Nat), .slice Ao3 m3 co3, .int .i64 (most : Nat), .int .i64 (e3' : Nat)] = W := ⟨_, rfl⟩
            replace hgo := hide hgo
            replace hr3 := hide hr3
            rcases hcond with hcond | ⟨hcond, hz⟩
            all_goals (
              go_wp2_with (first
                | (with_reducible refine wpList_load_row (o := ⟨some 55, .load 173 (.tmp 1), _, _, _, _⟩) rfl 173 (.tmp 1) rfl G rfl 173 _ (0, 0) _ f3.out.kG.eq Tryz.underlying173 rfl (st_infos _ _ _ _ _) ?_)
                | ((with_reducible refine wpList_store_row (o := ⟨none, .store 173 (.tmp 2) (.tmp 55), _, _, _, _⟩) rfl 173 (.tmp 2) (.tmp 55) rfl (G + 1) #[.slice Al n cl, .int .i64 (a3 : Nat), .slice Ao3 m3 co3, .int .i64 (most : Nat), .int .i64 (e3' : Nat)] rfl rfl 173 _ f3.out.kR.eq (st_infos _ _ _ _ _) (st_hold _ _ _ _ _ _ _ _ _ _) (st_one _ _ _ _ _ _ _ _ _) ?_); rw [hw11]))
              refine bodyPost_ret_by (results_cell_row rfl _ _ (G + 1) 173 _ (0, 0) _ rfl (show Blk w11 (G + 1) 173 #[.slice Al n cl, .int .i64 (a3 : Nat), .slice Ao3 m3 co3, .int .i64 (most : Nat), .int .i64 (e3' : Nat)] from by rw [← hw11]; exact f3.out.kR.row _) Tryz.underlying173 rfl (st_infos _ _ _ _ _)) rfl ⟨a3, o3, e3', Ao3, m3, co3, rfl, ?_, ?_, ?_, hfin.out⟩
              · rw [← hw11]; exact s3.out.row f3.out.kR (by have := f3.out.hB; have := f3.out.hR; omega) _
              · rw [← hw11]; exact below_row f3.out.bl (by have := f3.out.hB; have := f3.out.hR; omega) _
              · rw [← hw11]; exact keepx_row w f3.out.kx f3.out.hR _)
      · have hsI : ((x1 : Int) + (x2 : Int) != 65535) = true := by simp; omega
        have he3n : e3 ≠ 0 := by
          have h3 := he3.out
          rw [if_neg hs] at h3
          split at h3 <;> omega
        have hRe := hide (hst.out.2 he3n)
        have he3e : (if e2 = 0 then 3 else e2) = e3 := by
          have h3 := he3.out
          rw [if_neg hs] at h3
          exact h3
        have hf := hide (c_fail sw8.out rfl 3 (by decide) (K := 3) rfl)
        rw [he3e] at hf
        have hz3 : ((e3 : Int) == 0) = false := by simp; omega
        replace hs := hide hs
        replace he3e := hide he3e
        replace he3n := hide he3n
        go_upto_region 7 with (first
          | (with_reducible refine wpList_load_row (o := ⟨some 30, .load 173 (.tmp 1), _, _, _, _⟩) rfl 173 (.tmp 1) rfl G rfl 173 _ (0, 0) _ fw8.out.kG.eq Tryz.underlying173 rfl (st_infos _ _ _ _ _) ?_)
          | (go_at_call 124; (with_reducible refine (hf.out).mono ?_); rintro e w9 ⟨rfl, s9, b9⟩; have s9 := hide s9; have f9 := hide (fw8.out.below b9); clear b9; obtain ⟨w10, hw10⟩ : ∃ W, w9.setRow G #[.slice Al n cl, .int .i64 (a2 : Nat), .slice Ao m co, .int .i64 (most : Nat), .int .i64 (e3 : Nat)] = W := ⟨_, rfl⟩; have sw10 := hide (show RSt w10 B l most a2 o e3 Al n cl Ao m co from by rw [← hw10]; exact s9.out.row f9.out.kG (Nat.le_trans f9.out.hB f9.out.hG) _); have fw10 := hide (show SB w B G (G + 1) (.slice Al n cl) (.int .i64 (a2 : Nat)) (.slice Ao m co) (.int .i64 (most : Nat)) (.int .i64 (e3 : Nat)) w10 from by rw [← hw10]; exact f9.out.row _ _ _ _ _))
          | ((with_reducible refine wpList_store_row (o := ⟨none, .store 173 (.tmp 1) (.tmp 31), _, _, _, _⟩) rfl 173 (.tmp 1) (.tmp 31) rfl G #[.slice Al n cl, .int .i64 (a2 : Nat), .slice Ao m co, .int .i64 (most : Nat), .int .i64 (e3 : Nat)] rfl rfl 173 _ f9.out.kG.eq (st_infos _ _ _ _ _) (st_hold _ _ _ _ _ _ _ _ _ _) (st_one _ _ _ _ _ _ _ _ _) ?_); rw [hw10]))
        have e10 := fw10.out.kG.cell 4
        simp only [List.getElem?_toArray, List.getElem?_cons_succ, List.getElem?_cons_zero] at e10
        have x1I : (0 : Int) ≤ (x1 : Int) := by omega
        go_wp2
        refine wp_loop_rounds 1 ?_
        rw [rounds_succ]
        obtain ⟨w11, hw11⟩ : ∃ W, w10.setRow (G + 1) #[.slice Al n cl, .int .i64 (a2 : Nat), .slice Ao m co, .int .i64 (most : Nat), .int .i64 (e3 : Nat)] = W := ⟨_, rfl⟩
        by_cases hx0 : 0 < x1
        all_goals (
          go_wp2_with (first
            | (with_reducible refine wpList_load_row (o := ⟨some 55, .load 173 (.tmp 1), _, _, _, _⟩) rfl 173 (.tmp 1) rfl G rfl 173 _ (0, 0) _ fw10.out.kG.eq Tryz.underlying173 rfl (st_infos _ _ _ _ _) ?_)
            | ((with_reducible refine wpList_store_row (o := ⟨none, .store 173 (.tmp 2) (.tmp 55), _, _, _, _⟩) rfl 173 (.tmp 2) (.tmp 55) rfl (G + 1) #[.slice Al n cl, .int .i64 (a2 : Nat), .slice Ao m co, .int .i64 (most : Nat), .int .i64 (e3 : Nat)] rfl rfl 173 _ fw10.out.kR.eq (st_infos _ _ _ _ _) (st_hold _ _ _ _ _ _ _ _ _ _) (st_one _ _ _ _ _ _ _ _ _) ?_); rw [hw11]))
          refine bodyPost_ret_by (results_cell_row rfl _ _ (G + 1) 173 _ (0, 0) _ rfl (show Blk w11 (G + 1) 173 #[.slice Al n cl, .int .i64 (a2 : Nat), .slice Ao m co, .int .i64 (most : Nat), .int .i64 (e3 : Nat)] from by rw [← hw11]; exact fw10.out.kR.row _) Tryz.underlying173 rfl (st_infos _ _ _ _ _)) rfl ⟨a2, o, e3, Ao, m, co, rfl, ?_, ?_, ?_, ?_⟩
          · rw [← hw11]; exact sw10.out.row fw10.out.kR (by have := fw10.out.hB; have := fw10.out.hR; omega) _
          · rw [← hw11]; exact below_row fw10.out.bl (by have := fw10.out.hB; have := fw10.out.hR; omega) _
          · rw [← hw11]; exact keepx_row w fw10.out.kx fw10.out.hR _
          · rw [hRe.out]; exact ⟨rfl, he3n.out⟩)
    · have hM0 : (M != 0) = true := by simp; omega
      obtain ⟨w3, hw3⟩ : ∃ W, wr.setCell ⟨G, 1, none⟩ (.int .i64 ((j : Int) + 1)) = W := ⟨_, rfl⟩
      have s3 := hide (show RSt w3 B l most (j + 1) o 0 Al n cl Ao m co from by rw [← hw3]; exact (sj.out.setCell fj.out.kG (Nat.le_trans fj.out.hB fj.out.hG) 1 _).at' (by omega) (by decide))
      have f3 := hide (show SB w B G (G + 1) (.slice Al n cl) (.int .i64 ((j + 1 : Nat) : Int)) (.slice Ao m co) (.int .i64 (most : Nat)) (.int .i64 0) w3 from by
        rw [← hw3]
        exact ⟨fj.out.kG.set 1 _, fj.out.kR.far (by simp) _, fj.out.hG, fj.out.hR, fj.out.hne, fj.out.hB, fj.out.bl.setCell (Nat.le_trans fj.out.hB fj.out.hG) _, keepx_cell w fj.out.kx fj.out.hG _⟩)
      replace hM := hide hM
      go_wp2
      go_roundg g
      case measure => omega
      case rel => exact ⟨j + 1, by omega, by omega, hide (by have := hj3.out; omega), s3, f3⟩

end Go.Proofs.YtaapjampmnanmaaGreat

namespace Go.Proofs.YtaapjampmnanmaaGreat
open Go.RowKit Go.Shelf
set_option linter.unusedVariables false
set_option linter.unusedSimpArgs false

theorem BookV.below {B : Nat} {w w' : World} {ls : List Nat} {cs : Array Value} (h : BookV B w ls cs) (hb : Below w.heap.size w w') : BookV B w' ls cs := by
  obtain ⟨Ao, co, h1, h2⟩ := h
  exact ⟨Ao, co, h1, fun s hs => (h2 s hs).below hb⟩
theorem BookV.keepX {B : Nat} {w w' : World} {ls : List Nat} {cs : Array Value} (h : BookV B w ls cs) (hx : KeepX w w') : BookV B w' ls cs := by
  obtain ⟨Ao, co, h1, h2⟩ := h
  exact ⟨Ao, co, h1, fun s hs => hx.ow (h2 s hs) (by decide) (by decide) (by decide)⟩
theorem BookV.size {B : Nat} {w : World} {ls : List Nat} {cs : Array Value} (h : BookV B w ls cs) : cs.size = 32 := by obtain ⟨Ao, co, h1, _⟩ := h; exact h1.size
theorem BookV.row {B : Nat} {w : World} {ls : List Nat} {cs : Array Value} (h : BookV B w ls cs) {g : Nat} {c0 c1 : Array Value} (hk : Blk w g 173 c0) : BookV B (w.setRow g c1) ls cs := by
  obtain ⟨Ao, co, h1, h2⟩ := h
  exact ⟨Ao, co, h1, fun s hs => (h2 s hs).chg ((Chg.refl (fun k => k = g) w).setRow (g := g) (.inr rfl) _) (by rintro k hk' rfl; exact (h2 s hs).ne hk (by decide) hk')⟩

/-- What a state holds that was read on: the monad's next step. -/
theorem RI.bits_step {α : Type} {l : List Bool} {k a a1 e1 y : Nat} {o : List UInt8} (h : RI.bits l k a 0 = (a1, e1, y)) (f : Nat → Inf.M α) : (e1 = 0 → Inf.bind (Inf.bits l k) f a o = f y a1 o) ∧ (e1 ≠ 0 → Inf.bind (Inf.bits l k) f a o = .inl e1 ∧ y = 0) := by
  unfold RI.bits at h
  rw [if_pos rfl] at h
  split at h
  · rename_i hb
    cases h
    exact ⟨fun _ => Inf.bind_ok (show Inf.bits l k a o = .inr (_, _, o) from if_pos hb), fun h => absurd rfl h⟩
  · rename_i hb
    cases h
    exact ⟨fun h => (by cases h), fun _ => ⟨Inf.bind_err (show Inf.bits l k a o = .inl 2 from if_neg hb), rfl⟩⟩
theorem RI.bits_off {l : List Bool} {k a e a1 e1 y : Nat} (h : RI.bits l k a e = (a1, e1, y)) (he : e ≠ 0) : e1 = e ∧ a1 = a ∧ y = 0 := by
  unfold RI.bits at h
  rw [if_neg he] at h
  cases h
  exact ⟨rfl, rfl, rfl⟩
theorem RI.sym_step {α : Type} {l : List Bool} {ls : List Nat} {a a1 e1 y : Nat} {o : List UInt8} (h : RI.sym l ls a 0 = (a1, e1, y)) (f : Nat → Inf.M α) : (e1 = 0 → Inf.bind (Inf.sym l ls) f a o = f y a1 o) ∧ (e1 ≠ 0 → Inf.bind (Inf.sym l ls) f a o = .inl e1 ∧ y = 0) := by
  unfold RI.sym at h
  rw [if_pos rfl] at h
  split at h
  · rename_i m x hd
    cases h
    exact ⟨fun _ => Inf.bind_ok (Inf.sym_ok hd), fun h => absurd rfl h⟩
  · rename_i m x e2 hd
    cases h
    exact ⟨fun h => (by cases h), fun _ => ⟨Inf.bind_err (Inf.sym_err hd (by omega)), rfl⟩⟩
theorem RI.sym_off {l : List Bool} {ls : List Nat} {a e a1 e1 y : Nat} (h : RI.sym l ls a e = (a1, e1, y)) (he : e ≠ 0) : e1 = e ∧ a1 = a ∧ y = 0 := by
  unfold RI.sym at h
  rw [if_neg he] at h
  cases h
  exact ⟨rfl, rfl, rfl⟩
theorem RI.put_step {α : Type} {most a e1 : Nat} {c : UInt8} {o o1 : List UInt8} (h : RI.put most c o 0 = (o1, e1)) (f : Unit → Inf.M α) : (e1 = 0 → Inf.bind (Inf.put most c) f a o = f () a o1 ∧ o1 = o ++ [c]) ∧ (e1 ≠ 0 → Inf.bind (Inf.put most c) f a o = .inl e1) := by
  unfold RI.put at h
  rw [if_pos rfl] at h
  split at h
  · rename_i hf
    cases h
    exact ⟨fun h => (by cases h), fun _ => Inf.bind_err (show Inf.put most _ _ o = .inl 5 from if_pos hf)⟩
  · rename_i hf
    cases h
    exact ⟨fun _ => ⟨Inf.bind_ok (show Inf.put most _ _ o = .inr ((), _, _) from if_neg hf), rfl⟩, fun h => absurd rfl h⟩

theorem RI.sym_lt {l : List Bool} {ls : List Nat} {a e a1 e1 y : Nat} (h : RI.sym l ls a e = (a1, e1, y)) : y ≤ ls.length := by
  unfold RI.sym at h
  split at h
  · split at h
    · rename_i m x hd
      cases h
      have := Huf.dec_sym ls (l.drop a) 15 0 0
      rw [hd] at this
      exact this
    · cases h; exact Nat.zero_le _
  · cases h; exact Nat.zero_le _
theorem RI.copied_start {l : List Bool} {most s a a1 e1 k a2 e2 t : Nat} {far : List Nat} {o : List UInt8} (hs1 : 257 ≤ s) (hs2 : s ≤ 285) (h1 : RI.bits l (Def.lenX (s - 257)) a 0 = (a1, e1, k)) (h2 : RI.sym l far a1 e1 = (a2, e2, t)) :
    (29 < t → e2 = 0 ∧ Inf.copied l most far s a o = .inl 3) ∧ (t ≤ 29 → ∀ a3 e3 m, RI.bits l (Def.dstX t) a2 e2 = (a3, e3, m) → (e3 ≠ 0 → Inf.copied l most far s a o = .inl e3) ∧ (e3 = 0 → Inf.copied l most far s a o = Inf.reach most (Def.dstB t + m) (Def.lenB (s - 257) + k) a3 o)) := by
  have hu : Inf.copied l most far s a o = Inf.bind (Inf.bits l (Def.lenX (s - 257))) (fun k => Inf.bind (Inf.sym l far) fun t =>
      if 29 < t then Inf.err 3 else Inf.bind (Inf.bits l (Def.dstX t)) fun m => Inf.reach most (Def.dstB t + m) (Def.lenB (s - 257) + k)) a o := by
    unfold Inf.copied
    rw [if_neg (by omega)]
  rw [hu]
  have b1 := RI.bits_step (o := o) h1 (fun k => Inf.bind (Inf.sym l far) fun t => if 29 < t then Inf.err 3 else Inf.bind (Inf.bits l (Def.dstX t)) fun m => Inf.reach most (Def.dstB t + m) (Def.lenB (s - 257) + k))
  by_cases he1 : e1 = 0
  · rw [b1.1 he1]
    subst he1
    have b2 := RI.sym_step (o := o) h2 (fun t => if 29 < t then (Inf.err 3 : Inf.M Unit) else Inf.bind (Inf.bits l (Def.dstX t)) fun m => Inf.reach most (Def.dstB t + m) (Def.lenB (s - 257) + k))
    by_cases he2 : e2 = 0
    · rw [b2.1 he2]
      subst he2
      refine ⟨fun ht => ⟨rfl, by rw [if_pos ht]; rfl⟩, fun ht a3 e3 m h3 => ?_⟩
      rw [if_neg (by omega)]
      have b3 := RI.bits_step (o := o) h3 (fun m => Inf.reach most (Def.dstB t + m) (Def.lenB (s - 257) + k))
      exact ⟨fun h => (b3.2 h).1, fun h => b3.1 h⟩
    · obtain ⟨b4, b5⟩ := b2.2 he2
      rw [b4]
      refine ⟨fun ht => absurd ht (by omega), fun ht a3 e3 m h3 => ?_⟩
      obtain ⟨r1, _, _⟩ := RI.bits_off h3 he2
      subst r1
      exact ⟨fun _ => rfl, fun h => absurd h he2⟩
  · obtain ⟨b4, b5⟩ := b1.2 he1
    rw [b4]
    obtain ⟨r1, _, r3⟩ := RI.sym_off h2 he1
    subst r1
    refine ⟨fun ht => absurd ht (by omega), fun ht a3 e3 m h3 => ?_⟩
    obtain ⟨r1, _, _⟩ := RI.bits_off h3 he1
    subst r1
    exact ⟨fun _ => rfl, fun h => absurd h he1⟩
theorem RI.back_next {most d k a e1 : Nat} {o o1 : List UInt8} {r : Inf.R Unit} (h : RI.put most (o.getD (o.length - d) 0) o 0 = (o1, e1)) (hr : Inf.back most d (k + 1) a o = r) :
    (e1 = 0 → Inf.back most d k a o1 = r ∧ o1.length = o.length + 1) ∧ (e1 ≠ 0 → r = .inl e1) := by
  subst hr
  have b1 := RI.put_step (a := a) h (fun _ => Inf.back most d k)
  refine ⟨fun h0 => ⟨(b1.1 h0).1.symm, by rw [(b1.1 h0).2, List.length_append]; rfl⟩, fun h0 => ?_⟩
  exact b1.2 h0

set_option maxRecDepth 100000 in
set_option maxHeartbeats 8000000 in
theorem ri_copied {w : World} {B B0 : Nat} {l : List Bool} {most a : Nat} {o : List UInt8} {Al : Option Addr} {n cl : Nat} {Ao : Option Addr} {m co : Nat} (h : RSt w B l most a o 0 Al n cl Ao m co) (s : Nat) (hs : s ≤ 1000) {far : List Nat} {bc : Array Value} (hv : BookV B0 w far bc) (hfar : far.length ≤ 1000) (hsl : Huf.sum far ≤ 32768) :
    Calls Tryz.prog 154 #[.agg #[.slice Al n cl, .int .i64 (a : Nat), .slice Ao m co, .int .i64 (most : Nat), .int .i64 0], .int .i64 (s : Int), .agg bc] w (RPost w B l most Al n cl (RI.is (Inf.copied l most far s a o))) := by
  obtain ⟨G, hG⟩ : ∃ G, w.heap.size = G := ⟨_, rfl⟩
  obtain ⟨w1, hw1⟩ : ∃ W, w.alloc (.cells #[.slice Al n cl, .int .i64 (a : Nat), .slice Ao m co, .int .i64 (most : Nat), .int .i64 0] 173) = W := ⟨_, rfl⟩
  obtain ⟨w2, hw2⟩ : ∃ W, w1.alloc (.cells bc 180) = W := ⟨_, rfl⟩
  obtain ⟨w3, hw3⟩ : ∃ W, w2.alloc (.cells #[.slice none 0 0, .int .i64 0, .slice none 0 0, .int .i64 0, .int .i64 0] 173) = W := ⟨_, rfl⟩
  have z1 : w1.heap.size = G + 1 := by rw [← hw1, ← hG]; simp
  have z2 : w2.heap.size = G + 1 + 1 := by rw [← hw2, ← z1]; simp
  have b3 : Below w.heap.size w w3 := by rw [← hw3, ← hw2, ← hw1]; exact (((Below.refl _ w).alloc (Nat.le_refl _) _).alloc (by simp) _).alloc (by simp; omega) _
  have s3 := hide (h.below b3)
  have f3 := hide (show SB w B G (G + 1 + 1) (.slice Al n cl) (.int .i64 (a : Nat)) (.slice Ao m co) (.int .i64 (most : Nat)) (.int .i64 0) w3 from
    ⟨by rw [← hw3, ← hw2]; exact ((show Blk w1 G _ _ from by rw [← hw1, ← hG]; exact Blk.new w _ _).alloc _).alloc _, by rw [← hw3, ← z2]; exact Blk.new w2 _ _, by omega, by omega, by omega, h.hB, b3.mono h.hB, KeepX.below b3⟩)
  have kb3 := hide (show Blk w3 (G + 1) 180 bc from by rw [← hw3]; exact (show Blk w2 (G + 1) _ _ from by rw [← hw2, ← z1]; exact Blk.new w1 _ _).alloc _)
  have hv3 := hide (hv.below b3)
  have hib := hide (info_book' hv.size)
  have hn := hide h.hn
  have hl := rlength_any (s : Int) w3 (by omega) (by omega)
  obtain ⟨RR, hRR⟩ : ∃ R, Inf.copied l most far s a o = R := ⟨_, rfl⟩
  rw [hRR]
  clear h hv b3
  by_cases hin : s < 257 ∨ 285 < s
  · rw [Inf.lenV_out s hin] at hl
    have hRe := hide (show RR = .inl 3 from by rw [← hRR]; unfold Inf.copied; rw [if_pos hin]; rfl)
    have hf := hide (c_fail s3.out (E := 0) rfl 3 (by decide) (K := 3) rfl)
    rw [if_pos rfl] at hf
    simp only at hl
    replace hl := hide hl
    replace hRR := hide hRR
    replace hin := hide hin
    go_enter Tryz.func154, Tryz.ntmps154
    go_wp2_with (first
      | (go_at_call 171; (with_reducible refine (hl.out).mono ?_); rintro e w' ⟨rfl, rfl⟩)
      | (with_reducible refine wpList_load_row (o := ⟨some 22, .load 173 (.tmp 3), _, _, _, _⟩) rfl 173 (.tmp 3) rfl G rfl 173 _ (0, 0) _ f3.out.kG.eq Tryz.underlying173 rfl (st_infos _ _ _ _ _) ?_)
      | (go_at_call 124; (with_reducible refine (hf.out).mono ?_); rintro e w4 ⟨rfl, s4, b4⟩; have s4 := hide s4; have f4 := hide (f3.out.below b4); clear b4; obtain ⟨w5, hw5⟩ : ∃ W, w4.setRow (G + 1 + 1) #[.slice Al n cl, .int .i64 (a : Nat), .slice Ao m co, .int .i64 (most : Nat), .int .i64 ((3 : Nat) : Int)] = W := ⟨_, rfl⟩)
      | ((with_reducible refine wpList_store_row (o := ⟨none, .store 173 (.tmp 6) (.tmp 23), _, _, _, _⟩) rfl 173 (.tmp 6) (.tmp 23) rfl (G + 1 + 1) #[.slice Al n cl, .int .i64 (a : Nat), .slice Ao m co, .int .i64 (most : Nat), .int .i64 ((3 : Nat) : Int)] rfl rfl 173 _ f4.out.kR.eq (st_infos _ _ _ _ _) (st_hold _ _ _ _ _ _ _ _ _ _) (st_one _ _ _ _ _ _ _ _ _) ?_); rw [hw5]))
    exact RPost.done rfl f4.out s4.out rfl hw5 rfl (by rw [hRe.out]; exact ⟨rfl, by decide⟩)
  · have hk29 : s - 257 < 29 := by omega
    rw [Inf.lenV_in s (by omega) (by omega)] at hl
    obtain ⟨hLB, hLX⟩ := Def.len_small _ hk29
    have hLB3 := Inf.lenB_pos _ hk29
    simp only at hl
    obtain ⟨⟨a1, e1, k⟩, hq1⟩ : ∃ r, RI.bits l (Def.lenX (s - 257)) a 0 = r := ⟨_, rfl⟩
    obtain ⟨⟨a2, e2, t⟩, hq2⟩ : ∃ r, RI.sym l far a1 e1 = r := ⟨_, rfl⟩
    have hst := hide (RI.copied_start (most := most) (o := o) (by omega) (by omega) hq1 hq2)
    rw [hRR] at hst
    generalize Def.lenB (s - 257) = LB at *
    generalize Def.lenX (s - 257) = LX at *
    have hk := RI.bits_lt hq1
    have hkx : k ≤ 1024 := by
      have h2 : 2 ^ LX ≤ 2 ^ 10 := Nat.pow_le_pow_right (by decide) hLX
      omega
    have ht := RI.sym_lt hq2
    have hLBz : ((LB : Int) == 0) = false := by simp; omega
    have hc1 := hide (c_bits s3.out (E := 0) rfl LX (by omega) rfl hq1)
    replace hl := hide hl
    replace hRR := hide hRR
    replace hk := hide hk
    replace hin := hide hin
    go_enter Tryz.func154, Tryz.ntmps154
    go_upto_region 6 with (first
      | (go_at_call 171; (with_reducible refine (hl.out).mono ?_); rintro e w' ⟨rfl, rfl⟩)
      | (with_reducible refine wpList_load_row (o := ⟨some 25, .load 173 (.tmp 3), _, _, _, _⟩) rfl 173 (.tmp 3) rfl G rfl 173 _ (0, 0) _ f3.out.kG.eq Tryz.underlying173 rfl (st_infos _ _ _ _ _) ?_)
      | (go_at_call 119; (with_reducible refine (hc1.out).mono ?_); rintro e w4 ⟨rfl, s4, b4⟩; have s4 := hide s4; have f4 := hide (f3.out.below b4); have kb4 := hide (kb3.out.below b4 kb3.out.lt); have hv4 := hide (hv3.out.below b4); clear b4; obtain ⟨w5, hw5⟩ : ∃ W, w4.setRow G #[.slice Al n cl, .int .i64 (a1 : Nat), .slice Ao m co, .int .i64 (most : Nat), .int .i64 (e1 : Nat)] = W := ⟨_, rfl⟩; have sw5 := hide (show RSt w5 B l most a1 o e1 Al n cl Ao m co from by rw [← hw5]; exact s4.out.row f4.out.kG (Nat.le_trans f4.out.hB f4.out.hG) _); have fw5 := hide (show SB w B G (G + 1 + 1) (.slice Al n cl) (.int .i64 (a1 : Nat)) (.slice Ao m co) (.int .i64 (most : Nat)) (.int .i64 (e1 : Nat)) w5 from by rw [← hw5]; exact f4.out.row _ _ _ _ _); have kb5 := hide (show Blk w5 (G + 1) 180 bc from by rw [← hw5]; exact (setRow_other w4 G (G + 1) _ (by omega)).trans kb4.out); have hv5 := hide (show BookV B0 w5 far bc from by rw [← hw5]; exact hv4.out.row f4.out.kG); have hc2 := hide (c_sym sw5.out rfl hv5.out hsl hq2))
      | ((with_reducible refine wpList_store_row (o := ⟨none, .store 173 (.tmp 3) (.tmp 28), _, _, _, _⟩) rfl 173 (.tmp 3) (.tmp 28) rfl G #[.slice Al n cl, .int .i64 (a1 : Nat), .slice Ao m co, .int .i64 (most : Nat), .int .i64 (e1 : Nat)] rfl rfl 173 _ f4.out.kG.eq (st_infos _ _ _ _ _) (st_hold _ _ _ _ _ _ _ _ _ _) (st_one _ _ _ _ _ _ _ _ _) ?_); rw [hw5])
      | (with_reducible refine wpList_load_row (o := ⟨some 31, .load 173 (.tmp 3), _, _, _, _⟩) rfl 173 (.tmp 3) rfl G rfl 173 _ (0, 0) _ fw5.out.kG.eq Tryz.underlying173 rfl (st_infos _ _ _ _ _) ?_)
      | (with_reducible refine wpList_load_row (o := ⟨some 32, .load 180 (.tmp 5), _, _, _, _⟩) rfl 180 (.tmp 5) rfl (G + 1) rfl 180 bc (0, 0) _ kb5.out.eq Tryz.underlying180 rfl hib.out ?_)
      | (go_at_call 153; (with_reducible refine (hc2.out).mono ?_); rintro e w6 ⟨rfl, s6, b6⟩; have s6 := hide s6; have f6 := hide (fw5.out.below b6); clear b6; obtain ⟨w7, hw7⟩ : ∃ W, w6.setRow G #[.slice Al n cl, .int .i64 (a2 : Nat), .slice Ao m co, .int .i64 (most : Nat), .int .i64 (e2 : Nat)] = W := ⟨_, rfl⟩; have sw7 := hide (show RSt w7 B l most a2 o e2 Al n cl Ao m co from by rw [← hw7]; exact s6.out.row f6.out.kG (Nat.le_trans f6.out.hB f6.out.hG) _); have fw7 := hide (show SB w B G (G + 1 + 1) (.slice Al n cl) (.int .i64 (a2 : Nat)) (.slice Ao m co) (.int .i64 (most : Nat)) (.int .i64 (e2 : Nat)) w7 from by rw [← hw7]; exact f6.out.row _ _ _ _ _))
      | ((with_reducible refine wpList_store_row (o := ⟨none, .store 173 (.tmp 3) (.tmp 34), _, _, _, _⟩) rfl 173 (.tmp 3) (.tmp 34) rfl G #[.slice Al n cl, .int .i64 (a2 : Nat), .slice Ao m co, .int .i64 (most : Nat), .int .i64 (e2 : Nat)] rfl rfl 173 _ f6.out.kG.eq (st_infos _ _ _ _ _) (st_hold _ _ _ _ _ _ _ _ _ _) (st_one _ _ _ _ _ _ _ _ _) ?_); rw [hw7]))
    have hds := rdistance_any (t : Int) w7 (by omega) (by omega)
    clear s3 f3 kb3 hv3 hib hl s4 f4 kb4 hv4 hc1 sw5 fw5 kb5 hv5 hc2 s6 f6
    by_cases ht29 : 29 < t
    · rw [Inf.dstV_out t ht29] at hds
      simp only at hds
      obtain ⟨he2, hRe⟩ := hst.out.1 ht29
      subst he2
      have hRe := hide hRe
      have hf := hide (c_fail sw7.out (E := 0) rfl 3 (by decide) (K := 3) rfl)
      rw [if_pos rfl] at hf
      replace hds := hide hds
      replace ht29 := hide ht29
      go_wp2_with (first
        | (go_at_call 172; (with_reducible refine (hds.out).mono ?_); rintro e w' ⟨rfl, rfl⟩)
        | (with_reducible refine wpList_load_row (o := ⟨some 43, .load 173 (.tmp 3), _, _, _, _⟩) rfl 173 (.tmp 3) rfl G rfl 173 _ (0, 0) _ fw7.out.kG.eq Tryz.underlying173 rfl (st_infos _ _ _ _ _) ?_)
        | (go_at_call 124; (with_reducible refine (hf.out).mono ?_); rintro e w8 ⟨rfl, s8, b8⟩; have s8 := hide s8; have f8 := hide (fw7.out.below b8); clear b8; obtain ⟨w9, hw9⟩ : ∃ W, w8.setRow (G + 1 + 1) #[.slice Al n cl, .int .i64 (a2 : Nat), .slice Ao m co, .int .i64 (most : Nat), .int .i64 ((3 : Nat) : Int)] = W := ⟨_, rfl⟩)
        | ((with_reducible refine wpList_store_row (o := ⟨none, .store 173 (.tmp 6) (.tmp 44), _, _, _, _⟩) rfl 173 (.tmp 6) (.tmp 44) rfl (G + 1 + 1) #[.slice Al n cl, .int .i64 (a2 : Nat), .slice Ao m co, .int .i64 (most : Nat), .int .i64 ((3 : Nat) : Int)] rfl rfl 173 _ f8.out.kR.eq (st_infos _ _ _ _ _) (st_hold _ _ _ _ _ _ _ _ _ _) (st_one _ _ _ _ _ _ _ _ _) ?_); rw [hw9]))
      exact RPost.done rfl f8.out s8.out rfl hw9 rfl (by rw [hRe.out]; exact ⟨rfl, by decide⟩)
    · rw [Inf.dstV_in t (by omega)] at hds
      simp only at hds
      obtain ⟨hDB, hDX⟩ := Def.dst_small t (by omega)
      have hDB1 := Inf.dstB_pos t (by omega)
      have hst2 := hst.out.2 (by omega)
      generalize Def.dstB t = DB at *
      generalize Def.dstX t = DX at *
      obtain ⟨⟨a3, e3, mm⟩, hq3⟩ : ∃ r, RI.bits l DX a2 e2 = r := ⟨_, rfl⟩
      have hst3 := hide (hst2 _ _ _ hq3)
      have hm := RI.bits_lt hq3
      have hmm : mm ≤ 1048576 := by
        have h2 : 2 ^ DX ≤ 2 ^ 20 := Nat.pow_le_pow_right (by decide) hDX
        omega
      have hDBz : ((DB : Int) == 0) = false := by simp; omega
      have hc3 := hide (c_bits sw7.out rfl DX (by omega) rfl hq3)
      replace hds := hide hds
      replace hm := hide hm
      clear hst hst2 ht29
      go_upto_region 10 with (first
        | (go_at_call 172; (with_reducible refine (hds.out).mono ?_); rintro e w' ⟨rfl, rfl⟩)
        | (with_reducible refine wpList_load_row (o := ⟨some 46, .load 173 (.tmp 3), _, _, _, _⟩) rfl 173 (.tmp 3) rfl G rfl 173 _ (0, 0) _ fw7.out.kG.eq Tryz.underlying173 rfl (st_infos _ _ _ _ _) ?_)
        | (go_at_call 119; (with_reducible refine (hc3.out).mono ?_); rintro e w8 ⟨rfl, s8, b8⟩; have s8 := hide s8; have f8 := hide (fw7.out.below b8); clear b8; obtain ⟨w9, hw9⟩ : ∃ W, w8.setRow G #[.slice Al n cl, .int .i64 (a3 : Nat), .slice Ao m co, .int .i64 (most : Nat), .int .i64 (e3 : Nat)] = W := ⟨_, rfl⟩; have sw9 := hide (show RSt w9 B l most a3 o e3 Al n cl Ao m co from by rw [← hw9]; exact s8.out.row f8.out.kG (Nat.le_trans f8.out.hB f8.out.hG) _); have fw9 := hide (show SB w B G (G + 1 + 1) (.slice Al n cl) (.int .i64 (a3 : Nat)) (.slice Ao m co) (.int .i64 (most : Nat)) (.int .i64 (e3 : Nat)) w9 from by rw [← hw9]; exact f8.out.row _ _ _ _ _))
        | ((with_reducible refine wpList_store_row (o := ⟨none, .store 173 (.tmp 3) (.tmp 49), _, _, _, _⟩) rfl 173 (.tmp 3) (.tmp 49) rfl G #[.slice Al n cl, .int .i64 (a3 : Nat), .slice Ao m co, .int .i64 (most : Nat), .int .i64 (e3 : Nat)] rfl rfl 173 _ f8.out.kG.eq (st_infos _ _ _ _ _) (st_hold _ _ _ _ _ _ _ _ _ _) (st_one _ _ _ _ _ _ _ _ _) ?_); rw [hw9]))
      have d4 := fw9.out.kG.cell 4
      have d2 := fw9.out.kG.cell 2
      simp only [List.getElem?_toArray, List.getElem?_cons_succ, List.getElem?_cons_zero] at d4 d2
      obtain ⟨N, hNN⟩ : ∃ N, LB + k = N := ⟨_, rfl⟩
      obtain ⟨d, hdd⟩ : ∃ d, DB + mm = d := ⟨_, rfl⟩
      have hNI : (LB : Int) + (k : Int) = (N : Int) := by omega
      have hdI : (DB : Int) + (mm : Int) = (d : Int) := by omega
      have hN1 : 1 ≤ N := by omega
      have hN2 : N ≤ 2000 := by omega
      have hd1 : 1 ≤ d := by omega
      have hd2 : d ≤ 2000000 := by omega
      have hwN : IntKind.i64.wrap (N : Int) = (N : Int) := by rw [IntKind.wrap_i64]; omega
      have hwd : IntKind.i64.wrap (d : Int) = (d : Int) := by rw [IntKind.wrap_i64]; omega
      have hom := sw9.out.hm
      have hmle := sw9.out.hmm
      have hmo := sw9.out.hmost
      rw [hNN, hdd] at hst3
      clear hq1 hq2 hq3 hds hc3 sw7 fw7 s8 f8
      by_cases he3 : e3 = 0
      · subst he3
        have hre := hide (hst3.out.2 rfl)
        by_cases hdm : m < d
        · have hdmI : (m : Int) < (d : Int) := by omega
          have hRe := hide (show RR = .inl 3 from by rw [hre.out]; unfold Inf.reach; rw [if_pos (by omega)])
          have hf := hide (c_fail sw9.out (E := 0) rfl 3 (by decide) (K := 3) rfl)
          rw [if_pos rfl] at hf
          replace hom := hide hom
          go_wp2_with (first
            | (with_reducible refine wpList_load_row (o := ⟨some 63, .load 173 (.tmp 3), _, _, _, _⟩) rfl 173 (.tmp 3) rfl G rfl 173 _ (0, 0) _ fw9.out.kG.eq Tryz.underlying173 rfl (st_infos _ _ _ _ _) ?_)
            | (go_at_call 124; (with_reducible refine (hf.out).mono ?_); rintro e w10 ⟨rfl, s10, b10⟩; have s10 := hide s10; have f10 := hide (fw9.out.below b10); clear b10; obtain ⟨w11, hw11⟩ : ∃ W, w10.setRow (G + 1 + 1) #[.slice Al n cl, .int .i64 (a3 : Nat), .slice Ao m co, .int .i64 (most : Nat), .int .i64 ((3 : Nat) : Int)] = W := ⟨_, rfl⟩)
            | ((with_reducible refine wpList_store_row (o := ⟨none, .store 173 (.tmp 6) (.tmp 64), _, _, _, _⟩) rfl 173 (.tmp 6) (.tmp 64) rfl (G + 1 + 1) #[.slice Al n cl, .int .i64 (a3 : Nat), .slice Ao m co, .int .i64 (most : Nat), .int .i64 ((3 : Nat) : Int)] rfl rfl 173 _ f10.out.kR.eq (st_infos _ _ _ _ _) (st_hold _ _ _ _ _ _ _ _ _ _) (st_one _ _ _ _ _ _ _ _ _) ?_); rw [hw11]))
          exact RPost.done rfl f10.out s10.out rfl hw11 rfl (by rw [hRe.out]; exact ⟨rfl, by decide⟩)
        · have hdmI : (d : Int) ≤ (m : Int) := by omega
          have hdmb : decide (m < d) = false := by simp; omega
          have hbk := hide (show Inf.back most d N a3 o = RR from by rw [hre.out]; unfold Inf.reach; rw [if_neg (by omega)])
          have hdo := hide (show d ≤ o.length from by omega)
          replace hom := hide hom
          clear hst3
          go_wp2
          clear hdmb hdmI d4 d2
          go_loopw [14] (fun s14 wr => ∃ (i a' e' m' co' : Nat) (o' : List UInt8) (Ao' : Option Addr), i ≤ N ∧ s14 = .int .i64 (i : Int) ∧ Hid (RSt wr B l most a' o' e' Al n cl Ao' m' co') ∧ Hid (SB w B G (G + 1 + 1) (.slice Al n cl) (.int .i64 (a' : Nat)) (.slice Ao' m' co') (.int .i64 (most : Nat)) (.int .i64 (e' : Nat)) wr) ∧ Hid (d ≤ o'.length) ∧ Hid ((e' = 0 → Inf.back most d (N - i) a' o' = RR) ∧ (e' ≠ 0 → RR = .inl e'))) (fun i _ => N - (intOf i).toNat)
          case atStart => exact ⟨0, a3, 0, m, co, o, Ao, Nat.zero_le _, rfl, sw9, fw9, hdo, hide ⟨fun _ => hbk.out, fun h => absurd rfl h⟩⟩
          case round =>
            clear sw9 fw9 hdo hbk hom hmle hmo hdm hre
            obtain ⟨i, a4, e4, m4, co4, o4, Ao4, hi, rfl, s4, f4, hdo, hr4⟩ := hrel
            by_cases hgo : i < N ∧ e4 = 0
            · obtain ⟨hlt, rfl⟩ := hgo
              have hltI : (i : Int) < (N : Int) := by omega
              have hii : IntKind.i64.wrap ((i : Int) + 1) = (i : Int) + 1 := by rw [IntKind.wrap_i64]; omega
              have hm4 := s4.out.hm
              obtain ⟨x, hx⟩ : ∃ x, o4.getD (o4.length - d) 0 = x := ⟨_, rfl⟩
              obtain ⟨⟨o5, e5⟩, hq5⟩ : ∃ r, RI.put most x o4 0 = r := ⟨_, rfl⟩
              have hnx := hide (RI.back_next (d := d) (k := N - (i + 1)) (a := a4) (r := RR) (o1 := o5) (e1 := e5) (by rw [hx]; exact hq5) (by rw [show N - (i + 1) + 1 = N - i from by omega]; exact hr4.out.1 rfl))
              obtain ⟨q, hq⟩ : ∃ q, m4 - d = q := ⟨_, rfl⟩
              have hql : q < o4.length := by have := hdo.out; omega
              obtain ⟨b0, off, hA4, hbb, hcq⟩ := s4.out.ow.rd.byte (j := q) (by omega)
              rw [show o4[q] = x from by rw [← hx, hm4, hq, List.getD_eq_getElem?_getD, List.getElem?_eq_getElem hql, Option.getD_some]] at hcq
              subst hA4
              obtain ⟨xn, hxn⟩ : ∃ xn, x.toNat = xn := ⟨_, rfl⟩
              rw [hxn] at hcq
              have hqI : (m4 : Int) - (d : Int) = (q : Int) := by have := hdo.out; omega
              have hqI2 : (m4 : Int) - (DB : Int) - (mm : Int) = (q : Int) := by omega
              have hwq : IntKind.i64.wrap (q : Int) = (q : Int) := by rw [IntKind.wrap_i64]; have := s4.out.hmm; have := s4.out.hmost; omega
              have hwq2 : IntKind.i64.wrap ((m4 : Int) - (DB : Int)) = (m4 : Int) - (DB : Int) := by rw [IntKind.wrap_i64]; have := s4.out.hmm; have := s4.out.hmost; omega
              have hq0 : (0 : Int) ≤ (q : Int) := by omega
              have hqN : (q : Int) < (m4 : Int) := by omega
              have d4 := f4.out.kG.cell 4
              have d3 := f4.out.kG.cell 3
              have d2 := f4.out.kG.cell 2
              have d1 := f4.out.kG.cell 1
              have d0 := f4.out.kG.cell 0
              simp only [List.getElem?_toArray, List.getElem?_cons_succ, List.getElem?_cons_zero] at d4 d3 d2 d1 d0
              have sd := hide (show RSt wr.drew B l most a4 o4 0 Al n cl (some ⟨b0, off, none⟩) m4 co4 from s4.out.below (below_drewN (Below.refl _ wr) 1))
              have fd := hide (show SB w B G (G + 1 + 1) (.slice Al n cl) (.int .i64 (a4 : Nat)) (.slice (some ⟨b0, off, none⟩) m4 co4) (.int .i64 (most : Nat)) (.int .i64 0) wr.drew from f4.out.below (below_drewN (Below.refl _ wr) 1))
              have hcp := hide (c_put sd.out (E := 0) rfl x (K := (xn : Int)) (by rw [hxn]) hq5)
              replace hr4 := hide hr4
              replace hx := hide hx
              replace hxn := hide hxn
              replace hm4 := hide hm4
              clear hql hbb
              go_wp2
              go_still_tail 12, (by kernel_rfl)
              change wpList _ _ _ _ _ wr.drew
              go_wp2_with (first
                | (go_at_call 151; (with_reducible refine (hcp.out).mono ?_); rintro e w7 ⟨A7, m7, c7, rfl, s7, b7, x7⟩; have s7 := hide s7; have f7 := hide (fd.out.keep b7 x7); clear b7 x7;
                   obtain ⟨w8, hw8⟩ : ∃ W, w7.setRow G #[.slice Al n cl, .int .i64 (a4 : Nat), .slice A7 m7 c7, .int .i64 (most : Nat), .int .i64 (e5 : Nat)] = W := ⟨_, rfl⟩; have sw8 := hide (show RSt w8 B l most a4 o5 e5 Al n cl A7 m7 c7 from by rw [← hw8]; exact s7.out.row f7.out.kG (Nat.le_trans f7.out.hB f7.out.hG) _); have fw8 := hide (show SB w B G (G + 1 + 1) (.slice Al n cl) (.int .i64 (a4 : Nat)) (.slice A7 m7 c7) (.int .i64 (most : Nat)) (.int .i64 (e5 : Nat)) w8 from by rw [← hw8]; exact f7.out.row _ _ _ _ _))
                | ((with_reducible refine wpList_store_row (o := ⟨none, .store 173 (.tmp 3) (.tmp 89), _, _, _, _⟩) rfl 173 (.tmp 3) (.tmp 89) rfl G #[.slice Al n cl, .int .i64 (a4 : Nat), .slice A7 m7 c7, .int .i64 (most : Nat), .int .i64 (e5 : Nat)] rfl rfl 173 _ f7.out.kG.eq (st_infos _ _ _ _ _) (st_hold _ _ _ _ _ _ _ _ _ _) (st_one _ _ _ _ _ _ _ _ _) ?_); rw [hw8]))
              have hdo5 := hide (show d ≤ o5.length from by
                by_cases he5 : e5 = 0
                · have := (hnx.out.1 he5).2; have := hdo.out; omega
                · unfold RI.put at hq5
                  rw [if_pos rfl] at hq5
                  split at hq5
                  · cases hq5; exact hdo.out
                  · cases hq5; exact absurd rfl he5)
              go_roundw
              case rel =>
                (repeat apply Exists.intro)
                exact ⟨⟨i + 1, a4, e5, m7, c7, o5, A7, by omega, by simp, sw8, fw8, hdo5, hide ⟨fun h => (hnx.out.1 h).1, hnx.out.2⟩⟩, rfl⟩
              all_goals (simp [intOf]; omega)
            · have hfin := hide (show RI.is RR a4 o4 e4 from by
                by_cases h0 : e4 = 0
                · subst h0
                  rw [← hr4.out.1 rfl, show N - i = 0 from by omega]
                  exact ⟨rfl, rfl, rfl⟩
                · rw [hr4.out.2 h0]
                  exact ⟨rfl, h0⟩)
              have d4 := f4.out.kG.cell 4
              simp only [List.getElem?_toArray, List.getElem?_cons_succ, List.getElem?_cons_zero] at d4
              have hcond : ¬ (i : Int) < (N : Int) ∨ (i : Int) < (N : Int) ∧ ((e4 : Int) == 0) = false := by
                by_cases h1 : i < N
                · exact .inr ⟨by omega, by simp; omega⟩
                · exact .inl (by omega)
              obtain ⟨w11, hw11⟩ : ∃ W, wr.setRow (G + 1 + 1) #[.slice Al n cl, .int .i64 (a4 : Nat), .slice Ao4 m4 co4, .int .i64 (most : Nat), .int .i64 (e4 : Nat)] = W := ⟨_, rfl⟩
              replace hgo := hide hgo
              replace hr4 := hide hr4
              rcases hcond with hcond | ⟨hcond, hz⟩
              all_goals (
                go_wp2_with (first
                  | (with_reducible refine wpList_load_row (o := ⟨some 90, .load 173 (.tmp 3), _, _, _, _⟩) rfl 173 (.tmp 3) rfl G rfl 173 _ (0, 0) _ f4.out.kG.eq Tryz.underlying173 rfl (st_infos _ _ _ _ _) ?_)
                  | ((with_reducible refine wpList_store_row (o := ⟨none, .store 173 (.tmp 6) (.tmp 90), _, _, _, _⟩) rfl 173 (.tmp 6) (.tmp 90) rfl (G + 1 + 1) #[.slice Al n cl, .int .i64 (a4 : Nat), .slice Ao4 m4 co4, .int .i64 (most : Nat), .int .i64 (e4 : Nat)] rfl rfl 173 _ f4.out.kR.eq (st_infos _ _ _ _ _) (st_hold _ _ _ _ _ _ _ _ _ _) (st_one _ _ _ _ _ _ _ _ _) ?_); rw [hw11]))
                exact RPost.done rfl f4.out s4.out rfl hw11 rfl hfin.out)
      · have hez : ((e3 : Int) == 0) = false := by simp; omega
        have hRe := hide (hst3.out.1 he3)
        have hNp : (0 : Int) < (N : Int) := by omega
        have he3n := hide he3
        obtain ⟨w11, hw11⟩ : ∃ W, w9.setRow (G + 1 + 1) #[.slice Al n cl, .int .i64 (a3 : Nat), .slice Ao m co, .int .i64 (most : Nat), .int .i64 (e3 : Nat)] = W := ⟨_, rfl⟩
        clear he3
        go_wp2
        refine wp_loop_rounds 1 ?_
        rw [rounds_succ]
        go_wp2_with (first
          | (with_reducible refine wpList_load_row (o := ⟨some 90, .load 173 (.tmp 3), _, _, _, _⟩) rfl 173 (.tmp 3) rfl G rfl 173 _ (0, 0) _ fw9.out.kG.eq Tryz.underlying173 rfl (st_infos _ _ _ _ _) ?_)
          | ((with_reducible refine wpList_store_row (o := ⟨none, .store 173 (.tmp 6) (.tmp 90), _, _, _, _⟩) rfl 173 (.tmp 6) (.tmp 90) rfl (G + 1 + 1) #[.slice Al n cl, .int .i64 (a3 : Nat), .slice Ao m co, .int .i64 (most : Nat), .int .i64 (e3 : Nat)] rfl rfl 173 _ fw9.out.kR.eq (st_infos _ _ _ _ _) (st_hold _ _ _ _ _ _ _ _ _ _) (st_one _ _ _ _ _ _ _ _ _) ?_); rw [hw11]))
        exact RPost.done rfl fw9.out sw9.out rfl hw11 rfl (by rw [hRe.out]; exact ⟨rfl, he3n.out⟩)

end Go.Proofs.YtaapjampmnanmaaGreat

namespace Go.Proofs.YtaapjampmnanmaaGreat
open Go.RowKit Go.Shelf
set_option linter.unusedVariables false
set_option linter.unusedSimpArgs false

/-- The two books of a function, at the blocks g and g + 1. -/
structure Bks (B0 : Nat) (near far : List Nat) (bc1 bc2 : Array Value) (g : Nat) (W : World) : Prop where
  k1 : Blk W g 180 bc1
  k2 : Blk W (g + 1) 180 bc2
  v1 : BookV B0 W near bc1
  v2 : BookV B0 W far bc2
theorem Bks.below {B0 g : Nat} {near far : List Nat} {bc1 bc2 : Array Value} {W W' : World} (h : Bks B0 near far bc1 bc2 g W) (hb : Below W.heap.size W W') : Bks B0 near far bc1 bc2 g W' :=
  ⟨h.k1.below hb h.k1.lt, h.k2.below hb h.k2.lt, h.v1.below hb, h.v2.below hb⟩
theorem Bks.keep {B0 g : Nat} {near far : List Nat} {bc1 bc2 : Array Value} {W W' : World} (h : Bks B0 near far bc1 bc2 g W) (hx : KeepX W W') : Bks B0 near far bc1 bc2 g W' :=
  ⟨hx.row h.k1 (by decide) (by decide) (by decide), hx.row h.k2 (by decide) (by decide) (by decide), h.v1.keepX hx, h.v2.keepX hx⟩
theorem Bks.row {B0 g T : Nat} {near far : List Nat} {bc1 bc2 c0 c1 : Array Value} {W : World} (h : Bks B0 near far bc1 bc2 g W) (hk : Blk W T 173 c0) : Bks B0 near far bc1 bc2 g (W.setRow T c1) :=
  ⟨(setRow_other W T g _ (fun e => h.k1.same hk (by decide) e)).trans h.k1, (setRow_other W T (g + 1) _ (fun e => h.k2.same hk (by decide) e)).trans h.k2, h.v1.row hk, h.v2.row hk⟩

theorem RI.symbols_next {l : List Bool} {most g a a1 e1 y : Nat} {near far : List Nat} {o : List UInt8} {r : Inf.R Unit} (h1 : RI.sym l near a 0 = (a1, e1, y)) (hr : Inf.symbols l most near far (g + 1) a o = r) :
    (e1 ≠ 0 → r = .inl e1) ∧ (e1 = 0 → a < a1 ∧ (y = 256 → r = .inr ((), a1, o)) ∧
      (y < 256 → ∀ o1 e2, RI.put most (UInt8.ofNat y) o 0 = (o1, e2) → (e2 = 0 → Inf.symbols l most near far g a1 o1 = r) ∧ (e2 ≠ 0 → r = .inl e2)) ∧
      (256 < y → (∀ er, Inf.copied l most far y a1 o = .inl er → r = .inl er) ∧ (∀ a2 o2, Inf.copied l most far y a1 o = .inr ((), a2, o2) → a1 ≤ a2 ∧ Inf.symbols l most near far g a2 o2 = r))) := by
  subst hr
  have hu : Inf.symbols l most near far (g + 1) a o = Inf.bind (Inf.sym l near) (fun s => if s < 256 then Inf.bind (Inf.put most (UInt8.ofNat s)) fun _ => Inf.symbols l most near far g
    else if s = 256 then Inf.ret () else Inf.bind (Inf.copied l most far s) fun _ => Inf.symbols l most near far g) a o := rfl
  rw [hu]
  have b1 := RI.sym_step (o := o) h1 (fun s => if s < 256 then Inf.bind (Inf.put most (UInt8.ofNat s)) fun _ => Inf.symbols l most near far g
    else if s = 256 then Inf.ret () else Inf.bind (Inf.copied l most far s) fun _ => Inf.symbols l most near far g)
  refine ⟨fun h => (b1.2 h).1, fun h0 => ?_⟩
  rw [b1.1 h0]
  subst h0
  have ha : a < a1 := by
    unfold RI.sym at h1
    rw [if_pos rfl] at h1
    split at h1
    · rename_i m x hd
      cases h1
      have := (Inf.sym_is (Inf.sym_ok (a := a) (o := o) hd)).2.1
      omega
    · cases h1
  refine ⟨ha, fun hy => ?_, fun hy o1 e2 hp => ?_, fun hy => ⟨fun er he => ?_, fun a2 o2 he => ?_⟩⟩
  · rw [if_neg (by omega), if_pos hy]
    rfl
  · rw [if_pos hy]
    have b2 := RI.put_step (a := a1) hp (fun _ => Inf.symbols l most near far g)
    exact ⟨fun h => (b2.1 h).1.symm, fun h => b2.2 h⟩
  · rw [if_neg (by omega), if_neg (by omega)]
    exact Inf.bind_err he
  · rw [if_neg (by omega), if_neg (by omega)]
    exact ⟨(Inf.Mono.copied most far y).1 l _ _ _ _ _ he, (Inf.bind_ok (f := fun _ => Inf.symbols l most near far g) he).symm⟩

set_option maxRecDepth 100000 in
set_option maxHeartbeats 2000000 in
theorem ri_symbols_bad {w : World} {B : Nat} {l : List Bool} {most a e : Nat} {o : List UInt8} {Al : Option Addr} {n cl : Nat} {Ao : Option Addr} {m co : Nat} (h : RSt w B l most a o e Al n cl Ao m co) (he : e ≠ 0) (bc1 bc2 : Array Value) :
    Calls Tryz.prog 122 #[.agg #[.slice Al n cl, .int .i64 (a : Nat), .slice Ao m co, .int .i64 (most : Nat), .int .i64 (e : Nat)], .agg bc1, .agg bc2] w (RPost w B l most Al n cl (RI.is (.inl e))) := by
  obtain ⟨G, hG⟩ : ∃ G, w.heap.size = G := ⟨_, rfl⟩
  obtain ⟨w1, hw1⟩ : ∃ W, w.alloc (.cells #[.slice Al n cl, .int .i64 (a : Nat), .slice Ao m co, .int .i64 (most : Nat), .int .i64 (e : Nat)] 173) = W := ⟨_, rfl⟩
  obtain ⟨w2, hw2⟩ : ∃ W, w1.alloc (.cells bc1 180) = W := ⟨_, rfl⟩
  obtain ⟨w3, hw3⟩ : ∃ W, w2.alloc (.cells bc2 180) = W := ⟨_, rfl⟩
  obtain ⟨w4, hw4⟩ : ∃ W, w3.alloc (.cells #[.slice none 0 0, .int .i64 0, .slice none 0 0, .int .i64 0, .int .i64 0] 173) = W := ⟨_, rfl⟩
  have z1 : w1.heap.size = G + 1 := by rw [← hw1, ← hG]; simp
  have z2 : w2.heap.size = G + 1 + 1 := by rw [← hw2, ← z1]; simp
  have z3 : w3.heap.size = G + 1 + 1 + 1 := by rw [← hw3, ← z2]; simp
  have b4 : Below w.heap.size w w4 := by rw [← hw4, ← hw3, ← hw2, ← hw1]; exact ((((Below.refl _ w).alloc (Nat.le_refl _) _).alloc (by simp) _).alloc (by simp; omega) _).alloc (by simp; omega) _
  have s4 := hide (h.below b4)
  have f4 := hide (show SB w B G (G + 1 + 1 + 1) (.slice Al n cl) (.int .i64 (a : Nat)) (.slice Ao m co) (.int .i64 (most : Nat)) (.int .i64 (e : Nat)) w4 from
    ⟨by rw [← hw4, ← hw3, ← hw2]; exact (((show Blk w1 G _ _ from by rw [← hw1, ← hG]; exact Blk.new w _ _).alloc _).alloc _).alloc _, by rw [← hw4, ← z3]; exact Blk.new w3 _ _, by omega, by omega, by omega, h.hB, b4.mono h.hB, KeepX.below b4⟩)
  have hez : ((e : Int) == 0) = false := by simp; omega
  have d4 := f4.out.kG.cell 4
  simp only [List.getElem?_toArray, List.getElem?_cons_succ, List.getElem?_cons_zero] at d4
  obtain ⟨w5, hw5⟩ : ∃ W, w4.setRow (G + 1 + 1 + 1) #[.slice Al n cl, .int .i64 (a : Nat), .slice Ao m co, .int .i64 (most : Nat), .int .i64 (e : Nat)] = W := ⟨_, rfl⟩
  replace he := hide he
  clear h b4
  go_enter Tryz.func122, Tryz.ntmps122
  go_wp2
  refine wp_loop_rounds 1 ?_
  rw [rounds_succ]
  go_wp2_with (first
    | (with_reducible refine wpList_load_row (o := ⟨some 37, .load 173 (.tmp 3), _, _, _, _⟩) rfl 173 (.tmp 3) rfl G rfl 173 _ (0, 0) _ f4.out.kG.eq Tryz.underlying173 rfl (st_infos _ _ _ _ _) ?_)
    | ((with_reducible refine wpList_store_row (o := ⟨none, .store 173 (.tmp 6) (.tmp 37), _, _, _, _⟩) rfl 173 (.tmp 6) (.tmp 37) rfl (G + 1 + 1 + 1) #[.slice Al n cl, .int .i64 (a : Nat), .slice Ao m co, .int .i64 (most : Nat), .int .i64 (e : Nat)] rfl rfl 173 _ f4.out.kR.eq (st_infos _ _ _ _ _) (st_hold _ _ _ _ _ _ _ _ _ _) (st_one _ _ _ _ _ _ _ _ _) ?_); rw [hw5]))
  exact RPost.done rfl f4.out s4.out rfl hw5 rfl ⟨rfl, he.out⟩

set_option maxRecDepth 100000 in
set_option maxHeartbeats 8000000 in
theorem ri_symbols {w : World} {B B0 : Nat} {l : List Bool} {most a : Nat} {o : List UInt8} {Al : Option Addr} {n cl : Nat} {Ao : Option Addr} {m co : Nat} (h : RSt w B l most a o 0 Al n cl Ao m co) {near far : List Nat} {bc1 bc2 : Array Value} (hv1 : BookV B0 w near bc1) (hv2 : BookV B0 w far bc2) (hn1 : near.length ≤ 288) (hn2 : far.length ≤ 1000) (hs1 : Huf.sum near ≤ 32768) (hs2 : Huf.sum far ≤ 32768) (F : Nat) (hF : n < a + F) :
    Calls Tryz.prog 122 #[.agg #[.slice Al n cl, .int .i64 (a : Nat), .slice Ao m co, .int .i64 (most : Nat), .int .i64 0], .agg bc1, .agg bc2] w (RPost w B l most Al n cl (RI.is (Inf.symbols l most near far F a o))) := by
  obtain ⟨G, hG⟩ : ∃ G, w.heap.size = G := ⟨_, rfl⟩
  obtain ⟨w1, hw1⟩ : ∃ W, w.alloc (.cells #[.slice Al n cl, .int .i64 (a : Nat), .slice Ao m co, .int .i64 (most : Nat), .int .i64 0] 173) = W := ⟨_, rfl⟩
  obtain ⟨w2, hw2⟩ : ∃ W, w1.alloc (.cells bc1 180) = W := ⟨_, rfl⟩
  obtain ⟨w3, hw3⟩ : ∃ W, w2.alloc (.cells bc2 180) = W := ⟨_, rfl⟩
  obtain ⟨w4, hw4⟩ : ∃ W, w3.alloc (.cells #[.slice none 0 0, .int .i64 0, .slice none 0 0, .int .i64 0, .int .i64 0] 173) = W := ⟨_, rfl⟩
  have z1 : w1.heap.size = G + 1 := by rw [← hw1, ← hG]; simp
  have z2 : w2.heap.size = G + 1 + 1 := by rw [← hw2, ← z1]; simp
  have z3 : w3.heap.size = G + 1 + 1 + 1 := by rw [← hw3, ← z2]; simp
  have b4 : Below w.heap.size w w4 := by rw [← hw4, ← hw3, ← hw2, ← hw1]; exact ((((Below.refl _ w).alloc (Nat.le_refl _) _).alloc (by simp) _).alloc (by simp; omega) _).alloc (by simp; omega) _
  have s4 := hide (h.below b4)
  have f4 := hide (show SB w B G (G + 1 + 1 + 1) (.slice Al n cl) (.int .i64 (a : Nat)) (.slice Ao m co) (.int .i64 (most : Nat)) (.int .i64 0) w4 from
    ⟨by rw [← hw4, ← hw3, ← hw2]; exact (((show Blk w1 G _ _ from by rw [← hw1, ← hG]; exact Blk.new w _ _).alloc _).alloc _).alloc _, by rw [← hw4, ← z3]; exact Blk.new w3 _ _, by omega, by omega, by omega, h.hB, b4.mono h.hB, KeepX.below b4⟩)
  have bk4 := hide (show Bks B0 near far bc1 bc2 (G + 1) w4 from
    ⟨by rw [← hw4, ← hw3]; exact ((show Blk w2 (G + 1) _ _ from by rw [← hw2, ← z1]; exact Blk.new w1 _ _).alloc _).alloc _, by rw [← hw4]; exact (show Blk w3 (G + 1 + 1) _ _ from by rw [← hw3, ← z2]; exact Blk.new w2 _ _).alloc _, hv1.below b4, hv2.below b4⟩)
  have hib1 := hide (info_book' hv1.size)
  have hib2 := hide (info_book' hv2.size)
  obtain ⟨RR, hRR⟩ : ∃ R, Inf.symbols l most near far F a o = R := ⟨_, rfl⟩
  rw [hRR]
  have hl := hide h.len
  replace hRR := hide hRR
  replace hF := hide hF
  replace hn1 := hide hn1
  replace hn2 := hide hn2
  replace hs1 := hide hs1
  replace hs2 := hide hs2
  clear h b4 hv1 hv2
  go_enter Tryz.func122, Tryz.ntmps122
  go_wp2
  go_loopg [7, 8] F (fun gk s7 s8 wr => ∃ (a' e' m' co' : Nat) (o' : List UInt8) (Ao' : Option Addr), Hid (RSt wr B l most a' o' e' Al n cl Ao' m' co') ∧ Hid (SB w B G (G + 1 + 1 + 1) (.slice Al n cl) (.int .i64 (a' : Nat)) (.slice Ao' m' co') (.int .i64 (most : Nat)) (.int .i64 (e' : Nat)) wr) ∧ Hid (Bks B0 near far bc1 bc2 (G + 1) wr) ∧ Hid ((e' = 0 → Inf.symbols l most near far gk a' o' = RR ∧ n < a' + gk) ∧ (e' ≠ 0 → RR = .inl e')))
  case atStart => exact ⟨a, 0, m, co, o, Ao, s4, f4, bk4, hide ⟨fun _ => ⟨hRR.out, hF.out⟩, fun h => absurd rfl h⟩⟩
  case round =>
    clear s4 f4 bk4 hRR hF
    obtain ⟨a3, e3, m3, co3, o3, Ao3, s3, f3, bk3, hr3⟩ := hrel
    have d4 := f3.out.kG.cell 4
    simp only [List.getElem?_toArray, List.getElem?_cons_succ, List.getElem?_cons_zero] at d4
    by_cases he3 : e3 = 0
    · subst he3
      obtain ⟨hsy, hlt⟩ := hr3.out.1 rfl
      obtain ⟨g, rfl⟩ : ∃ g, gk = g + 1 := ⟨gk - 1, by have := s3.out.ha; omega⟩
      obtain ⟨⟨a4, e4, y⟩, hq4⟩ : ∃ r, RI.sym l near a3 0 = r := ⟨_, rfl⟩
      have hnx := hide (RI.symbols_next hq4 hsy)
      have hy := RI.sym_lt hq4
      have hy2 : y ≤ 288 := by have := hn1.out; omega
      have hc4 := hide (c_sym s3.out (E := 0) rfl bk3.out.v1 hs1.out hq4)
      replace hlt := hide hlt
      replace hr3 := hide hr3
      replace hsy := hide hsy
      replace hy := hide hy
      go_upto_region 4 with (first
        | (with_reducible refine wpList_load_row (o := ⟨some 13, .load 173 (.tmp 3), _, _, _, _⟩) rfl 173 (.tmp 3) rfl G rfl 173 _ (0, 0) _ f3.out.kG.eq Tryz.underlying173 rfl (st_infos _ _ _ _ _) ?_)
        | (with_reducible refine wpList_load_row (o := ⟨some 14, .load 180 (.tmp 4), _, _, _, _⟩) rfl 180 (.tmp 4) rfl (G + 1) rfl 180 bc1 (0, 0) _ bk3.out.k1.eq Tryz.underlying180 rfl hib1.out ?_)
        | (go_at_call 153; (with_reducible refine (hc4.out).mono ?_); rintro e w5 ⟨rfl, s5, b5⟩; have s5 := hide s5; have f5 := hide (f3.out.below b5); have bk5 := hide (bk3.out.below b5); clear b5;
           obtain ⟨T, hT⟩ : ∃ T, w5.heap.size = T := ⟨_, rfl⟩; have hTG := hide (show T ≠ G ∧ T ≠ G + 1 + 1 + 1 ∧ w.heap.size ≤ T from ⟨by have := f5.out.kG.lt; omega, by have := f5.out.kR.lt; omega, by have := f5.out.kG.lt; have := f5.out.hG; omega⟩);
           obtain ⟨w6, hw6⟩ : ∃ W, w5.alloc (.cells #[.slice none 0 0, .int .i64 0, .slice none 0 0, .int .i64 0, .int .i64 0] 173) = W := ⟨_, rfl⟩; have kT6 := hide (show Blk w6 T 173 #[.slice none 0 0, .int .i64 0, .slice none 0 0, .int .i64 0, .int .i64 0] from by rw [← hw6, ← hT]; exact Blk.new w5 _ _); have b6 := (show Below w5.heap.size w5 w6 from by rw [← hw6]; exact (Below.refl _ w5).alloc (Nat.le_refl _) _); have f6 := hide (f5.out.below b6); have s6 := hide (s5.out.below b6); have bk6 := hide (bk5.out.below b6); clear b6;
           obtain ⟨w7, hw7⟩ : ∃ W, w6.setRow T #[.slice Al n cl, .int .i64 (a4 : Nat), .slice Ao3 m3 co3, .int .i64 (most : Nat), .int .i64 (e4 : Nat)] = W := ⟨_, rfl⟩; have kT7 := hide (show Blk w7 T 173 #[.slice Al n cl, .int .i64 (a4 : Nat), .slice Ao3 m3 co3, .int .i64 (most : Nat), .int .i64 (e4 : Nat)] from by rw [← hw7]; exact kT6.out.row _); have f7 := hide (show SB w B G (G + 1 + 1 + 1) (.slice Al n cl) (.int .i64 (a3 : Nat)) (.slice Ao3 m3 co3) (.int .i64 (most : Nat)) (.int .i64 0) w7 from by rw [← hw7]; exact f6.out.other hTG.out.2.2 hTG.out.1 hTG.out.2.1 _);
           have s7 := hide (show RSt w7 B l most a4 o3 e4 Al n cl Ao3 m3 co3 from by rw [← hw7]; exact s6.out.row kT6.out (Nat.le_trans f6.out.hB hTG.out.2.2) _); have bk7 := hide (show Bks B0 near far bc1 bc2 (G + 1) w7 from by rw [← hw7]; exact bk6.out.row kT6.out);
           obtain ⟨w8, hw8⟩ : ∃ W, w7.setRow G #[.slice Al n cl, .int .i64 (a4 : Nat), .slice Ao3 m3 co3, .int .i64 (most : Nat), .int .i64 (e4 : Nat)] = W := ⟨_, rfl⟩; have sw8 := hide (show RSt w8 B l most a4 o3 e4 Al n cl Ao3 m3 co3 from by rw [← hw8]; exact s7.out.row f7.out.kG (Nat.le_trans f7.out.hB f7.out.hG) _); have fw8 := hide (show SB w B G (G + 1 + 1 + 1) (.slice Al n cl) (.int .i64 (a4 : Nat)) (.slice Ao3 m3 co3) (.int .i64 (most : Nat)) (.int .i64 (e4 : Nat)) w8 from by rw [← hw8]; exact f7.out.row _ _ _ _ _); have bk8 := hide (show Bks B0 near far bc1 bc2 (G + 1) w8 from by rw [← hw8]; exact bk7.out.row f7.out.kG))
        | ((with_reducible refine wpList_store_row (o := ⟨none, .store 173 (.tmp 7) (.tmp 16), _, _, _, _⟩) rfl 173 (.tmp 7) (.tmp 16) rfl T #[.slice Al n cl, .int .i64 (a4 : Nat), .slice Ao3 m3 co3, .int .i64 (most : Nat), .int .i64 (e4 : Nat)] rfl rfl 173 _ kT6.out.eq (st_infos _ _ _ _ _) (st_hold _ _ _ _ _ _ _ _ _ _) (st_one _ _ _ _ _ _ _ _ _) ?_); rw [hw7])
        | (with_reducible refine wpList_load_row (o := ⟨some 18, .load 173 (.tmp 7), _, _, _, _⟩) rfl 173 (.tmp 7) rfl T rfl 173 _ (0, 0) _ kT7.out.eq Tryz.underlying173 rfl (st_infos _ _ _ _ _) ?_)
        | ((with_reducible refine wpList_store_row (o := ⟨none, .store 173 (.tmp 3) (.tmp 18), _, _, _, _⟩) rfl 173 (.tmp 3) (.tmp 18) rfl G #[.slice Al n cl, .int .i64 (a4 : Nat), .slice Ao3 m3 co3, .int .i64 (most : Nat), .int .i64 (e4 : Nat)] rfl rfl 173 _ f7.out.kG.eq (st_infos _ _ _ _ _) (st_hold _ _ _ _ _ _ _ _ _ _) (st_one _ _ _ _ _ _ _ _ _) ?_); rw [hw8]))
      have e4c := fw8.out.kG.cell 4
      simp only [List.getElem?_toArray, List.getElem?_cons_succ, List.getElem?_cons_zero] at e4c
      clear s3 f3 bk3 hc4 d4 s5 f5 bk5 kT6 f6 s6 bk6 kT7 f7 s7 bk7
      by_cases he4 : e4 = 0
      · subst he4
        obtain ⟨haa, hn256, hnlt, hngt⟩ := hnx.out.2 rfl
        have haa := hide haa
        rcases (show y = 256 ∨ y < 256 ∨ 256 < y by omega) with hy3 | hy3 | hy3
        · subst hy3
          have hRe := hide (hn256 rfl)
          obtain ⟨w9, hw9⟩ : ∃ W, w8.setRow (G + 1 + 1 + 1) #[.slice Al n cl, .int .i64 (a4 : Nat), .slice Ao3 m3 co3, .int .i64 (most : Nat), .int .i64 0] = W := ⟨_, rfl⟩
          clear hn256 hnlt hngt
          go_wp2_with (first
            | (with_reducible refine wpList_load_row (o := ⟨some 26, .load 173 (.tmp 3), _, _, _, _⟩) rfl 173 (.tmp 3) rfl G rfl 173 _ (0, 0) _ fw8.out.kG.eq Tryz.underlying173 rfl (st_infos _ _ _ _ _) ?_)
            | ((with_reducible refine wpList_store_row (o := ⟨none, .store 173 (.tmp 6) (.tmp 26), _, _, _, _⟩) rfl 173 (.tmp 6) (.tmp 26) rfl (G + 1 + 1 + 1) #[.slice Al n cl, .int .i64 (a4 : Nat), .slice Ao3 m3 co3, .int .i64 (most : Nat), .int .i64 0] rfl rfl 173 _ fw8.out.kR.eq (st_infos _ _ _ _ _) (st_hold _ _ _ _ _ _ _ _ _ _) (st_one _ _ _ _ _ _ _ _ _) ?_); rw [hw9]))
          exact RPost.done rfl fw8.out sw8.out rfl hw9 rfl (by rw [hRe.out]; exact ⟨rfl, rfl, rfl⟩)
        · obtain ⟨⟨o5, e5⟩, hq5⟩ : ∃ r, RI.put most (UInt8.ofNat y) o3 0 = r := ⟨_, rfl⟩
          have hn5 := hide (hnlt hy3 _ _ hq5)
          have hK : ((UInt8.ofNat y).toNat : Int) = (y : Int) := by rw [UInt8.toNat_ofNat']; omega
          have hcp := hide (c_put sw8.out (E := 0) rfl (UInt8.ofNat y) hK hq5)
          have hu8 : IntKind.u8.wrap (y : Int) = (y : Int) := by rw [IntKind.wrap_u8]; omega
          have hyI : (y : Int) < 256 := by omega
          have hyn : ((y : Int) == 256) = false := by simp; omega
          replace hK := hide hK
          clear hn256 hnlt hngt
          go_wp2_with (first
            | (with_reducible refine wpList_load_row (o := ⟨some 29, .load 173 (.tmp 3), _, _, _, _⟩) rfl 173 (.tmp 3) rfl G rfl 173 _ (0, 0) _ fw8.out.kG.eq Tryz.underlying173 rfl (st_infos _ _ _ _ _) ?_)
            | (go_at_call 151; (with_reducible refine (hcp.out).mono ?_); rintro e w10 ⟨A10, m10, c10, rfl, s10, b10, x10⟩; have s10 := hide s10; have f10 := hide (fw8.out.keep b10 x10); have bk10 := hide (bk8.out.keep x10); clear b10 x10;
               obtain ⟨w11, hw11⟩ : ∃ W, w10.setRow G #[.slice Al n cl, .int .i64 (a4 : Nat), .slice A10 m10 c10, .int .i64 (most : Nat), .int .i64 (e5 : Nat)] = W := ⟨_, rfl⟩; have sw11 := hide (show RSt w11 B l most a4 o5 e5 Al n cl A10 m10 c10 from by rw [← hw11]; exact s10.out.row f10.out.kG (Nat.le_trans f10.out.hB f10.out.hG) _); have fw11 := hide (show SB w B G (G + 1 + 1 + 1) (.slice Al n cl) (.int .i64 (a4 : Nat)) (.slice A10 m10 c10) (.int .i64 (most : Nat)) (.int .i64 (e5 : Nat)) w11 from by rw [← hw11]; exact f10.out.row _ _ _ _ _); have bk11 := hide (show Bks B0 near far bc1 bc2 (G + 1) w11 from by rw [← hw11]; exact bk10.out.row f10.out.kG))
            | ((with_reducible refine wpList_store_row (o := ⟨none, .store 173 (.tmp 3) (.tmp 32), _, _, _, _⟩) rfl 173 (.tmp 3) (.tmp 32) rfl G #[.slice Al n cl, .int .i64 (a4 : Nat), .slice A10 m10 c10, .int .i64 (most : Nat), .int .i64 (e5 : Nat)] rfl rfl 173 _ f10.out.kG.eq (st_infos _ _ _ _ _) (st_hold _ _ _ _ _ _ _ _ _ _) (st_one _ _ _ _ _ _ _ _ _) ?_); rw [hw11]))
          go_roundg g
          case measure => omega
          case rel => exact ⟨a4, e5, m10, c10, o5, A10, sw11, fw11, bk11, hide ⟨fun h => ⟨hn5.out.1 h, by have := hlt.out; have := haa.out; omega⟩, hn5.out.2⟩⟩
        · obtain ⟨hg1, hg2⟩ := hngt hy3
          have hg1 := hide hg1
          have hg2 := hide hg2
          have hcc := hide (ri_copied sw8.out y (by omega) bk8.out.v2 hn2.out hs2.out)
          have hyI : ¬ (y : Int) < 256 := by omega
          have hyn : ((y : Int) == 256) = false := by simp; omega
          have hyn2 : ¬ (y : Int) = 256 := by omega
          clear hn256 hnlt hngt
          go_wp2_with (first
            | (with_reducible refine wpList_load_row (o := ⟨some 33, .load 173 (.tmp 3), _, _, _, _⟩) rfl 173 (.tmp 3) rfl G rfl 173 _ (0, 0) _ fw8.out.kG.eq Tryz.underlying173 rfl (st_infos _ _ _ _ _) ?_)
            | (with_reducible refine wpList_load_row (o := ⟨some 35, .load 180 (.tmp 5), _, _, _, _⟩) rfl 180 (.tmp 5) rfl (G + 1 + 1) rfl 180 bc2 (0, 0) _ bk8.out.k2.eq Tryz.underlying180 rfl hib2.out ?_)
            | (go_at_call 154; (with_reducible refine (hcc.out).mono ?_); rintro e w10 ⟨a10, o10, e10, A10, m10, c10, rfl, s10, b10, x10, q10⟩; have s10 := hide s10; have f10 := hide (fw8.out.keep b10 x10); have bk10 := hide (bk8.out.keep x10); have q10 := hide q10; clear b10 x10;
               obtain ⟨w11, hw11⟩ : ∃ W, w10.setRow G #[.slice Al n cl, .int .i64 (a10 : Nat), .slice A10 m10 c10, .int .i64 (most : Nat), .int .i64 (e10 : Nat)] = W := ⟨_, rfl⟩; have sw11 := hide (show RSt w11 B l most a10 o10 e10 Al n cl A10 m10 c10 from by rw [← hw11]; exact s10.out.row f10.out.kG (Nat.le_trans f10.out.hB f10.out.hG) _); have fw11 := hide (show SB w B G (G + 1 + 1 + 1) (.slice Al n cl) (.int .i64 (a10 : Nat)) (.slice A10 m10 c10) (.int .i64 (most : Nat)) (.int .i64 (e10 : Nat)) w11 from by rw [← hw11]; exact f10.out.row _ _ _ _ _); have bk11 := hide (show Bks B0 near far bc1 bc2 (G + 1) w11 from by rw [← hw11]; exact bk10.out.row f10.out.kG))
            | ((with_reducible refine wpList_store_row (o := ⟨none, .store 173 (.tmp 3) (.tmp 36), _, _, _, _⟩) rfl 173 (.tmp 3) (.tmp 36) rfl G #[.slice Al n cl, .int .i64 (a10 : Nat), .slice A10 m10 c10, .int .i64 (most : Nat), .int .i64 (e10 : Nat)] rfl rfl 173 _ f10.out.kG.eq (st_infos _ _ _ _ _) (st_hold _ _ _ _ _ _ _ _ _ _) (st_one _ _ _ _ _ _ _ _ _) ?_); rw [hw11]))
          have hq10 := hide (show (e10 = 0 → Inf.symbols l most near far g a10 o10 = RR ∧ n < a10 + g) ∧ (e10 ≠ 0 → RR = .inl e10) from by
            have q := q10.out
            cases hC : Inf.copied l most far y a4 o3 with
            | inl er =>
              rw [hC] at q
              obtain ⟨rfl, h0⟩ := q
              exact ⟨fun h => absurd h h0, fun _ => hg1.out _ hC⟩
            | inr r =>
              obtain ⟨⟨⟩, a11, o11⟩ := r
              rw [hC] at q
              obtain ⟨rfl, rfl, rfl⟩ := q
              have h2 := hg2.out _ _ hC
              exact ⟨fun _ => ⟨h2.2, by have := hlt.out; have := haa.out; omega⟩, fun h => absurd rfl h⟩)
          go_roundg g
          case measure => omega
          case rel => exact ⟨a10, e10, m10, c10, o10, A10, sw11, fw11, bk11, hq10⟩
      · have hRe := hide (hnx.out.1 he4)
        obtain ⟨w9, hw9⟩ : ∃ W, w8.setRow (G + 1 + 1 + 1) #[.slice Al n cl, .int .i64 (a4 : Nat), .slice Ao3 m3 co3, .int .i64 (most : Nat), .int .i64 (e4 : Nat)] = W := ⟨_, rfl⟩
        have hez : ((e4 : Int) != 0) = true := by simp; omega
        replace he4 := hide he4
        go_wp2_with (first
          | (with_reducible refine wpList_load_row (o := ⟨some 26, .load 173 (.tmp 3), _, _, _, _⟩) rfl 173 (.tmp 3) rfl G rfl 173 _ (0, 0) _ fw8.out.kG.eq Tryz.underlying173 rfl (st_infos _ _ _ _ _) ?_)
          | ((with_reducible refine wpList_store_row (o := ⟨none, .store 173 (.tmp 6) (.tmp 26), _, _, _, _⟩) rfl 173 (.tmp 6) (.tmp 26) rfl (G + 1 + 1 + 1) #[.slice Al n cl, .int .i64 (a4 : Nat), .slice Ao3 m3 co3, .int .i64 (most : Nat), .int .i64 (e4 : Nat)] rfl rfl 173 _ fw8.out.kR.eq (st_infos _ _ _ _ _) (st_hold _ _ _ _ _ _ _ _ _ _) (st_one _ _ _ _ _ _ _ _ _) ?_); rw [hw9]))
        exact RPost.done rfl fw8.out sw8.out rfl hw9 rfl (by rw [hRe.out]; exact ⟨rfl, he4.out⟩)
    · have hRe := hide (hr3.out.2 he3)
      have hez : ((e3 : Int) == 0) = false := by simp; omega
      obtain ⟨w9, hw9⟩ : ∃ W, wr.setRow (G + 1 + 1 + 1) #[.slice Al n cl, .int .i64 (a3 : Nat), .slice Ao3 m3 co3, .int .i64 (most : Nat), .int .i64 (e3 : Nat)] = W := ⟨_, rfl⟩
      replace he3 := hide he3
      replace hr3 := hide hr3
      go_wp2_with (first
        | (with_reducible refine wpList_load_row (o := ⟨some 37, .load 173 (.tmp 3), _, _, _, _⟩) rfl 173 (.tmp 3) rfl G rfl 173 _ (0, 0) _ f3.out.kG.eq Tryz.underlying173 rfl (st_infos _ _ _ _ _) ?_)
        | ((with_reducible refine wpList_store_row (o := ⟨none, .store 173 (.tmp 6) (.tmp 37), _, _, _, _⟩) rfl 173 (.tmp 6) (.tmp 37) rfl (G + 1 + 1 + 1) #[.slice Al n cl, .int .i64 (a3 : Nat), .slice Ao3 m3 co3, .int .i64 (most : Nat), .int .i64 (e3 : Nat)] rfl rfl 173 _ f3.out.kR.eq (st_infos _ _ _ _ _) (st_hold _ _ _ _ _ _ _ _ _ _) (st_one _ _ _ _ _ _ _ _ _) ?_); rw [hw9]))
      exact RPost.done rfl f3.out s3.out rfl hw9 rfl (by rw [hRe.out]; exact ⟨rfl, he3.out⟩)

end Go.Proofs.YtaapjampmnanmaaGreat
