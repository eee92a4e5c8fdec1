/- The walk of huff.New: a code is made of lengths. There is no condition but where the slice lies. -/
import Derived.Test.YthplpoijkebjbaaHuffMem
import Derived.Deep.AppendLies
import Derived.Deep.RegionLaw
import Derived.Deep.OwnRows
import Derived.Deep.DeepCutAuto
import Derived.Deep.CutBlock
import Derived.BigQuiet
namespace Go.Proofs.Ythplpoijkebjbaa
open Go.RowKit

theorem step_append_rd {P : Program} (w : World) {ops : Array Oper} {o : Oper} {a : Act} {K : Act → World → Prop} {Q : Exit → Act → World → Prop} {E0 : Prop} (hgd : o.guard = none) (s x : Operand) {t e : TypeId}
    (ho : o.op = .call { callee := .builtin .append, args := #[s, x], argTypes := #[t, t] }) {z : Value} {bytes : Nat} (E : Elem1 P t e z bytes)
    {base n c : Nat} {A : Option Addr} {xs : List Value} (hs : a.eval s = .slice A n c) (h : Ow w base e A n c xs)
    {B m c2 : Nat} {A2 : Option Addr} {news : List Value} (hx : a.eval x = .slice A2 m c2) (hr : Rd w B A2 m news) (h1 : ∀ u ∈ news, u.oneCell' = true)
    (h63 : n + m ≤ maxLen) (hbytes : (n + m) * bytes ≤ 140737488355328) (hbase : base ≤ w.heap.size)
    (hk : ∀ A' c' w', Ow w' base e A' (n + m) c' (xs ++ news) → Chg (fun k => blk A = some k) w w' → (blk A' = blk A ∨ blk A' = some w.heap.size) → K (a.put o.dst (.slice A' (n + m) c')) w') :
    if Region.wanted o (yielded ops a.tmps) = true then Oper.wp P o a w K Q else E0 := by
  have hw : Region.wanted o (yielded ops a.tmps) = true := by simp [Region.wanted, hgd]
  rw [if_pos hw]
  obtain ⟨A', c', w', hrun, h2, h3, h4⟩ := run_append_rd (P := P) w E o.type (c2 := c2) h hr h1 h63 hbytes hbase
  unfold Oper.wp execOp
  simp only [ho, resolve, invoke, builtin, Sem.run_bind, Sem.run_pure, Result.andThen_ok, List.map_toArray, List.map_cons, List.map_nil, hs, hx, hrun]
  exact hk A' c' w' h2 h3 h4

theorem step_append_one {P : Program} (w : World) {ops : Array Oper} {o : Oper} {a : Act} {K : Act → World → Prop} {Q : Exit → Act → World → Prop} {E0 : Prop} (hgd : o.guard = none) (s x : Operand) {t e : TypeId}
    (ho : o.op = .call { callee := .builtin .append, args := #[s, x], argTypes := #[t, t] }) {z : Value} {bytes : Nat} (E : Elem1 P t e z bytes)
    {base n c : Nat} {A : Option Addr} {xs : List Value} (hs : a.eval s = .slice A n c) (h : Ow w base e A n c xs) (u : Value) (te : TypeId) (fr : Nat × Nat) (hx : a.eval x = .slice (some ⟨w.heap.size, 0, none⟩) 1 1) (h1 : u.oneCell' = true)
    (h63 : n + 1 ≤ maxLen) (hbytes : (n + 1) * bytes ≤ 140737488355328) (hbase : base ≤ w.heap.size)
    (hk : ∀ A' c' w', Ow w' base e A' (n + 1) c' (xs ++ [u]) → Chg (fun k => blk A = some k) w w' → (blk A' = blk A ∨ ∃ k, w.heap.size ≤ k ∧ blk A' = some k) → K (a.put o.dst (.slice A' (n + 1) c')) w') :
    if Region.wanted o (yielded ops a.tmps) = true then Oper.wp P o a (w.alloc (.cells #[u] te fr)).drew K Q else E0 := by
  refine step_append_rd (w.alloc (.cells #[u] te fr)).drew hgd s x ho E hs (h.alloc _) hx (Rd.new w #[u] te fr) (by simpa using h1) h63 hbytes (Nat.le_trans hbase (by show w.heap.size ≤ (w.alloc (.cells #[u] te fr)).heap.size; simp)) ?_
  intro A' c' w' h2 h3 h4
  refine hk A' c' w' h2 ((((Chg.refl _ w).alloc _).drew).trans h3 (fun _ _ h => h)) ?_
  rcases h4 with h4 | h4
  · exact .inl h4
  · exact .inr ⟨_, by show w.heap.size ≤ (w.alloc (.cells #[u] te fr)).heap.size; simp, h4⟩

theorem Cd.free_chg {w w' : World} {B g n : Nat} {Ab : Option Addr} {cb : Nat} {Al : Option Addr} {cl : Nat} {ls : List Nat} {fs : Nat → Nat} {Ao : Nat → Option Addr} {co : Nat → Nat} {os : Nat → List Nat} {bits : Nat → Nat}
    (h : Cd w B g n Ab cb Al cl ls fs Ao co os bits) {s : Nat} (hs : s < 16) (hc : Chg (fun k => blk (Ao s) = some k) w w') (i : Nat) : w'.frozen? ⟨g, i, none⟩ = false := by
  obtain ⟨cs, hk, _⟩ := h.cells
  exact (hk.chg hc (fun hx => (h.oo s hs).ne hk (by decide) hx)).free i
theorem Cd.cell_chg {w w' : World} {B g n : Nat} {Ab : Option Addr} {cb : Nat} {Al : Option Addr} {cl : Nat} {ls : List Nat} {fs : Nat → Nat} {Ao : Nat → Option Addr} {co : Nat → Nat} {os : Nat → List Nat} {bits : Nat → Nat}
    (h : Cd w B g n Ab cb Al cl ls fs Ao co os bits) {s : Nat} (hs : s < 16) (hc : Chg (fun k => blk (Ao s) = some k) w w') {i : Nat} {v : Value} (hv : w.cell? ⟨g, i, none⟩ = some v) : w'.cell? ⟨g, i, none⟩ = some v := by
  obtain ⟨cs, hk, _⟩ := h.cells
  exact hc.cell hv (fun hx => (h.oo s hs).ne hk (by decide) hx)
theorem Cd.congr {w : World} {B g n : Nat} {Ab : Option Addr} {cb : Nat} {Al : Option Addr} {cl : Nat} {ls : List Nat} {fs fs' : Nat → Nat} {Ao : Nat → Option Addr} {co : Nat → Nat} {os : Nat → List Nat} {bits : Nat → Nat}
    (h : Cd w B g n Ab cb Al cl ls fs Ao co os bits) (hf : ∀ s, s < 16 → fs s = fs' s) : Cd w B g n Ab cb Al cl ls fs' Ao co os bits := by
  obtain ⟨cs, hk, hsz, h0, h1, h2, h3⟩ := h.cells
  exact ⟨⟨cs, hk, hsz, h0, h1, fun s hs => by rw [h2 s hs, hf s hs], h3⟩, h.hg, h.ob, h.ol, h.oo, h.apart, h.apartL⟩

def Huf.lists (ls : List Nat) (k s : Nat) : List Nat := if s = 0 then [] else Huf.idx ls k s
def Huf.bits (ls : List Nat) (t i : Nat) : Nat := if 1 ≤ ls.getD i 0 ∧ ls.getD i 0 < t then Huf.code ls i (ls.getD i 0) else 0
/-- The code of the lengths ls, at block g. -/
def CodeAt (B : Nat) (w : World) (g : Nat) (ls : List Nat) : Prop := ∃ Ab cb Al cl Ao co, Cd w B g ls.length Ab cb Al cl ls (Huf.first ls) Ao co (Huf.lists ls ls.length) (Huf.bits ls 16)

theorem Huf.lists_zero (ls : List Nat) : Huf.lists ls 0 = fun _ => [] := by
  funext s
  unfold Huf.lists
  split
  · rfl
  · simp [Huf.idx]
theorem Huf.lists_no (ls : List Nat) (k : Nat) (h : ls[k]? = some 0) : Huf.lists ls (k + 1) = Huf.lists ls k := by
  funext s
  unfold Huf.lists
  by_cases hs : s = 0
  · rw [if_pos hs, if_pos hs]
  · rw [if_neg hs, if_neg hs, Huf.idx_no]
    rw [h]
    intro e
    injection e with e
    exact hs e.symm
theorem Huf.lists_yes (ls : List Nat) (k s : Nat) (h : ls[k]? = some s) (hs : 1 ≤ s) : upd (Huf.lists ls k) s (Huf.lists ls k s ++ [k]) = Huf.lists ls (k + 1) := by
  funext t
  by_cases e : t = s
  · subst e
    rw [upd_same]
    unfold Huf.lists
    rw [if_neg (by omega), if_neg (by omega), Huf.idx_yes ls k t h]
  · rw [upd_ne _ _ e]
    unfold Huf.lists
    by_cases ht : t = 0
    · rw [if_pos ht, if_pos ht]
    · rw [if_neg ht, if_neg ht, Huf.idx_no]
      rw [h]
      intro e2
      injection e2 with e2
      exact e e2.symm
theorem Huf.lists_len (ls : List Nat) (k s : Nat) : (Huf.lists ls k s).length ≤ k := by
  unfold Huf.lists
  split
  · simp
  · exact Huf.idx_le ls k s
theorem Huf.lists_pos (ls : List Nat) (k s : Nat) (hs : 1 ≤ s) : Huf.lists ls k s = Huf.idx ls k s := if_neg (by omega)

def Huf.fstTo (ls : List Nat) (t s : Nat) : Nat := if s < t then Huf.first ls s else 0
theorem Huf.fst_one (ls : List Nat) : Huf.fstTo ls 1 = fun _ => 0 := by
  funext s
  unfold Huf.fstTo
  split
  · obtain rfl : s = 0 := by omega
    rfl
  · rfl
theorem Huf.fst_upd (ls : List Nat) (t : Nat) : upd (Huf.fstTo ls t) t (Huf.first ls t) = Huf.fstTo ls (t + 1) := by
  funext s
  by_cases e : s = t
  · subst e
    rw [upd_same, Huf.fstTo, if_pos (by omega)]
  · rw [upd_ne _ _ e]
    unfold Huf.fstTo
    by_cases h : s < t
    · rw [if_pos h, if_pos (by omega)]
    · rw [if_neg h, if_neg (by omega)]

def Huf.bitsIn (ls : List Nat) (t j i : Nat) : Nat := if 1 ≤ ls.getD i 0 ∧ (ls.getD i 0 < t ∨ (ls.getD i 0 = t ∧ (Huf.idx ls i t).length < j)) then Huf.code ls i (ls.getD i 0) else 0
theorem Huf.bits_one (ls : List Nat) : Huf.bits ls 1 = fun _ => 0 := by
  funext i
  unfold Huf.bits
  rw [if_neg (by omega)]
theorem Huf.bitsIn_zero (ls : List Nat) (t : Nat) : Huf.bitsIn ls t 0 = Huf.bits ls t := by
  funext i
  unfold Huf.bitsIn Huf.bits
  congr 1
  apply propext
  constructor
  · rintro ⟨h1, h | ⟨_, h⟩⟩
    · exact ⟨h1, h⟩
    · omega
  · rintro ⟨h1, h⟩
    exact ⟨h1, .inl h⟩
theorem Huf.getD_some (ls : List Nat) (i t : Nat) (ht : 1 ≤ t) (h : ls.getD i 0 = t) : ls[i]? = some t := by
  rw [List.getD_eq_getElem?_getD] at h
  cases e : ls[i]? with
  | none => rw [e] at h; simp at h; omega
  | some x => rw [e] at h; simp at h; rw [h]
theorem Huf.bitsIn_all (ls : List Nat) (t : Nat) (ht : 1 ≤ t) : Huf.bitsIn ls t (Huf.cnt ls t) = Huf.bits ls (t + 1) := by
  funext i
  unfold Huf.bitsIn Huf.bits
  congr 1
  apply propext
  constructor
  · rintro ⟨h1, h | ⟨h, _⟩⟩
    · exact ⟨h1, by omega⟩
    · exact ⟨h1, by omega⟩
  · rintro ⟨h1, h⟩
    refine ⟨h1, ?_⟩
    by_cases e : ls.getD i 0 = t
    · exact .inr ⟨e, Huf.rank_lt ls i t (Huf.getD_some ls i t ht e)⟩
    · exact .inl (by omega)
theorem Huf.bitsIn_step (ls : List Nat) (t j : Nat) (ht : 1 ≤ t) (hj : j < (Huf.idx ls ls.length t).length) : upd (Huf.bitsIn ls t j) (Huf.idx ls ls.length t)[j] (Huf.first ls t + j) = Huf.bitsIn ls t (j + 1) := by
  obtain ⟨h1, h2, h3⟩ := Huf.idx_at ls t ls.length j hj
  generalize hi0 : (Huf.idx ls ls.length t)[j] = i0 at *
  have hg : ls.getD i0 0 = t := by rw [List.getD_eq_getElem?_getD, h1]; rfl
  funext i
  by_cases e : i = i0
  · subst e
    rw [upd_same]
    unfold Huf.bitsIn
    rw [hg, if_pos ⟨ht, .inr ⟨rfl, by omega⟩⟩, Huf.code, h2]
  · rw [upd_ne _ _ e]
    unfold Huf.bitsIn
    congr 1
    apply propext
    constructor
    · rintro ⟨h4, h | ⟨h, h5⟩⟩
      · exact ⟨h4, .inl h⟩
      · exact ⟨h4, .inr ⟨h, by omega⟩⟩
    · rintro ⟨h4, h | ⟨h, h5⟩⟩
      · exact ⟨h4, .inl h⟩
      · refine ⟨h4, .inr ⟨h, ?_⟩⟩
        have h6 := Huf.getD_some ls i t ht h
        have hil : i < ls.length := (List.getElem?_eq_some_iff.1 h6).1
        have h7 := Huf.idx_rank ls i t h6 ls.length hil
        by_cases e2 : (Huf.idx ls i t).length = j
        · exfalso
          rw [e2, List.getElem?_eq_getElem hj, hi0] at h7
          injection h7 with h7
          exact e h7.symm
        · omega

theorem ow_empty {W : World} {B k : Nat} {t : TypeId} (hk : B ≤ k) (h : W.heap[k]? = some (.cells #[] t (0, 0))) : Ow W B t (some ⟨k, 0, none⟩) 0 0 [] :=
  ⟨rfl, .inr ⟨k, 0, #[], rfl, hk, h, Nat.le_refl _, by simp [maxLen], rfl, rfl⟩⟩
theorem ow_made {W : World} {B k n : Nat} {t : TypeId} {z : Value} (hk : B ≤ k) (hn : n ≤ maxLen) (h : W.heap[k]? = some (.cells (madeCells #[z] n) t (0, 0))) : Ow W B t (some ⟨k, 0, none⟩) n n ((List.range n).map fun _ => z) := by
  have hs : (madeCells #[z] n).size = n := size_madeCells _ _
  refine ⟨by simp, .inr ⟨k, n, _, rfl, hk, h, Nat.le_refl _, hn, by rw [hs, Nat.mul_one], ?_⟩⟩
  apply List.ext_getElem
  · simp [hs]
  · intro i h1 h2
    simp [madeCells, Nat.mod_one]
theorem heap_two (w : World) (a b : Obj) {B : Nat} (h : w.heap.size = B) : ((w.alloc a).alloc b).drew.heap[B]? = some a ∧ ((w.alloc a).alloc b).drew.heap[B + 1]? = some b := by
  subst h
  constructor
  · show ((w.alloc a).alloc b).heap[w.heap.size]? = some a
    rw [Below.heap_alloc _ _ _ (by simp), heap_alloc_new]
  · have := heap_alloc_new (w.alloc a) b
    rw [show (w.alloc a).heap.size = w.heap.size + 1 from by simp] at this
    exact this
theorem heap_one (w : World) (a : Obj) {B : Nat} (h : w.heap.size = B) : (w.alloc a).drew.heap[B]? = some a := by
  subst h
  exact heap_alloc_new w a
/-- The cells of a code that was just made. -/
def code0 (A1 : Option Addr) (n c1 : Nat) (A2 : Option Addr) (c2 : Nat) : Array Value :=
  #[.slice A1 n c1, .slice A2 n c2, .int .u32 0, .int .u32 0, .int .u32 0, .int .u32 0, .int .u32 0, .int .u32 0, .int .u32 0, .int .u32 0, .int .u32 0, .int .u32 0, .int .u32 0, .int .u32 0, .int .u32 0, .int .u32 0, .int .u32 0, .int .u32 0,
    .slice none 0 0, .slice none 0 0, .slice none 0 0, .slice none 0 0, .slice none 0 0, .slice none 0 0, .slice none 0 0, .slice none 0 0, .slice none 0 0, .slice none 0 0, .slice none 0 0, .slice none 0 0, .slice none 0 0, .slice none 0 0, .slice none 0 0, .slice none 0 0]
theorem Cd.start {w : World} {B n c1 c2 : Nat} {A1 A2 : Option Addr} {ls : List Nat} (h1 : Ow w B 33 A1 n c1 ((List.range n).map fun _ => uv 0)) (h2 : Ow w B 3 A2 n c2 ((nz ls).map iv)) (hB : B ≤ w.heap.size) :
    Cd (w.alloc (.cells (code0 A1 n c1 A2 c2) 147)) B w.heap.size n A1 c1 A2 c2 ls (fun _ => 0) (fun _ => none) (fun _ => 0) (fun _ => []) (fun _ => 0) := by
  refine ⟨⟨_, Blk.new w 147 _, rfl, rfl, rfl, ?_, ?_⟩, hB, h1.alloc _, h2.alloc _, fun s _ => Ow.nil _ _ _, ?_, ?_⟩
  · intro s hs
    match s, hs with
    | 0, _ | 1, _ | 2, _ | 3, _ | 4, _ | 5, _ | 6, _ | 7, _ | 8, _ | 9, _ | 10, _ | 11, _ | 12, _ | 13, _ | 14, _ | 15, _ => rfl
    | s + 16, hs => omega
  · intro s hs
    match s, hs with
    | 0, _ | 1, _ | 2, _ | 3, _ | 4, _ | 5, _ | 6, _ | 7, _ | 8, _ | 9, _ | 10, _ | 11, _ | 12, _ | 13, _ | 14, _ | 15, _ => rfl
    | s + 16, hs => omega
  · intro s t k _ _ h; simp [blk] at h
  · intro s k _ h; simp [blk] at h

theorem iv_one (zs : List Int) : ∀ u ∈ zs.map iv, u.oneCell' = true := by
  intro u hu
  obtain ⟨b, _, rfl⟩ := List.mem_map.1 hu
  rfl

set_option maxRecDepth 100000 in
set_option maxHeartbeats 2000000 in
theorem new_ok (A : Option Addr) (n c : Nat) (ls : List Nat) (short : Bool) (w : World) (B0 : Nat) (hr : Rd w B0 A n ((nz ls).map iv)) (hB0 : B0 ≤ w.heap.size) (hn : n ≤ 288) (h15 : ∀ x ∈ ls, x ≤ 15) (hf : Huf.fits ls short) :
    Calls Try.prog 73 #[.slice A n c, .bool short] w fun e w' => ∃ g, e = .returned (.tuple #[.pointer (some ⟨g, 0, none⟩), .int .i64 0]) ∧ CodeAt w.heap.size w' g ls ∧ Below w.heap.size w w' := by
  have hl : ls.length = n := by have := hr.len; rwa [nz, List.length_map] at this
  have hk := kraft_any A n c _ w B0 hr
  rw [Huf.K_nat ls (by omega) h15, show Huf.ok (nz ls) = true from Huf.ok_map ls (by omega) h15] at hk
  have hk := hide hk
  have hsl : Huf.sum ls ≤ 32768 := by rcases hf with h | ⟨h, _⟩ <;> omega
  have hlo := hide (fun (h : Huf.sum ls ≠ 32768) => lone_any A n c ls w B0 hr hn h15 true ⟨fun _ => rfl, fun _ => by rcases hf with h2 | ⟨_, _, h2⟩; exact absurd h2 h; exact h2⟩)
  have hsh : Hid (Huf.sum ls ≠ 32768 → short = true) := hide (fun h => by rcases hf with h2 | ⟨_, h2, _⟩; exact absurd h2 h; exact h2)
  have hr := hide (hr.mono hB0)
  have hw := hide (Huf.V_small ls hsl)
  have h15 := hide h15
  clear hf
  have hB : ∃ B, w.heap.size = B := ⟨_, rfl⟩
  obtain ⟨B, hB⟩ := hB
  rw [hB] at hr ⊢
  have hSI : (Huf.sum ls : Int) ≤ 32768 := by omega
  clear hsl
  obtain ⟨S, hS⟩ : ∃ S, Huf.sum ls = S := ⟨_, rfl⟩
  rw [hS] at hk hlo hsh hSI
  clear hS
  have hmk : ∀ W : World, (Instr.makeSlice 144 (.int .i64 (n : Int)) (.int .i64 (n : Int))).run Try.prog W = .ok (.slice (some ⟨W.heap.size, 0, none⟩) n n) (W.alloc (.cells (madeCells #[.int .u32 0] n) 33)) := fun W => run_make_row' 144 33 (.int .u32 0) 4 Try.underlying144 (by kernel_rfl) rfl .i64 .i64 n (by omega) (by omega) W
  go_enter Try.func73, Try.ntmps73
  go_upto_block 0 with (go_at_call 103; (with_reducible refine hk.out.mono ?_); rintro e w' ⟨rfl, rfl⟩)
  go_cut [] from 15 (fun wx => w = wx)
  case first =>
    by_cases h1 : S = 32768
    · subst h1
      go_wp2
      go_meet
      exact rfl
    · have hSI2 : (S : Int) < 32768 := by omega
      have hsh := hsh.out h1
      have hlo := hide (hlo.out h1)
      subst hsh
      have hSb : ((32768 : Int) < (S : Int)) = False := by simp; omega
      clear h1 hmk hw h15 hr hn
      go_wp2_with (go_at_call 104; (with_reducible refine hlo.out.mono ?_); rintro e w' ⟨rfl, rfl⟩)
      go_meet
      exact rfl
  case rest =>
    obtain rfl := hcut
    go_upto_region 6 with fail
    go_cut [8] from 15 (fun s8 wx => ∃ g Ab cb Al cl, s8 = .pointer (some ⟨g, 0, none⟩) ∧ Hid (Cd wx B g n Ab cb Al cl ls (fun _ => 0) (fun _ => none) (fun _ => 0) (fun _ => []) (fun _ => 0)) ∧ Hid (Below B w wx))
    case first =>
      have hz1 := heap_two w (Obj.cells (madeCells #[Value.int .u32 0] n) 33) (Obj.cells #[] 3) hB
      have hz2 := heap_two w (Obj.cells #[] 3) (Obj.cells (madeCells #[Value.int .u32 0] n) 33) hB
      have hz3 := heap_one w (Obj.cells #[] 3) hB
      have hE1 := hide (ow_empty (B := B) (Nat.le_add_right B 1) hz1.2)
      have hM1 := hide (ow_made (B := B) (Nat.le_refl _) (by simp only [maxLen]; omega) hz1.1)
      have hE2 := hide (ow_empty (B := B) (Nat.le_refl _) hz2.1)
      have hM2 := hide (ow_made (B := B) (Nat.le_add_right B 1) (by simp only [maxLen]; omega) hz2.2)
      have hE3 := hide (ow_empty (B := B) (Nat.le_refl _) hz3)
      have hr1 : Hid (Rd ((w.alloc (Obj.cells (madeCells #[Value.int .u32 0] n) 33)).alloc (Obj.cells #[] 3)).drew B A n ((nz ls).map iv)) := (hr.out.alloc (by omega) (Obj.cells (madeCells #[Value.int .u32 0] n) 33)).alloc (by simp; omega) (Obj.cells #[] 3)
      have hr2 : Hid (Rd ((w.alloc (Obj.cells #[] 3)).alloc (Obj.cells (madeCells #[Value.int .u32 0] n) 33)).drew B A n ((nz ls).map iv)) := (hr.out.alloc (by omega) (Obj.cells #[] 3)).alloc (by simp; omega) (Obj.cells (madeCells #[Value.int .u32 0] n) 33)
      have hr3 : Hid (Rd (w.alloc (Obj.cells #[] 3)).drew B A n ((nz ls).map iv)) := hr.out.alloc (by omega) (Obj.cells #[] 3)
      have hb1 : Hid (Below B w ((w.alloc (Obj.cells (madeCells #[Value.int .u32 0] n) 33)).alloc (Obj.cells #[] 3)).drew) := (((Below.refl B w).alloc (by omega) (Obj.cells (madeCells #[Value.int .u32 0] n) 33)).alloc (by simp; omega) (Obj.cells #[] 3)).trans (below_drewN (Below.refl _ _) 1)
      have hb2 : Hid (Below B w ((w.alloc (Obj.cells #[] 3)).alloc (Obj.cells (madeCells #[Value.int .u32 0] n) 33)).drew) := (((Below.refl B w).alloc (by omega) (Obj.cells #[] 3)).alloc (by simp; omega) (Obj.cells (madeCells #[Value.int .u32 0] n) 33)).trans (below_drewN (Below.refl _ _) 1)
      have hb3 : Hid (Below B w (w.alloc (Obj.cells #[] 3)).drew) := ((Below.refl B w).alloc (by omega) (Obj.cells #[] 3)).trans (below_drewN (Below.refl _ _) 1)
      clear hz1 hz2 hz3
      have hq1 := hide (show 0 + n ≤ maxLen by simp only [maxLen]; omega)
      have hq2 := hide (show (0 + n) * 8 ≤ 140737488355328 by omega)
      have hs1 := hide (show B ≤ ((w.alloc (Obj.cells (madeCells #[Value.int .u32 0] n) 33)).alloc (Obj.cells #[] 3)).drew.heap.size by have := hb1.out.size; omega)
      have hs2 := hide (show B ≤ ((w.alloc (Obj.cells #[] 3)).alloc (Obj.cells (madeCells #[Value.int .u32 0] n) 33)).drew.heap.size by have := hb2.out.size; omega)
      have hs3 := hide (show B ≤ (w.alloc (Obj.cells #[] 3)).drew.heap.size by have := hb3.out.size; omega)
      go_region_law (first
        | (refine step_append_rd ((w.alloc (Obj.cells (madeCells #[Value.int .u32 0] n) 33)).alloc (Obj.cells #[] 3)).drew (by rfl) (.tmp 41) (.tmp 42) (by rfl) elem_int (by rfl) hE1.out (by rfl) hr1.out (iv_one _) hq1.out hq2.out hs1.out ?_; intro A' c' w' ho hc hn; have hm := hide (hM1.out.chg hc (by intro k hk hk2; simp [blk] at hk hk2; omega)); have ho := hide (show Ow w' B 3 A' n c' ((nz ls).map iv) by simpa using ho); have hw' := hide (show B ≤ w'.heap.size by have := hc.size; have := hs1.out; have := hs2.out; have := hs3.out; omega); have hb := hide (hb1.out.trans (hc.to_below (B := B) hs1.out (fun k hk => (hE1.out.blk_lt k hk).1))); clear hc hn hE1 hM1 hE2 hM2 hE3 hr1 hr2 hr3 hb1 hb2 hb3)
        | (refine step_append_rd ((w.alloc (Obj.cells #[] 3)).alloc (Obj.cells (madeCells #[Value.int .u32 0] n) 33)).drew (by rfl) (.tmp 41) (.tmp 42) (by rfl) elem_int (by rfl) hE2.out (by rfl) hr2.out (iv_one _) hq1.out hq2.out hs2.out ?_; intro A' c' w' ho hc hn; have hm := hide (hM2.out.chg hc (by intro k hk hk2; simp [blk] at hk hk2; omega)); have ho := hide (show Ow w' B 3 A' n c' ((nz ls).map iv) by simpa using ho); have hw' := hide (show B ≤ w'.heap.size by have := hc.size; have := hs1.out; have := hs2.out; have := hs3.out; omega); have hb := hide (hb2.out.trans (hc.to_below (B := B) hs2.out (fun k hk => (hE2.out.blk_lt k hk).1))); clear hc hn hE1 hM1 hE2 hM2 hE3 hr1 hr2 hr3 hb1 hb2 hb3)
        | (refine step_append_rd (w.alloc (Obj.cells #[] 3)).drew (by rfl) (.tmp 41) (.tmp 42) (by rfl) elem_int (by rfl) hE3.out (by rfl) hr3.out (iv_one _) hq1.out hq2.out hs3.out ?_; intro A' c' w' ho hc hn; have ho := hide (show Ow w' B 3 A' n c' ((nz ls).map iv) by simpa using ho); have hw' := hide (show B ≤ w'.heap.size by have := hc.size; have := hs1.out; have := hs2.out; have := hs3.out; omega); have hb := hide (hb3.out.trans (hc.to_below (B := B) hs3.out (fun k hk => (hE3.out.blk_lt k hk).1))); clear hc hn hE1 hM1 hE2 hM2 hE3 hr1 hr2 hr3 hb1 hb2 hb3))
      · go_wp2_with fail
        go_meet
        exact ⟨w'.heap.size, _, n, A', c', rfl, hide (Cd.start hm.out ho.out hw'.out), hide (hb.out.trans ((Below.refl B w').alloc hw'.out _))⟩
      · go_wp2_with fail
        go_meet
        exact ⟨w'.heap.size, _, n, A', c', rfl, hide (Cd.start hm.out ho.out hw'.out), hide (hb.out.trans ((Below.refl B w').alloc hw'.out _))⟩
      · have hm := hide (ow_made (W := w'.alloc (Obj.cells (madeCells #[Value.int .u32 0] n) 33)) (B := B) (n := n) hw'.out (by simp only [maxLen]; omega) (heap_alloc_new _ _))
        have ho2 := hide (ho.out.alloc (Obj.cells (madeCells #[Value.int .u32 0] n) 33))
        go_wp2_with fail
        go_meet
        have hsz : (w'.alloc (Obj.cells (madeCells #[Value.int .u32 0] n) 33)).heap.size = w'.heap.size + 1 := by simp
        have hcd := Cd.start hm.out ho2.out (by rw [hsz]; have := hw'.out; omega)
        rw [hsz] at hcd
        exact ⟨w'.heap.size + 1, _, n, A', c', rfl, hide hcd, hide ((hb.out.trans ((Below.refl B w').alloc hw'.out _)).trans ((Below.refl B _).alloc (by rw [hsz]; have := hw'.out; omega) _))⟩
    case rest =>
      obtain ⟨g, Ab, cb, Al, cl, rfl, hcd, hb⟩ := hcut
      clear hk hlo hsh hmk
      go_wp2
      go_loopw [48] (fun i wr => ∃ k : Nat, ∃ Ao co, k ≤ n ∧ i = .int .i64 k ∧ Hid (Cd wr B g n Ab cb Al cl ls (fun _ => 0) Ao co (Huf.lists ls k) (fun _ => 0)) ∧ Hid (Below B w wr)) (fun i _ => n - (intOf i).toNat)
      case atStart => exact ⟨0, fun _ => none, fun _ => 0, by omega, rfl, by rw [Huf.lists_zero]; exact hcd, hb⟩
      case round =>
        obtain ⟨k, Ao, co, hk, rfl, hcd, hb⟩ := hrel
        by_cases hlt : k < n
        · have hkl : k < ls.length := by omega
          obtain ⟨b, o, rfl, hbB, e0⟩ := (hr.out.below hb.out).int (j := k) hlt
          simp only [nz, List.getElem_map] at e0
          have hkI : (k : Int) < n := by omega
          have hx15 := h15.out ls[k] (List.getElem_mem hkl)
          have hls : Hid (ls[k]? = some ls[k]) := List.getElem?_eq_getElem hkl
          generalize ls[k] = s at *
          by_cases hs0 : s = 0
          · subst hs0
            have hno := hide (Huf.lists_no ls k hls.out)
            go_wp2
            go_roundw
            case rel => exact ⟨k + 1, Ao, co, by omega, by go_num, by rw [hno.out]; exact hcd, hb⟩
            case measure => simp [intOf] <;> omega
          · have hs16 : s < 16 := by omega
            have hsI : (0 : Int) < s := by omega
            have hsI2 : (s : Int) < 16 := by omega
            have hyes := hide (Huf.lists_yes ls k s hls.out (by omega))
            have hlen := Huf.lists_len ls k s
            have d1 := hcd.out.cello s hs16
            have hglt := hcd.out.lt
            have hBw := hide hcd.out.hB
            have hoo := hide (hcd.out.oo s hs16)
            have hfr := hide (fun w3 (hc : Chg (fun k => blk (Ao s) = some k) wr w3) => (⟨hcd.out.free_chg hs16 hc (18 + s), hcd.out.cell_chg hs16 hc d1⟩ : _ ∧ _))
            obtain ⟨L, hL⟩ : ∃ L, (Huf.lists ls k s).length = L := ⟨_, rfl⟩
            rw [hL] at d1 hoo hlen hfr
            have hpush := hide (fun w3 A3 c3 (ho3 : Ow w3 B 3 A3 (L + 1) c3 ((Huf.lists ls k s).map jv ++ [jv k])) (hc3 : Chg (fun k => blk (Ao s) = some k) wr w3) (hn3 : blk A3 = blk (Ao s) ∨ ∃ k, wr.heap.size ≤ k ∧ blk A3 = some k) => hcd.out.push s hs16 k (by rw [hL]) ho3 hc3 hn3)
            rw [hyes.out] at hpush
            clear hL hyes
            have hq1 := hide (show L + 1 ≤ maxLen by simp only [maxLen]; omega)
            have hq2 := hide (show (L + 1) * 8 ≤ 140737488355328 by omega)
            go_upto_region 11 with fail
            go_region_law (refine step_append_one wr (by rfl) (.tmp 62) (.tmp 64) (by rfl) elem_int (by rfl) hoo.out (jv k) 3 _ (by rfl) rfl hq1.out hq2.out hBw.out ?_; intro A3 c3 w3 ho3 hc3 hn3; have f3 := (hfr.out w3 hc3).1; have d3 := (hfr.out w3 hc3).2; have hp := hide (hpush.out w3 A3 c3 ho3 hc3 hn3); clear ho3 hc3 hn3)
            all_goals
              go_wp2
              go_roundw
              case rel => exact ⟨k + 1, upd Ao s A3, upd co s c3, by omega, by go_num, hide hp.out.1, hide (hb.out.trans hp.out.2)⟩
              case measure => simp [intOf] <;> omega
        · obtain rfl : k = n := by omega
          go_wp2
          go_loopw [11, 12] (fun v i wr => ∃ t V : Nat, 1 ≤ t ∧ t ≤ 16 ∧ i = .int .i64 t ∧ v = .int .u32 (V : Int) ∧ Hid (V = Huf.V ls (t - 1)) ∧ Hid (Cd wr B g k Ab cb Al cl ls (Huf.fstTo ls t) Ao co (Huf.lists ls k) (Huf.bits ls t)) ∧ Hid (Below B w wr)) (fun _ i _ => 16 - (intOf i).toNat)
          case atStart => exact ⟨1, 0, by omega, by omega, rfl, rfl, hide rfl, by rw [Huf.fst_one, Huf.bits_one]; exact hcd, hb⟩
          case round =>
            obtain ⟨t, V, ht1, ht16, rfl, rfl, hV, hcd, hb⟩ := hrel
            by_cases htl : t < 16
            · have htI : (t : Int) ≤ 15 := by omega
              have htI0 : (0 : Int) ≤ t := by omega
              have hV0 := hw.out (t - 1) (by omega)
              have hVt := hw.out t (by omega)
              have hfc := Huf.first_cnt ls t ht1
              have hff : Huf.first ls t = V * 2 := by
                obtain ⟨t', rfl⟩ : ∃ t', t = t' + 1 := ⟨t - 1, by omega⟩
                rw [hV.out, Nat.mul_comm]; rfl
              rw [← hV.out] at hV0
              rw [hff] at hfc
              have hVI : (V : Int) ≤ 32768 := by omega
              have hVtI : (Huf.V ls t : Int) ≤ 32768 := by omega
              have hff := hide hff
              clear hV0 hVt
              have hl2 : Hid (Huf.lists ls k t = Huf.idx ls k t) := hide (Huf.lists_pos ls k t ht1)
              have hcnt : Hid ((Huf.lists ls k t).length = Huf.cnt ls t) := hide (by rw [hl2.out, Huf.cnt, hl])
              have hfst := hcd.out.first t htl (V * 2)
              rw [← hff.out, Huf.fst_upd, hff.out] at hfst
              have hfst := hide hfst
              have d2 := hcd.out.cellf t htl
              have f2 := hcd.out.free (2 + t)
              have hBw := hide hcd.out.hB
              have hgl := hcd.out.lt
              have e18 := hfst.out.1.cello t htl
              rw [hcnt.out] at e18
              have hvI : ((V * 2 : Nat) : Int) = (V : Int) * 2 := by push_cast; rfl
              rw [hvI] at e18 hfst
              generalize Huf.V ls t = Vt at *
              generalize Huf.cnt ls t = N at *
              have hbs := hide (hb.out.trans hfst.out.2)
              have hcs := hide hfst.out.1
              clear hfst
              go_wp2
              go_loopw [11, 89] (fun v i wx => ∃ j : Nat, j ≤ N ∧ i = .int .i64 j ∧ v = .int .u32 ((V * 2 + j : Nat) : Int) ∧ Hid (Cd wx B g k Ab cb Al cl ls (Huf.fstTo ls (t + 1)) Ao co (Huf.lists ls k) (Huf.bitsIn ls t j)) ∧ Hid (Below B w wx)) (fun _ i _ => N - (intOf i).toNat)
              case atStart => exact ⟨0, by omega, rfl, by rw [Nat.add_zero, hvI], by rw [Huf.bitsIn_zero]; exact hcs, hbs⟩
              case round =>
                obtain ⟨j, hj, rfl, rfl, hcx, hbx⟩ := hrel
                by_cases hjN : j < N
                · have hjI : (j : Int) < N := by omega
                  have hjl : j < (Huf.idx ls k t).length := by rw [← hl2.out, hcnt.out]; exact hjN
                  have hoo := hcx.out.oo t htl
                  rw [hl2.out] at hoo
                  have hlN : (Huf.idx ls k t).length = N := by rw [← hl2.out, hcnt.out]
                  rw [hlN] at hoo
                  obtain ⟨ga, hA, _, _⟩ := hoo.pos (by omega)
                  rw [hA] at hoo ⊢
                  have hat := Huf.idx_at ls t k j hjl
                  have hstep := Huf.bitsIn_step ls t j ht1 (by rw [hl]; exact hjl)
                  have hc0 := hoo.cells (g := ga) rfl j (jv (Huf.idx ls k t)[j]) (by rw [List.getElem?_map, List.getElem?_eq_getElem hjl]; rfl)
                  rw [Addr.add_mid, Nat.zero_add] at hc0
                  simp only [hl] at hstep
                  generalize (Huf.idx ls k t)[j] = i0 at *
                  have hi0 : i0 < k := hat.2.2
                  have hi0I : (i0 : Int) < k := by omega
                  obtain ⟨gb, rfl, _, _⟩ := hcx.out.ob.pos (by omega)
                  have d0 := hcx.out.cellb
                  have hcb := hcx.out.ob.cells (g := gb) rfl i0 (uv (Huf.bitsIn ls t j i0)) (by simp [hi0])
                  rw [Addr.add_mid, Nat.zero_add] at hcb
                  have fb := hcx.out.ob.free i0
                  have hbit := hide (hcx.out.bit i0 (V * 2 + j))
                  rw [hff.out] at hstep
                  rw [hstep] at hbit
                  have hhI : ((V * 2 + j : Nat) : Int) = (V : Int) * 2 + j := by push_cast; rfl
                  have hjb : (V : Int) * 2 + j ≤ 65536 := by omega
                  rw [hhI] at hbit ⊢
                  clear hstep hat hoo hjl hlN
                  unfold jv at hc0
                  unfold uv at hcb
                  generalize Huf.bitsIn ls t j i0 = old at hcb
                  go_wp2
                  go_roundw
                  case rel => exact ⟨j + 1, by omega, by go_num, by rw [show V * 2 + (j + 1) = V * 2 + j + 1 from rfl]; push_cast; first | rfl | go_num, hide hbit.out.1, hide (hbx.out.trans hbit.out.2)⟩
                  case measure => simp [intOf] <;> omega
                · obtain rfl : j = N := by omega
                  have hba := Huf.bitsIn_all ls t ht1
                  have hNc : Huf.cnt ls t = j := by rw [← hcnt.out, hl2.out, Huf.cnt, hl]
                  rw [hNc] at hba
                  rw [hba] at hcx
                  go_wp2
                  go_roundw
                  case rel => exact ⟨t + 1, V * 2 + j, by omega, by omega, by go_num, rfl, hide (by rw [Nat.add_sub_cancel, ← Huf.first_cnt ls t ht1, hff.out, hNc]), hcx, hbx⟩
                  case measure => simp [intOf] <;> omega
            · obtain rfl : t = 16 := by omega
              go_wp2
              go_ret2
              subst hl
              exact ⟨g, rfl, ⟨Ab, cb, Al, cl, Ao, co, hcd.out.congr (fun s hs => if_pos hs)⟩, hb.out⟩

set_option maxRecDepth 100000 in
set_option maxHeartbeats 1000000 in
theorem new_form (A : Option Addr) (n c : Nat) (ls : List Nat) (short : Bool) (w : World) (B0 : Nat) (hr : Rd w B0 A n ((nz ls).map iv)) (hn : n ≤ 288) (h15 : ∀ x ∈ ls, x ≤ 15) (hf : ¬ Huf.fits ls short) :
    Calls Try.prog 73 #[.slice A n c, .bool short] w fun e w' => e = .returned (.tuple #[.pointer none, .int .i64 3]) ∧ w = w' := by
  have hl : ls.length = n := by have := hr.len; rwa [nz, List.length_map] at this
  have hk := kraft_any A n c _ w B0 hr
  rw [Huf.K_nat ls (by omega) h15, show Huf.ok (nz ls) = true from Huf.ok_map ls (by omega) h15] at hk
  have hk := hide hk
  have hsl := Huf.sum_le ls
  have h1 : Huf.sum ls ≠ 32768 := fun h => hf (.inl h)
  have h2 : Huf.sum ls < 32768 → short = true → Hid (Calls Try.prog 104 #[.slice A n c] w fun e w' => e = .returned (.bool false) ∧ w = w') := by
    intro h3 h4
    exact hide (lone_any A n c ls w B0 hr hn h15 false ⟨fun h5 => absurd (.inr ⟨h3, h4, h5⟩) hf, fun h => by cases h⟩)
  clear hf h15 hr
  have hSI : (Huf.sum ls : Int) ≤ 4718592 := by omega
  clear hsl
  generalize Huf.sum ls = S at *
  by_cases h3 : 32768 < S
  · have h3I : (32768 : Int) < S := by omega
    clear h1 h2 h3
    go_enter Try.func73, Try.ntmps73
    go_wp2_with (go_at_call 103; (with_reducible refine hk.out.mono ?_); rintro e w' ⟨rfl, rfl⟩)
    go_ret2
    exact ⟨rfl, rfl⟩
  · have h3I : (S : Int) < 32768 := by omega
    have hSb : ((32768 : Int) < (S : Int)) = False := by simp; omega
    have h2 := h2 (by omega)
    clear h1 h3
    cases short
    · clear h2
      go_enter Try.func73, Try.ntmps73
      go_wp2_with (go_at_call 103; (with_reducible refine hk.out.mono ?_); rintro e w' ⟨rfl, rfl⟩)
      go_ret2
      exact ⟨rfl, rfl⟩
    · have h2f := h2 rfl
      clear h2
      go_enter Try.func73, Try.ntmps73
      go_wp2_with (first
        | (go_at_call 103; (with_reducible refine hk.out.mono ?_); rintro e w' ⟨rfl, rfl⟩)
        | (go_at_call 104; (with_reducible refine h2f.out.mono ?_); rintro e w' ⟨rfl, rfl⟩))
      go_ret2
      exact ⟨rfl, rfl⟩

/-! ### A symbol's bits -/
theorem CodeAt.below {B g : Nat} {w w' : World} {ls : List Nat} (h : CodeAt B w g ls) (hb : Below w.heap.size w w') : CodeAt B w' g ls := by
  obtain ⟨Ab, cb, Al, cl, Ao, co, h⟩ := h
  exact ⟨Ab, cb, Al, cl, Ao, co, h.below hb⟩

set_option maxHeartbeats 400000 in
theorem of_in (g : Nat) (ls : List Nat) (i : Nat) (w : World) (B : Nat) (h : CodeAt B w g ls) (_ : ls.length ≤ 288) (hi : i < ls.length) :
    Calls Try.prog 105 #[.pointer (some ⟨g, 0, none⟩), .int .i64 (i : Int)] w fun e w' => e = .returned (.tuple #[.int .u32 (Huf.bits ls 16 i : Int), .int .i64 (ls[i] : Int)]) ∧ ∃ k, w' = w.drewN k := by
  obtain ⟨Ab, cb, Al, cl, Ao, co, hc⟩ := h
  obtain ⟨gb, rfl, _, _⟩ := hc.ob.pos (by omega)
  obtain ⟨gl, rfl, _, _⟩ := hc.ol.pos (by omega)
  have d0 := hc.cellb
  have d1 := hc.celll
  have e0 := hc.ob.cells (g := gb) rfl i (uv (Huf.bits ls 16 i)) (by simp [hi])
  have e1 := hc.ol.cells (g := gl) rfl i (iv (ls[i] : Int)) (by simp [nz, hi])
  rw [Addr.add_mid, Nat.zero_add] at e0 e1
  unfold uv at e0
  unfold iv at e1
  have hiI : (i : Int) < ls.length := by omega
  generalize ls[i] = x at *
  generalize Huf.bits ls 16 i = y at *
  have hc := hide hc
  go_enter Try.func105, Try.ntmps105
  go_wp2
  go_quiet (fail)
  go_wp2
  go_ret2
  exact ⟨rfl, _, rfl⟩

end Go.Proofs.Ythplpoijkebjbaa
