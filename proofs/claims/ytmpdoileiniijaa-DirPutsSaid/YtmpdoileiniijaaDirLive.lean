/- Layer 12's laws: the example, and DirFinds: a walk. There is no condition. -/
import Derived.Test.YtmpdoileiniijaaDirPut
import Derived.Test.YtmpdoileiniijaaDirFind
import Derived.Laws.IdiomStrings
import Derived.Laws.BytesArg
namespace Go.Proofs.Ytmpdoileiniijaa
open Go.RowKit

theorem dcode_any (n : Int) (w : World) : Calls Try.prog 21 #[.int .i64 n] w fun e w' => e = .returned (.int .i64 n) ∧ w = w' := by
  go_enter Try.func21, Try.ntmps21
  go_wp2
  go_ret
  exact ⟨rfl, rfl⟩

theorem str_of_rd {w : World} {B n : Nat} {A : Option Addr} {bs : List UInt8} (hr : Rd w B A n (bs.map bv)) (c : Nat) :
    (convert 22 9 (.slice A n c)).run Try.prog w = .ok (.string ⟨bs.toArray⟩) w := by
  have hl := hr.len
  subst hl
  cases A with
  | none =>
    have h0 : bs = [] := by
      cases bs with
      | nil => rfl
      | cons b t => obtain ⟨_, _, h, _⟩ := hr.2 0 (by simp); cases h
    subst h0
    exact run_convert_bytes_nil w _ _ Try.underlying22 Try.underlying5 _ _ _ Try.underlying9
  | some a =>
    refine run_convert_bytes_back w _ _ _ a c bs Try.underlying22 Try.underlying5 Try.underlying9 ?_
    intro j hj
    obtain ⟨b, o, ha, _, hc⟩ := hr.at hj
    cases ha
    rw [Addr.add_mid, hc]
    simp [bv]

def es2 : List Ent := [⟨5, 0, 10, 1⟩, ⟨7, 10, 3, 2⟩]
theorem es2_right : RightE es2 := by
  refine ⟨by decide, by decide, ?_, ?_⟩
  · intro j hj
    match j, hj with
    | 0, _ => show Ent.ok ⟨5, 0, 10, 1⟩; simp [Ent.ok]
    | 1, _ => show Ent.ok ⟨7, 10, 3, 2⟩; simp [Ent.ok]
    | j + 2, hj => simp [es2] at hj; omega
  · intro j hj
    match j, hj with
    | 0, _ => show 5 + max 1 1 ≤ 7; decide
    | j + 1, hj => simp [es2] at hj; omega
theorem es2_put : putB es2 = [2, 5, 2, 1, 2, 10, 3, 1, 0] := by decide +kernel
def cells2 : Array Value := #[.int .u64 5, .int .u64 0, .int .u64 10, .int .u64 1, .int .u64 7, .int .u64 10, .int .u64 3, .int .u64 2]
theorem es2_rd (w : World) : RdE (w.alloc (.cells cells2 43)) (w.heap.size + 1) (some ⟨w.heap.size, 0, none⟩) es2 := by
  have hk := Blk.new w 43 cells2
  intro j hj
  refine ⟨w.heap.size, 0, rfl, by omega, ?_⟩
  match j, hj with
  | 0, _ => exact ⟨hk.cell 0, hk.cell 1, hk.cell 2, hk.cell 3⟩
  | 1, _ => exact ⟨hk.cell 4, hk.cell 5, hk.cell 6, hk.cell 7⟩
  | j + 2, hj => simp [es2] at hj; omega

set_option maxRecDepth 100000 in
set_option maxHeartbeats 400000 in
theorem dirlive_any (w : World) : Calls Try.prog 15 #[] w fun e w' => e = .returned (.bool true) ∧ Below w.heap.size w w' := by
  have hput := put_ok (some ⟨w.heap.size, 0, none⟩) 2 es2 (w.alloc (.cells cells2 43)) _ (es2_rd w) (by simp) (by intro x hx; simp [es2] at hx; rcases hx with rfl | rfl <;> simp [Ent.big]) (by decide) es2_right
  have hsz : (w.alloc (.cells cells2 43)).heap.size = w.heap.size + 1 := by simp
  rw [hsz, es2_put] at hput
  have hlen : ([2, 5, 2, 1, 2, 10, 3, 1, 0] : List UInt8).length = 9 := rfl
  rw [hlen, show es2.length = 2 from rfl] at hput
  have hba := hide ((Below.refl w.heap.size w).alloc (Nat.le_refl _) (.cells cells2 43))
  unfold cells2 at hput hba
  replace hput := hide hput
  clear hsz hlen
  go_enter Try.func15, Try.ntmps15
  go_wp2_with (first
    | (go_at_call 22; (with_reducible refine hput.out.mono ?_); rintro e w1 ⟨A1, c1, rfl, ho1, hb1⟩; have ks := str_of_rd ho1.rd c1; have hb1 := hide (hba.out.trans (hb1.mono (Nat.le_succ _))))
    | (go_at_call 21; (with_reducible refine (dcode_any _ _).mono ?_); rintro e w' ⟨rfl, rfl⟩))
  go_ret
  exact ⟨rfl, hb1.out⟩

theorem cut_ex (es : List Ent) (id : Nat) (h : Asc es) : ∃ i, CutAt es id i := by
  have key : ∀ m, m ≤ es.length → ∃ i, i ≤ m ∧ (∀ j (hj : j < es.length), j < i → es[j].id ≤ id) ∧ ∀ j (hj : j < es.length), i ≤ j → j < m → id < es[j].id := by
    intro m
    induction m with
    | zero => intro _; exact ⟨0, Nat.le_refl _, fun _ _ h => absurd h (Nat.not_lt_zero _), fun _ _ _ h => absurd h (Nat.not_lt_zero _)⟩
    | succ m ih =>
      intro hm
      obtain ⟨i, h1, h2, h3⟩ := ih (by omega)
      by_cases hle : es[m].id ≤ id
      · refine ⟨m + 1, Nat.le_refl _, fun j hj hjm => Nat.le_trans (h j m hj (by omega) (by omega)) hle, fun j _ h4 h5 => by omega⟩
      · refine ⟨i, by omega, h2, fun j hj h4 h5 => ?_⟩
        by_cases e : j = m
        · subst e; omega
        · exact h3 j hj h4 (by omega)
  obtain ⟨i, h1, h2, h3⟩ := key es.length (Nat.le_refl _)
  exact ⟨i, h1, h2, fun j hj h4 => h3 j hj h4 hj⟩

set_option maxRecDepth 100000 in
set_option maxHeartbeats 1000000 in
theorem dirfinds_walk (A : Option Addr) (n c : Nat) (es : List Ent) (id : Nat) (w : World) (hl : es.length = n) (hr : RdE w w.heap.size A es) (hbg : ∀ x ∈ es, x.big) (hn : n ≤ maxLen) (hid : id ≤ 18446744073709551615) :
    Calls Try.prog 4 #[.slice A n c, .int .u64 (id : Int)] w fun e w' => e = .returned (.bool true) ∧ Below w.heap.size w w' := by
  subst hl
  have hlive := hide (fun W => dirlive_any W)
  by_cases hbig : 100 < es.length
  · obtain ⟨n, hl⟩ : ∃ n, es.length = n := ⟨_, rfl⟩
    rw [hl] at hn hbig ⊢
    have hnI : (n : Int) ≤ 9223372036854775807 := by simp only [maxLen] at hn; omega
    clear hn hr hl hbg hid
    go_enter Try.func4, Try.ntmps4
    go_wp2_with (go_at_call 15; (with_reducible refine (hlive.out _).mono ?_); rintro e w5 ⟨rfl, hb5⟩)
    go_ret
    exact ⟨rfl, hb5⟩
  · obtain ⟨r, h1, h2⟩ : ∃ r : Ent × Bool, (¬ RightE es → r = (Ent.zero, false)) ∧ (RightE es → ∃ i, CutAt es id i ∧ r = Fd es id i) := by
      by_cases hR : RightE es
      · obtain ⟨i, hi⟩ := cut_ex es id hR.asc
        exact ⟨Fd es id i, fun h => absurd hR h, fun _ => ⟨i, hi, rfl⟩⟩
      · exact ⟨_, fun _ => rfl, fun h => absurd h hR⟩
    have hf := hide (dfind_any A c es id w _ hr (Nat.le_refl _) hbg hn hid r h1 h2)
    have hrf := hide (fun W (h : Below w.heap.size w W) => refdfind_any A c es id W _ (hr.below h) h.size hbg (by omega) hid r h1 h2)
    obtain ⟨⟨a, b, c2, d⟩, t⟩ := r
    unfold Ent.cells at hf hrf
    simp only at hf hrf
    obtain ⟨n, hl⟩ : ∃ n, es.length = n := ⟨_, rfl⟩
    rw [hl] at hf hrf hbig ⊢
    have hnI : (n : Int) ≤ 100 := by omega
    clear hn hr hl hbg hid h1 h2 hbig
    go_enter Try.func4, Try.ntmps4
    go_wp2_with (first
      | (go_at_call 16; (with_reducible refine hf.out.mono ?_); rintro e w1 ⟨rfl, hb1⟩; have hb1 := hide (hb1.trans ((Below.refl w.heap.size w1).alloc hb1.size (Obj.cells #[Value.int .u64 (a : Int), .int .u64 (b : Int), .int .u64 (c2 : Int), .int .u64 (d : Int)] 43))); have hk1 := Blk.new w1 43 #[Value.int .u64 (a : Int), .int .u64 (b : Int), .int .u64 (c2 : Int), .int .u64 (d : Int)])
      | (go_at_call 17; (with_reducible refine (hrf.out _ hb1.out).mono ?_); rintro e w2 ⟨rfl, hb2⟩; have hk2 := hk1.below hb2 hk1.lt; have d0 := hk2.cell 0; have d1 := hk2.cell 1; have d2 := hk2.cell 2; have d3 := hk2.cell 3; have hlt2 := hk2.lt; simp only [List.getElem?_toArray, List.getElem?_cons_zero, List.getElem?_cons_succ] at d0 d1 d2 d3; have hb2 := hide (hb1.out.trans (hb2.mono hb1.out.size)); have hb3 := hide (hb2.out.trans ((Below.refl w.heap.size w2).alloc hb2.out.size (Obj.cells #[Value.int .u64 (a : Int), .int .u64 (b : Int), .int .u64 (c2 : Int), .int .u64 (d : Int)] 43))); clear hk1 hk2)
      | (go_at_call 15; (with_reducible refine (hlive.out _).mono ?_); rintro e w5 ⟨rfl, hb5⟩))
    go_ret
    exact ⟨rfl, hb3.out.trans (hb5.mono (by have := hb3.out.size; omega))⟩

end Go.Proofs.Ytmpdoileiniijaa
