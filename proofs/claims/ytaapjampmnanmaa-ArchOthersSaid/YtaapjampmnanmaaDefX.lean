/- Layer 5 (deflate): the plain law of the longest match, and of the symbols. There is no condition. Layer 4 (inflate): what each symbol of lengths, and of distances, means, by the program and by the document. There is no condition. Layer 5 (deflate): the symbols of lengths, and of distances, by the program and by the document. There is no condition. Layer 5 (deflate): the longest match at a place: the walks of deflate.alike, deflate.Find and of the document's Find. The conditions: where the slice lies. Layer 5 (deflate): the iterator 'matches': what it hands on, whatever the loop's body does, if the body writes only what hangs at one block. The conditions: where the bytes lie. Layer 5 (deflate): what a write to a writer leaves alone, as the iterator's contract asks it; and what abides the loop's book-keeping. There is no condition. Layer 5 (deflate): one block by the fixed codes: deflate. -/
import Derived.Test.YtaapjampmnanmaaBase
import Derived.OwnWalk
import Derived.Test.YtaapjampmnanmaaMem
import Derived.BigQuiet
import Derived.BigRegion
import Derived.Deep.DeepCutAuto
import Derived.Deep.CutBlock
import Derived.RangeFuncNested
import Derived.RangeFuncBound
import Derived.RangeFuncCalls
import Derived.RangeFuncLeaves
import Derived.RangeFuncFrom
import Derived.Shelf.Abstract
import Derived.Shelf.RegionOpen
import Derived.WalkKit
import Derived.OwnWalkIn
import Derived.TacticsInMore
import Derived.LoopNIn
import Derived.LoopIn
import Derived.Test.YtaapjampmnanmaaHuffX
import Derived.RangeFuncOwn
namespace Go.Proofs.Ytaapjampmnanmaa

/-- How many bytes from two places on are the same, the second one d further back. -/
def Def.lcp (bs : List UInt8) (at' d : Nat) : Nat → Nat
  | 0 => 0
  | f + 1 => if at' < bs.length ∧ bs.getD at' 0 = bs.getD (at' - d) 0 then 1 + Def.lcp bs (at' + 1) d f else 0
/-- No more than 258. -/
def Def.alike (bs : List UInt8) (at' d : Nat) : Nat := Def.lcp bs at' d 258
/-- Of the distances 1 to m: the longest match, the nearest of them; or none of three bytes. -/
def Def.Best (a : Nat → Nat) (m l d : Nat) : Prop :=
  (l = 0 ∧ d = 0 ∧ ∀ e, 1 ≤ e → e ≤ m → a e < 3) ∨
  (3 ≤ l ∧ 1 ≤ d ∧ d ≤ m ∧ a d = l ∧ (∀ e, 1 ≤ e → e ≤ m → a e ≤ l) ∧ (∀ e, 1 ≤ e → e < d → a e < l))
theorem Def.Best.zero (a : Nat → Nat) : Def.Best a 0 0 0 := .inl ⟨rfl, rfl, fun e h1 h2 => by omega⟩
/-- One distance more, from the nearest on. -/
theorem Def.Best.up {a : Nat → Nat} {m l d : Nat} (h : Def.Best a m l d) : (3 ≤ a (m + 1) ∧ l < a (m + 1) → Def.Best a (m + 1) (a (m + 1)) (m + 1)) ∧ (¬ (3 ≤ a (m + 1) ∧ l < a (m + 1)) → Def.Best a (m + 1) l d) := by
  constructor
  · rintro ⟨h3, hl⟩
    right
    refine ⟨h3, by omega, Nat.le_refl _, rfl, fun e h1 h2 => ?_, fun e h1 h2 => ?_⟩
    · by_cases he : e = m + 1
      · rw [he]
        exact Nat.le_refl _
      · rcases h with ⟨_, _, g⟩ | ⟨_, _, _, _, g, _⟩
        · have := g e h1 (by omega)
          omega
        · have := g e h1 (by omega)
          omega
    · rcases h with ⟨_, _, g⟩ | ⟨_, _, _, _, g, _⟩
      · have := g e h1 (by omega)
        omega
      · have := g e h1 (by omega)
        omega
  · intro hn
    rcases h with ⟨rfl, rfl, g⟩ | ⟨h1, h2, h3, h4, h5, h6⟩
    · left
      refine ⟨rfl, rfl, fun e h1 h2 => ?_⟩
      by_cases he : e = m + 1
      · rw [he]
        omega
      · exact g e h1 (by omega)
    · right
      refine ⟨h1, h2, by omega, h4, fun e g1 g2 => ?_, h6⟩
      by_cases he : e = m + 1
      · rw [he]
        omega
      · exact h5 e g1 (by omega)
/-- From the furthest on: of the distances above k. -/
def Def.BestD (a : Nat → Nat) (k m l d : Nat) : Prop :=
  (l = 0 ∧ d = 0 ∧ ∀ e, k < e → e ≤ m → a e < 3) ∨
  (3 ≤ l ∧ k < d ∧ d ≤ m ∧ a d = l ∧ (∀ e, k < e → e ≤ m → a e ≤ l) ∧ (∀ e, k < e → e < d → a e < l))
theorem Def.BestD.start (a : Nat → Nat) (m : Nat) : Def.BestD a m m 0 0 := .inl ⟨rfl, rfl, fun e h1 h2 => by omega⟩
/-- Above all that there are: none. -/
theorem Def.BestD.skip {a : Nat → Nat} {k m : Nat} (hk : m ≤ k) : Def.BestD a k m 0 0 := .inl ⟨rfl, rfl, fun e h1 h2 => by omega⟩
theorem Def.Best.ex (a : Nat → Nat) (m : Nat) : ∃ l d, Def.Best a m l d := by
  induction m with
  | zero => exact ⟨0, 0, Def.Best.zero a⟩
  | succ m ih =>
    obtain ⟨l, d, h⟩ := ih
    by_cases hc : 3 ≤ a (m + 1) ∧ l < a (m + 1)
    · exact ⟨_, _, h.up.1 hc⟩
    · exact ⟨_, _, h.up.2 hc⟩

/-- The symbol of a length: base and extra bits, from 257 on; of a distance. -/
def Def.lenB (k : Nat) : Nat := if k = 28 then 258 else if k < 8 then 3 + k else 3 + (4 + k % 4) * 2 ^ ((k - 4) / 4)
def Def.lenX (k : Nat) : Nat := if k = 28 then 0 else if k < 8 then 0 else (k - 4) / 4
def Def.dstB (k : Nat) : Nat := if k < 4 then 1 + k else 1 + (2 + k % 2) * 2 ^ ((k - 2) / 2)
def Def.dstX (k : Nat) : Nat := if k < 4 then 0 else (k - 2) / 2
/-- The greatest one of the first m whose base is n at most. -/
def Def.top (B : Nat → Nat) (n : Nat) : Nat → Nat
  | 0 => 0
  | m + 1 => if B m ≤ n then m else Def.top B n m
/-- The longest match, reckoned from the nearest on. -/
def Def.fnd (a : Nat → Nat) : Nat → Nat × Nat
  | 0 => (0, 0)
  | m + 1 => if 3 ≤ a (m + 1) ∧ (Def.fnd a m).1 < a (m + 1) then (a (m + 1), m + 1) else Def.fnd a m
/-- The match at a place. -/
def Def.mt (bs : List UInt8) (at' : Nat) : Nat × Nat := Def.fnd (Def.alike bs at') (min 256 at')
/-- What stands at a place: a byte, or a match; and how far it goes. -/
def Def.tok (bs : List UInt8) (at' : Nat) : Nat × Nat := if (Def.mt bs at').1 = 0 then (0, (bs.getD at' 0).toNat) else Def.mt bs at'
def Def.stp (t : Nat × Nat) : Nat := if t.1 = 0 then 1 else t.1
/-- All of it, parted, from a place on. -/
def Def.toks (bs : List UInt8) : Nat → Nat → List (Nat × Nat)
  | 0, _ => []
  | f + 1, at' => if at' < bs.length then Def.tok bs at' :: Def.toks bs f (at' + Def.stp (Def.tok bs at')) else []
def Def.parse (bs : List UInt8) : List (Nat × Nat) := Def.toks bs bs.length 0
/-- From a place on, with fuel for the rest. -/
def Def.rest (bs : List UInt8) (at' : Nat) : List (Nat × Nat) := Def.toks bs (bs.length - at') at'
end Go.Proofs.Ytaapjampmnanmaa

namespace Go.Proofs.Ytaapjampmnanmaa
open Go.RowKit

/-- What a symbol of lengths means: base and extra bits. -/
def Def.lenV (sym : Int) : Int × Int := if 257 ≤ sym ∧ sym ≤ 285 then ((Def.lenB (sym - 257).toNat : Int), (Def.lenX (sym - 257).toNat : Int)) else (0, 0)
def Def.dstV (sym : Int) : Int × Int := if 0 ≤ sym ∧ sym ≤ 29 then ((Def.dstB sym.toNat : Int), (Def.dstX sym.toNat : Int)) else (0, 0)

set_option maxRecDepth 100000 in
set_option maxHeartbeats 4000000 in
theorem length_any (sym : Int) (w : World) (h1 : -9223372036854775808 ≤ sym) (h2 : sym ≤ 9223372036854775807) :
    Calls Try.prog 134 #[.int .i64 sym] w fun e w' => e = .returned (.tuple #[.int .i64 (Def.lenV sym).1, .int .i64 (Def.lenV sym).2]) ∧ w = w' := by
  by_cases h : 257 ≤ sym ∧ sym ≤ 285
  · clear h1 h2
    rcases (show sym = 257 ∨ sym = 258 ∨ sym = 259 ∨ sym = 260 ∨ sym = 261 ∨ sym = 262 ∨ sym = 263 ∨ sym = 264 ∨ sym = 265 ∨ sym = 266 ∨ sym = 267 ∨ sym = 268 ∨ sym = 269 ∨ sym = 270 ∨ sym = 271 ∨ sym = 272 ∨ sym = 273 ∨ sym = 274 ∨ sym = 275 ∨ sym = 276 ∨ sym = 277 ∨ sym = 278 ∨ sym = 279 ∨ sym = 280 ∨ sym = 281 ∨ sym = 282 ∨ sym = 283 ∨ sym = 284 ∨ sym = 285 by omega) with rfl | rfl | rfl | rfl | rfl | rfl | rfl | rfl | rfl | rfl | rfl | rfl | rfl | rfl | rfl | rfl | rfl | rfl | rfl | rfl | rfl | rfl | rfl | rfl | rfl | rfl | rfl | rfl | rfl <;>
    · clear h
      go_enter Try.func134, Try.ntmps134
      go_wp2
      go_ret2
      exact ⟨rfl, rfl⟩
  · rw [Def.lenV, if_neg h]
    simp only
    by_cases h3 : sym < 257
    · clear h
      go_enter Try.func134, Try.ntmps134
      go_wp2
      go_ret2
      exact ⟨rfl, rfl⟩
    · have h4 : 257 ≤ sym := by omega
      have h5 : 285 < sym := by omega
      clear h h3
      go_enter Try.func134, Try.ntmps134
      go_wp2
      go_ret2
      exact ⟨rfl, rfl⟩

set_option maxRecDepth 100000 in
set_option maxHeartbeats 4000000 in
theorem distance_any (sym : Int) (w : World) :
    Calls Try.prog 135 #[.int .i64 sym] w fun e w' => e = .returned (.tuple #[.int .i64 (Def.dstV sym).1, .int .i64 (Def.dstV sym).2]) ∧ w = w' := by
  by_cases h : 0 ≤ sym ∧ sym ≤ 29
  · rcases (show sym = 0 ∨ sym = 1 ∨ sym = 2 ∨ sym = 3 ∨ sym = 4 ∨ sym = 5 ∨ sym = 6 ∨ sym = 7 ∨ sym = 8 ∨ sym = 9 ∨ sym = 10 ∨ sym = 11 ∨ sym = 12 ∨ sym = 13 ∨ sym = 14 ∨ sym = 15 ∨ sym = 16 ∨ sym = 17 ∨ sym = 18 ∨ sym = 19 ∨ sym = 20 ∨ sym = 21 ∨ sym = 22 ∨ sym = 23 ∨ sym = 24 ∨ sym = 25 ∨ sym = 26 ∨ sym = 27 ∨ sym = 28 ∨ sym = 29 by omega) with rfl | rfl | rfl | rfl | rfl | rfl | rfl | rfl | rfl | rfl | rfl | rfl | rfl | rfl | rfl | rfl | rfl | rfl | rfl | rfl | rfl | rfl | rfl | rfl | rfl | rfl | rfl | rfl | rfl | rfl <;>
    · clear h
      go_enter Try.func135, Try.ntmps135
      go_wp2
      go_ret2
      exact ⟨rfl, rfl⟩
  · rw [Def.dstV, if_neg h]
    simp only
    by_cases h3 : sym < 0
    · clear h
      go_enter Try.func135, Try.ntmps135
      go_wp2
      go_ret2
      exact ⟨rfl, rfl⟩
    · have h4 : 0 ≤ sym := by omega
      have h5 : 30 ≤ sym := by omega
      clear h h3
      go_enter Try.func135, Try.ntmps135
      go_wp2
      go_ret2
      exact ⟨rfl, rfl⟩

theorem Def.len_small : ∀ j < 29, Def.lenB j ≤ 300 ∧ Def.lenX j ≤ 10 := by decide
theorem Def.dst_small : ∀ j < 30, Def.dstB j ≤ 40000 ∧ Def.dstX j ≤ 20 := by decide

end Go.Proofs.Ytaapjampmnanmaa

namespace Go.Proofs.Ytaapjampmnanmaa
open Go.RowKit

theorem Def.lenV_in (i : Nat) (hi : i < 29) : Def.lenV (257 + (i : Int)) = ((Def.lenB i : Int), (Def.lenX i : Int)) := by
  unfold Def.lenV
  rw [if_pos (by omega), show (257 + (i : Int) - 257).toNat = i by omega]
theorem Def.dstV_in (i : Nat) (hi : i < 30) : Def.dstV (0 + (i : Int)) = ((Def.dstB i : Int), (Def.dstX i : Int)) := by
  unfold Def.dstV
  rw [if_pos (by omega), show (0 + (i : Int)).toNat = i by omega]

end Go.Proofs.Ytaapjampmnanmaa

namespace Go.Proofs.Ytaapjampmnanmaa
open Go.RowKit

theorem Def.BestD.past {a : Nat → Nat} {k m l d : Nat} (h : Def.BestD a (k + 1) m l d) (hk : m ≤ k) : Def.BestD a k m l d := by
  rcases h with ⟨rfl, rfl, _⟩ | ⟨h1, h2, h3, _⟩
  · exact Def.BestD.skip hk
  · omega
end Go.Proofs.Ytaapjampmnanmaa

namespace Go.Proofs.Ytaapjampmnanmaa
open Go.RowKit Go.Shelf

attribute [local go_sem] Oper.semAt_some

/-- What hangs at block g: the block, and the slice that its first cell holds. -/
def Hang (g : Nat) (W : World) (k : Nat) : Prop := k = g ∨ ∃ A n c, W.cell? ⟨g, 0, none⟩ = some (.slice A n c) ∧ blk A = some k
/-- It lies in the heap, from m on, and is not block gb. -/
def Hung (g gb m : Nat) (W : World) : Prop := ∀ k, Hang g W k → k < W.heap.size ∧ k ≠ gb ∧ m ≤ k
/-- Only what hangs at g may have changed, and new blocks. -/
structure KeepH (g : Nat) (W W' : World) : Prop where
  size : W.heap.size ≤ W'.heap.size
  keep : ∀ k cs t fz, W.heap[k]? = some (.cells cs t fz) → ¬ Hang g W k → W'.heap[k]? = some (.cells cs t fz)
  new : ∀ k, k < W.heap.size → Hang g W' k → Hang g W k
/-- The same, where things hang as they should; and they do so afterwards. -/
def KpH (g gb m : Nat) (W W' : World) : Prop := Hung g gb m W → KeepH g W W' ∧ Hung g gb m W'
theorem KpH.trans {g gb m : Nat} {A B C : World} (h : KpH g gb m A B) (k : KpH g gb m B C) : KpH g gb m A C := fun hA => by
  obtain ⟨h1, h2⟩ := h hA
  obtain ⟨k1, k2⟩ := k h2
  refine ⟨⟨Nat.le_trans h1.size k1.size, fun i cs t fz hi hn => ?_, fun i hi hh => h1.new i hi (k1.new i (Nat.lt_of_lt_of_le hi h1.size) hh)⟩, k2⟩
  exact k1.keep i cs t fz (h1.keep i cs t fz hi hn) (fun hb => hn (h1.new i (lt_of_block hi) hb))
theorem Hang.below {g k : Nat} {W W' : World} (hg : g < W.heap.size) (hb : Below W.heap.size W W') : Hang g W' k ↔ Hang g W k := by
  unfold Hang
  rw [hb.cell (p := ⟨g, 0, none⟩) hg]
theorem Hung.below {g gb m : Nat} {W W' : World} (h : Hung g gb m W) (hb : Below W.heap.size W W') : Hung g gb m W' := fun k hk => by
  obtain ⟨h1, h2, h3⟩ := h k ((Hang.below (h g (.inl rfl)).1 hb).1 hk)
  exact ⟨Nat.lt_of_lt_of_le h1 hb.size, h2, h3⟩
theorem KpH.below {g gb m : Nat} {W W' : World} (hb : Below W.heap.size W W') : KpH g gb m W W' := fun h =>
  ⟨⟨hb.size, fun k _ _ _ hk _ => (hb.block k (lt_of_block hk)).trans hk, fun _ _ hk => (Hang.below (h g (.inl rfl)).1 hb).1 hk⟩, h.below hb⟩
theorem row_of_cell {W : World} {b o : Nat} {v : Value} (h : W.cell? ⟨b, o, none⟩ = some v) : ∃ cs t fz, W.heap[b]? = some (.cells cs t fz) := by
  unfold World.cell? at h
  simp only at h
  cases hh : W.heap[b]? with
  | none => rw [hh] at h; cases h
  | some ob =>
    rw [hh] at h
    cases ob with
    | cells cs t fz => exact ⟨cs, t, fz, rfl⟩
    | _ => cases h
theorem KeepH.cell {g b o : Nat} {W W' : World} {v : Value} (h : KeepH g W W') (hc : W.cell? ⟨b, o, none⟩ = some v) (hn : ¬ Hang g W b) : W'.cell? ⟨b, o, none⟩ = some v := by
  obtain ⟨cs, t, fz, hb⟩ := row_of_cell hc
  rw [← hc]
  exact World.cell?_of_block (w := W) ((h.keep b cs t fz hb hn).trans hb.symm)
theorem KeepH.rd {g gb m B n : Nat} {W W' : World} {A : Option Addr} {xs : List Value} (h : KeepH g W W') (hh : Hung g gb m W) (hB : B ≤ m) (hr : Rd W B A n xs) : Rd W' B A n xs :=
  ⟨hr.1, fun j hj => by
    obtain ⟨b, o, e, hb, hc⟩ := hr.2 j hj
    have hj' : j < xs.length := by rw [hr.1]; exact hj
    rw [List.getElem?_eq_getElem hj'] at hc
    refine ⟨b, o, e, hb, ?_⟩
    rw [List.getElem?_eq_getElem hj']
    exact h.cell hc (fun hk => by have := (hh b hk).2.2; omega)⟩

end Go.Proofs.Ytaapjampmnanmaa

namespace Go.Proofs.Ytaapjampmnanmaa
open Go.RowKit

/-- Only blocks that are no cells may have changed, and new ones. -/
def Calm (W W' : World) : Prop := Chg (fun k => ∃ o : Obj, W.heap[k]? = some o ∧ o.isCells = false) W W'
theorem calm_cells {W : World} {k : Nat} {cs : Array Value} {t : TypeId} {fz : Nat × Nat} (h : W.heap[k]? = some (.cells cs t fz)) : ¬ ∃ o : Obj, W.heap[k]? = some o ∧ o.isCells = false := by
  rintro ⟨o, ho, hc⟩
  rw [h] at ho
  injection ho with ho
  subst ho
  cases hc
theorem Blk.calm {W W' : World} {g : Nat} {t : TypeId} {cs : Array Value} (h : Blk W g t cs) (hc : Calm W W') : Blk W' g t cs := h.chg hc (calm_cells h)
theorem Ow.calm {W W' : World} {base n c : Nat} {e : TypeId} {A : Option Addr} {xs : List Value} (h : Ow W base e A n c xs) (hc : Calm W W') : Ow W' base e A n c xs := by
  refine h.chg hc (fun g hg => ?_)
  rcases h.2 with ⟨hv, _⟩ | ⟨g', cap, cur, hv, _, hh, _⟩
  · injection hv with e1
    rw [e1] at hg
    simp [blk] at hg
  · injection hv with e1
    rw [e1] at hg
    have : g' = g := by simpa [blk] using hg
    subst this
    exact calm_cells hh
theorem Rd.calm {W W' : World} {B n : Nat} {A : Option Addr} {xs : List Value} (h : Rd W B A n xs) (hc : Calm W W') : Rd W' B A n xs :=
  ⟨h.1, fun j hj => by
    obtain ⟨b, o, e, hb, hx⟩ := h.2 j hj
    have hj' : j < xs.length := by rw [h.1]; exact hj
    rw [List.getElem?_eq_getElem hj'] at hx
    obtain ⟨cs, t, fz, hk⟩ := row_of_cell hx
    refine ⟨b, o, e, hb, ?_⟩
    rw [List.getElem?_eq_getElem hj', ← hx]
    exact World.cell?_of_block (w := W) (hc.block b (lt_of_block hk) (calm_cells hk))⟩
theorem WrAt.calm {B g : Nat} {W W' : World} {l : List Bool} (h : WrAt B W g l) (hc : Calm W W') : WrAt B W' g l := by
  obtain ⟨A, ⟨c, hk, ho⟩, h2, h3⟩ := h
  exact ⟨A, ⟨c, hk.calm hc, ho.calm hc⟩, h2, Nat.le_trans h3 hc.size⟩
theorem CodeAt.calm {B g : Nat} {W W' : World} {ls : List Nat} (h : CodeAt B W g ls) (hc : Calm W W') : CodeAt B W' g ls := by
  obtain ⟨Ab, cb, Al, cl, Ao, co, h⟩ := h
  obtain ⟨cs, hk, hr⟩ := h.cells
  exact ⟨Ab, cb, Al, cl, Ao, co, ⟨cs, hk.calm hc, hr⟩, h.hg, h.ob.calm hc, h.ol.calm hc, fun s hs => (h.oo s hs).calm hc, h.apart, h.apartL⟩

/-- What a write to the writer at block g leaves alone. -/
structure Stp (g : Nat) (w w' : World) : Prop where
  x : KeepX w w'
  o : KeepsOthers w w'
  h : ∀ gb m, gb < w.heap.size → m ≤ w.heap.size → KpH g gb m w w'
theorem Stp.below {g : Nat} {w w' : World} (hb : Below w.heap.size w w') : Stp g w w' :=
  ⟨KeepX.below hb, ⟨hb.size, fun k _ hk _ => (hb.block k ((Array.getElem?_eq_some_iff.1 hk).1)).trans hk⟩, fun _ _ _ _ => KpH.below hb⟩
theorem Stp.trans {g : Nat} {a b c : World} (h : Stp g a b) (k : Stp g b c) : Stp g a c :=
  ⟨h.x.trans k.x, h.o.trans k.o, fun gb m hg hm => (h.h gb m hg hm).trans (k.h gb m (Nat.lt_of_lt_of_le hg h.x.1) (Nat.le_trans hm h.x.1))⟩
theorem hang_wr {B g : Nat} {A : Option Addr} {w : World} {l : List Bool} (h : WrIs w B g A l) (k : Nat) : Hang g w k ↔ (k = g ∨ blk A = some k) := by
  obtain ⟨c, hk, _⟩ := h
  unfold Hang
  have hc : w.cell? ⟨g, 0, none⟩ = some (.slice A (Bit.size l.length) c) := hk.cell 0
  constructor
  · rintro (h1 | ⟨A', n', c', h1, h2⟩)
    · exact .inl h1
    · rw [hc] at h1
      injection h1 with h1
      injection h1 with h1
      subst h1
      exact .inr h2
  · rintro (h1 | h1)
    · exact .inl h1
    · exact .inr ⟨A, _, _, hc, h1⟩
theorem Stp.wr {B g : Nat} {A : Option Addr} {w w' : World} {l l' : List Bool} (h : WrIs w B g A l) (hp : WrPost w B g A l' w') : Stp g w w' := by
  have hx := KeepX.wr h hp
  obtain ⟨A', h1, h2, h3⟩ := hp
  have hcell : ∀ k, (k = g ∨ blk A = some k) → ∃ cs t fz, w.heap[k]? = some (.cells cs t fz) := by
    obtain ⟨c, hk, ho⟩ := h
    rintro k (rfl | hk')
    · exact ⟨_, _, _, hk⟩
    · rcases ho.2 with ⟨hv, _⟩ | ⟨g', cap, cur, hv, _, hh, _⟩
      · injection hv with e1
        rw [e1] at hk'
        simp [blk] at hk'
      · injection hv with e1
        rw [e1] at hk'
        have : g' = k := by simpa [blk] using hk'
        subst this
        exact ⟨_, _, _, hh⟩
  refine ⟨hx, ⟨h2.size, fun k o hk ho => ?_⟩, fun gb m hgb hm hh => ?_⟩
  · refine (h2.block k ((Array.getElem?_eq_some_iff.1 hk).1) (fun hr => ?_)).trans hk
    obtain ⟨cs, t, fz, hc⟩ := hcell k hr
    rw [hc] at hk
    injection hk with hk
    subst hk
    cases ho
  · have hng : ∀ k, Hang g w' k → Hang g w k ∨ (w.heap.size ≤ k ∧ k < w'.heap.size) := fun k hk => by
      rcases (hang_wr h1 k).1 hk with rfl | hk
      · exact .inl (.inl rfl)
      · rcases h3 with h3 | ⟨i, hi, h3⟩
        · exact .inl ((hang_wr h k).2 (.inr (by rw [← h3]; exact hk)))
        · rw [h3] at hk
          injection hk with hk
          subst hk
          obtain ⟨c, _, ho⟩ := h1
          exact .inr ⟨hi, (ho.blk_lt i h3).2⟩
    refine ⟨⟨h2.size, fun k cs t fz hk hn => (h2.block k (lt_of_block hk) (fun hr => hn ((hang_wr h k).2 hr))).trans hk, fun k hk hk' => ?_⟩, fun k hk => ?_⟩
    · rcases hng k hk' with h4 | ⟨h4, _⟩
      · exact h4
      · omega
    · rcases hng k hk with h4 | ⟨h4, h5⟩
      · obtain ⟨g1, g2, g3⟩ := hh k h4
        exact ⟨Nat.lt_of_lt_of_le g1 h2.size, g2, g3⟩
      · exact ⟨h5, by omega, by omega⟩

end Go.Proofs.Ytaapjampmnanmaa

namespace Go.Proofs.Ytaapjampmnanmaa
open Go.RowKit Go.Shelf

attribute [local go_sem] Oper.semAt_some

def ls5 : List Nat := List.replicate 32 5
theorem ls5_fits : Huf.fits ls5 false := .inl (by decide +kernel)
theorem ls5_le : ∀ x ∈ ls5, x ≤ 15 := by decide +kernel
def Def.litB (s : Nat) : List Bool := Huf.word (Huf.bits lsF 16 s) (fixL s)
def Def.dstC (s : Nat) : List Bool := Huf.word (Huf.bits ls5 16 s) 5
/-- A token's bits. -/
def Def.tokB (t : Nat × Nat) : List Bool :=
  if t.1 = 0 then Def.litB t.2
  else Def.litB (257 + Def.top Def.lenB t.1 29) ++ Bit.low (t.1 - Def.lenB (Def.top Def.lenB t.1 29)) (Def.lenX (Def.top Def.lenB t.1 29))
    ++ Def.dstC (Def.top Def.dstB t.2 30) ++ Bit.low (t.2 - Def.dstB (Def.top Def.dstB t.2 30)) (Def.dstX (Def.top Def.dstB t.2 30))
/-- A block by the fixed codes. -/
def Def.fixB (bs : List UInt8) : List Bool := [true, true, false] ++ (Def.parse bs).flatMap Def.tokB ++ Def.litB 256

theorem lsF_sum : Huf.sum lsF ≤ 32768 := by decide +kernel
theorem ls5_sum : Huf.sum ls5 ≤ 32768 := by decide +kernel
theorem WrAt.hang {B g : Nat} {W : World} {l : List Bool} (h : WrAt B W g l) (k : Nat) (hk : Hang g W k) : B ≤ k ∧ k < W.heap.size := by
  obtain ⟨A, h1, h2, h3⟩ := h
  have h4 := h1
  obtain ⟨c, hb, ho⟩ := h4
  rcases (hang_wr h1 k).1 hk with rfl | h5
  · exact ⟨h2, hb.lt⟩
  · exact ho.blk_lt k h5

theorem CodeAt.chg {B g : Nat} {W W' : World} {ls : List Nat} {R : Nat → Prop} (h : CodeAt B W g ls) (hc : Chg R W W') (hR : ∀ k, B ≤ k → ¬ R k) : CodeAt B W' g ls := by
  obtain ⟨Ab, cb, Al, cl, Ao, co, h⟩ := h
  obtain ⟨cs, hk, hr⟩ := h.cells
  exact ⟨Ab, cb, Al, cl, Ao, co, ⟨cs, hk.chg hc (hR g h.hg), hr⟩, h.hg, h.ob.chg hc (fun k hk => hR k (h.ob.blk_lt k hk).1), h.ol.chg hc (fun k hk => hR k (h.ol.blk_lt k hk).1), fun s hs => (h.oo s hs).chg hc (fun k hk => hR k ((h.oo s hs).blk_lt k hk).1), h.apart, h.apartL⟩

end Go.Proofs.Ytaapjampmnanmaa

namespace Go.Proofs.Ytaapjampmnanmaa
open Go.RowKit

/-- One block's bits, and the rest. -/
def Def.bytB (bs : List UInt8) : List Bool := bs.flatMap (fun b => Bit.low b.toNat 8)
def Def.hdB (v n : Nat) : List Bool := Bit.low v 3 ++ List.replicate 5 false ++ Bit.low n 16 ++ Bit.low (65535 - n) 16
def Def.stoB : Nat → List UInt8 → List Bool
  | 0, bs => Def.hdB 1 bs.length ++ Def.bytB bs
  | f + 1, bs => if bs.length ≤ 65535 then Def.hdB 1 bs.length ++ Def.bytB bs else Def.hdB 0 65535 ++ Def.bytB (bs.take 65535) ++ Def.stoB f (bs.drop 65535)
theorem Rd.sub {w : World} {B n : Nat} {A : Option Addr} {xs : List Value} (h : Rd w B A n xs) (a m : Nat) (h1 : a + m ≤ n) : Rd w B (Option.map (fun x => x.add a) A) m ((xs.drop a).take m) := by
  have hl := h.1
  refine ⟨by rw [List.length_take, List.length_drop]; omega, fun j hj => ?_⟩
  obtain ⟨b, o, hA, hb, hc⟩ := h.2 (a + j) (by omega)
  refine ⟨b, o + a, by rw [hA]; simp [Addr.add_mid], hb, ?_⟩
  rw [Nat.add_assoc, hc, List.getElem?_take, if_pos hj, List.getElem?_drop]
end Go.Proofs.Ytaapjampmnanmaa

namespace Go.Proofs.Ytaapjampmnanmaa
open Go.RowKit

def Def.outL (pl : Bool) (bs : List UInt8) : List Bool := if pl then Def.stoB bs.length bs else Def.fixB bs
/-- The packed bytes. -/
def Def.outB (pl : Bool) (bs : List UInt8) : List UInt8 := Bit.pack (Def.outL pl bs)

end Go.Proofs.Ytaapjampmnanmaa
