/- Layer 5 (deflate): the plain law of the longest match, and of the symbols. There is no condition. Layer 4 (inflate): what each symbol of lengths, and of distances, means, by the program and by the document. There is no condition. Layer 5 (deflate): the symbols of lengths, and of distances, by the program and by the document. There is no condition. Layer 5 (deflate): the longest match at a place: the walks of deflate.alike, deflate.Find and of the document's Find. The conditions: where the slice lies. Layer 5 (deflate): the iterator 'matches': what it hands on, whatever the loop's body does, if the body writes only what hangs at one block. The conditions: where the bytes lie. Layer 5 (deflate): what a write to a writer leaves alone, as the iterator's contract asks it; and what abides the loop's book-keeping. There is no condition. Layer 5 (deflate): one block by the fixed codes: deflate. -/
import Derived.Test.YtaapjampmnanmaaGreatBase
import Derived.OwnWalk
import Derived.Test.YtaapjampmnanmaaGreatMem
import Derived.BigQuiet
import Derived.BigRegion
import Derived.Deep.DeepCutAuto
import Derived.Deep.CutBlock
import Derived.RangeFuncNested
import Derived.RangeFuncBound
import Derived.RangeFuncCalls
import Derived.RangeFuncLeaves
import Derived.RangeFuncFrom
import Derived.Shelf.Abstract
import Derived.Shelf.RegionOpen
import Derived.WalkKit
import Derived.OwnWalkIn
import Derived.TacticsInMore
import Derived.LoopNIn
import Derived.LoopIn
import Derived.Test.YtaapjampmnanmaaGreatHuffX
import Derived.RangeFuncOwn
import Derived.Laws.BytesArg
import Derived.Lib.SlBytesConst
namespace Go.Proofs.YtaapjampmnanmaaGreat
def Def.lcp (bs : List UInt8) (at' d : Nat) : Nat → Nat
  | 0 => 0
  | f + 1 => if at' < bs.length ∧ bs.getD at' 0 = bs.getD (at' - d) 0 then 1 + Def.lcp bs (at' + 1) d f else 0
def Def.alike (bs : List UInt8) (at' d : Nat) : Nat := Def.lcp bs at' d 258
theorem Def.lcp_le (bs : List UInt8) (at' d f : Nat) : Def.lcp bs at' d f ≤ f := by
  induction f generalizing at' with
  | zero => exact Nat.le_refl _
  | succ f ih =>
    rw [Def.lcp]
    split
    · have := ih (at' + 1)
      omega
    · omega
theorem Def.lcp_len (bs : List UInt8) (at' d f : Nat) (h : at' ≤ bs.length) : at' + Def.lcp bs at' d f ≤ bs.length := by
  induction f generalizing at' with
  | zero => simpa [Def.lcp] using h
  | succ f ih =>
    rw [Def.lcp]
    split
    · rename_i h2
      have := ih (at' + 1) (by omega)
      omega
    · omega
def Def.Runs (bs : List UInt8) (at' d n : Nat) : Prop := ∀ j, j < n → at' + j < bs.length ∧ bs.getD (at' + j) 0 = bs.getD (at' + j - d) 0
theorem Def.lcp_of (bs : List UInt8) (at' d f n : Nat) (h : Def.Runs bs at' d n) (hn : n ≤ f) (hs : n = f ∨ ¬ (at' + n < bs.length ∧ bs.getD (at' + n) 0 = bs.getD (at' + n - d) 0)) : Def.lcp bs at' d f = n := by
  induction f generalizing at' n with
  | zero =>
    have : n = 0 := by omega
    subst this
    rfl
  | succ f ih =>
    rw [Def.lcp]
    cases n with
    | zero =>
      rw [if_neg]
      rcases hs with hs | hs
      · omega
      · simpa using hs
    | succ n =>
      have h0 := h 0 (by omega)
      simp only [Nat.add_zero] at h0
      rw [if_pos h0, ih (at' + 1) n (fun j hj => by have := h (j + 1) (by omega); rwa [show at' + (j + 1) = at' + 1 + j by omega] at this) (by omega)
        (by
          rcases hs with hs | hs
          · exact .inl (by omega)
          · right
            rwa [show at' + (n + 1) = at' + 1 + n by omega] at hs)]
      omega
def Def.Best (a : Nat → Nat) (m l d : Nat) : Prop :=
  (l = 0 ∧ d = 0 ∧ ∀ e, 1 ≤ e → e ≤ m → a e < 3) ∨
  (3 ≤ l ∧ 1 ≤ d ∧ d ≤ m ∧ a d = l ∧ (∀ e, 1 ≤ e → e ≤ m → a e ≤ l) ∧ (∀ e, 1 ≤ e → e < d → a e < l))
theorem Def.Best.uniq {a : Nat → Nat} {m l d l' d' : Nat} (h : Def.Best a m l d) (h' : Def.Best a m l' d') : l = l' ∧ d = d' := by
  rcases h with ⟨rfl, rfl, h1⟩ | ⟨h1, h2, h3, h4, h5, h6⟩ <;> rcases h' with ⟨rfl, rfl, g1⟩ | ⟨g1, g2, g3, g4, g5, g6⟩
  · exact ⟨rfl, rfl⟩
  · have := h1 d' g2 g3
    omega
  · have := g1 d h2 h3
    omega
  · have e1 := h5 d' g2 g3
    have e2 := g5 d h2 h3
    have e3 : l = l' := by omega
    refine ⟨e3, ?_⟩
    rcases Nat.lt_trichotomy d d' with h | h | h
    · have := g6 d h2 h
      omega
    · exact h
    · have := h6 d' g2 h
      omega
theorem Def.Best.zero (a : Nat → Nat) : Def.Best a 0 0 0 := .inl ⟨rfl, rfl, fun e h1 h2 => by omega⟩
theorem Def.Best.up {a : Nat → Nat} {m l d : Nat} (h : Def.Best a m l d) : (3 ≤ a (m + 1) ∧ l < a (m + 1) → Def.Best a (m + 1) (a (m + 1)) (m + 1)) ∧ (¬ (3 ≤ a (m + 1) ∧ l < a (m + 1)) → Def.Best a (m + 1) l d) := by
  constructor
  · rintro ⟨h3, hl⟩
    right
    refine ⟨h3, by omega, Nat.le_refl _, rfl, fun e h1 h2 => ?_, fun e h1 h2 => ?_⟩
    · by_cases he : e = m + 1
      · rw [he]
        exact Nat.le_refl _
      · rcases h with ⟨_, _, g⟩ | ⟨_, _, _, _, g, _⟩
        · have := g e h1 (by omega)
          omega
        · have := g e h1 (by omega)
          omega
    · rcases h with ⟨_, _, g⟩ | ⟨_, _, _, _, g, _⟩
      · have := g e h1 (by omega)
        omega
      · have := g e h1 (by omega)
        omega
  · intro hn
    rcases h with ⟨rfl, rfl, g⟩ | ⟨h1, h2, h3, h4, h5, h6⟩
    · left
      refine ⟨rfl, rfl, fun e h1 h2 => ?_⟩
      by_cases he : e = m + 1
      · rw [he]
        omega
      · exact g e h1 (by omega)
    · right
      refine ⟨h1, h2, by omega, h4, fun e g1 g2 => ?_, h6⟩
      by_cases he : e = m + 1
      · rw [he]
        omega
      · exact h5 e g1 (by omega)
def Def.lenB (k : Nat) : Nat := if k = 28 then 258 else if k < 8 then 3 + k else 3 + (4 + k % 4) * 2 ^ ((k - 4) / 4)
def Def.lenX (k : Nat) : Nat := if k = 28 then 0 else if k < 8 then 0 else (k - 4) / 4
def Def.dstB (k : Nat) : Nat := if k < 4 then 1 + k else 1 + (2 + k % 2) * 2 ^ ((k - 2) / 2)
def Def.dstX (k : Nat) : Nat := if k < 4 then 0 else (k - 2) / 2
def Def.top (B : Nat → Nat) (n : Nat) : Nat → Nat
  | 0 => 0
  | m + 1 => if B m ≤ n then m else Def.top B n m
theorem Def.top_spec (B : Nat → Nat) (n m : Nat) (h0 : B 0 ≤ n) (hm : 0 < m) : Def.top B n m < m ∧ B (Def.top B n m) ≤ n ∧ ∀ j, Def.top B n m < j → j < m → n < B j := by
  induction m with
  | zero => omega
  | succ m ih =>
    rw [Def.top]
    by_cases h : B m ≤ n
    · rw [if_pos h]
      exact ⟨by omega, h, fun j h1 h2 => by omega⟩
    · rw [if_neg h]
      have hm0 : 0 < m := by
        rcases Nat.eq_zero_or_pos m with rfl | h'
        · exact absurd h0 h
        · exact h'
      obtain ⟨h1, h2, h3⟩ := ih hm0
      refine ⟨by omega, h2, fun j g1 g2 => ?_⟩
      by_cases hj : j = m
      · subst hj
        omega
      · exact h3 j g1 (by omega)
def Def.fnd (a : Nat → Nat) : Nat → Nat × Nat
  | 0 => (0, 0)
  | m + 1 => if 3 ≤ a (m + 1) ∧ (Def.fnd a m).1 < a (m + 1) then (a (m + 1), m + 1) else Def.fnd a m
theorem Def.fnd_best (a : Nat → Nat) (m : Nat) : Def.Best a m (Def.fnd a m).1 (Def.fnd a m).2 := by
  induction m with
  | zero => exact Def.Best.zero a
  | succ m ih =>
    rw [Def.fnd]
    split
    · rename_i h
      exact ih.up.1 h
    · rename_i h
      exact ih.up.2 h
def Def.mt (bs : List UInt8) (at' : Nat) : Nat × Nat := Def.fnd (Def.alike bs at') (min 256 at')
theorem Def.mt_best (bs : List UInt8) (at' : Nat) : Def.Best (Def.alike bs at') (min 256 at') (Def.mt bs at').1 (Def.mt bs at').2 := Def.fnd_best _ _
theorem Def.mt_len (bs : List UInt8) (at' : Nat) (h : at' ≤ bs.length) : at' + (Def.mt bs at').1 ≤ bs.length ∧ (Def.mt bs at').1 ≤ 258 ∧ (Def.mt bs at').2 ≤ 256 ∧ ((Def.mt bs at').1 = 0 ∨ (3 ≤ (Def.mt bs at').1 ∧ 1 ≤ (Def.mt bs at').2)) := by
  rcases Def.mt_best bs at' with ⟨h1, h2, _⟩ | ⟨h1, h2, h3, h4, _, _⟩
  · rw [h1, h2]
    exact ⟨by omega, by omega, by omega, .inl rfl⟩
  · have g1 := Def.lcp_len bs at' (Def.mt bs at').2 258 h
    have g2 := Def.lcp_le bs at' (Def.mt bs at').2 258
    unfold Def.alike at h4
    omega
def Def.tok (bs : List UInt8) (at' : Nat) : Nat × Nat := if (Def.mt bs at').1 = 0 then (0, (bs.getD at' 0).toNat) else Def.mt bs at'
def Def.stp (t : Nat × Nat) : Nat := if t.1 = 0 then 1 else t.1
def Def.toks (bs : List UInt8) : Nat → Nat → List (Nat × Nat)
  | 0, _ => []
  | f + 1, at' => if at' < bs.length then Def.tok bs at' :: Def.toks bs f (at' + Def.stp (Def.tok bs at')) else []
theorem Def.toks_end (bs : List UInt8) (f at' : Nat) (h : bs.length ≤ at') : Def.toks bs f at' = [] := by
  cases f with
  | zero => rfl
  | succ f => rw [Def.toks, if_neg (by omega)]
theorem Def.toks_fuel (bs : List UInt8) (f g at' : Nat) (hf : bs.length ≤ at' + f) (hg : f ≤ g) : Def.toks bs g at' = Def.toks bs f at' := by
  induction f generalizing g at' with
  | zero => rw [Def.toks_end bs g at' (by omega), Def.toks_end bs 0 at' (by omega)]
  | succ f ih =>
    cases g with
    | zero => omega
    | succ g =>
      rw [Def.toks, Def.toks]
      split
      · have : 1 ≤ Def.stp (Def.tok bs at') := by unfold Def.stp; split <;> omega
        rw [ih g (at' + Def.stp (Def.tok bs at')) (by omega) (by omega)]
      · rfl
def Def.parse (bs : List UInt8) : List (Nat × Nat) := Def.toks bs bs.length 0
def Def.rest (bs : List UInt8) (at' : Nat) : List (Nat × Nat) := Def.toks bs (bs.length - at') at'
theorem Def.rest_step (bs : List UInt8) (at' : Nat) (h : at' < bs.length) : Def.rest bs at' = Def.tok bs at' :: Def.rest bs (at' + Def.stp (Def.tok bs at')) := by
  have hs : 1 ≤ Def.stp (Def.tok bs at') := by unfold Def.stp; split <;> omega
  unfold Def.rest
  rw [show bs.length - at' = (bs.length - at' - 1) + 1 by omega, Def.toks, if_pos h, Def.toks_fuel bs (bs.length - (at' + Def.stp (Def.tok bs at'))) _ _ (by omega) (by omega)]
theorem Def.rest_end (bs : List UInt8) (at' : Nat) (h : bs.length ≤ at') : Def.rest bs at' = [] := Def.toks_end _ _ _ h
end Go.Proofs.YtaapjampmnanmaaGreat
namespace Go.Proofs.YtaapjampmnanmaaGreat
open Go.RowKit
def Def.lenV (sym : Int) : Int × Int := if 257 ≤ sym ∧ sym ≤ 285 then ((Def.lenB (sym - 257).toNat : Int), (Def.lenX (sym - 257).toNat : Int)) else (0, 0)
def Def.dstV (sym : Int) : Int × Int := if 0 ≤ sym ∧ sym ≤ 29 then ((Def.dstB sym.toNat : Int), (Def.dstX sym.toNat : Int)) else (0, 0)
set_option maxRecDepth 100000 in
set_option maxHeartbeats 4000000 in
theorem length_any (sym : Int) (w : World) (h1 : -9223372036854775808 ≤ sym) (h2 : sym ≤ 9223372036854775807) :
    Calls Tryz.prog 192 #[.int .i64 sym] w fun e w' => e = .returned (.tuple #[.int .i64 (Def.lenV sym).1, .int .i64 (Def.lenV sym).2]) ∧ w = w' := by
  by_cases h : 257 ≤ sym ∧ sym ≤ 285
  · clear h1 h2
    rcases (show sym = 257 ∨ sym = 258 ∨ sym = 259 ∨ sym = 260 ∨ sym = 261 ∨ sym = 262 ∨ sym = 263 ∨ sym = 264 ∨ sym = 265 ∨ sym = 266 ∨ sym = 267 ∨ sym = 268 ∨ sym = 269 ∨ sym = 270 ∨ sym = 271 ∨ sym = 272 ∨ sym = 273 ∨ sym = 274 ∨ sym = 275 ∨ sym = 276 ∨ sym = 277 ∨ sym = 278 ∨ sym = 279 ∨ sym = 280 ∨ sym = 281 ∨ sym = 282 ∨ sym = 283 ∨ sym = 284 ∨ sym = 285 by omega) with rfl | rfl | rfl | rfl | rfl | rfl | rfl | rfl | rfl | rfl | rfl | rfl | rfl | rfl | rfl | rfl | rfl | rfl | rfl | rfl | rfl | rfl | rfl | rfl | rfl | rfl | rfl | rfl | rfl <;>
    · clear h
      go_enter Tryz.func192, Tryz.ntmps192
      go_wp2
      go_ret2
      exact ⟨rfl, rfl⟩
  · rw [Def.lenV, if_neg h]
    simp only
    by_cases h3 : sym < 257
    · clear h
      go_enter Tryz.func192, Tryz.ntmps192
      go_wp2
      go_ret2
      exact ⟨rfl, rfl⟩
    · have h4 : 257 ≤ sym := by omega
      have h5 : 285 < sym := by omega
      clear h h3
      go_enter Tryz.func192, Tryz.ntmps192
      go_wp2
      go_ret2
      exact ⟨rfl, rfl⟩
set_option maxRecDepth 100000 in
set_option maxHeartbeats 4000000 in
theorem distance_any (sym : Int) (w : World) :
    Calls Tryz.prog 193 #[.int .i64 sym] w fun e w' => e = .returned (.tuple #[.int .i64 (Def.dstV sym).1, .int .i64 (Def.dstV sym).2]) ∧ w = w' := by
  by_cases h : 0 ≤ sym ∧ sym ≤ 29
  · rcases (show sym = 0 ∨ sym = 1 ∨ sym = 2 ∨ sym = 3 ∨ sym = 4 ∨ sym = 5 ∨ sym = 6 ∨ sym = 7 ∨ sym = 8 ∨ sym = 9 ∨ sym = 10 ∨ sym = 11 ∨ sym = 12 ∨ sym = 13 ∨ sym = 14 ∨ sym = 15 ∨ sym = 16 ∨ sym = 17 ∨ sym = 18 ∨ sym = 19 ∨ sym = 20 ∨ sym = 21 ∨ sym = 22 ∨ sym = 23 ∨ sym = 24 ∨ sym = 25 ∨ sym = 26 ∨ sym = 27 ∨ sym = 28 ∨ sym = 29 by omega) with rfl | rfl | rfl | rfl | rfl | rfl | rfl | rfl | rfl | rfl | rfl | rfl | rfl | rfl | rfl | rfl | rfl | rfl | rfl | rfl | rfl | rfl | rfl | rfl | rfl | rfl | rfl | rfl | rfl | rfl <;>
    · clear h
      go_enter Tryz.func193, Tryz.ntmps193
      go_wp2
      go_ret2
      exact ⟨rfl, rfl⟩
  · rw [Def.dstV, if_neg h]
    simp only
    by_cases h3 : sym < 0
    · clear h
      go_enter Tryz.func193, Tryz.ntmps193
      go_wp2
      go_ret2
      exact ⟨rfl, rfl⟩
    · have h4 : 0 ≤ sym := by omega
      have h5 : 30 ≤ sym := by omega
      clear h h3
      go_enter Tryz.func193, Tryz.ntmps193
      go_wp2
      go_ret2
      exact ⟨rfl, rfl⟩
theorem Def.len_small : ∀ j < 29, Def.lenB j ≤ 300 ∧ Def.lenX j ≤ 10 := by decide
theorem Def.dst_small : ∀ j < 30, Def.dstB j ≤ 40000 ∧ Def.dstX j ≤ 20 := by decide
end Go.Proofs.YtaapjampmnanmaaGreat
namespace Go.Proofs.YtaapjampmnanmaaGreat
open Go.RowKit
def Def.symV (n : Int) : Int × Int × Int := if 3 ≤ n ∧ n ≤ 258 then (257 + (Def.top Def.lenB n.toNat 29 : Int), n - (Def.lenB (Def.top Def.lenB n.toNat 29) : Int), (Def.lenX (Def.top Def.lenB n.toNat 29) : Int)) else (0, 0, 0)
def Def.farV (n : Int) : Int × Int × Int := if 1 ≤ n ∧ n ≤ 32768 then (0 + (Def.top Def.dstB n.toNat 30 : Int), n - (Def.dstB (Def.top Def.dstB n.toNat 30) : Int), (Def.dstX (Def.top Def.dstB n.toNat 30) : Int)) else (0, 0, 0)
theorem Def.lenV_in (i : Nat) (hi : i < 29) : Def.lenV (257 + (i : Int)) = ((Def.lenB i : Int), (Def.lenX i : Int)) := by
  unfold Def.lenV
  rw [if_pos (by omega), show (257 + (i : Int) - 257).toNat = i by omega]
theorem Def.dstV_in (i : Nat) (hi : i < 30) : Def.dstV (0 + (i : Int)) = ((Def.dstB i : Int), (Def.dstX i : Int)) := by
  unfold Def.dstV
  rw [if_pos (by omega), show (0 + (i : Int)).toNat = i by omega]
set_option maxRecDepth 100000 in
set_option maxHeartbeats 2000000 in
theorem symbol_len (n : Nat) (w : World) (hl : 3 ≤ n) (hn : n ≤ 32768) :
    Calls Tryz.prog 191 #[.int .i64 (n : Int), .int .i64 257, .int .i64 285, .func (.func 192) #[] #[]] w fun e w' => e = .returned (.tuple #[.int .i64 (257 + (Def.top Def.lenB n 29 : Int)), .int .i64 ((n : Int) - (Def.lenB (Def.top Def.lenB n 29) : Int)), .int .i64 (Def.lenX (Def.top Def.lenB n 29) : Int)]) ∧ w = w' := by
  have hof := hide (show ∀ i : Nat, i < 29 → Calls Tryz.prog 192 #[.int .i64 (257 + (i : Int))] w fun e w' => e = .returned (.tuple #[.int .i64 (Def.lenB i : Int), .int .i64 (Def.lenX i : Int)]) ∧ w = w' from fun i hi => by
    have h := length_any (257 + (i : Int)) w (by omega) (by omega)
    rw [Def.lenV_in i hi] at h
    exact h)
  have h0 : Def.lenB 0 ≤ n := by
    have : Def.lenB 0 = 3 := by decide
    omega
  replace h0 := hide h0
  have hnI : (n : Int) ≤ 32768 := by omega
  obtain ⟨T, hT⟩ : ∃ T, Def.top Def.lenB n 29 = T := ⟨_, rfl⟩
  rw [hT]
  go_enter Tryz.func191, Tryz.ntmps191
  go_wp2
  go_loopw [11] (fun s11 wr => ∃ (j : Nat) (N : Int), 1 ≤ j ∧ j ≤ 29 ∧ s11 = .int .i64 N ∧ Hid (257 + (j : Int) - 1 = N) ∧ Hid (Def.top Def.lenB n j = T) ∧ Hid (w = wr)) (fun s11 _ => (intOf s11 + 1 - 257).toNat)
  case atStart => exact ⟨29, 285, by omega, by omega, rfl, hide (by decide), hide hT, hide rfl⟩
  case round =>
    obtain ⟨j, N, hj1, hj, rfl, hN, ht, hw⟩ := hrel
    have hw' := hw.out
    subst hw'
    obtain ⟨i, rfl⟩ : ∃ i, j = i + 1 := ⟨j - 1, by omega⟩
    have hN' : 257 + (i : Int) = N := by have := hN.out; omega
    have hge : 257 ≤ N := by omega
    have hle : N ≤ 286 := by omega
    have hq := hide (hof.out i (by omega))
    rw [hN'] at hq
    have htop := ht.out
    rw [Def.top] at htop
    obtain ⟨hb, hx⟩ := Def.len_small i (by omega)
    obtain ⟨b, hbb⟩ : ∃ b, Def.lenB i = b := ⟨_, rfl⟩
    obtain ⟨x, hxx⟩ : ∃ x, Def.lenX i = x := ⟨_, rfl⟩
    rw [hbb, hxx] at hq
    rw [hbb] at htop hb
    replace hN := hide hN'
    clear hN'
    by_cases hc : b ≤ n
    · rw [if_pos hc] at htop
      subst htop
      have hcI : (b : Int) ≤ (n : Int) := by omega
      have hsub : IntKind.i64.wrap ((n : Int) - (b : Int)) = (n : Int) - (b : Int) := by rw [IntKind.wrap_i64]; omega
      replace hbb := hide hbb
      replace hxx := hide hxx
      clear ht hT hc
      go_wp2_with (go_at_call 192; (with_reducible refine hq.out.mono ?_); rintro e w' ⟨rfl, rfl⟩)
      go_ret3
      exact ⟨by rw [hN.out, hbb.out, hxx.out]; rfl, rfl⟩
    · rw [if_neg hc] at htop
      have hcI : (n : Int) < (b : Int) := by omega
      have hi1 : 1 ≤ i := by
        rcases Nat.eq_zero_or_pos i with rfl | h
        · have := h0.out
          omega
        · exact h
      have hsub : IntKind.i64.wrap (N - 1) = N - 1 := by rw [IntKind.wrap_i64]; omega
      replace htop := hide htop
      replace hbb := hide hbb
      replace hxx := hide hxx
      clear ht hT hc
      go_wp2_with (go_at_call 192; (with_reducible refine hq.out.mono ?_); rintro e w' ⟨rfl, rfl⟩)
      go_roundw
      case rel => exact ⟨i, N - 1, hi1, by omega, rfl, hide (by have := hN.out; omega), htop, by first | exact hide rfl | exact hide trivial⟩
      case measure => simp [intOf] <;> omega
set_option maxRecDepth 100000 in
set_option maxHeartbeats 2000000 in
theorem symbol_dst (n : Nat) (w : World) (hl : 1 ≤ n) (hn : n ≤ 32768) :
    Calls Tryz.prog 191 #[.int .i64 (n : Int), .int .i64 0, .int .i64 29, .func (.func 193) #[] #[]] w fun e w' => e = .returned (.tuple #[.int .i64 (0 + (Def.top Def.dstB n 30 : Int)), .int .i64 ((n : Int) - (Def.dstB (Def.top Def.dstB n 30) : Int)), .int .i64 (Def.dstX (Def.top Def.dstB n 30) : Int)]) ∧ w = w' := by
  have hof := hide (show ∀ i : Nat, i < 30 → Calls Tryz.prog 193 #[.int .i64 (0 + (i : Int))] w fun e w' => e = .returned (.tuple #[.int .i64 (Def.dstB i : Int), .int .i64 (Def.dstX i : Int)]) ∧ w = w' from fun i hi => by
    have h := distance_any (0 + (i : Int)) w 
    rw [Def.dstV_in i hi] at h
    exact h)
  have h0 : Def.dstB 0 ≤ n := by
    have : Def.dstB 0 = 1 := by decide
    omega
  replace h0 := hide h0
  have hnI : (n : Int) ≤ 32768 := by omega
  obtain ⟨T, hT⟩ : ∃ T, Def.top Def.dstB n 30 = T := ⟨_, rfl⟩
  rw [hT]
  go_enter Tryz.func191, Tryz.ntmps191
  go_wp2
  go_loopw [11] (fun s11 wr => ∃ (j : Nat) (N : Int), 1 ≤ j ∧ j ≤ 30 ∧ s11 = .int .i64 N ∧ Hid (0 + (j : Int) - 1 = N) ∧ Hid (Def.top Def.dstB n j = T) ∧ Hid (w = wr)) (fun s11 _ => (intOf s11 + 1 - 0).toNat)
  case atStart => exact ⟨30, 29, by omega, by omega, rfl, hide (by decide), hide hT, hide rfl⟩
  case round =>
    obtain ⟨j, N, hj1, hj, rfl, hN, ht, hw⟩ := hrel
    have hw' := hw.out
    subst hw'
    obtain ⟨i, rfl⟩ : ∃ i, j = i + 1 := ⟨j - 1, by omega⟩
    have hN' : 0 + (i : Int) = N := by have := hN.out; omega
    have hge : 0 ≤ N := by omega
    have hle : N ≤ 30 := by omega
    have hq := hide (hof.out i (by omega))
    rw [hN'] at hq
    have htop := ht.out
    rw [Def.top] at htop
    obtain ⟨hb, hx⟩ := Def.dst_small i (by omega)
    obtain ⟨b, hbb⟩ : ∃ b, Def.dstB i = b := ⟨_, rfl⟩
    obtain ⟨x, hxx⟩ : ∃ x, Def.dstX i = x := ⟨_, rfl⟩
    rw [hbb, hxx] at hq
    rw [hbb] at htop hb
    replace hN := hide hN'
    clear hN'
    by_cases hc : b ≤ n
    · rw [if_pos hc] at htop
      subst htop
      have hcI : (b : Int) ≤ (n : Int) := by omega
      have hsub : IntKind.i64.wrap ((n : Int) - (b : Int)) = (n : Int) - (b : Int) := by rw [IntKind.wrap_i64]; omega
      replace hbb := hide hbb
      replace hxx := hide hxx
      clear ht hT hc
      go_wp2_with (go_at_call 193; (with_reducible refine hq.out.mono ?_); rintro e w' ⟨rfl, rfl⟩)
      go_ret3
      exact ⟨by rw [hN.out, hbb.out, hxx.out]; rfl, rfl⟩
    · rw [if_neg hc] at htop
      have hcI : (n : Int) < (b : Int) := by omega
      have hi1 : 1 ≤ i := by
        rcases Nat.eq_zero_or_pos i with rfl | h
        · have := h0.out
          omega
        · exact h
      have hsub : IntKind.i64.wrap (N - 1) = N - 1 := by rw [IntKind.wrap_i64]; omega
      replace htop := hide htop
      replace hbb := hide hbb
      replace hxx := hide hxx
      clear ht hT hc
      go_wp2_with (go_at_call 193; (with_reducible refine hq.out.mono ?_); rintro e w' ⟨rfl, rfl⟩)
      go_roundw
      case rel => exact ⟨i, N - 1, hi1, by omega, rfl, hide (by have := hN.out; omega), htop, by first | exact hide rfl | exact hide trivial⟩
      case measure => simp [intOf] <;> omega
theorem sym_any (n : Int) (w : World) : Calls Tryz.prog 167 #[.int .i64 n] w fun e w' => e = .returned (.tuple #[.int .i64 (Def.symV n).1, .int .i64 (Def.symV n).2.1, .int .i64 (Def.symV n).2.2]) ∧ w = w' := by
  by_cases h : 3 ≤ n ∧ n ≤ 258
  · obtain ⟨k, rfl⟩ := Int.eq_ofNat_of_zero_le (show 0 ≤ n by omega)
    have hq := hide (symbol_len k w (by omega) (by omega))
    have hV := hide (show Def.symV (k : Int) = (257 + (Def.top Def.lenB k 29 : Int), (k : Int) - (Def.lenB (Def.top Def.lenB k 29) : Int), (Def.lenX (Def.top Def.lenB k 29) : Int)) from by unfold Def.symV; rw [if_pos h]; rfl)
    obtain ⟨V, hVV⟩ : ∃ V, Def.symV (k : Int) = V := ⟨_, rfl⟩
    rw [hVV] at hV ⊢
    have h1 := h.1
    have h2 := h.2
    clear h hVV
    generalize Def.top Def.lenB k 29 = T at *
    go_enter Tryz.func167, Tryz.ntmps167
    go_wp2_with (go_at_call 191; (with_reducible refine hq.out.mono ?_); rintro e w' ⟨rfl, rfl⟩)
    go_ret3
    exact ⟨by rw [hV.out]; first | rfl | (simp only [Int.zero_add]; rfl), rfl⟩
  · have hV := hide (show Def.symV n = (0, 0, 0) from by unfold Def.symV; rw [if_neg h])
    by_cases h1 : n < 3
    · clear h
      go_enter Tryz.func167, Tryz.ntmps167
      go_wp2
      go_ret3
      exact ⟨by rw [hV.out]; rfl, rfl⟩
    · have h2 : 3 ≤ n := by omega
      have h3 : 258 < n := by omega
      clear h h1
      go_enter Tryz.func167, Tryz.ntmps167
      go_wp2
      go_ret3
      exact ⟨by rw [hV.out]; rfl, rfl⟩
theorem far_any (n : Int) (w : World) : Calls Tryz.prog 168 #[.int .i64 n] w fun e w' => e = .returned (.tuple #[.int .i64 (Def.farV n).1, .int .i64 (Def.farV n).2.1, .int .i64 (Def.farV n).2.2]) ∧ w = w' := by
  by_cases h : 1 ≤ n ∧ n ≤ 32768
  · obtain ⟨k, rfl⟩ := Int.eq_ofNat_of_zero_le (show 0 ≤ n by omega)
    have hq := hide (symbol_dst k w (by omega) (by omega))
    have hV := hide (show Def.farV (k : Int) = (0 + (Def.top Def.dstB k 30 : Int), (k : Int) - (Def.dstB (Def.top Def.dstB k 30) : Int), (Def.dstX (Def.top Def.dstB k 30) : Int)) from by unfold Def.farV; rw [if_pos h]; rfl)
    obtain ⟨V, hVV⟩ : ∃ V, Def.farV (k : Int) = V := ⟨_, rfl⟩
    rw [hVV] at hV ⊢
    have h1 := h.1
    have h2 := h.2
    clear h hVV
    generalize Def.top Def.dstB k 30 = T at *
    go_enter Tryz.func168, Tryz.ntmps168
    go_wp2_with (go_at_call 191; (with_reducible refine hq.out.mono ?_); rintro e w' ⟨rfl, rfl⟩)
    go_ret3
    exact ⟨by rw [hV.out]; first | rfl | (simp only [Int.zero_add]; rfl), rfl⟩
  · have hV := hide (show Def.farV n = (0, 0, 0) from by unfold Def.farV; rw [if_neg h])
    by_cases h1 : n < 1
    · clear h
      go_enter Tryz.func168, Tryz.ntmps168
      go_wp2
      go_ret3
      exact ⟨by rw [hV.out]; rfl, rfl⟩
    · have h2 : 1 ≤ n := by omega
      have h3 : 32768 < n := by omega
      clear h h1
      go_enter Tryz.func168, Tryz.ntmps168
      go_wp2
      go_ret3
      exact ⟨by rw [hV.out]; rfl, rfl⟩
end Go.Proofs.YtaapjampmnanmaaGreat
namespace Go.Proofs.YtaapjampmnanmaaGreat
open Go.RowKit
theorem bsAt (bs : List UInt8) (i : Nat) (h : i < bs.length) : bs.getD i 0 = bs[i] := by rw [List.getD_eq_getElem?_getD, List.getElem?_eq_getElem h]; rfl
theorem u8_eq (x y : UInt8) : (x.toNat : Int) = (y.toNat : Int) ↔ x = y := by
  rw [← UInt8.toNat_inj]
  omega
set_option maxRecDepth 100000 in
set_option maxHeartbeats 4000000 in
theorem alike_any (A : Option Addr) (c : Nat) (bs : List UInt8) (p d : Nat) (w : World) (B : Nat) (hr : Rd w B A bs.length (bs.map bv)) (hB : B ≤ w.heap.size) (hp : p ≤ bs.length) (hd1 : 1 ≤ d) (hdp : d ≤ p) (hl : bs.length ≤ 1048576) :
    Calls Tryz.prog 204 #[.slice A bs.length c, .int .i64 (p : Int), .int .i64 (d : Int)] w fun e w' => e = .returned (.int .i64 ((Def.alike bs p d : Nat) : Int)) ∧ Below w.heap.size w w' := by
  obtain ⟨L, hL⟩ : ∃ L, bs.length = L := ⟨_, rfl⟩
  have hLI : (L : Int) ≤ 1048576 := by omega
  have hpI : (p : Int) ≤ (L : Int) := by omega
  have hdI : (d : Int) ≤ (p : Int) := by omega
  have hdI1 : (1 : Int) ≤ (d : Int) := by omega
  rw [hL] at hr ⊢
  replace hL := hide hL
  replace hr := hide hr
  replace hB := hide hB
  go_enter Tryz.func204, Tryz.ntmps204
  go_wp2
  go_loopw [7] (fun s7 wr => ∃ n : Nat, n ≤ 258 ∧ p + n ≤ L ∧ s7 = .int .i64 (n : Int) ∧ Hid (Def.Runs bs p d n) ∧ Hid (Below w.heap.size w wr)) (fun s7 _ => 258 - (intOf s7).toNat)
  case atStart => exact ⟨0, by omega, by omega, rfl, hide (fun j hj => absurd hj (Nat.not_lt_zero _)), hide (Below.refl _ _)⟩
  case round =>
    obtain ⟨n, hn, hpn, rfl, hrun, hb⟩ := hrel
    by_cases h1 : n < 258
    · have hnI : (n : Int) < 258 := by omega
      obtain ⟨q, hq⟩ : ∃ q, p + n = q := ⟨_, rfl⟩
      have e1 : (p : Int) + (n : Int) = (q : Int) := by omega
      have e2 : IntKind.i64.wrap (q : Int) = (q : Int) := by rw [IntKind.wrap_i64]; omega
      have e1' : IntKind.i64.wrap ((p : Int) + (n : Int)) = (q : Int) := by rw [e1, e2]
      have e7 : IntKind.i64.wrap ((n : Int) + 1) = (n : Int) + 1 := by rw [IntKind.wrap_i64]; omega
      by_cases h2 : q < L
      · have hqI : (q : Int) < (L : Int) := by omega
        have hq0 : (0 : Int) ≤ (q : Int) := by omega
        obtain ⟨r, hr2⟩ : ∃ r, q - d = r := ⟨_, rfl⟩
        have e3 : (q : Int) - (d : Int) = (r : Int) := by omega
        have e4 : IntKind.i64.wrap (r : Int) = (r : Int) := by rw [IntKind.wrap_i64]; omega
        have e3' : IntKind.i64.wrap ((q : Int) - (d : Int)) = (r : Int) := by rw [e3, e4]
        have hrI : (r : Int) < (L : Int) := by omega
        have hr0 : (0 : Int) ≤ (r : Int) := by omega
        have hrd := hr.out.below (hb.out.mono hB.out)
        obtain ⟨b, o, rfl, _, hcq⟩ := hrd.byte (j := q) h2
        obtain ⟨b', o', he, _, hcr⟩ := hrd.byte (j := r) (by omega)
        injection he with he
        injection he with he1 he2
        subst he1 he2
        have hqb : q < bs.length := by rw [hL.out]; exact h2
        have hrb : r < bs.length := by rw [hL.out]; omega
        have hcx := hide (show bs.getD (p + n) 0 = bs.getD (p + n - d) 0 ↔ ((bs[q].toNat : Int) = (bs[r].toNat : Int)) from by rw [hq, hr2, bsAt bs q hqb, bsAt bs r hrb, u8_eq])
        obtain ⟨X, hX⟩ : ∃ X : Nat, bs[q].toNat = X := ⟨_, rfl⟩
        obtain ⟨Y, hY⟩ : ∃ Y : Nat, bs[r].toNat = Y := ⟨_, rfl⟩
        rw [hX, hY] at hcx
        rw [hX] at hcq
        rw [hY] at hcr
        have hlt := hide (show p + n < bs.length from by rw [hq]; exact hqb)
        clear hX hY hrd
        replace hq := hide hq
        replace hr2 := hide hr2
        by_cases h3 : (X : Int) = (Y : Int)
        · have hXY : ((X : Int) == (Y : Int)) = true := by simp [h3]
          have hrun2 := hide (show Def.Runs bs p d (n + 1) from fun j hj => by
            by_cases hjn : j = n
            · subst hjn
              exact ⟨hlt.out, hcx.out.2 h3⟩
            · exact hrun.out j (by omega))
          replace h3 := hide h3
          go_wp2_with fail
          go_quiet (fail)
          go_wp2
          go_roundw
          case rel => exact ⟨n + 1, by omega, by have := hq.out; omega, by go_num, hrun2, hide (below_drewN hb.out _)⟩
          case measure => simp [intOf] <;> omega
        · have hXY : ((X : Int) == (Y : Int)) = false := by simp [h3]
          have hfin := hide (Def.lcp_of bs p d 258 n hrun.out hn (.inr (fun h => h3 (hcx.out.1 h.2))))
          replace h3 := hide h3
          go_wp2_with fail
          go_quiet (fail)
          go_wp2
          go_ret
          exact ⟨by rw [Def.alike, hfin.out]; rfl, below_drewN hb.out _⟩
      · have hd2 : decide ((q : Int) < (L : Int)) = false := decide_eq_false (by omega)
        have hqI : (L : Int) ≤ (q : Int) := by omega
        have hfin := hide (Def.lcp_of bs p d 258 n hrun.out hn (.inr (fun h => by have h4 := h.1; rw [hL.out, hq] at h4; exact h2 h4)))
        go_wp2_with fail
        go_quiet (fail)
        go_wp2
        go_ret
        exact ⟨by rw [Def.alike, hfin.out]; rfl, below_drewN hb.out _⟩
    · obtain rfl : n = 258 := by omega
      have hfin := hide (Def.lcp_of bs p d 258 258 hrun.out hn (.inl rfl))
      go_wp2_with fail
      go_quiet (fail)
      go_wp2
      go_ret
      exact ⟨by rw [Def.alike, hfin.out]; rfl, below_drewN hb.out _⟩
def Def.findV (bs : List UInt8) (z : Int) : Nat × Nat := if 0 ≤ z ∧ z ≤ bs.length then Def.mt bs z.toNat else (0, 0)
theorem info_match (a b : Value) : (Tryz.prog.info? 242).map (·.size) = some (#[a, b] : Array Value).size := by kernel_rfl
set_option maxRecDepth 100000 in
set_option maxHeartbeats 4000000 in
theorem find_any (A : Option Addr) (c : Nat) (bs : List UInt8) (z : Int) (w : World) (B : Nat) (hr : Rd w B A bs.length (bs.map bv)) (hB : B ≤ w.heap.size) (hl : bs.length ≤ 1048576) :
    Calls Tryz.prog 188 #[.slice A bs.length c, .int .i64 z] w fun e w' => e = .returned (.agg #[.int .i64 ((Def.findV bs z).1 : Int), .int .i64 ((Def.findV bs z).2 : Int)]) ∧ Below w.heap.size w w' := by
  obtain ⟨G, hG⟩ : ∃ G, w.heap.size = G := ⟨_, rfl⟩
  obtain ⟨w1, hw1⟩ : ∃ W, w.alloc (.cells #[.int .i64 0, .int .i64 0] 242) = W := ⟨_, rfl⟩
  obtain ⟨w2, hw2⟩ : ∃ W, w1.alloc (.cells #[.int .i64 0, .int .i64 0] 242) = W := ⟨_, rfl⟩
  have s1 : w1.heap.size = G + 1 := by rw [← hw1, ← hG]; simp
  have hs2 := hide (show w2.heap.size = G + 1 + 1 from by rw [← hw2, ← s1]; simp)
  have k1 : Blk w1 G 242 #[.int .i64 0, .int .i64 0] := by rw [← hw1, ← hG]; exact Blk.new w _ _
  have k2 : Blk w2 G 242 #[.int .i64 0, .int .i64 0] := by rw [← hw2]; exact k1.alloc _
  have k3 : Blk w2 (G + 1) 242 #[.int .i64 0, .int .i64 0] := by rw [← hw2, ← s1]; exact Blk.new w1 _ _
  have hb2 := hide (show Below G w w2 from by rw [← hw2, ← hw1, ← hG]; exact ((Below.refl _ w).alloc (Nat.le_refl _) _).alloc (by simp) _)
  have x2 : w2.cell? ⟨G, 0, none⟩ = some (.int .i64 0) := k2.cell 0
  have x3 : w2.cell? ⟨G, 1, none⟩ = some (.int .i64 0) := k2.cell 1
  have x4 : w2.cell? ⟨G + 1, 0, none⟩ = some (.int .i64 0) := k3.cell 0
  have x5 : w2.cell? ⟨G + 1, 1, none⟩ = some (.int .i64 0) := k3.cell 1
  have f2 : w2.frozen? ⟨G, 0, none⟩ = false := k2.free 0
  have f3 : w2.frozen? ⟨G, 1, none⟩ = false := k2.free 1
  replace k2 := hide k2
  replace k3 := hide k3
  rw [hG]
  by_cases h : 0 ≤ z ∧ z ≤ bs.length
  · obtain ⟨p, rfl⟩ := Int.eq_ofNat_of_zero_le h.1
    have hp : p ≤ bs.length := by omega
    have hV := hide (show Def.findV bs (p : Int) = Def.mt bs p from by unfold Def.findV; rw [if_pos h]; rfl)
    have hal := hide (show ∀ W, Below G w W → ∀ d : Nat, 1 ≤ d → d ≤ p → Calls Tryz.prog 204 #[.slice A bs.length c, .int .i64 (p : Int), .int .i64 (d : Int)] W fun e w' => e = .returned (.int .i64 ((Def.alike bs p d : Nat) : Int)) ∧ Below W.heap.size W w' from fun W hW d h1 h2 => alike_any A c bs p d W B (hr.below (hW.mono (by omega))) (by have := hW.size; omega) hp h1 h2 hl)
    have hmt := hide (Def.mt_best bs p)
    obtain ⟨V, hVV⟩ : ∃ V, Def.findV bs (p : Int) = V := ⟨_, rfl⟩
    rw [hVV] at hV ⊢
    have hal258 := hide (fun d => Def.lcp_le bs p d 258)
    obtain ⟨M, hM⟩ : ∃ M, min 256 p = M := ⟨_, rfl⟩
    rw [hM] at hmt
    have hM256 : M ≤ 256 := by omega
    have hMp : M ≤ p := by omega
    have hMI : (if 256 < (p : Int) then 256 else (p : Int)) = (M : Int) := by split <;> omega
    have hMI2 : (if (p : Int) < 256 then (p : Int) else 256) = (M : Int) := by split <;> omega
    obtain ⟨L, hL⟩ : ∃ L, bs.length = L := ⟨_, rfl⟩
    rw [hL] at hal hp ⊢
    have hpI : (p : Int) ≤ (L : Int) := by omega
    have hp0 : (0 : Int) ≤ (p : Int) := by omega
    have hLp : decide (L < p) = false := decide_eq_false (by omega)
    clear h hr hB hl hVV hM hL
    go_enter Tryz.func188, Tryz.ntmps188
    go_wp2
    clear x2 x3 x4 x5 f2 f3
    go_loopw [6] (fun s6 wr => ∃ (d l b : Nat), d ≤ M ∧ s6 = .int .i64 ((d : Int) + 1) ∧ Hid (Def.Best (Def.alike bs p) d l b) ∧ Hid (Blk wr G 242 #[.int .i64 0, .int .i64 0]) ∧ Hid (Blk wr (G + 1) 242 #[.int .i64 (l : Int), .int .i64 (b : Int)]) ∧ Hid (Below G w wr)) (fun s6 _ => M + 2 - (intOf s6).toNat)
    case atStart => exact ⟨0, 0, 0, by omega, rfl, hide (Def.Best.zero _), k2, k3, hb2⟩
    case round =>
      obtain ⟨d, l, b, hd, rfl, hbest, hk0, hk1, hb⟩ := hrel
      by_cases h1 : d < M
      · obtain ⟨D, hD⟩ : ∃ D, d + 1 = D := ⟨_, rfl⟩
        have eD : (d : Int) + 1 = (D : Int) := by omega
        have hDI : (D : Int) ≤ (M : Int) := by omega
        have hDW : IntKind.i64.wrap ((D : Int) + 1) = (D : Int) + 1 := by rw [IntKind.wrap_i64]; omega
        have hq := hide (hal.out wr hb.out D (by omega) (by omega))
        have hup := hide hbest.out.up
        rw [hD] at hup
        obtain ⟨a, ha⟩ : ∃ a, Def.alike bs p D = a := ⟨_, rfl⟩
        have hab : a ≤ 258 := by rw [← ha]; exact hal258.out D
        rw [ha] at hq hup
        rw [eD]
        replace hD := hide hD
        replace ha := hide ha
        by_cases h3 : 3 ≤ a
        · have h3I : (3 : Int) ≤ (a : Int) := by omega
          by_cases h4 : l < a
          · have h4I : (l : Int) < (a : Int) := by omega
            have hbn := hide (hup.out.1 ⟨h3, h4⟩)
            clear hup hbest
            go_wp2_with (go_at_call 204; (with_reducible refine hq.out.mono ?_); rintro e w3 ⟨rfl, hb3⟩; have k0 := hk0.out.below hb3 hk0.out.lt; have k1 := hk1.out.below hb3 hk1.out.lt; have y0 : w3.cell? ⟨G + 1, 0, none⟩ = some (.int .i64 (l : Int)) := k1.cell 0; have y1 : w3.cell? ⟨G + 1, 1, none⟩ = some (.int .i64 (b : Int)) := k1.cell 1; have g0 : w3.frozen? ⟨G + 1, 0, none⟩ = false := k1.free 0; have g1 : w3.frozen? ⟨G + 1, 1, none⟩ = false := k1.free 1; have hbb := hide (hb.out.trans (hb3.mono (by have := hk0.out.lt; omega))); have k0 := hide k0; have k1 := hide k1; clear hb3)
            go_roundw
            case rel => exact ⟨D, a, D, by omega, rfl, hbn, hide ((k0.out.far (by simp) _).far (by simp) _), hide ((k1.out.set 0 _).set 1 _), hide ((hbb.out.setCell (by simp) _).setCell (by simp) _)⟩
            case measure => simp [intOf] <;> omega
          · have h4I : (a : Int) ≤ (l : Int) := by omega
            have hbn := hide (hup.out.2 (fun h => h4 h.2))
            clear hup hbest
            go_wp2_with (go_at_call 204; (with_reducible refine hq.out.mono ?_); rintro e w3 ⟨rfl, hb3⟩; have k0 := hk0.out.below hb3 hk0.out.lt; have k1 := hk1.out.below hb3 hk1.out.lt; have y0 : w3.cell? ⟨G + 1, 0, none⟩ = some (.int .i64 (l : Int)) := k1.cell 0; have y1 : w3.cell? ⟨G + 1, 1, none⟩ = some (.int .i64 (b : Int)) := k1.cell 1; have g0 : w3.frozen? ⟨G + 1, 0, none⟩ = false := k1.free 0; have g1 : w3.frozen? ⟨G + 1, 1, none⟩ = false := k1.free 1; have hbb := hide (hb.out.trans (hb3.mono (by have := hk0.out.lt; omega))); have k0 := hide k0; have k1 := hide k1; clear hb3)
            go_roundw
            case rel => exact ⟨D, l, b, by omega, rfl, hbn, k0, k1, hbb⟩
            case measure => simp [intOf] <;> omega
        · have h3I : (a : Int) < 3 := by omega
          have hbn := hide (hup.out.2 (fun h => h3 h.1))
          clear hup hbest
          go_wp2_with (go_at_call 204; (with_reducible refine hq.out.mono ?_); rintro e w3 ⟨rfl, hb3⟩; have k0 := hk0.out.below hb3 hk0.out.lt; have k1 := hk1.out.below hb3 hk1.out.lt; have y0 : w3.cell? ⟨G + 1, 0, none⟩ = some (.int .i64 (l : Int)) := k1.cell 0; have y1 : w3.cell? ⟨G + 1, 1, none⟩ = some (.int .i64 (b : Int)) := k1.cell 1; have g0 : w3.frozen? ⟨G + 1, 0, none⟩ = false := k1.free 0; have g1 : w3.frozen? ⟨G + 1, 1, none⟩ = false := k1.free 1; have hbb := hide (hb.out.trans (hb3.mono (by have := hk0.out.lt; omega))); have k0 := hide k0; have k1 := hide k1; clear hb3)
          go_roundw
          case rel => exact ⟨D, l, b, by omega, rfl, hbn, k0, k1, hbb⟩
          case measure => simp [intOf] <;> omega
      · obtain rfl : d = M := by omega
        have hlt : (d : Int) < (d : Int) + 1 := by omega
        obtain ⟨u1, u2⟩ := hbest.out.uniq hmt.out
        subst u1 u2
        have y0 : wr.cell? ⟨G + 1, 0, none⟩ = some (.int .i64 ((Def.mt bs p).1 : Int)) := hk1.out.cell 0
        have y1 : wr.cell? ⟨G + 1, 1, none⟩ = some (.int .i64 ((Def.mt bs p).2 : Int)) := hk1.out.cell 1
        have y2 : wr.cell? ⟨G, 0, none⟩ = some (.int .i64 0) := hk0.out.cell 0
        have y3 : wr.cell? ⟨G, 1, none⟩ = some (.int .i64 0) := hk0.out.cell 1
        have g0 : wr.frozen? ⟨G, 0, none⟩ = false := hk0.out.free 0
        have g1 : wr.frozen? ⟨G, 1, none⟩ = false := hk0.out.free 1
        clear hbest hmt hal
        go_wp2
        exact bodyPost_ret_by (results_cell_row rfl _ _ G 242 #[.int .i64 ((Def.mt bs p).1 : Int), .int .i64 ((Def.mt bs p).2 : Int)] (0, 0) _ rfl ((hk0.out.set 0 _).set 1 _) Tryz.underlying242 rfl (info_match _ _)) rfl ⟨by rw [hV.out], (hb.out.setCell (by simp) _).setCell (by simp) _⟩
  · have hV := hide (show Def.findV bs z = (0, 0) from by unfold Def.findV; rw [if_neg h])
    have hc : z < 0 ∨ (0 ≤ z ∧ (bs.length : Int) < z) := by omega
    clear h hr hB hl
    generalize bs.length = L at *
    rcases hc with h1 | ⟨h1, h2⟩
    all_goals
      go_enter Tryz.func188, Tryz.ntmps188
      go_wp2
      exact bodyPost_ret_by (results_cell_row rfl _ _ G 242 #[.int .i64 0, .int .i64 0] (0, 0) _ rfl ((k2.out.set 0 _).set 1 _) Tryz.underlying242 rfl (info_match _ _)) rfl ⟨by rw [hV.out]; rfl, (hb2.out.setCell (by simp) _).setCell (by simp) _⟩
end Go.Proofs.YtaapjampmnanmaaGreat
namespace Go.Proofs.YtaapjampmnanmaaGreat
open Go.RowKit Go.Shelf
attribute [local go_sem] Oper.semAt_some
def Hang (g : Nat) (W : World) (k : Nat) : Prop := k = g ∨ ∃ A n c, W.cell? ⟨g, 0, none⟩ = some (.slice A n c) ∧ blk A = some k
def Hung (g gb m : Nat) (W : World) : Prop := ∀ k, Hang g W k → k < W.heap.size ∧ k ≠ gb ∧ m ≤ k
structure KeepH (g : Nat) (W W' : World) : Prop where
  size : W.heap.size ≤ W'.heap.size
  keep : ∀ k cs t fz, W.heap[k]? = some (.cells cs t fz) → ¬ Hang g W k → W'.heap[k]? = some (.cells cs t fz)
  new : ∀ k, k < W.heap.size → Hang g W' k → Hang g W k
def KpH (g gb m : Nat) (W W' : World) : Prop := Hung g gb m W → KeepH g W W' ∧ Hung g gb m W'
theorem KpH.trans {g gb m : Nat} {A B C : World} (h : KpH g gb m A B) (k : KpH g gb m B C) : KpH g gb m A C := fun hA => by
  obtain ⟨h1, h2⟩ := h hA
  obtain ⟨k1, k2⟩ := k h2
  refine ⟨⟨Nat.le_trans h1.size k1.size, fun i cs t fz hi hn => ?_, fun i hi hh => h1.new i hi (k1.new i (Nat.lt_of_lt_of_le hi h1.size) hh)⟩, k2⟩
  exact k1.keep i cs t fz (h1.keep i cs t fz hi hn) (fun hb => hn (h1.new i (lt_of_block hi) hb))
theorem Hang.below {g k : Nat} {W W' : World} (hg : g < W.heap.size) (hb : Below W.heap.size W W') : Hang g W' k ↔ Hang g W k := by
  unfold Hang
  rw [hb.cell (p := ⟨g, 0, none⟩) hg]
theorem Hung.below {g gb m : Nat} {W W' : World} (h : Hung g gb m W) (hb : Below W.heap.size W W') : Hung g gb m W' := fun k hk => by
  obtain ⟨h1, h2, h3⟩ := h k ((Hang.below (h g (.inl rfl)).1 hb).1 hk)
  exact ⟨Nat.lt_of_lt_of_le h1 hb.size, h2, h3⟩
theorem KpH.below {g gb m : Nat} {W W' : World} (hb : Below W.heap.size W W') : KpH g gb m W W' := fun h =>
  ⟨⟨hb.size, fun k _ _ _ hk _ => (hb.block k (lt_of_block hk)).trans hk, fun _ _ hk => (Hang.below (h g (.inl rfl)).1 hb).1 hk⟩, h.below hb⟩
theorem KpH.putObj {g gb m : Nat} {w : World} (hg : g < w.heap.size) (W : World) (l : Nat) (o o' : Obj) (hl : w.heap.size ≤ l) (h : W.heap[l]? = some o) (ho : o.isCells = false) (_ : o.isWalk = false) : KpH g gb m W (W.putObj l o') := fun hh => by
  have hne : g ≠ l := by omega
  have hc : (W.putObj l o').cell? ⟨g, 0, none⟩ = W.cell? ⟨g, 0, none⟩ := World.cell?_of_block (w := W) (World.putObj_heap_other hne)
  have hhang : ∀ k, Hang g (W.putObj l o') k ↔ Hang g W k := fun k => by unfold Hang; rw [hc]
  refine ⟨⟨by simp, fun k cs t fz hk _ => ?_, fun k _ hk => (hhang k).1 hk⟩, fun k hk => ?_⟩
  · have : k ≠ l := by
      rintro rfl
      rw [h] at hk
      injection hk with hk
      subst hk
      cases ho
    exact (World.putObj_heap_other this).trans hk
  · obtain ⟨h1, h2, h3⟩ := hh k ((hhang k).1 hk)
    exact ⟨by simpa using h1, h2, h3⟩
def Def.Good (t : Nat × Nat) : Prop := (t.1 = 0 ∧ t.2 ≤ 255) ∨ (3 ≤ t.1 ∧ t.1 ≤ 258 ∧ 1 ≤ t.2 ∧ t.2 ≤ 256)
abbrev Tk := { t : Nat × Nat // Def.Good t }
def tv (t : Nat × Nat) : Value := .agg #[.int .i64 (t.1 : Int), .int .i64 (t.2 : Int)]
theorem matches_any (A : Option Addr) (L c : Nat) (w : World) : Calls Tryz.prog 165 #[.slice A L c] w fun e w' => e = .returned (.func (.func 187) #[] #[.pointer (some ⟨w.heap.size, 0, none⟩)]) ∧ w' = w.alloc (.cells #[.slice A L c] 22) := by
  go_enter Tryz.func165, Tryz.ntmps165
  go_wp2
  go_ret
  exact ⟨rfl, rfl⟩
theorem row_of_cell {W : World} {b o : Nat} {v : Value} (h : W.cell? ⟨b, o, none⟩ = some v) : ∃ cs t fz, W.heap[b]? = some (.cells cs t fz) := by
  unfold World.cell? at h
  simp only at h
  cases hh : W.heap[b]? with
  | none => rw [hh] at h; cases h
  | some ob =>
    rw [hh] at h
    cases ob with
    | cells cs t fz => exact ⟨cs, t, fz, rfl⟩
    | _ => cases h
theorem KeepH.cell {g b o : Nat} {W W' : World} {v : Value} (h : KeepH g W W') (hc : W.cell? ⟨b, o, none⟩ = some v) (hn : ¬ Hang g W b) : W'.cell? ⟨b, o, none⟩ = some v := by
  obtain ⟨cs, t, fz, hb⟩ := row_of_cell hc
  rw [← hc]
  exact World.cell?_of_block (w := W) ((h.keep b cs t fz hb hn).trans hb.symm)
theorem KeepH.rd {g gb m B n : Nat} {W W' : World} {A : Option Addr} {xs : List Value} (h : KeepH g W W') (hh : Hung g gb m W) (hB : B ≤ m) (hr : Rd W B A n xs) : Rd W' B A n xs :=
  ⟨hr.1, fun j hj => by
    obtain ⟨b, o, e, hb, hc⟩ := hr.2 j hj
    have hj' : j < xs.length := by rw [hr.1]; exact hj
    rw [List.getElem?_eq_getElem hj'] at hc
    refine ⟨b, o, e, hb, ?_⟩
    rw [List.getElem?_eq_getElem hj']
    exact h.cell hc (fun hk => by have := (hh b hk).2.2; omega)⟩
set_option maxRecDepth 100000 in
set_option maxHeartbeats 4000000 in
theorem matches_stops (n : Nat) (hn : 3 ≤ n) (gb g m : Nat) (A : Option Addr) (c : Nat) (bs : List UInt8) (B : Nat) (w0 : World) (hBm : B ≤ m) (hBw : B ≤ w0.heap.size) (hk0 : Blk w0 gb 22 #[.slice A bs.length c]) (hr0 : Rd w0 B A bs.length (bs.map bv)) (hh0 : Hung g gb m w0) (hl : bs.length ≤ 1048576) :
    SeqStopsK Fence.wide n Tryz.prog 187 #[.pointer (some ⟨gb, 0, none⟩)] (fun x : Tk => #[tv x.1]) (KpH g gb m) (fun xs => xs.map (·.1) = Def.parse bs) (fun _ => True) bs.length w0 := by
  intro l J Jx W hW hJ hJx hY h0
  have hJm : Hid (∀ pre W1 W2, J pre W1 → Below W1.heap.size W1 W2 → J pre W2) := hide (fun pre W1 W2 hj hb => hJ pre W1 W2 none hj ⟨hb.os, hb.tape, hb.output, hb.size, fun k hk _ => hb.block k hk⟩ (fun r e => by cases e))
  have hkW := hide (hk0.below hW hk0.lt)
  have hrW := hide (hr0.below (hW.mono hBw))
  have hhW := hide (hh0.below hW)
  have hBW := hide (Nat.le_trans hBw hW.size)
  have hY' := hide hY
  clear hY hJ hJx hW hk0 hr0 hh0 hBw
  obtain ⟨L, hL⟩ : ∃ L, bs.length = L := ⟨_, rfl⟩
  have hLI : (L : Int) ≤ 1048576 := by omega
  have hpar := hide (show Def.parse bs = ([] : List Tk).map (·.1) ++ Def.rest bs 0 from rfl)
  rw [hL] at hkW hrW hY'
  refine callsIn_of_wp Tryz.func187 rfl trivial ?_ rfl
  simp only [Tryz.ntmps187, List.size_toArray, List.length_cons, List.length_nil, Nat.reduceAdd, Nat.reduceSub, Array.replicate_succ, Array.replicate_zero, List.push_toArray, List.append_toArray, List.nil_append, List.cons_append]
  gi_wp2
  gi_loopw [3] (fun i wr => ∃ (p : Nat) (pre : List Tk), p ≤ L ∧ i = .int .i64 (p : Int) ∧ Hid (Def.parse bs = pre.map (·.1) ++ Def.rest bs p) ∧ Hid (pre.length ≤ p) ∧ Hid (J pre wr) ∧ Hid (Hung g gb m wr) ∧ Hid (Blk wr gb 22 #[.slice A L c]) ∧ Hid (Rd wr B A L (bs.map bv)) ∧ Hid (B ≤ wr.heap.size)) (fun i _ => L - (intOf i).toNat)
  case atStart => exact ⟨0, [], by omega, rfl, hpar, hide (by simp), hide h0, hhW, hkW, hrW, hBW⟩
  case round =>
    obtain ⟨p, pre, hp, rfl, hpre, hlen, hJp, hh, hk, hr, hB⟩ := hrel
    have hn1 : 1 ≤ n := by omega
    have c1 : wr.cell? ⟨gb, 0, none⟩ = some (.slice A L c) := hk.out.cell 0
    by_cases hlt : p < L
    · have hpI : (p : Int) < (L : Int) := by omega
      have hp0 : (0 : Int) ≤ (p : Int) := by omega
      have hf := hide (find_any A c bs (p : Int) wr B (by rw [hL]; exact hr.out) hB.out hl)
      rw [show Def.findV bs (p : Int) = Def.mt bs p from by unfold Def.findV; rw [if_pos (by omega)]; rfl, hL] at hf
      obtain ⟨hm1, hm2, hm3, hm4⟩ := Def.mt_len bs p (by omega)
      have hb0 := Def.mt_best bs p
      have htok := hide (show Def.tok bs p = if (Def.mt bs p).1 = 0 then (0, (bs.getD p 0).toNat) else Def.mt bs p from rfl)
      obtain ⟨b, o, hA, hbB, hcp⟩ := hr.out.byte (j := p) hlt
      have hpb := hide (show p < bs.length from by omega)
      have hgx : bs.getD p 0 = bs[p]'(by omega) := bsAt bs p (by omega)
      obtain ⟨X, hX⟩ : ∃ X : Nat, (bs.getD p 0).toNat = X := ⟨_, rfl⟩
      rw [← hgx, hX] at hcp
      have hX8 : X ≤ 255 := by rw [← hX]; exact toNat_le _
      rw [hX] at htok
      subst hA
      obtain ⟨l1, hl1⟩ : ∃ l1, (Def.mt bs p).1 = l1 := ⟨_, rfl⟩
      obtain ⟨d1, hd1⟩ : ∃ d1, (Def.mt bs p).2 = d1 := ⟨_, rfl⟩
      have hmt : Def.mt bs p = (l1, d1) := by rw [← hl1, ← hd1]
      rw [hmt] at htok hf
      rw [hl1, hL] at hm1
      rw [hl1] at hm2 hm4
      rw [hd1] at hm3 hm4
      rw [hl1, hd1] at hb0
      simp only at hf
      clear hX hgx hl1 hd1 hmt
      by_cases hz : l1 = 0
      · subst hz
        have hd0 : d1 = 0 := by
          rcases hb0 with ⟨_, h2, _⟩ | ⟨h1, _⟩
          · exact h2
          · omega
        subst hd0
        replace htok := hide (show Def.tok bs p = (0, X) from by rw [htok.out, if_pos rfl])
        have hstp := hide (show Def.stp (0, X) = 1 from rfl)
        have hp1 : IntKind.i64.wrap ((p : Int) + 1) = (p : Int) + 1 := by rw [IntKind.wrap_i64]; omega
        have hX64 : IntKind.i64.wrap (X : Int) = (X : Int) := by rw [IntKind.wrap_i64]; omega
        rw [show ((0 : Nat) : Int) = 0 from rfl] at hf
        clear hb0 hm1 hm2 hm3 hm4
        gi_wp2_with (refine ⟨trivial, ?_⟩; gi_at_call 188; refine (callsIn_wide.2 hf.out).mono ?_; rintro e w2 ⟨rfl, hb2⟩; obtain ⟨S, hS⟩ : ∃ S, w2.heap.size = S := ⟨_, rfl⟩; obtain ⟨w3, hw3⟩ : ∃ W, w2.alloc (.cells #[.int .i64 0, .int .i64 0] 242) = W := ⟨_, rfl⟩; have k3 : Blk w3 S 242 #[.int .i64 0, .int .i64 0] := (by rw [← hw3, ← hS]; exact Blk.new w2 _ _); have x30 : w3.cell? ⟨S, 0, none⟩ = some (.int .i64 0) := k3.cell 0; have x31 : w3.cell? ⟨S, 1, none⟩ = some (.int .i64 0) := k3.cell 1; have f30 : w3.frozen? ⟨S, 0, none⟩ = false := k3.free 0; have f31 : w3.frozen? ⟨S, 1, none⟩ = false := k3.free 1; obtain ⟨w4, hw4⟩ : ∃ W, (w3.setCell ⟨S, 0, none⟩ (.int .i64 0)).setCell ⟨S, 1, none⟩ (.int .i64 0) = W := ⟨_, rfl⟩; have k4 : Blk w4 S 242 #[.int .i64 0, .int .i64 0] := (by rw [← hw4]; exact (k3.set 0 _).set 1 _); have hSS := hide (show wr.heap.size ≤ S from by have := hb2.size; omega); have b3 : Below wr.heap.size wr w3 := (by rw [← hw3]; exact hb2.alloc hb2.size _); have b4 : Below wr.heap.size wr w4 := (by rw [← hw4]; exact (b3.setCell hSS.out _).setCell hSS.out _); have x40 : w4.cell? ⟨S, 0, none⟩ = some (.int .i64 0) := k4.cell 0; have x41 : w4.cell? ⟨S, 1, none⟩ = some (.int .i64 0) := k4.cell 1; have f41 : w4.frozen? ⟨S, 1, none⟩ = false := k4.free 1; have c4 : w4.cell? ⟨gb, 0, none⟩ = some (.slice (some ⟨b, o, none⟩) L c) := (hk.out.below b4 hk.out.lt).cell 0; have xb : w4.cell? ⟨b, o + p, none⟩ = some (.int .u8 (X : Int)) := (b4.cell (p := ⟨b, o + p, none⟩) (Nat.lt_of_lt_of_le hbB hB.out)).trans hcp; obtain ⟨w5, hw5⟩ : ∃ W, w4.setCell ⟨S, 1, none⟩ (.int .i64 (X : Int)) = W := ⟨_, rfl⟩; have k5 : Blk w5 S 242 #[.int .i64 0, .int .i64 (X : Int)] := (by rw [← hw5]; exact k4.set 1 _); have x50 : w5.cell? ⟨S, 0, none⟩ = some (.int .i64 0) := k5.cell 0; have x51 : w5.cell? ⟨S, 1, none⟩ = some (.int .i64 (X : Int)) := k5.cell 1; have b5 := hide (show Below wr.heap.size wr w5 from by rw [← hw5]; exact b4.setCell hSS.out _); have J5 := hJm.out pre wr w5 hJp.out b5.out; obtain ⟨fn, tmps, assign, body, hy, hR⟩ := hY'.out pre ⟨(0, X), .inl ⟨rfl, hX8⟩⟩ w5 J5 (by have := hlen.out; omega); have k3 := hide k3; have k4 := hide k4; have k5 := hide k5; have b3 := hide b3; have b4 := hide b4; simp only [tv] at hy; rw [show ((0 : Nat) : Int) = 0 from rfl] at hy; clear J5 hb2)
        refine hR.mono ?_
        rintro e W6 (⟨rfl, hJ6, hk6⟩ | ⟨rfl, hJx6⟩)
        · have hh5 := hide (hh.out.below b5.out)
          obtain ⟨hkeep, hh6⟩ := hk6 hh5.out
          have y0 : W6.cell? ⟨S, 0, none⟩ = some (.int .i64 0) := hkeep.cell x50 (fun hx => by have := (hh.out S ((Hang.below (hh.out g (.inl rfl)).1 b5.out).1 hx)).1; have := hSS.out; omega)
          have hk6' := hide (show Blk W6 gb 22 #[.slice (some ⟨b, o, none⟩) L c] from hkeep.keep gb _ _ _ (hk.out.below b5.out hk.out.lt) (fun hx => (hh5.out gb hx).2.1 rfl))
          have hr6 := hide (hkeep.rd hh5.out hBm (hr.out.below (b5.out.mono hB.out)))
          have hB6 := hide (Nat.le_trans hB.out (Nat.le_trans b5.out.size hkeep.size))
          have hpre2 := hide (show Def.parse bs = (pre ++ [(⟨(0, X), .inl ⟨rfl, hX8⟩⟩ : Tk)]).map (·.1) ++ Def.rest bs (p + 1) from by rw [hpre.out, Def.rest_step bs p hpb.out, htok.out, hstp.out, List.map_append, List.append_assoc]; rfl)
          have hlen2 := hide (show (pre ++ [(⟨(0, X), .inl ⟨rfl, hX8⟩⟩ : Tk)]).length ≤ p + 1 from by rw [List.length_append]; have := hlen.out; simp; omega)
          replace hJ6 := hide hJ6
          replace hh6 := hide hh6
          clear hkeep hk6
          gi_wp2
          go_roundw
          case rel => exact ⟨p + 1, _, by omega, by go_num, hpre2, hlen2, hJ6, hh6, hk6', hr6, hB6⟩
          case measure => simp [intOf] <;> omega
        · gi_wp2
          refine bodyPost_ret (results_none rfl _ _ _) rfl ?_
          exact ⟨⟨_, rfl⟩, .inr ⟨_, trivial, hJx6⟩⟩
      · replace htok := hide (show Def.tok bs p = (l1, d1) from by rw [htok.out, if_neg hz])
        have hstp := hide (show Def.stp (l1, d1) = l1 from if_neg hz)
        obtain ⟨h3, h4⟩ : 3 ≤ l1 ∧ 1 ≤ d1 := by omega
        have hlI : (3 : Int) ≤ (l1 : Int) := by omega
        have hlz : ((l1 : Int) == 0) = false := by simp; omega
        have hmx1 : (if (l1 : Int) < 1 then 1 else (l1 : Int)) = (l1 : Int) := if_neg (by omega)
        have hmx2 : (if (1 : Int) < (l1 : Int) then (l1 : Int) else 1) = (l1 : Int) := if_pos (by omega)
        have hp1 : IntKind.i64.wrap ((p : Int) + (l1 : Int)) = (p : Int) + (l1 : Int) := by rw [IntKind.wrap_i64]; omega
        clear hb0 hz
        gi_wp2_with (refine ⟨trivial, ?_⟩; gi_at_call 188; refine (callsIn_wide.2 hf.out).mono ?_; rintro e w2 ⟨rfl, hb2⟩; obtain ⟨S, hS⟩ : ∃ S, w2.heap.size = S := ⟨_, rfl⟩; obtain ⟨w3, hw3⟩ : ∃ W, w2.alloc (.cells #[.int .i64 0, .int .i64 0] 242) = W := ⟨_, rfl⟩; have k3 : Blk w3 S 242 #[.int .i64 0, .int .i64 0] := (by rw [← hw3, ← hS]; exact Blk.new w2 _ _); have x30 : w3.cell? ⟨S, 0, none⟩ = some (.int .i64 0) := k3.cell 0; have x31 : w3.cell? ⟨S, 1, none⟩ = some (.int .i64 0) := k3.cell 1; have f30 : w3.frozen? ⟨S, 0, none⟩ = false := k3.free 0; have f31 : w3.frozen? ⟨S, 1, none⟩ = false := k3.free 1; obtain ⟨w4, hw4⟩ : ∃ W, (w3.setCell ⟨S, 0, none⟩ (.int .i64 (l1 : Int))).setCell ⟨S, 1, none⟩ (.int .i64 (d1 : Int)) = W := ⟨_, rfl⟩; have k4 : Blk w4 S 242 #[.int .i64 (l1 : Int), .int .i64 (d1 : Int)] := (by rw [← hw4]; exact (k3.set 0 _).set 1 _); have hSS := hide (show wr.heap.size ≤ S from by have := hb2.size; omega); have b3 : Below wr.heap.size wr w3 := (by rw [← hw3]; exact hb2.alloc hb2.size _); have b4 : Below wr.heap.size wr w4 := (by rw [← hw4]; exact (b3.setCell hSS.out _).setCell hSS.out _); have x40 : w4.cell? ⟨S, 0, none⟩ = some (.int .i64 (l1 : Int)) := k4.cell 0; have x41 : w4.cell? ⟨S, 1, none⟩ = some (.int .i64 (d1 : Int)) := k4.cell 1; have b5 := hide b4; have J5 := hJm.out pre wr w4 hJp.out b5.out; obtain ⟨fn, tmps, assign, body, hy, hR⟩ := hY'.out pre ⟨(l1, d1), .inr ⟨h3, hm2, h4, hm3⟩⟩ w4 J5 (by have := hlen.out; omega); have k3 := hide k3; have k4 := hide k4; have b3 := hide b3; have b4 := hide b4; simp only [tv] at hy; clear J5 hb2)
        refine hR.mono ?_
        rintro e W6 (⟨rfl, hJ6, hk6⟩ | ⟨rfl, hJx6⟩)
        · have hh5 := hide (hh.out.below b5.out)
          obtain ⟨hkeep, hh6⟩ := hk6 hh5.out
          have y0 : W6.cell? ⟨S, 0, none⟩ = some (.int .i64 (l1 : Int)) := hkeep.cell x40 (fun hx => by have := (hh.out S ((Hang.below (hh.out g (.inl rfl)).1 b5.out).1 hx)).1; have := hSS.out; omega)
          have hk6' := hide (show Blk W6 gb 22 #[.slice (some ⟨b, o, none⟩) L c] from hkeep.keep gb _ _ _ (hk.out.below b5.out hk.out.lt) (fun hx => (hh5.out gb hx).2.1 rfl))
          have hr6 := hide (hkeep.rd hh5.out hBm (hr.out.below (b5.out.mono hB.out)))
          have hB6 := hide (Nat.le_trans hB.out (Nat.le_trans b5.out.size hkeep.size))
          have hpre2 := hide (show Def.parse bs = (pre ++ [(⟨(l1, d1), .inr ⟨h3, hm2, h4, hm3⟩⟩ : Tk)]).map (·.1) ++ Def.rest bs (p + l1) from by rw [hpre.out, Def.rest_step bs p hpb.out, htok.out, hstp.out, List.map_append, List.append_assoc]; rfl)
          have hlen2 := hide (show (pre ++ [(⟨(l1, d1), .inr ⟨h3, hm2, h4, hm3⟩⟩ : Tk)]).length ≤ p + l1 from by rw [List.length_append]; have := hlen.out; simp; omega)
          replace hJ6 := hide hJ6
          replace hh6 := hide hh6
          clear hkeep hk6
          gi_wp2
          go_roundw
          case rel => exact ⟨p + l1, _, by omega, by go_num, hpre2, hlen2, hJ6, hh6, hk6', hr6, hB6⟩
          case measure => simp [intOf] <;> omega
        · gi_wp2
          refine bodyPost_ret (results_none rfl _ _ _) rfl ?_
          exact ⟨⟨_, rfl⟩, .inr ⟨_, trivial, hJx6⟩⟩
    · obtain rfl : p = L := by omega
      have hend := hide (show Def.parse bs = pre.map (·.1) from by rw [hpre.out, Def.rest_end bs p (by omega), List.append_nil])
      gi_wp2
      go_end0
      exact ⟨⟨_, rfl⟩, .inl ⟨pre, hend.out.symm, hJp.out⟩⟩
end Go.Proofs.YtaapjampmnanmaaGreat
namespace Go.Proofs.YtaapjampmnanmaaGreat
open Go.RowKit
def Calm (W W' : World) : Prop := Chg (fun k => ∃ o : Obj, W.heap[k]? = some o ∧ o.isCells = false) W W'
theorem calm_of {W W' : World} {row : Option Nat} (h : W.grownBy W' row) (hr : ∀ r, row = some r → ∃ o : Obj, W.heap[r]? = some o ∧ o.isCells = false) : Calm W W' :=
  (chg_of_grown h).mono (fun i _ hi => hr i hi)
theorem calm_cells {W : World} {k : Nat} {cs : Array Value} {t : TypeId} {fz : Nat × Nat} (h : W.heap[k]? = some (.cells cs t fz)) : ¬ ∃ o : Obj, W.heap[k]? = some o ∧ o.isCells = false := by
  rintro ⟨o, ho, hc⟩
  rw [h] at ho
  injection ho with ho
  subst ho
  cases hc
theorem Blk.calm {W W' : World} {g : Nat} {t : TypeId} {cs : Array Value} (h : Blk W g t cs) (hc : Calm W W') : Blk W' g t cs := h.chg hc (calm_cells h)
theorem Ow.calm {W W' : World} {base n c : Nat} {e : TypeId} {A : Option Addr} {xs : List Value} (h : Ow W base e A n c xs) (hc : Calm W W') : Ow W' base e A n c xs := by
  refine h.chg hc (fun g hg => ?_)
  rcases h.2 with ⟨hv, _⟩ | ⟨g', cap, cur, hv, _, hh, _⟩
  · injection hv with e1
    rw [e1] at hg
    simp [blk] at hg
  · injection hv with e1
    rw [e1] at hg
    have : g' = g := by simpa [blk] using hg
    subst this
    exact calm_cells hh
theorem WrAt.calm {B g : Nat} {W W' : World} {l : List Bool} (h : WrAt B W g l) (hc : Calm W W') : WrAt B W' g l := by
  obtain ⟨A, ⟨c, hk, ho⟩, h2, h3⟩ := h
  exact ⟨A, ⟨c, hk.calm hc, ho.calm hc⟩, h2, Nat.le_trans h3 hc.size⟩
theorem CodeAt.calm {B g : Nat} {W W' : World} {ls : List Nat} (h : CodeAt B W g ls) (hc : Calm W W') : CodeAt B W' g ls := by
  obtain ⟨Ab, cb, Al, cl, Ao, co, h⟩ := h
  obtain ⟨cs, hk, hr⟩ := h.cells
  exact ⟨Ab, cb, Al, cl, Ao, co, ⟨cs, hk.calm hc, hr⟩, h.hg, h.ob.calm hc, h.ol.calm hc, fun s hs => (h.oo s hs).calm hc, h.apart, h.apartL⟩
structure Stp (g : Nat) (w w' : World) : Prop where
  x : KeepX w w'
  o : KeepsOthers w w'
  h : ∀ gb m, gb < w.heap.size → m ≤ w.heap.size → KpH g gb m w w'
theorem Stp.below {g : Nat} {w w' : World} (hb : Below w.heap.size w w') : Stp g w w' :=
  ⟨KeepX.below hb, ⟨hb.size, fun k _ hk _ => (hb.block k ((Array.getElem?_eq_some_iff.1 hk).1)).trans hk⟩, fun _ _ _ _ => KpH.below hb⟩
theorem Stp.trans {g : Nat} {a b c : World} (h : Stp g a b) (k : Stp g b c) : Stp g a c :=
  ⟨h.x.trans k.x, h.o.trans k.o, fun gb m hg hm => (h.h gb m hg hm).trans (k.h gb m (Nat.lt_of_lt_of_le hg h.x.1) (Nat.le_trans hm h.x.1))⟩
theorem hang_wr {B g : Nat} {A : Option Addr} {w : World} {l : List Bool} (h : WrIs w B g A l) (k : Nat) : Hang g w k ↔ (k = g ∨ blk A = some k) := by
  obtain ⟨c, hk, _⟩ := h
  unfold Hang
  have hc : w.cell? ⟨g, 0, none⟩ = some (.slice A (Bit.size l.length) c) := hk.cell 0
  constructor
  · rintro (h1 | ⟨A', n', c', h1, h2⟩)
    · exact .inl h1
    · rw [hc] at h1
      injection h1 with h1
      injection h1 with h1
      subst h1
      exact .inr h2
  · rintro (h1 | h1)
    · exact .inl h1
    · exact .inr ⟨A, _, _, hc, h1⟩
theorem Stp.wr {B g : Nat} {A : Option Addr} {w w' : World} {l l' : List Bool} (h : WrIs w B g A l) (hp : WrPost w B g A l' w') : Stp g w w' := by
  have hx := KeepX.wr h hp
  obtain ⟨A', h1, h2, h3⟩ := hp
  have hcell : ∀ k, (k = g ∨ blk A = some k) → ∃ cs t fz, w.heap[k]? = some (.cells cs t fz) := by
    obtain ⟨c, hk, ho⟩ := h
    rintro k (rfl | hk')
    · exact ⟨_, _, _, hk⟩
    · rcases ho.2 with ⟨hv, _⟩ | ⟨g', cap, cur, hv, _, hh, _⟩
      · injection hv with e1
        rw [e1] at hk'
        simp [blk] at hk'
      · injection hv with e1
        rw [e1] at hk'
        have : g' = k := by simpa [blk] using hk'
        subst this
        exact ⟨_, _, _, hh⟩
  refine ⟨hx, ⟨h2.size, fun k o hk ho => ?_⟩, fun gb m hgb hm hh => ?_⟩
  · refine (h2.block k ((Array.getElem?_eq_some_iff.1 hk).1) (fun hr => ?_)).trans hk
    obtain ⟨cs, t, fz, hc⟩ := hcell k hr
    rw [hc] at hk
    injection hk with hk
    subst hk
    cases ho
  · have hng : ∀ k, Hang g w' k → Hang g w k ∨ (w.heap.size ≤ k ∧ k < w'.heap.size) := fun k hk => by
      rcases (hang_wr h1 k).1 hk with rfl | hk
      · exact .inl (.inl rfl)
      · rcases h3 with h3 | ⟨i, hi, h3⟩
        · exact .inl ((hang_wr h k).2 (.inr (by rw [← h3]; exact hk)))
        · rw [h3] at hk
          injection hk with hk
          subst hk
          obtain ⟨c, _, ho⟩ := h1
          exact .inr ⟨hi, (ho.blk_lt i h3).2⟩
    refine ⟨⟨h2.size, fun k cs t fz hk hn => (h2.block k (lt_of_block hk) (fun hr => hn ((hang_wr h k).2 hr))).trans hk, fun k hk hk' => ?_⟩, fun k hk => ?_⟩
    · rcases hng k hk' with h4 | ⟨h4, _⟩
      · exact h4
      · omega
    · rcases hng k hk with h4 | ⟨h4, h5⟩
      · obtain ⟨g1, g2, g3⟩ := hh k h4
        exact ⟨Nat.lt_of_lt_of_le g1 h2.size, g2, g3⟩
      · exact ⟨h5, by omega, by omega⟩
theorem ktbits {B g : Nat} {w : World} {l : List Bool} (h : WrAt B w g l) (v n : Nat) (hl : l.length ≤ 1000000000000) (hv : v < 4294967296) (hn : n ≤ 32) :
    Calls Tryz.prog 161 #[.pointer (some ⟨g, 0, none⟩), .int .u32 (v : Int), .int .i64 (n : Int)] w fun e w' => e = .returned (.int .i64 0) ∧ WrAt B w' g (l ++ Bit.low v n) ∧ Below B w w' ∧ Stp g w w' := by
  obtain ⟨A, h1, h2, h3⟩ := h
  refine (wbits_ok g A l v n w B h1 h3 hl hv hn).mono ?_
  rintro e w' ⟨he, hp⟩
  exact ⟨he, (wr_step h1 h2 h3 hp).1, (wr_step h1 h2 h3 hp).2.1, Stp.wr h1 hp⟩
theorem ktturned {B g : Nat} {w : World} {l : List Bool} (h : WrAt B w g l) (v n : Nat) (hl : l.length ≤ 1000000000000) (hv : v < 4294967296) (hn : n ≤ 32) :
    Calls Tryz.prog 190 #[.pointer (some ⟨g, 0, none⟩), .int .u32 (v : Int), .int .i64 (n : Int)] w fun e w' => e = .returned (.int .i64 0) ∧ WrAt B w' g (l ++ (Bit.low v n).reverse) ∧ Below B w w' ∧ Stp g w w' := by
  obtain ⟨A, h1, h2, h3⟩ := h
  refine (wturned_ok g A l v n w B h1 h3 hl hv hn).mono ?_
  rintro e w' ⟨he, hp⟩
  exact ⟨he, (wr_step h1 h2 h3 hp).1, (wr_step h1 h2 h3 hp).2.1, Stp.wr h1 hp⟩
set_option maxRecDepth 100000 in
theorem kwrite (g gw B0 B : Nat) (ls : List Nat) (L : List Bool) (i : Nat) (w : World) (h : CodeAt B0 w g ls) (hw : WrAt B w gw L) (hL : L.length ≤ 1000000000000) (hn : ls.length ≤ 288) (h15 : ∀ x ∈ ls, x ≤ 15) (hs : Huf.sum ls ≤ 32768) (hi : i < ls.length) (h0 : ls[i] ≠ 0) :
    Calls Tryz.prog 166 #[.pointer (some ⟨g, 0, none⟩), .pointer (some ⟨gw, 0, none⟩), .int .i64 (i : Int)] w fun e w' => e = .returned (.int .i64 0) ∧ WrAt B w' gw (L ++ Huf.word (Huf.bits ls 16 i) ls[i]) ∧ Below B w w' ∧ Stp gw w w' := by
  have hof := hide (of_in g ls i w B0 h hn hi)
  have hy := Huf.bits_lt ls h15 hs i hi
  have hx15 := h15 ls[i] (List.getElem_mem hi)
  generalize ls[i] = x at *
  generalize Huf.bits ls 16 i = y at *
  have hwt := hide (fun k => ktturned (hw.below (below_drewN (Below.refl _ w) k)) y x hL (by omega) (by omega))
  have hxb : ((x : Int) == 0) = false := by simp; omega
  have hBk := hide (fun k => below_drewN (Below.refl B w) k)
  have hBs := hide (fun k => Stp.below (g := gw) (below_drewN (Below.refl w.heap.size w) k))
  clear hy hL h h15 hs hi
  go_enter Tryz.func166, Tryz.ntmps166
  go_wp2_with (first
    | (go_at_call 189; (with_reducible refine hof.out.mono ?_); rintro e w1 ⟨rfl, k1, rfl⟩)
    | (go_at_call 190; (with_reducible refine (hwt.out k1).mono ?_); rintro e w2 ⟨rfl, h2, hb2, hx2⟩))
  go_ret
  exact ⟨rfl, h2, (hBk.out k1).trans hb2, (hBs.out k1).trans hx2⟩
end Go.Proofs.YtaapjampmnanmaaGreat
namespace Go.Proofs.YtaapjampmnanmaaGreat
open Go.RowKit Go.Shelf
attribute [local go_sem] Oper.semAt_some
def ls5 : List Nat := List.replicate 32 5
theorem ls5_fits : Huf.fits ls5 false := .inl (by decide +kernel)
theorem ls5_len : ls5.length = 32 := by decide +kernel
theorem ls5_le : ∀ x ∈ ls5, x ≤ 15 := by decide +kernel
theorem ls5_rd : ((List.range 30).map fun _ => jv 5) ++ [jv 5, jv 5] = (nz ls5).map iv := by rfl
def Def.litB (s : Nat) : List Bool := Huf.word (Huf.bits lsF 16 s) (fixL s)
def Def.dstC (s : Nat) : List Bool := Huf.word (Huf.bits ls5 16 s) 5
def Def.tokB (t : Nat × Nat) : List Bool :=
  if t.1 = 0 then Def.litB t.2
  else Def.litB (257 + Def.top Def.lenB t.1 29) ++ Bit.low (t.1 - Def.lenB (Def.top Def.lenB t.1 29)) (Def.lenX (Def.top Def.lenB t.1 29))
    ++ Def.dstC (Def.top Def.dstB t.2 30) ++ Bit.low (t.2 - Def.dstB (Def.top Def.dstB t.2 30)) (Def.dstX (Def.top Def.dstB t.2 30))
def Def.fixB (bs : List UInt8) : List Bool := [true, true, false] ++ (Def.parse bs).flatMap Def.tokB ++ Def.litB 256
theorem Def.top_lt (B : Nat → Nat) (n m : Nat) (hm : 0 < m) : Def.top B n m < m := by
  induction m with
  | zero => omega
  | succ m ih =>
    rw [Def.top]
    split
    · omega
    · rcases Nat.eq_zero_or_pos m with rfl | h
      · simp [Def.top]
      · have := ih h
        omega
theorem word_len (y x : Nat) : (Huf.word y x).length = x := by simp [Huf.word, Bit.low]
theorem low_len13 (v n : Nat) : (Bit.low v n).length = n := by simp [Bit.low]
theorem fixL_le (s : Nat) : fixL s ≤ 9 ∧ fixL s ≠ 0 := by unfold fixL; split <;> (try split) <;> omega
theorem Def.tokB_len (t : Nat × Nat) : (Def.tokB t).length ≤ 60 := by
  unfold Def.tokB Def.litB Def.dstC
  have h1 := (fixL_le t.2).1
  have h2 := (fixL_le (257 + Def.top Def.lenB t.1 29)).1
  have h3 := (Def.len_small _ (Def.top_lt Def.lenB t.1 29 (by decide))).2
  have h4 := (Def.dst_small _ (Def.top_lt Def.dstB t.2 30 (by decide))).2
  split
  · rw [word_len]
    omega
  · simp only [List.length_append, word_len, low_len13]
    omega
theorem Def.toksB_len (l : List (Nat × Nat)) : (l.flatMap Def.tokB).length ≤ 60 * l.length := by
  induction l with
  | nil => simp
  | cons t l ih =>
    rw [List.flatMap_cons, List.length_append, List.length_cons]
    have := Def.tokB_len t
    omega
theorem Def.toks_len (bs : List UInt8) (f at' : Nat) : (Def.toks bs f at').length ≤ f := by
  induction f generalizing at' with
  | zero => simp [Def.toks]
  | succ f ih =>
    rw [Def.toks]
    split
    · rw [List.length_cons]
      have := ih (at' + Def.stp (Def.tok bs at'))
      omega
    · simp
theorem lsF_get (i : Nat) (h : i < lsF.length) : lsF[i] = fixL i := by simp [lsF]
theorem ls5_get (i : Nat) (h : i < ls5.length) : ls5[i] = 5 := by simp only [ls5, List.getElem_replicate]
theorem lsF_sum : Huf.sum lsF ≤ 32768 := by decide +kernel
theorem ls5_sum : Huf.sum ls5 ≤ 32768 := by decide +kernel
theorem knear (g gw B0 B : Nat) (L : List Bool) (i : Nat) (w : World) (h : CodeAt B0 w g lsF) (hw : WrAt B w gw L) (hL : L.length ≤ 1000000000000) (hi : i < 288) :
    Calls Tryz.prog 166 #[.pointer (some ⟨g, 0, none⟩), .pointer (some ⟨gw, 0, none⟩), .int .i64 (i : Int)] w fun e w' => e = .returned (.int .i64 0) ∧ WrAt B w' gw (L ++ Def.litB i) ∧ Below B w w' ∧ Stp gw w w' := by
  have hl : i < lsF.length := by rw [lsF_len]; exact hi
  have h1 := kwrite g gw B0 B lsF L i w h hw hL (by rw [lsF_len]; decide) lsF_le lsF_sum hl (by rw [lsF_get i hl]; exact (fixL_le i).2)
  rw [lsF_get i hl] at h1
  exact h1
theorem kfar (g gw B0 B : Nat) (L : List Bool) (i : Nat) (w : World) (h : CodeAt B0 w g ls5) (hw : WrAt B w gw L) (hL : L.length ≤ 1000000000000) (hi : i < 32) :
    Calls Tryz.prog 166 #[.pointer (some ⟨g, 0, none⟩), .pointer (some ⟨gw, 0, none⟩), .int .i64 (i : Int)] w fun e w' => e = .returned (.int .i64 0) ∧ WrAt B w' gw (L ++ Def.dstC i) ∧ Below B w w' ∧ Stp gw w w' := by
  have hl : i < ls5.length := by rw [ls5_len]; exact hi
  have h1 := kwrite g gw B0 B ls5 L i w h hw hL (by rw [ls5_len]; decide) ls5_le ls5_sum hl (by rw [ls5_get i hl]; decide)
  rw [ls5_get i hl] at h1
  exact h1
theorem symN (n : Nat) (w : World) (h1 : 3 ≤ n) (h2 : n ≤ 258) : Calls Tryz.prog 167 #[.int .i64 (n : Int)] w fun e w' => e = .returned (.tuple #[.int .i64 ((257 + Def.top Def.lenB n 29 : Nat) : Int), .int .i64 ((n - Def.lenB (Def.top Def.lenB n 29) : Nat) : Int), .int .i64 ((Def.lenX (Def.top Def.lenB n 29) : Nat) : Int)]) ∧ w = w' := by
  have h := sym_any (n : Int) w
  have hs := (Def.top_spec Def.lenB n 29 (by rw [show Def.lenB 0 = 3 from by decide]; omega) (by decide)).2.1
  rw [show Def.symV (n : Int) = (((257 + Def.top Def.lenB n 29 : Nat) : Int), ((n - Def.lenB (Def.top Def.lenB n 29) : Nat) : Int), ((Def.lenX (Def.top Def.lenB n 29) : Nat) : Int)) from by
    unfold Def.symV
    rw [if_pos (by omega), Int.toNat_natCast, Int.ofNat_sub hs, Int.natCast_add]
    rfl] at h
  exact h
theorem farN (n : Nat) (w : World) (h1 : 1 ≤ n) (h2 : n ≤ 32768) : Calls Tryz.prog 168 #[.int .i64 (n : Int)] w fun e w' => e = .returned (.tuple #[.int .i64 ((Def.top Def.dstB n 30 : Nat) : Int), .int .i64 ((n - Def.dstB (Def.top Def.dstB n 30) : Nat) : Int), .int .i64 ((Def.dstX (Def.top Def.dstB n 30) : Nat) : Int)]) ∧ w = w' := by
  have h := far_any (n : Int) w
  have hs := (Def.top_spec Def.dstB n 30 (by rw [show Def.dstB 0 = 1 from by decide]; omega) (by decide)).2.1
  rw [show Def.farV (n : Int) = (((Def.top Def.dstB n 30 : Nat) : Int), ((n - Def.dstB (Def.top Def.dstB n 30) : Nat) : Int), ((Def.dstX (Def.top Def.dstB n 30) : Nat) : Int)) from by
    unfold Def.farV
    rw [if_pos (by omega), Int.toNat_natCast, Int.ofNat_sub hs, Int.zero_add]] at h
  exact h
theorem WrAt.hang {B g : Nat} {W : World} {l : List Bool} (h : WrAt B W g l) (k : Nat) (hk : Hang g W k) : B ≤ k ∧ k < W.heap.size := by
  obtain ⟨A, h1, h2, h3⟩ := h
  have h4 := h1
  obtain ⟨c, hb, ho⟩ := h4
  rcases (hang_wr h1 k).1 hk with rfl | h5
  · exact ⟨h2, hb.lt⟩
  · exact ho.blk_lt k h5
theorem CodeAt.chg {B g : Nat} {W W' : World} {ls : List Nat} {R : Nat → Prop} (h : CodeAt B W g ls) (hc : Chg R W W') (hR : ∀ k, B ≤ k → ¬ R k) : CodeAt B W' g ls := by
  obtain ⟨Ab, cb, Al, cl, Ao, co, h⟩ := h
  obtain ⟨cs, hk, hr⟩ := h.cells
  exact ⟨Ab, cb, Al, cl, Ao, co, ⟨cs, hk.chg hc (hR g h.hg), hr⟩, h.hg, h.ob.chg hc (fun k hk => hR k (h.ob.blk_lt k hk).1), h.ol.chg hc (fun k hk => hR k (h.ol.blk_lt k hk).1), fun s hs => (h.oo s hs).chg hc (fun k hk => hR k ((h.oo s hs).blk_lt k hk).1), h.apart, h.apartL⟩
set_option maxRecDepth 100000 in
set_option maxHeartbeats 8000000 in
theorem dfixed_any (g B : Nat) (l0 : List Bool) (A : Option Addr) (c : Nat) (bs : List UInt8) (Bb : Nat) (w : World) (hw : WrAt B w g l0) (hr : Rd w Bb A bs.length (bs.map bv)) (hBb : Bb ≤ B) (hl : bs.length ≤ 1048576) (hl0 : l0.length ≤ 1000000) :
    Calls Tryz.prog 132 #[.pointer (some ⟨g, 0, none⟩), .slice A bs.length c] w fun e w' => (∃ v, e = .returned v) ∧ WrAt B w' g (l0 ++ Def.fixB bs) ∧ Below B w w' := by
  obtain ⟨G, hG⟩ : ∃ G, w.heap.size = G := ⟨_, rfl⟩
  have hBw : B ≤ w.heap.size := by obtain ⟨_, _, _, h⟩ := hw; exact h
  obtain ⟨w1, hw1⟩ : ∃ W, w.alloc (.cells #[.pointer (some ⟨g, 0, none⟩)] 191) = W := ⟨_, rfl⟩
  have k1 := hide (show Blk w1 G 191 #[.pointer (some ⟨g, 0, none⟩)] from by rw [← hw1, ← hG]; exact Blk.new w _ _)
  have wr1 := hide (show WrAt B w1 g l0 from by rw [← hw1]; exact hw.below ((Below.refl _ w).alloc (Nat.le_refl _) _))
  have b1 := hide (show Below B w w1 from by rw [← hw1]; exact (Below.refl _ w).alloc hBw _)
  have hfix := hide (fixed_any w1)
  refine (callsIn_wide (n := 9)).1 ?_
  refine callsIn_of_wp_marks Tryz.func132 rfl trivial ?_ rfl
  refine wpIn_wide.2 ?_
  simp only [Tryz.ntmps132, List.size_toArray, List.length_cons, List.length_nil, Nat.reduceAdd, Nat.reduceSub, Array.replicate_succ, Array.replicate_zero, List.push_toArray, List.append_toArray, List.nil_append, List.cons_append]
  go_upto_region 2 with (go_at_call 163; (with_reducible refine hfix.out.mono ?_); rintro e w2 ⟨A1, c1, A2, c2, rfl, ho1, ho2, hb2⟩)
  have bel2 := hide (show Below w.heap.size w w2 from by
    have h1 : Below w.heap.size w w1 := by rw [← hw1]; exact (Below.refl _ w).alloc (Nat.le_refl _) _
    exact h1.trans (hb2.mono h1.size))
  have kb2 := hide (k1.out.below hb2 k1.out.lt)
  have hnew1 := hide (new_ok A1 288 c1 lsF false w2 w2.heap.size (by rw [← lsF_rd]; exact ho1.rd) (Nat.le_refl _) (by decide) lsF_le lsF_fits)
  replace ho1 := hide ho1
  replace ho2 := hide ho2
  replace hb2 := hide hb2
  go_upto_region 3 with (go_at_call 164; (with_reducible refine (hnew1.out).mono ?_); rintro e w3 ⟨g3, rfl, hcodeg3, hbng3⟩; have hbng3 := hide hbng3; have hcodeg3 := hide hcodeg3; obtain ⟨N3, hN3⟩ : ∃ S, w3.heap.size = S := ⟨_, rfl⟩; obtain ⟨w4, hw4⟩ : ∃ W, World.alloc w3 (.cells #[.pointer none] 236) = W := ⟨_, rfl⟩; have kw4 : Blk w4 N3 236 #[.pointer none] := (by rw [← hw4, ← hN3]; exact Blk.new w3 _ _); have xw4 : World.cell? w4 ⟨N3, 0, none⟩ = some (.pointer none) := kw4.cell 0; have yw4 : World.frozen? w4 ⟨N3, 0, none⟩ = false := kw4.free 0; obtain ⟨w5, hw5⟩ : ∃ W, World.setCell w4 ⟨N3, 0, none⟩ (.pointer (some ⟨g3, 0, none⟩)) = W := ⟨_, rfl⟩; have kw5 := hide (show Blk w5 N3 236 #[.pointer (some ⟨g3, 0, none⟩)] from by rw [← hw5]; exact kw4.set 0 _); have kw4 := hide kw4)
  have s1 := hide (show G < w1.heap.size from k1.out.lt)
  have be35 := hide (show Below w3.heap.size w3 w5 from by rw [← hw5, ← hw4]; exact ((Below.refl _ w3).alloc (Nat.le_refl _) _).setCell (by rw [hN3]; exact Nat.le_refl _) _)
  have be25 := hide (show Below w2.heap.size w2 w5 from hbng3.out.trans (be35.out.mono hbng3.out.size))
  have kb5 := hide (kb2.out.below be25.out kb2.out.lt)
  have code5 := hide (hcodeg3.out.below be35.out)
  have ho5 := hide (ho2.out.below be25.out)
  have bel5 := hide (bel2.out.trans (be25.out.mono bel2.out.size))
  obtain ⟨w6, hw6⟩ : ∃ W, w5.alloc (.cells #[.int .i64 5, .int .i64 5] 3) = W := ⟨_, rfl⟩
  have be56 := hide (show Below w5.heap.size w5 w6 from by rw [← hw6]; exact (Below.refl _ w5).alloc (Nat.le_refl _) _)
  have ho6 := hide (ho5.out.below be56.out)
  have rd6 := hide (show Rd w6 (w5.heap.size + 1) (some ⟨w5.heap.size, 0, none⟩) 2 [jv 5, jv 5] from by rw [← hw6]; exact Rd.new w5 #[.int .i64 5, .int .i64 5] 3 (0, 0))
  have hB6 := hide (show w1.heap.size ≤ w6.heap.size from Nat.le_trans hb2.out.size (Nat.le_trans be25.out.size be56.out.size))
  have kb6 := hide (kb5.out.below be56.out kb5.out.lt)
  have kn6 := hide (kw5.out.below be56.out kw5.out.lt)
  have code6 := hide (code5.out.below be56.out)
  have bel6 := hide (bel5.out.trans (be56.out.mono bel5.out.size))
  have hA2 := hide (show ∀ k, blk A2 = some k → w1.heap.size ≤ k ∧ k < w2.heap.size from fun k hk => (ho2.out.blk_lt k hk))
  go_upto_region 4 with (first
    | (at_builtin; refine wpList_append_rd w6 rfl (.tmp 24) (.tmp 25) rfl elem_int rfl ho6.out rfl rd6.out (by intro u hu; simp at hu; subst hu; rfl) (by decide) (by decide) hB6.out ?_; intro A7 c7 w7 ho7 hc7 hn7; have hc7 := hide hc7; have hnew2 := hide (new_ok A7 32 c7 ls5 false w7 w7.heap.size (by rw [← ls5_rd]; exact ho7.rd) (Nat.le_refl _) (by decide) ls5_le ls5_fits); have ho7 := hide ho7)
    | (go_at_call 164; (with_reducible refine (hnew2.out).mono ?_); rintro e w8 ⟨g8, rfl, hcodeg8, hbng8⟩; have hbng8 := hide hbng8; have hcodeg8 := hide hcodeg8; obtain ⟨N8, hN8⟩ : ∃ S, w8.heap.size = S := ⟨_, rfl⟩; obtain ⟨w9, hw9⟩ : ∃ W, World.alloc w8 (.cells #[.pointer none] 236) = W := ⟨_, rfl⟩; have kw9 : Blk w9 N8 236 #[.pointer none] := (by rw [← hw9, ← hN8]; exact Blk.new w8 _ _); have xw9 : World.cell? w9 ⟨N8, 0, none⟩ = some (.pointer none) := kw9.cell 0; have yw9 : World.frozen? w9 ⟨N8, 0, none⟩ = false := kw9.free 0; obtain ⟨w10, hw10⟩ : ∃ W, World.setCell w9 ⟨N8, 0, none⟩ (.pointer (some ⟨g8, 0, none⟩)) = W := ⟨_, rfl⟩; have kw10 := hide (show Blk w10 N8 236 #[.pointer (some ⟨g8, 0, none⟩)] from by rw [← hw10]; exact kw9.set 0 _); have kw9 := hide kw9))
  have kb7 := hide (kb6.out.chg hc7.out (ho6.out.ne kb6.out (by decide)))
  have kn7 := hide (kn6.out.chg hc7.out (ho6.out.ne kn6.out (by decide)))
  have code7 := hide (code6.out.chg hc7.out (fun k hk hr => by have := (hA2.out k hr).2; omega))
  have bel7 := hide (bel6.out.trans (hc7.out.to_below bel6.out.size (fun k hr => by have := (hA2.out k hr).1; have := bel2.out.size; have := s1.out; omega)))
  have be810 := hide (show Below w8.heap.size w8 w10 from by rw [← hw10, ← hw9]; exact ((Below.refl _ w8).alloc (Nat.le_refl _) _).setCell (by rw [hN8]; exact Nat.le_refl _) _)
  have be710 := hide (show Below w7.heap.size w7 w10 from hbng8.out.trans (be810.out.mono hbng8.out.size))
  have kb10 := hide (kb7.out.below be710.out kb7.out.lt)
  have kn10 := hide (kn7.out.below be710.out kn7.out.lt)
  have near10 := hide (code7.out.below be710.out)
  have far10 := hide (hcodeg8.out.below be810.out)
  have bel10 := hide (bel7.out.trans (be710.out.mono bel7.out.size))
  have wr10 := hide (hw.below bel10.out)
  have hbits := hide (show Calls Tryz.prog 161 #[.pointer (some ⟨g, 0, none⟩), .int .u32 3, .int .i64 3] w10 fun e w' => e = .returned (.int .i64 0) ∧ WrAt B w' g (l0 ++ [true, true, false]) ∧ Below B w10 w' ∧ Stp g w10 w' from ktbits wr10.out 3 3 (by omega) (by decide) (by decide))
  have z10 : w10.cell? ⟨G, 0, none⟩ = some (.pointer (some ⟨g, 0, none⟩)) := kb10.out.cell 0
  go_upto_region 5 with (go_at_call 161; (with_reducible refine hbits.out.mono ?_); rintro e w11 ⟨rfl, wr11, hb11, st11⟩; have wr11 := hide wr11; have hb11 := hide hb11; have st11 := hide st11)
  have bel11 := hide ((bel10.out.mono hBw).trans hb11.out)
  have kb11 := hide (st11.out.x.row kb10.out (by decide) (by decide) (by decide))
  have kn11 := hide (st11.out.x.row kn10.out (by decide) (by decide) (by decide))
  have kf11 := hide (st11.out.x.row kw10.out (by decide) (by decide) (by decide))
  have near11 := hide (near10.out.keep st11.out.x)
  have far11 := hide (far10.out.keep st11.out.x)
  obtain ⟨gb, hgb⟩ : ∃ k, w11.heap.size = k := ⟨_, rfl⟩
  obtain ⟨w12, hw12⟩ : ∃ W, w11.alloc (.cells #[.slice A bs.length c] 22) = W := ⟨_, rfl⟩
  have be1112 := hide (show Below w11.heap.size w11 w12 from by rw [← hw12]; exact (Below.refl _ w11).alloc (Nat.le_refl _) _)
  have kbb12 := hide (show Blk w12 gb 22 #[.slice A bs.length c] from by rw [← hw12, ← hgb]; exact Blk.new w11 _ _)
  have s12 := hide (show w12.heap.size = gb + 1 from by rw [← hw12, ← hgb]; simp)
  have kb12 := hide (kb11.out.below be1112.out kb11.out.lt)
  have kn12 := hide (kn11.out.below be1112.out kn11.out.lt)
  have kf12 := hide (kf11.out.below be1112.out kf11.out.lt)
  have near12 := hide (near11.out.below be1112.out)
  have far12 := hide (far11.out.below be1112.out)
  have wr12 := hide (wr11.out.below be1112.out)
  have bel12 := hide (bel11.out.trans (be1112.out.mono (by have := bel11.out.size; omega)))
  have hung12 := hide (show Hung g gb B w12 from fun k hk => by
    have h1 := wr11.out.hang k ((Hang.below (show g < w11.heap.size from by obtain ⟨_, ⟨_, hk, _⟩, _⟩ := wr11.out; exact hk.lt) be1112.out).1 hk)
    have h2 := s12.out
    exact ⟨by omega, by omega, h1.1⟩)
  have hr12 := hide (hr.below (bel12.out.mono hBb))
  have hB12 := hide (show B ≤ w12.heap.size from Nat.le_trans hBw bel12.out.size)
  have hgw := hide (show g < w12.heap.size from by obtain ⟨_, ⟨_, hk, _⟩, _⟩ := wr12.out; exact hk.lt)
  go_wp2_with (go_at_call 165; (with_reducible refine (matches_any _ _ _ _).mono ?_); rintro e w' ⟨rfl, rfl⟩)
  refine (wpIn_wide (n := 9)).1 ?_
  refine wpIn_rangeFunc_ownH (n := 9) rfl (by decide) (gf := 187) (lb := #[.pointer (some ⟨gb, 0, none⟩)]) rfl trivial (enters_of Tryz.func187 (by kernel_rfl) rfl)
    (matches_stops (9 - 1) (by decide) gb g B A c bs Bb w12 hBb (Nat.le_trans hBb hB12.out) kbb12.out hr12.out hung12.out hl) KpH.trans (KpH.putObj hgw.out) (Below.refl _ _) (fun _ => rfl)
    (fun (pre : List Tk) W => (WrAt B W g (l0 ++ [true, true, false] ++ (pre.map (·.1)).flatMap Def.tokB) ∧ Blk W G 191 #[.pointer (some ⟨g, 0, none⟩)] ∧ Blk W N3 236 #[.pointer (some ⟨g3, 0, none⟩)] ∧ Blk W N8 236 #[.pointer (some ⟨g8, 0, none⟩)] ∧ CodeAt w2.heap.size W g3 lsF ∧ CodeAt w7.heap.size W g8 ls5) ∧ Below B w W)
    (fun _ _ _ => False)
    (OwnFrom.and (fun _ _ _ _ hs hg hr => by
      have hc := calm_of hg (fun r e => (hr r e).2)
      exact ⟨hs.1.calm hc, hs.2.1.calm hc, hs.2.2.1.calm hc, hs.2.2.2.1.calm hc, hs.2.2.2.2.1.calm hc, hs.2.2.2.2.2.calm hc⟩) (ownFrom_below hBw hB12.out))
    (fun _ _ _ _ _ hs _ _ => hs)
    ⟨⟨by simpa using wr12.out, kb12.out, kn12.out, kf12.out, near12.out, far12.out⟩, bel12.out⟩
    (fun x a' W => ∃ Bx, Blk W Bx 242 #[.int .i64 (x.1.1 : Int), .int .i64 (x.1.2 : Int)] ∧ a' = { tmps := #[.pointer (some ⟨g, 0, none⟩), .slice A bs.length c, .pointer (some ⟨G, 0, none⟩), undef, .slice A1 288 c1, .slice A2 30 c2, .pointer (some ⟨N3, 0, none⟩), .int .i64 0, .pointer (some ⟨N8, 0, none⟩), .int .i64 0, .pointer (some ⟨Bx, 0, none⟩), undef, undef, undef, .tuple #[.slice A1 288 c1, .slice A2 30 c2], .tuple #[.slice A1 288 c1, .slice A2 30 c2], .slice A1 288 c1, .slice A2 30 c2, .tuple #[.pointer (some ⟨g3, 0, none⟩), .int .i64 0], .slice A1 288 c1, .tuple #[.pointer (some ⟨g3, 0, none⟩), .int .i64 0], .pointer (some ⟨g3, 0, none⟩), .int .i64 0, .tuple #[.pointer (some ⟨g8, 0, none⟩), .int .i64 0], .slice A2 30 c2, .slice (some ⟨w5.heap.size, 0, none⟩) 2 2, .slice A7 32 c7, .tuple #[.pointer (some ⟨g8, 0, none⟩), .int .i64 0], .pointer (some ⟨g8, 0, none⟩), .int .i64 0, .pointer (some ⟨g, 0, none⟩), .int .i64 0, .slice A bs.length c, .func (.func 187) #[] #[.pointer (some ⟨gb, 0, none⟩)], .agg #[.int .i64 (x.1.1 : Int), .int .i64 (x.1.2 : Int)], undef, undef, undef, undef, undef, undef, undef, undef, undef, undef, undef, undef, undef, undef, undef, undef, undef, undef, undef, undef, undef, undef, undef, undef, undef, undef, undef, undef, undef, undef, undef, undef, undef, undef, undef, undef, undef, undef, undef, undef, undef, undef, undef], defers := [] })
    (fun x a' _ X Y row hs hg hr => by obtain ⟨Bx, h1, h2⟩ := hs; exact ⟨Bx, h1.calm (calm_of hg (fun r e => (hr r e).2)), h2⟩)
    ?assign ?body ?done ?stop
  case assign =>
    rintro l pre ⟨⟨t1, t2⟩, hgood⟩ W K ⟨⟨i1, i2, i3, i4, i5, i6⟩, i7⟩ hK
    simp only [tv]
    gi_wp2
    have b := (Below.refl W.heap.size W).alloc (Nat.le_refl _) (.cells #[.int .i64 (t1 : Int), .int .i64 (t2 : Int)] 242)
    exact hK _ _ ((KeepsOthers.alloc _ _).from _) (KpH.below b) ⟨⟨i1.below b, i2.alloc _, i3.alloc _, i4.alloc _, i5.below b, i6.below b⟩, i7.alloc (Nat.le_trans hBw i7.size) _⟩ ⟨W.heap.size, Blk.new W _ _, rfl⟩
  case body =>
    rintro l pre ⟨⟨t1, t2⟩, hgood⟩ a' W hlw ⟨r, hr'⟩ ⟨⟨i1, i2, i3, i4, i5, i6⟩, i7⟩ ⟨Bx, kx, rfl⟩ hlt
    simp only at kx
    have hLen : (l0 ++ [true, true, false] ++ (pre.map (·.1)).flatMap Def.tokB).length ≤ 100000000 := by
      have h1 := Def.toksB_len (pre.map (·.1))
      rw [List.length_map] at h1
      simp only [List.length_append, List.length_cons, List.length_nil]
      omega
    have hgb := hide (show gb < W.heap.size from by have := i7.size; have := bel12.out.size; have := kbb12.out.lt; have := be1112.out.size; have := hlw; have h9 := (Array.getElem?_eq_some_iff.1 hr').1; omega)
    have hBW := hide (show B ≤ W.heap.size from Nat.le_trans hBw i7.size)
    have hsnoc := hide (show l0 ++ [true, true, false] ++ ((pre ++ [(⟨(t1, t2), hgood⟩ : Tk)]).map (·.1)).flatMap Def.tokB = l0 ++ [true, true, false] ++ (pre.map (·.1)).flatMap Def.tokB ++ Def.tokB (t1, t2) from by
      rw [List.map_append, List.flatMap_append, ← List.append_assoc]
      congr 1
      simp)
    obtain ⟨LL, hLL⟩ : ∃ LL, l0 ++ [true, true, false] ++ (pre.map (·.1)).flatMap Def.tokB = LL := ⟨_, rfl⟩
    rw [hLL] at i1 hLen
    replace hLL := hide hLL
    clear hlt hr' hlw
    have hPk := hide (show ∀ W1 W2, (fun W' => Blk W' G 191 #[.pointer (some ⟨g, 0, none⟩)] ∧ Blk W' N3 236 #[.pointer (some ⟨g3, 0, none⟩)] ∧ Blk W' N8 236 #[.pointer (some ⟨g8, 0, none⟩)] ∧ CodeAt w2.heap.size W' g3 lsF ∧ CodeAt w7.heap.size W' g8 ls5 ∧ Blk W' Bx 242 #[.int .i64 (t1 : Int), .int .i64 (t2 : Int)]) W1 → KeepX W1 W2 → (fun W' => Blk W' G 191 #[.pointer (some ⟨g, 0, none⟩)] ∧ Blk W' N3 236 #[.pointer (some ⟨g3, 0, none⟩)] ∧ Blk W' N8 236 #[.pointer (some ⟨g8, 0, none⟩)] ∧ CodeAt w2.heap.size W' g3 lsF ∧ CodeAt w7.heap.size W' g8 ls5 ∧ Blk W' Bx 242 #[.int .i64 (t1 : Int), .int .i64 (t2 : Int)]) W2 from fun W1 W2 h hx => ⟨hx.row h.1 (by decide) (by decide) (by decide), hx.row h.2.1 (by decide) (by decide) (by decide), hx.row h.2.2.1 (by decide) (by decide) (by decide), h.2.2.2.1.keep hx, h.2.2.2.2.1.keep hx, hx.row h.2.2.2.2.2 (by decide) (by decide) (by decide)⟩)
    have P1 := hide (show (fun W' => Blk W' G 191 #[.pointer (some ⟨g, 0, none⟩)] ∧ Blk W' N3 236 #[.pointer (some ⟨g3, 0, none⟩)] ∧ Blk W' N8 236 #[.pointer (some ⟨g8, 0, none⟩)] ∧ CodeAt w2.heap.size W' g3 lsF ∧ CodeAt w7.heap.size W' g8 ls5 ∧ Blk W' Bx 242 #[.int .i64 (t1 : Int), .int .i64 (t2 : Int)]) W from ⟨i2, i3, i4, i5, i6, kx⟩)
    replace i1 := hide i1
    replace i5 := hide i5
    replace i6 := hide i6
    replace i7 := hide i7
    clear i2 i3 i4 kx
    (have za1 : World.cell? W ⟨G, 0, none⟩ = some (.pointer (some ⟨g, 0, none⟩)) := P1.out.1.cell 0; have zb1 : World.cell? W ⟨N3, 0, none⟩ = some (.pointer (some ⟨g3, 0, none⟩)) := P1.out.2.1.cell 0; have zc1 : World.cell? W ⟨N8, 0, none⟩ = some (.pointer (some ⟨g8, 0, none⟩)) := P1.out.2.2.1.cell 0; have zd1 : World.cell? W ⟨Bx, 0, none⟩ = some (.int .i64 (t1 : Int)) := P1.out.2.2.2.2.2.cell 0; have ze1 : World.cell? W ⟨Bx, 1, none⟩ = some (.int .i64 (t2 : Int)) := P1.out.2.2.2.2.2.cell 1)
    by_cases ht : t1 = 0
    · subst ht
      have ht2 : t2 ≤ 255 := by
        rcases hgood with ⟨_, h⟩ | ⟨h, _⟩
        · exact h
        · omega
      have htok := hide (show Def.tokB (0, t2) = Def.litB t2 from if_pos rfl)
      have hw1 := hide (knear g3 g w2.heap.size B LL t2 W i5.out i1.out (by omega) (by omega))
      replace zd1 : World.cell? W ⟨Bx, 0, none⟩ = some (.int .i64 0) := zd1
      gi_wp2_with (refine ⟨trivial, ?_⟩; gi_at_call 166; (with_reducible refine (CallsIn.inRound l (callsIn_wide.2 (hw1.out))).mono ?_); rintro e W2 ⟨rfl, j2, b2, s2⟩; have P2 := hide (hPk.out W W2 P1.out s2.x); have j2 := hide j2; have b2 := hide b2; have s2 := hide s2)
      exact ⟨s2.out.o.from _, s2.out.h gb B hgb.out hBW.out, ⟨⟨by rw [hsnoc.out, hLL.out, htok.out]; exact j2.out, P2.out.1, P2.out.2.1, P2.out.2.2.1, P2.out.2.2.2.1, P2.out.2.2.2.2.1⟩, i7.out.trans b2.out⟩⟩
    · obtain ⟨h3, h4, h5, h6⟩ : 3 ≤ t1 ∧ t1 ≤ 258 ∧ 1 ≤ t2 ∧ t2 ≤ 256 := by
        rcases hgood with ⟨h, _⟩ | h
        · exact absurd h ht
        · exact h
      have htz : ((t1 : Int) == 0) = false := by simp; omega
      have htok := hide (show Def.tokB (t1, t2) = Def.litB (257 + Def.top Def.lenB t1 29) ++ Bit.low (t1 - Def.lenB (Def.top Def.lenB t1 29)) (Def.lenX (Def.top Def.lenB t1 29)) ++ Def.dstC (Def.top Def.dstB t2 30) ++ Bit.low (t2 - Def.dstB (Def.top Def.dstB t2 30)) (Def.dstX (Def.top Def.dstB t2 30)) from if_neg ht)
      have hs := hide (symN t1 W h3 h4)
      have hfa := hide (fun W => farN t2 W h5 (by omega))
      have hk1 := Def.top_lt Def.lenB t1 29 (by decide)
      have hk2 := Def.top_lt Def.dstB t2 30 (by decide)
      have hx1 := (Def.len_small _ hk1).2
      have hx2 := (Def.dst_small _ hk2).2
      obtain ⟨K1, hK1⟩ : ∃ K1, 257 + Def.top Def.lenB t1 29 = K1 := ⟨_, rfl⟩
      have hK1b : K1 < 288 := by omega
      rw [hK1] at hs htok
      generalize Def.lenB (Def.top Def.lenB t1 29) = B1 at *
      generalize Def.lenX (Def.top Def.lenB t1 29) = X1 at *
      generalize Def.dstB (Def.top Def.dstB t2 30) = B2 at *
      generalize Def.dstX (Def.top Def.dstB t2 30) = X2 at *
      generalize Def.top Def.dstB t2 30 = K2 at *
      obtain ⟨D1, hD1⟩ : ∃ D1, t1 - B1 = D1 := ⟨_, rfl⟩
      obtain ⟨D2, hD2⟩ : ∃ D2, t2 - B2 = D2 := ⟨_, rfl⟩
      have hD1b : D1 ≤ 258 := by omega
      have hD2b : D2 ≤ 256 := by omega
      have hu1 : IntKind.u32.wrap (D1 : Int) = (D1 : Int) := by rw [IntKind.wrap_u32]; omega
      have hu2 : IntKind.u32.wrap (D2 : Int) = (D2 : Int) := by rw [IntKind.wrap_u32]; omega
      rw [hD1] at hs htok
      rw [hD2] at hfa htok
      have hw1 := hide (knear g3 g w2.heap.size B LL K1 W i5.out i1.out (by omega) hK1b)
      have hl1 := hide (show (LL ++ Def.litB K1).length ≤ 200000000 from by rw [List.length_append, Def.litB, word_len]; have := (fixL_le K1).1; omega)
      have hl2 := hide (show (LL ++ Def.litB K1 ++ Bit.low D1 X1).length ≤ 300000000 from by rw [List.length_append, low_len13]; have := hl1.out; omega)
      have hl3 := hide (show (LL ++ Def.litB K1 ++ Bit.low D1 X1 ++ Def.dstC K2).length ≤ 400000000 from by rw [List.length_append, Def.dstC, word_len]; have := hl2.out; omega)
      have hbb1 := hide (fun W2 (h : WrAt B W2 g (LL ++ Def.litB K1)) => ktbits h D1 X1 (by have := hl1.out; omega) (by omega) (by omega))
      have hww2 := hide (fun W3 (hc : CodeAt w7.heap.size W3 g8 ls5) (h : WrAt B W3 g (LL ++ Def.litB K1 ++ Bit.low D1 X1)) => kfar g8 g w7.heap.size B _ K2 W3 hc h (by have := hl2.out; omega) (by omega))
      have hbb2 := hide (fun W4 (h : WrAt B W4 g (LL ++ Def.litB K1 ++ Bit.low D1 X1 ++ Def.dstC K2)) => ktbits h D2 X2 (by have := hl3.out; omega) (by omega) (by omega))
      clear hK1 hD1 hD2 hk1 hk2 hx1 hx2 ht hLen
      gi_wp2_with (first
        | (refine ⟨trivial, ?_⟩; gi_at_call 167; (with_reducible refine (CallsIn.inRound l (callsIn_wide.2 (hs.out))).mono ?_); rintro e w_ ⟨rfl, rfl⟩)
        | (refine ⟨trivial, ?_⟩; gi_at_call 166; (with_reducible refine (CallsIn.inRound l (callsIn_wide.2 (hw1.out))).mono ?_); rintro e W2 ⟨rfl, j2, b2, s2⟩; have P2 := hide (hPk.out W W2 P1.out s2.x); have za2 : World.cell? W2 ⟨G, 0, none⟩ = some (.pointer (some ⟨g, 0, none⟩)) := P2.out.1.cell 0; have zb2 : World.cell? W2 ⟨N3, 0, none⟩ = some (.pointer (some ⟨g3, 0, none⟩)) := P2.out.2.1.cell 0; have zc2 : World.cell? W2 ⟨N8, 0, none⟩ = some (.pointer (some ⟨g8, 0, none⟩)) := P2.out.2.2.1.cell 0; have zd2 : World.cell? W2 ⟨Bx, 0, none⟩ = some (.int .i64 (t1 : Int)) := P2.out.2.2.2.2.2.cell 0; have ze2 : World.cell? W2 ⟨Bx, 1, none⟩ = some (.int .i64 (t2 : Int)) := P2.out.2.2.2.2.2.cell 1; have hb1 := hide (hbb1.out W2 j2); have b2 := hide b2; have s2 := hide s2; clear j2)
        | (refine ⟨trivial, ?_⟩; gi_at_call 161; (with_reducible refine (CallsIn.inRound l (callsIn_wide.2 (hb1.out))).mono ?_); rintro e W3 ⟨rfl, j3, b3, s3⟩; have P3 := hide (hPk.out W2 W3 P2.out s3.x); have za3 : World.cell? W3 ⟨G, 0, none⟩ = some (.pointer (some ⟨g, 0, none⟩)) := P3.out.1.cell 0; have zb3 : World.cell? W3 ⟨N3, 0, none⟩ = some (.pointer (some ⟨g3, 0, none⟩)) := P3.out.2.1.cell 0; have zc3 : World.cell? W3 ⟨N8, 0, none⟩ = some (.pointer (some ⟨g8, 0, none⟩)) := P3.out.2.2.1.cell 0; have zd3 : World.cell? W3 ⟨Bx, 0, none⟩ = some (.int .i64 (t1 : Int)) := P3.out.2.2.2.2.2.cell 0; have ze3 : World.cell? W3 ⟨Bx, 1, none⟩ = some (.int .i64 (t2 : Int)) := P3.out.2.2.2.2.2.cell 1; have hw2 := hide (hww2.out W3 P3.out.2.2.2.2.1 j3); have hf3 := hide (hfa.out W3); have b3 := hide b3; have s3 := hide s3; clear j3)
        | (refine ⟨trivial, ?_⟩; gi_at_call 168; (with_reducible refine (CallsIn.inRound l (callsIn_wide.2 (hf3.out))).mono ?_); rintro e w_ ⟨rfl, rfl⟩)
        | (refine ⟨trivial, ?_⟩; gi_at_call 166; (with_reducible refine (CallsIn.inRound l (callsIn_wide.2 (hw2.out))).mono ?_); rintro e W4 ⟨rfl, j4, b4, s4⟩; have P4 := hide (hPk.out W3 W4 P3.out s4.x); have za4 : World.cell? W4 ⟨G, 0, none⟩ = some (.pointer (some ⟨g, 0, none⟩)) := P4.out.1.cell 0; have zb4 : World.cell? W4 ⟨N3, 0, none⟩ = some (.pointer (some ⟨g3, 0, none⟩)) := P4.out.2.1.cell 0; have zc4 : World.cell? W4 ⟨N8, 0, none⟩ = some (.pointer (some ⟨g8, 0, none⟩)) := P4.out.2.2.1.cell 0; have zd4 : World.cell? W4 ⟨Bx, 0, none⟩ = some (.int .i64 (t1 : Int)) := P4.out.2.2.2.2.2.cell 0; have ze4 : World.cell? W4 ⟨Bx, 1, none⟩ = some (.int .i64 (t2 : Int)) := P4.out.2.2.2.2.2.cell 1; have hb2 := hide (hbb2.out W4 j4); have b4 := hide b4; have s4 := hide s4; clear j4)
        | (refine ⟨trivial, ?_⟩; gi_at_call 161; (with_reducible refine (CallsIn.inRound l (callsIn_wide.2 (hb2.out))).mono ?_); rintro e W5 ⟨rfl, j5, b5, s5⟩; have P5 := hide (hPk.out W4 W5 P4.out s5.x); have j5 := hide j5; have b5 := hide b5; have s5 := hide s5))
      have sall := ((s2.out.trans s3.out).trans s4.out).trans s5.out
      exact ⟨sall.o.from _, sall.h gb B hgb.out hBW.out, ⟨⟨by rw [hsnoc.out, hLL.out, htok.out, ← List.append_assoc, ← List.append_assoc, ← List.append_assoc]; exact j5.out, P5.out.1, P5.out.2.1, P5.out.2.2.1, P5.out.2.2.2.1, P5.out.2.2.2.2.1⟩, ((((i7.out.trans b2.out).trans b3.out).trans b4.out).trans b5.out)⟩⟩
  case done =>
    rintro D xs W hlw hS ⟨⟨i1, i2, i3, i4, i5, i6⟩, i7⟩ hK
    rw [hS] at i1
    have hw1 := hide (show Calls Tryz.prog 166 #[.pointer (some ⟨g3, 0, none⟩), .pointer (some ⟨g, 0, none⟩), .int .i64 256] W fun e w' => e = .returned (.int .i64 0) ∧ WrAt B w' g (l0 ++ [true, true, false] ++ (Def.parse bs).flatMap Def.tokB ++ Def.litB 256) ∧ Below B W w' ∧ Stp g W w' from knear g3 g w2.heap.size B (l0 ++ [true, true, false] ++ (Def.parse bs).flatMap Def.tokB) 256 W i5 i1 (by
      have h1 := Def.toksB_len (Def.parse bs)
      have h2 := Def.toks_len bs bs.length 0
      rw [show Def.toks bs bs.length 0 = Def.parse bs from rfl] at h2
      simp only [List.length_append, List.length_cons, List.length_nil]
      omega) (by omega))
    have zb1 : World.cell? W ⟨N3, 0, none⟩ = some (.pointer (some ⟨g3, 0, none⟩)) := i3.cell 0
    have za1 : World.cell? W ⟨G, 0, none⟩ = some (.pointer (some ⟨g, 0, none⟩)) := i2.cell 0
    replace i7 := hide i7
    replace hK := hide hK
    have hlD0 := hide hlw
    clear i1 i2 i3 i4 i5 i6 hS hlw
    go_wp2_with (go_at_call 166; go_loud ((with_reducible refine (hw1.out).mono ?_); rintro e W2 ⟨rfl, j2, b2, s2⟩; have hK2 := hide (s2.o.2 _ _ hK.out rfl); have j2 := hide j2; have b2 := hide b2; clear s2))
    refine ⟨by simp, .inl ⟨_, _, rfl, run_takeDeferred hK2.out, ?_⟩⟩
    have hg2 := grownBy_putObj' W2 D (.deferred none)
    have hD2 : W2.heap[D]? = some (.deferred (some [])) := hK2.out
    have hlD : D < W2.heap.size := (Array.getElem?_eq_some_iff.1 hD2).1
    have hcalm : Calm W2 (W2.putObj D (.deferred none)) := calm_of hg2 (fun r e => by cases e; exact ⟨_, hD2, rfl⟩)
    have hbD := belowK_b (n₀ := B) (w := w12) hB12.out W2 D _ (.deferred none) hlD0.out hD2 rfl rfl
    have hwr := j2.out.calm hcalm
    rw [show l0 ++ [true, true, false] ++ (Def.parse bs).flatMap Def.tokB ++ Def.litB 256 = l0 ++ Def.fixB bs from by simp only [Def.fixB, List.append_assoc]] at hwr
    first
    | exact ⟨_, results_none rfl _ _ _, ⟨_, rfl⟩, hwr, (i7.out.trans b2.out).trans hbD⟩
    | exact ⟨_, results_tmp rfl _ _ _, ⟨_, rfl⟩, hwr, (i7.out.trans b2.out).trans hbD⟩
  case stop =>
    rintro D c' pre W _ _ h _
    exact h.elim
end Go.Proofs.YtaapjampmnanmaaGreat
namespace Go.Proofs.YtaapjampmnanmaaGreat
open Go.RowKit
def Def.bytB (bs : List UInt8) : List Bool := bs.flatMap (fun b => Bit.low b.toNat 8)
def Def.hdB (v n : Nat) : List Bool := Bit.low v 3 ++ List.replicate 5 false ++ Bit.low n 16 ++ Bit.low (65535 - n) 16
def Def.stoB : Nat → List UInt8 → List Bool
  | 0, bs => Def.hdB 1 bs.length ++ Def.bytB bs
  | f + 1, bs => if bs.length ≤ 65535 then Def.hdB 1 bs.length ++ Def.bytB bs else Def.hdB 0 65535 ++ Def.bytB (bs.take 65535) ++ Def.stoB f (bs.drop 65535)
theorem Def.stoB_last (f : Nat) (bs : List UInt8) (h : bs.length ≤ 65535) : Def.stoB f bs = Def.hdB 1 bs.length ++ Def.bytB bs := by
  cases f with
  | zero => rfl
  | succ f => rw [Def.stoB, if_pos h]
theorem Def.stoB_more (f : Nat) (bs : List UInt8) (h : ¬ bs.length ≤ 65535) (hf : bs.length ≤ f) : ∃ f', bs.length - 65535 ≤ f' ∧ Def.stoB f bs = Def.hdB 0 65535 ++ Def.bytB (bs.take 65535) ++ Def.stoB f' (bs.drop 65535) := by
  cases f with
  | zero => omega
  | succ f => exact ⟨f, by omega, by rw [Def.stoB, if_neg h]⟩
theorem Rd.sub {w : World} {B n : Nat} {A : Option Addr} {xs : List Value} (h : Rd w B A n xs) (a m : Nat) (h1 : a + m ≤ n) : Rd w B (Option.map (fun x => x.add a) A) m ((xs.drop a).take m) := by
  have hl := h.1
  refine ⟨by rw [List.length_take, List.length_drop]; omega, fun j hj => ?_⟩
  obtain ⟨b, o, hA, hb, hc⟩ := h.2 (a + j) (by omega)
  refine ⟨b, o + a, by rw [hA]; simp [Addr.add_mid], hb, ?_⟩
  rw [Nat.add_assoc, hc, List.getElem?_take, if_pos hj, List.getElem?_drop]
def slLen : Value → Nat
  | .slice _ n _ => n
  | _ => 0
theorem low_len13' (v n : Nat) : (Bit.low v n).length = n := by simp [Bit.low]
theorem Def.bytB_len (bs : List UInt8) : (Def.bytB bs).length = 8 * bs.length := by
  induction bs with
  | nil => rfl
  | cons b bs ih =>
    rw [Def.bytB, List.flatMap_cons, List.length_append, low_len13', show (List.flatMap (fun b => Bit.low b.toNat 8) bs).length = 8 * bs.length from ih, List.length_cons]
    omega
theorem xor16 (n : Nat) (h : n ≤ 65535) : bits .xor .u32 (n : Int) 65535 = ((65535 - n : Nat) : Int) := by
  have h1 : n ^^^ 65535 = 65535 - n := by
    refine Nat.eq_of_testBit_eq fun i => ?_
    rw [Nat.testBit_xor, show (65535 : Nat) = 2 ^ 16 - 1 from rfl, Nat.testBit_two_pow_sub_one, show 2 ^ 16 - 1 - n = 2 ^ 16 - (n + 1) from by omega, Nat.testBit_two_pow_sub_succ (by omega)]
    by_cases hi : i < 16
    · simp [hi]
    · have : n.testBit i = false := Nat.testBit_lt_two_pow (Nat.lt_of_lt_of_le (show n < 2 ^ 16 by omega) (Nat.pow_le_pow_right (by decide) (by omega)))
      simp [hi, this]
  show IntKind.u32.wrap ((BitVec.ofInt 32 (n : Int) ^^^ BitVec.ofInt 32 65535).toNat : Int) = _
  rw [BitVec.toNat_xor, BitVec.toNat_ofInt, BitVec.toNat_ofInt]
  have e : ((n : Int) % ((2 ^ 32 : Nat) : Int)).toNat = n := by
    have : ((2 ^ 32 : Nat) : Int) = 4294967296 := by decide
    omega
  rw [e, show ((65535 : Int) % ((2 ^ 32 : Nat) : Int)).toNat = 65535 from by decide, h1, IntKind.wrap_u32]
  omega
theorem ktbitsI {B g : Nat} {w : World} {l : List Bool} (h : WrAt B w g l) (v n : Nat) (vi ni : Int) (e1 : (v : Int) = vi) (e2 : (n : Int) = ni) (hl : l.length ≤ 1000000000000) (hv : v < 4294967296) (hn : n ≤ 32) :
    Calls Tryz.prog 161 #[.pointer (some ⟨g, 0, none⟩), .int .u32 vi, .int .i64 ni] w fun e w' => e = .returned (.int .i64 0) ∧ WrAt B w' g (l ++ Bit.low v n) ∧ Below B w w' ∧ Stp g w w' := by
  subst e1 e2
  exact ktbits h v n hl hv hn
set_option maxRecDepth 100000 in
set_option maxHeartbeats 4000000 in
theorem dstored_any (g B : Nat) (l0 : List Bool) (A : Option Addr) (c : Nat) (bs : List UInt8) (Bb : Nat) (w : World) (hw : WrAt B w g l0) (hr : Rd w Bb A bs.length (bs.map bv)) (hBb : Bb ≤ B) (hl : bs.length ≤ 1048576) (hc : bs.length ≤ c) (hl0 : l0.length ≤ 1000000) (h8 : l0.length % 8 = 0) :
    Calls Tryz.prog 131 #[.pointer (some ⟨g, 0, none⟩), .slice A bs.length c] w fun e w' => (∃ v, e = .returned v) ∧ WrAt B w' g (l0 ++ Def.stoB bs.length bs) ∧ Below B w w' := by
  obtain ⟨ALL, hALL⟩ : ∃ X, l0 ++ Def.stoB bs.length bs = X := ⟨_, rfl⟩
  rw [hALL]
  go_enter Tryz.func131, Tryz.ntmps131
  go_wp2
  go_loopw [1] (fun s1 wr => ∃ (A : Option Addr) (n0 c : Nat) (bs : List UInt8) (l : List Bool), s1 = .slice A n0 c ∧ n0 ≤ c ∧ n0 ≤ 1048576 ∧ Hid (bs.length = n0) ∧ Hid (∃ f, n0 ≤ f ∧ l ++ Def.stoB f bs = ALL) ∧ Hid (Rd wr Bb A n0 (bs.map bv)) ∧ Hid (l.length ≤ 1000000 + 16 * (1048576 - n0)) ∧ Hid (l.length % 8 = 0) ∧ Hid (WrAt B wr g l) ∧ Hid (Below B w wr)) (fun s1 _ => slLen s1)
  case atStart => exact ⟨A, bs.length, c, bs, l0, rfl, hc, hl, hide rfl, hide ⟨bs.length, Nat.le_refl _, hALL⟩, hide hr, hide (by omega), hide h8, hide hw, hide (Below.refl _ _)⟩
  case round =>
    clear hw hr hl hc hl0 h8 hALL
    obtain ⟨wo, rfl⟩ : ∃ W, W = wr := ⟨_, rfl⟩
    obtain ⟨A, n, c, bs, l, rfl, hc, hl, hn0, hall, hr, hll, h8, hw, hbel⟩ := hrel
    by_cases hlast : n ≤ 65535
    · have hn32 := hide (show n < 4294967296 from by omega)
      have hmin : min (n : Int) 65535 = (n : Int) := by omega
      have hu : IntKind.u32.wrap (n : Int) = (n : Int) := by rw [IntKind.wrap_u32]; omega
      have hx := xor16 n (by omega)
      have hb1 := hide (show Calls Tryz.prog 161 #[.pointer (some ⟨g, 0, none⟩), .int .u32 1, .int .i64 3] wo fun e w' => e = .returned (.int .i64 0) ∧ WrAt B w' g (l ++ Bit.low 1 3) ∧ Below B wo w' ∧ Stp g wo w' from ktbits hw.out 1 3 (by have := hll.out; omega) (by decide) (by decide))
      have hl1 := hide (show (l ++ Bit.low 1 3).length ≤ 1000000000000 from by rw [List.length_append, low_len13]; have := hll.out; omega)
      have hg5 := hide (show Bit.gap (l ++ Bit.low 1 3).length = 5 from by rw [List.length_append, low_len13]; have := h8.out; unfold Bit.gap; omega)
      have hl2 := hide (show (l ++ Bit.low 1 3 ++ List.replicate (Bit.gap (l ++ Bit.low 1 3).length) false).length ≤ 1000000000000 from by rw [List.length_append, List.length_replicate, hg5.out, List.length_append, low_len13]; have := hll.out; omega)
      have hl3 := hide (show (l ++ Bit.low 1 3 ++ List.replicate (Bit.gap (l ++ Bit.low 1 3).length) false ++ Bit.low n 16).length ≤ 1000000000000 from by rw [List.length_append, low_len13, List.length_append, List.length_replicate, hg5.out, List.length_append, low_len13]; have := hll.out; omega)
      go_wp2_with (first
        | (go_at_call 162; (with_reducible refine (ha1.out).mono ?_); rintro e w2 ⟨rfl, j2, b2, _⟩; have hb2 := hide (ktbitsI j2 n 16 (n : Int) 16 rfl rfl hl2.out hn32.out (by decide)); have b2 := hide b2; clear j2)
        | (go_at_call 161; (with_reducible refine (hb1.out).mono ?_); rintro e w1 ⟨rfl, j1, b1, _⟩; have ha1 := hide (xtalign j1 hl1.out); have b1 := hide b1; clear j1)
        | (go_at_call 161; (with_reducible refine (hb2.out).mono ?_); rintro e w3 ⟨rfl, j3, b3, _⟩; have hb3 := hide (ktbitsI j3 (65535 - n) 16 ((65535 - n : Nat) : Int) 16 rfl rfl hl3.out (by omega) (by decide)); have b3 := hide b3; clear j3)
        | (go_at_call 161; (with_reducible refine (hb3.out).mono ?_); rintro e w4 ⟨rfl, j4, b4, _⟩; have j4 := hide j4; have b4 := hide b4))
      obtain ⟨L, hL⟩ : ∃ L, l ++ Bit.low 1 3 ++ List.replicate (Bit.gap (l ++ Bit.low 1 3).length) false ++ Bit.low n 16 ++ Bit.low (65535 - n) 16 = L := ⟨_, rfl⟩
      have hLl := hide (show L.length = l.length + 40 from by rw [← hL]; have h5 := hg5.out; simp only [List.length_append, low_len13, List.length_replicate] at h5 ⊢; omega)
      rw [hL] at j4
      replace hL := hide (show L = l ++ Def.hdB 1 n from by rw [← hL, hg5.out]; simp only [Def.hdB, List.append_assoc])
      have bw4 := hide (((b1.out.trans b2.out).trans b3.out).trans b4.out)
      clear hb1 hl1 hl2 hl3 ha1 hb2 hb3 b1 b2 b3 b4 hx hmin
      go_loopw [33] (fun s33 wr => ∃ i : Nat, i ≤ n ∧ s33 = .int .i64 (i : Int) ∧ Hid (WrAt B wr g (L ++ Def.bytB (bs.take i))) ∧ Hid (Below B wo wr)) (fun s33 _ => n - (intOf s33).toNat)
      case atStart => exact ⟨0, by omega, rfl, hide (by simpa [Def.bytB] using j4.out), hide bw4.out⟩
      case round =>
        clear j4 bw4
        obtain ⟨i, hi, rfl, hj, hb⟩ := hrel
        by_cases hlt : i < n
        · have hib : i < bs.length := by rw [hn0.out]; omega
          obtain ⟨bb, o, rfl, hbB, hcell⟩ := (hr.out.below (hb.out.mono hBb)).byte (j := i) (by omega)
          obtain ⟨x, hxx⟩ : ∃ x, bs[i].toNat = x := ⟨_, rfl⟩
          rw [hxx] at hcell
          have hx8 : x < 256 := by rw [← hxx]; exact bs[i].toNat_lt
          have hxu : IntKind.u32.wrap (x : Int) = (x : Int) := by rw [IntKind.wrap_u32]; omega
          have hbit := hide (ktbitsI hj.out x 8 (x : Int) 8 rfl rfl (by rw [List.length_append, Def.bytB_len, List.length_take]; have := hLl.out; have := hll.out; omega) (by omega) (by decide))
          have hbb2 := hide hbB
          clear hbB hbb2
          go_wp2_with (go_at_call 161; (with_reducible refine (hbit.out).mono ?_); rintro e w5 ⟨rfl, j5, b5, _⟩; have j5 := hide j5; have b5 := hide b5)
          go_roundw
          case rel => exact ⟨i + 1, by omega, by go_num, hide (by rw [take_snoc _ _ hib, Def.bytB, List.flatMap_append, List.flatMap_cons, List.flatMap_nil, List.append_nil, hxx, ← List.append_assoc]; exact j5.out), hide (hb.out.trans b5.out)⟩
          case measure => simp [intOf] <;> omega
        · obtain rfl : i = n := by omega
          go_wp2
          all_goals (
            refine bodyPost_ret (results_none rfl _ _ _) rfl ?_
            refine ⟨⟨_, rfl⟩, ?_, hbel.out.trans hb.out⟩
            obtain ⟨f, hf, he⟩ := hall.out
            rw [← he, Def.stoB_last f bs (by rw [hn0.out]; exact hlast), hn0.out, ← List.append_assoc, ← hL.out]
            have := hj.out
            rwa [List.take_of_length_le (by rw [hn0.out]; exact Nat.le_refl _)] at this)
    · have hn32 := hide (show 65535 < 4294967296 from by omega)
      have hne : ((65535 : Int) == (n : Int)) = false := by simp; omega
      have hmin : min (n : Int) 65535 = 65535 := by omega
      have hx : bits .xor .u32 (65535 : Int) 65535 = 0 := xor16 65535 (by decide)
      have hb1 := hide (show Calls Tryz.prog 161 #[.pointer (some ⟨g, 0, none⟩), .int .u32 0, .int .i64 3] wo fun e w' => e = .returned (.int .i64 0) ∧ WrAt B w' g (l ++ Bit.low 0 3) ∧ Below B wo w' ∧ Stp g wo w' from ktbits hw.out 0 3 (by have := hll.out; omega) (by decide) (by decide))
      have hl1 := hide (show (l ++ Bit.low 0 3).length ≤ 1000000000000 from by rw [List.length_append, low_len13]; have := hll.out; omega)
      have hg5 := hide (show Bit.gap (l ++ Bit.low 0 3).length = 5 from by rw [List.length_append, low_len13]; have := h8.out; unfold Bit.gap; omega)
      have hl2 := hide (show (l ++ Bit.low 0 3 ++ List.replicate (Bit.gap (l ++ Bit.low 0 3).length) false).length ≤ 1000000000000 from by rw [List.length_append, List.length_replicate, hg5.out, List.length_append, low_len13]; have := hll.out; omega)
      have hl3 := hide (show (l ++ Bit.low 0 3 ++ List.replicate (Bit.gap (l ++ Bit.low 0 3).length) false ++ Bit.low 65535 16).length ≤ 1000000000000 from by rw [List.length_append, low_len13, List.length_append, List.length_replicate, hg5.out, List.length_append, low_len13]; have := hll.out; omega)
      go_wp2_with (first
        | (go_at_call 162; (with_reducible refine (ha1.out).mono ?_); rintro e w2 ⟨rfl, j2, b2, _⟩; have hb2 := hide (ktbitsI j2 65535 16 (65535 : Int) 16 rfl rfl hl2.out hn32.out (by decide)); have b2 := hide b2; clear j2)
        | (go_at_call 161; (with_reducible refine (hb1.out).mono ?_); rintro e w1 ⟨rfl, j1, b1, _⟩; have ha1 := hide (xtalign j1 hl1.out); have b1 := hide b1; clear j1)
        | (go_at_call 161; (with_reducible refine (hb2.out).mono ?_); rintro e w3 ⟨rfl, j3, b3, _⟩; have hb3 := hide (ktbitsI j3 0 16 0 16 rfl rfl hl3.out (by omega) (by decide)); have b3 := hide b3; clear j3)
        | (go_at_call 161; (with_reducible refine (hb3.out).mono ?_); rintro e w4 ⟨rfl, j4, b4, _⟩; have j4 := hide j4; have b4 := hide b4))
      obtain ⟨L, hL⟩ : ∃ L, l ++ Bit.low 0 3 ++ List.replicate (Bit.gap (l ++ Bit.low 0 3).length) false ++ Bit.low 65535 16 ++ Bit.low 0 16 = L := ⟨_, rfl⟩
      have hLl := hide (show L.length = l.length + 40 from by rw [← hL]; have h5 := hg5.out; simp only [List.length_append, low_len13, List.length_replicate] at h5 ⊢; omega)
      rw [hL] at j4
      replace hL := hide (show L = l ++ Def.hdB 0 65535 from by rw [← hL, hg5.out]; simp only [Def.hdB, List.append_assoc, Nat.sub_self])
      have bw4 := hide (((b1.out.trans b2.out).trans b3.out).trans b4.out)
      clear hb1 hl1 hl2 hl3 ha1 hb2 hb3 b1 b2 b3 b4 hx hmin
      obtain ⟨n0, hnn⟩ : ∃ n0 : Nat, n0 = 65535 := ⟨_, rfl⟩
      rw [show (65535 : Int) = (n0 : Int) from by omega, show (65535 : Nat) = n0 from hnn.symm]
      rw [← hnn] at hL
      have hlt0 : n0 < n := by omega
      have hle0 := hide (show n0 ≤ 65535 from by omega)
      replace hnn := hide hnn
      clear hne hlast
      go_loopw [33] (fun s33 wr => ∃ i : Nat, i ≤ n0 ∧ s33 = .int .i64 (i : Int) ∧ Hid (WrAt B wr g (L ++ Def.bytB (bs.take i))) ∧ Hid (Below B wo wr)) (fun s33 _ => n0 - (intOf s33).toNat)
      case atStart => exact ⟨0, by omega, rfl, hide (by simpa [Def.bytB] using j4.out), hide bw4.out⟩
      case round =>
        clear j4 bw4
        obtain ⟨i, hi, rfl, hj, hb⟩ := hrel
        by_cases hlt : i < n0
        · have hib : i < bs.length := by rw [hn0.out]; omega
          obtain ⟨bb, o, rfl, hbB, hcell⟩ := (hr.out.below (hb.out.mono hBb)).byte (j := i) (by omega)
          obtain ⟨x, hxx⟩ : ∃ x, bs[i].toNat = x := ⟨_, rfl⟩
          rw [hxx] at hcell
          have hx8 : x < 256 := by rw [← hxx]; exact bs[i].toNat_lt
          have hxu : IntKind.u32.wrap (x : Int) = (x : Int) := by rw [IntKind.wrap_u32]; omega
          have hbit := hide (ktbitsI hj.out x 8 (x : Int) 8 rfl rfl (by rw [List.length_append, Def.bytB_len, List.length_take]; have := hLl.out; have := hll.out; omega) (by omega) (by decide))
          have hbb2 := hide hbB
          clear hbB hbb2
          go_wp2_with (go_at_call 161; (with_reducible refine (hbit.out).mono ?_); rintro e w5 ⟨rfl, j5, b5, _⟩; have j5 := hide j5; have b5 := hide b5)
          go_roundw
          case rel => exact ⟨i + 1, by omega, by go_num, hide (by rw [take_snoc _ _ hib, Def.bytB, List.flatMap_append, List.flatMap_cons, List.flatMap_nil, List.append_nil, hxx, ← List.append_assoc]; exact j5.out), hide (hb.out.trans b5.out)⟩
          case measure => simp [intOf] <;> omega
        · obtain rfl : i = n0 := by omega
          go_wp2
          have h65 := hnn.out
          obtain ⟨f, hf, he⟩ := hall.out
          obtain ⟨f', hf', hs⟩ := Def.stoB_more f bs (by rw [hn0.out]; omega) (by rw [hn0.out]; exact hf)
          rw [hn0.out] at hf'
          have hlb : (List.drop i bs).length = n - i := by rw [List.length_drop, hn0.out]
          have hbl : (L ++ Def.bytB (bs.take i)).length = l.length + 40 + 8 * i := by rw [List.length_append, hLl.out, Def.bytB_len, List.length_take, hn0.out]; omega
          have hr2 := (hr.out.below (hb.out.mono hBb)).sub i (n - i) (by omega)
          rw [← List.map_drop, List.take_of_length_le (by rw [List.length_map, hlb]; exact Nat.le_refl _)] at hr2
          refine ⟨⟨_, _, _, bs.drop i, L ++ Def.bytB (bs.take i), rfl, by omega, by omega, hide hlb, hide ⟨f', by rw [h65]; exact hf', ?_⟩, hide hr2, hide (by rw [hbl]; have := hll.out; omega), hide (by rw [hbl]; have := h8.out; omega), hj, hide (hbel.out.trans hb.out)⟩, ?_⟩
          · rw [← he, hs, hL.out, h65]
            simp only [List.append_assoc]
          · show n - i < n
            omega
end Go.Proofs.YtaapjampmnanmaaGreat
namespace Go.Proofs.YtaapjampmnanmaaGreat
open Go.RowKit
def Def.outL (pl : Bool) (bs : List UInt8) : List Bool := if pl then Def.stoB bs.length bs else Def.fixB bs
def Def.outB (pl : Bool) (bs : List UInt8) : List UInt8 := Bit.pack (Def.outL pl bs)
theorem Def.fixB_len (bs : List UInt8) (h : bs.length ≤ 1048576) : (Def.fixB bs).length ≤ 1000000000 := by
  have h1 := Def.toksB_len (Def.parse bs)
  have h2 := Def.toks_len bs bs.length 0
  rw [show Def.toks bs bs.length 0 = Def.parse bs from rfl] at h2
  have h3 : (Def.litB 256).length ≤ 60 := by
    have h1 := (fixL_le 256).1
    rw [Def.litB, word_len]
    omega
  simp only [Def.fixB, List.length_append, List.length_cons, List.length_nil]
  omega
theorem Def.hdB_len (v n : Nat) : (Def.hdB v n).length = 40 := by simp only [Def.hdB, List.length_append, low_len13, List.length_replicate]
theorem Def.stoB_len (f : Nat) (bs : List UInt8) : (Def.stoB f bs).length ≤ 8 * bs.length + 40 * (f + 1) := by
  induction f generalizing bs with
  | zero => rw [Def.stoB, List.length_append, Def.hdB_len, Def.bytB_len]; omega
  | succ f ih =>
    rw [Def.stoB]
    split
    · rw [List.length_append, Def.hdB_len, Def.bytB_len]; omega
    · have := ih (bs.drop 65535)
      rw [List.length_drop] at this
      rw [List.length_append, List.length_append, Def.hdB_len, Def.bytB_len, List.length_take]
      omega
theorem Def.outL_len (pl : Bool) (bs : List UInt8) (h : bs.length ≤ 1048576) : (Def.outL pl bs).length ≤ 1000000000000 := by
  cases pl with
  | false => exact Nat.le_trans (Def.fixB_len bs h) (by decide)
  | true =>
    show (Def.stoB bs.length bs).length ≤ _
    have := Def.stoB_len bs.length bs
    omega
set_option maxRecDepth 100000 in
set_option maxHeartbeats 2000000 in
theorem ddata_any (A : Option Addr) (n c : Nat) (bs : List UInt8) (pl : Bool) (w : World) (hr : Rd w w.heap.size A n (bs.map bv)) (hc : n ≤ c) (h : n ≤ 1048576) :
    Calls Tryz.prog 104 #[.slice A n c, .bool pl] w fun e w' => ∃ A' c', e = .returned (.tuple #[.slice A' (Def.outB pl bs).length c', .int .i64 0]) ∧ Ow w' w.heap.size 5 A' (Def.outB pl bs).length c' ((Def.outB pl bs).map bv) ∧ Below w.heap.size w w' := by
  have hl := hr.len
  subst hl
  have hm : (Def.outB pl bs).length = Bit.size (Def.outL pl bs).length := Bit.pack_length _
  rw [hm]
  have hll := hide (Def.outL_len pl bs h)
  replace hm := hide hm
  have hnw := hide (newwriter_at w)
  have hW : ∀ w1, WrAt w.heap.size w1 w.heap.size [] → Below w.heap.size w w1 → Rd w1 w.heap.size A bs.length (bs.map bv) := fun w1 _ h => hr.below h
  have hst := hide (fun w1 (h1 : WrAt w.heap.size w1 w.heap.size []) (h2 : Below w.heap.size w w1) => dstored_any w.heap.size w.heap.size [] A c bs w.heap.size w1 h1 (hW w1 h1 h2) (Nat.le_refl _) h hc (by decide) rfl)
  have hfx := hide (fun w1 (h1 : WrAt w.heap.size w1 w.heap.size []) (h2 : Below w.heap.size w w1) => dfixed_any w.heap.size w.heap.size [] A c bs w.heap.size w1 h1 (hW w1 h1 h2) (Nat.le_refl _) h (by decide))
  clear hr hW
  generalize hB : w.heap.size = B at *
  go_enter Tryz.func104, Tryz.ntmps104
  cases pl with
  | true =>
    go_wp2_with (first
      | (go_at_call 130; (with_reducible refine (hnw.out).mono ?_); rintro e w1 ⟨rfl, j1, b1⟩; have hs1 := hide (hst.out w1 j1 b1); have b1 := hide b1; clear j1)
      | (go_at_call 131; (with_reducible refine (hs1.out).mono ?_); rintro e w2 ⟨⟨v, rfl⟩, j2, b2⟩; have hs2 := hide (atbytes j2 (by simpa [Def.outL] using hll.out)); have b2 := hide b2; clear j2)
      | (go_at_call 133; (with_reducible refine (hs2.out).mono ?_); rintro e w3 ⟨A3, c3, rfl, o3, b3⟩; have o3 := hide o3; have b3 := hide b3))
    go_ret2
    have hs := b3.out.size
    have hs2 := b2.out.size
    have hs1 := b1.out.size
    exact ⟨A3, c3, rfl, o3.out.base_le (fun k hk => by have := (o3.out.blk_lt k hk).1; omega), (b1.out.trans b2.out).trans (b3.out.mono (by omega))⟩
  | false =>
    go_wp2_with (first
      | (go_at_call 130; (with_reducible refine (hnw.out).mono ?_); rintro e w1 ⟨rfl, j1, b1⟩; have hs1 := hide (hfx.out w1 j1 b1); have b1 := hide b1; clear j1)
      | (go_at_call 132; (with_reducible refine (hs1.out).mono ?_); rintro e w2 ⟨⟨v, rfl⟩, j2, b2⟩; have hs2 := hide (atbytes j2 (by simpa [Def.outL] using hll.out)); have b2 := hide b2; clear j2)
      | (go_at_call 133; (with_reducible refine (hs2.out).mono ?_); rintro e w3 ⟨A3, c3, rfl, o3, b3⟩; have o3 := hide o3; have b3 := hide b3))
    go_ret2
    have hs := b3.out.size
    have hs2 := b2.out.size
    have hs1 := b1.out.size
    exact ⟨A3, c3, rfl, o3.out.base_le (fun k hk => by have := (o3.out.blk_lt k hk).1; omega), (b1.out.trans b2.out).trans (b3.out.mono (by omega))⟩
end Go.Proofs.YtaapjampmnanmaaGreat
