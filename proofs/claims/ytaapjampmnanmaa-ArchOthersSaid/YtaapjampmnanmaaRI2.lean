/- Layer 4 (inflate), the document's answer: fixed, walked. There is no condition. Layer 4 (inflate), the document's answer: lengths, walked. The conditions: where things lie. Layer 4 (inflate), the document's answer: dynamic, walked. The conditions: where things lie. Layer 4 (inflate), the document's answer: Data, walked. The conditions: where the bytes lie, and how many they are. -/
import Derived.Test.YtaapjampmnanmaaRI1
import Derived.Test.YtaapjampmnanmaaHuffX
import Derived.Test.YtaapjampmnanmaaDefX
import Derived.Deep.DeepCutAuto
import Derived.BigQuiet
import Derived.Test.YtaapjampmnanmaaInfY
import Derived.Deep.RegionHeld3
namespace Go.Proofs.Ytaapjampmnanmaa
open Go.RowKit Go.Shelf
set_option linter.unusedVariables false
set_option linter.unusedSimpArgs false

theorem BookV.one {B : Nat} {w : World} {ls : List Nat} {cs : Array Value} (h : BookV B w ls cs) : cs.all (·.oneCell') = true := by obtain ⟨Ao, co, h1, _⟩ := h; exact h1.one
theorem BookV.base {B B' : Nat} {w : World} {ls : List Nat} {cs : Array Value} (h : BookV B w ls cs) (hb : B' ≤ B) : BookV B' w ls cs := by
  obtain ⟨Ao, co, h1, h2⟩ := h
  exact ⟨Ao, co, h1, fun s hs => (h2 s hs).base_le (fun g hg => Nat.le_trans hb ((h2 s hs).blk_lt g hg).1)⟩
end Go.Proofs.Ytaapjampmnanmaa

namespace Go.Proofs.Ytaapjampmnanmaa
open Go.RowKit Go.Shelf
set_option linter.unusedVariables false
set_option linter.unusedSimpArgs false

theorem KeepX.past {R : Nat → Prop} {w a b : World} (h : KeepX w a) (hc : Chg R a b) (hR : ∀ k, R k → w.heap.size ≤ k) : KeepX w b :=
  ⟨Nat.le_trans h.1 hc.size, fun k cs t fz x h1 h2 h3 => by
    have h4 := h.2 k cs t fz x h1 h2 h3
    rw [hc.block k (lt_of_block h4) (fun hr => by have := hR k hr; have := lt_of_block x; omega)]
    exact h4⟩
theorem RSt.past {W W' : World} {B : Nat} {l : List Bool} {most a : Nat} {o : List UInt8} {e : Nat} {Al : Option Addr} {n cl : Nat} {Ao : Option Addr} {m co : Nat} (h : RSt W B l most a o e Al n cl Ao m co) {A : Option Addr} {N c base : Nat} {xs : List Value} (hi : Ow W base 3 A N c xs) (hb : B ≤ base) (hc : Chg (fun k => blk A = some k) W W') : RSt W' B l most a o e Al n cl Ao m co :=
  ⟨h.ha, h.hm, h.hmm, h.he, Nat.le_trans h.hB hc.size, h.hc, h.hn, h.hmost, h.rd.below (hc.to_below h.hB (fun k hk => Nat.le_trans hb (hi.blk_lt k hk).1)), h.ow.chg hc (fun k hk hk' => h.ow.ne_ow hi (by decide) k hk hk')⟩

end Go.Proofs.Ytaapjampmnanmaa

namespace Go.Proofs.Ytaapjampmnanmaa
open Go.RowKit Go.Shelf
set_option linter.unusedVariables false
set_option linter.unusedSimpArgs false

theorem RSt.calm {W W' : World} {B : Nat} {l : List Bool} {most a : Nat} {o : List UInt8} {e : Nat} {Al : Option Addr} {n cl : Nat} {Ao : Option Addr} {m co gl : Nat} {cs : Array Value} (h : RSt W B l most a o e Al n cl Ao m co) (hk : Blk W gl 3 cs) (hg : B ≤ gl) (hc : Chg (fun k => k = gl) W W') : RSt W' B l most a o e Al n cl Ao m co :=
  ⟨h.ha, h.hm, h.hmm, h.he, Nat.le_trans h.hB hc.size, h.hc, h.hn, h.hmost, h.rd.below (hc.to_below h.hB (by rintro k rfl; exact hg)), h.ow.chg hc (by rintro k hk' rfl; exact h.ow.ne hk (by decide) hk')⟩
theorem RI.three_next {α : Type} {l : List Bool} {k i a a1 e1 y : Nat} {acc : List Nat} {o : List UInt8} {f : List Nat → Inf.M α} {RR : Inf.R α} (h : RI.bits l 3 a 0 = (a1, e1, y)) (hr : Inf.bind (Inf.three l (k + 1) i acc) f a o = RR) :
    (e1 = 0 → Inf.bind (Inf.three l k (i + 1) (acc.set (Inf.order.getD i 0) y)) f a1 o = RR) ∧ (e1 ≠ 0 → RR = .inl e1) := by
  rw [Inf.three, Inf.bind_assoc] at hr
  have b := RI.bits_step (o := o) h (fun v => Inf.bind (Inf.three l k (i + 1) (acc.set (Inf.order.getD i 0) v)) f)
  rw [hr] at b
  exact ⟨fun h => (b.1 h).symm, fun h => (b.2 h).1⟩

section
variable {P : Program} {ops : Array Oper} {md : Region.Mode} {Q : Exit → Act → World → Prop} {S S' : World → Prop}
end

/-- What is left to read of the lengths of lengths. -/
def RI.TL (l : List Bool) (f : List Nat → Inf.M (List Nat × List Nat)) (mm i : Nat) (acc : List Nat) (a e : Nat) (o : List UInt8) (RR : Inf.R (List Nat × List Nat)) : Prop :=
  (e = 0 → Inf.bind (Inf.three l (mm - i) i acc) f a o = RR) ∧ (e ≠ 0 → RR = .inl e)
theorem RI.TL.next {l : List Bool} {f : List Nat → Inf.M (List Nat × List Nat)} {mm i a e a5 e5 v : Nat} {acc : List Nat} {o : List UInt8} {RR : Inf.R (List Nat × List Nat)} (h : RI.TL l f mm i acc a e o RR) (hi : i < mm) (hq : RI.bits l 3 a e = (a5, e5, v)) : RI.TL l f mm (i + 1) (acc.set (Inf.order.getD i 0) v) a5 e5 o RR := by
  by_cases he : e = 0
  · subst he
    have h1 := h.1 rfl
    rw [show mm - i = mm - (i + 1) + 1 from by omega] at h1
    exact RI.three_next hq h1
  · obtain ⟨r1, _, _⟩ := RI.bits_off hq he
    subst r1
    exact ⟨fun h0 => absurd h0 he, h.2⟩

end Go.Proofs.Ytaapjampmnanmaa

namespace Go.Proofs.Ytaapjampmnanmaa
open Go.RowKit Go.Shelf
set_option linter.unusedVariables false
set_option linter.unusedSimpArgs false

section
variable {w W W' : World} {G : Nat} {c0 c1 c2 c3 c4 : Value}
end
/-- What a block leaves. -/
def RI.Blo (l : List Bool) (most F g a : Nat) (f : Nat) (RR r : Inf.R Unit) : Prop :=
  (∀ er, r = .inl er → RR = .inl er) ∧ (∀ a3 o3, r = .inr ((), a3, o3) → a < a3 ∧ (if f = 1 then Inf.ret () else Inf.blocks l most F g) a3 o3 = RR)
/-- What is left to read of the blocks. -/
def RI.BL (l : List Bool) (most F n gk a : Nat) (o : List UInt8) (e f : Nat) (RR : Inf.R Unit) : Prop :=
  (e = 0 → (if f = 1 then Inf.ret () else Inf.blocks l most F gk) a o = RR ∧ (f = 1 ∨ n < a + gk)) ∧ (e ≠ 0 → RR = .inl e)
theorem RI.BL.next {l : List Bool} {most F n g a a3 e3 f : Nat} {o3 : List UInt8} {RR r : Inf.R Unit} (h : RI.Blo l most F g a f RR r) (hq : RI.is r a3 o3 e3) (hn : n < a + (g + 1)) : RI.BL l most F n g a3 o3 e3 f RR := by
  cases r with
  | inl er =>
    obtain ⟨rfl, h0⟩ := hq
    exact ⟨fun h => absurd h h0, fun _ => h.1 _ rfl⟩
  | inr x =>
    obtain ⟨⟨⟩, a', o'⟩ := x
    obtain ⟨rfl, rfl, rfl⟩ := hq
    exact ⟨fun _ => ⟨(h.2 _ _ rfl).2, .inr (by have := (h.2 _ _ rfl).1; omega)⟩, fun h0 => absurd rfl h0⟩
theorem RI.BL.off {l : List Bool} {most F n g a e f : Nat} {o : List UInt8} {RR : Inf.R Unit} (h : RR = .inl e) (he : e ≠ 0) : RI.BL l most F n g a o e f RR := ⟨fun h0 => absurd h0 he, fun _ => h⟩


end Go.Proofs.Ytaapjampmnanmaa
