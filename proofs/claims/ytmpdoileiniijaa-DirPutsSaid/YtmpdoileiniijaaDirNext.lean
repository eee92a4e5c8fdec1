/- Layer 12 (dir): the closure by which Get reads one number after the other: it keeps the place and the error in variables of Get. There is no condition but where these lie. -/
import Derived.Test.YtmpdoileiniijaaDirGetLaw
namespace Go.Proofs.Ytmpdoileiniijaa
open Go.RowKit

/-- Get's variables: the error, the bytes, the place. -/
structure Gs (w : World) (G : Nat) (ge gb ga : Nat) (A : Option Addr) (c : Nat) (bs : List UInt8) (E P : Nat) : Prop where
  ke : Blk w ge 31 #[.int .i64 (E : Int)]
  kb : Blk w gb 22 #[.slice A bs.length c]
  ka : Blk w ga 3 #[.int .i64 (P : Int)]
  he : G ≤ ge
  hb : G ≤ gb
  ha : G ≤ ga
  rd : Rd w G A bs.length (bs.map bv)
section
variable {w w' : World} {G ge gb ga : Nat} {A : Option Addr} {c : Nat} {bs : List UInt8} {E P : Nat}
theorem Gs.hG (h : Gs w G ge gb ga A c bs E P) : G ≤ w.heap.size := Nat.le_of_lt (Nat.lt_of_le_of_lt h.he h.ke.lt)
theorem Gs.chg {R : Nat → Prop} (h : Gs w G ge gb ga A c bs E P) (hc : Chg R w w') (h1 : ¬ R ge) (h2 : ¬ R gb) (h3 : ¬ R ga) (h4 : ∀ g, g < G → ¬ R g) : Gs w' G ge gb ga A c bs E P :=
  ⟨h.ke.chg hc h1, h.kb.chg hc h2, h.ka.chg hc h3, h.he, h.hb, h.ha, h.rd.chg hc h.hG (fun g hg _ => h4 g hg)⟩
theorem Gs.below (h : Gs w G ge gb ga A c bs E P) (hb : Below w.heap.size w w') : Gs w' G ge gb ga A c bs E P :=
  h.chg (R := fun _ => False) ⟨hb.os, hb.tape, hb.output, hb.size, fun k hl _ => hb.block k hl⟩ (fun h => h) (fun h => h) (fun h => h) (fun _ _ h => h)
/-- The error is set. -/
theorem Gs.setE (h : Gs w G ge gb ga A c bs E P) (E' : Nat) : Gs (w.setCell ⟨ge, 0, none⟩ (.int .i64 (E' : Int))) G ge gb ga A c bs E' P ∧ Chg (fun k => k = ge) w (w.setCell ⟨ge, 0, none⟩ (.int .i64 (E' : Int))) := by
  have hc : Chg (fun k => k = ge) w (w.setCell ⟨ge, 0, none⟩ (.int .i64 (E' : Int))) := (Chg.refl (fun k => k = ge) w).setCell (p := ⟨ge, 0, none⟩) (.inr rfl) _
  exact ⟨⟨h.ke.set 0 _, h.kb.chg hc (h.kb.same h.ke (by decide)), h.ka.chg hc (h.ka.same h.ke (by decide)), h.he, h.hb, h.ha, h.rd.chg hc h.hG (fun g hg _ e => by have := h.he; omega)⟩, hc⟩
theorem Gs.setP (h : Gs w G ge gb ga A c bs E P) (P' : Nat) : Gs (w.setCell ⟨ga, 0, none⟩ (.int .i64 (P' : Int))) G ge gb ga A c bs E P' ∧ Chg (fun k => k = ga) w (w.setCell ⟨ga, 0, none⟩ (.int .i64 (P' : Int))) := by
  have hc : Chg (fun k => k = ga) w (w.setCell ⟨ga, 0, none⟩ (.int .i64 (P' : Int))) := (Chg.refl (fun k => k = ga) w).setCell (p := ⟨ga, 0, none⟩) (.inr rfl) _
  exact ⟨⟨h.ke.chg hc (h.ke.same h.ka (by decide)), h.kb.chg hc (h.kb.same h.ka (by decide)), h.ka.set 0 _, h.he, h.hb, h.ha, h.rd.chg hc h.hG (fun g hg _ e => by have := h.ha; omega)⟩, hc⟩
end
/-- One number read. -/
def NextR (bs : List UInt8) (E P v E' P' : Nat) : Prop := (E ≠ 0 → v = 0 ∧ E' = E ∧ P' = P) ∧ (E = 0 → vr bs P = (v, P', E'))
theorem NextR.ex (bs : List UInt8) (E P : Nat) : ∃ v E' P', NextR bs E P v E' P' := by
  by_cases h : E = 0
  · exact ⟨(vr bs P).1, (vr bs P).2.2, (vr bs P).2.1, fun h' => absurd h h', fun _ => rfl⟩
  · exact ⟨0, E, P, fun _ => ⟨rfl, rfl, rfl⟩, fun h' => absurd h' h⟩

set_option maxRecDepth 100000 in
set_option maxHeartbeats 1000000 in
theorem next_any (G ge gb ga : Nat) (A : Option Addr) (c : Nat) (bs : List UInt8) (E P v E' P' : Nat) (w : World) (h : Gs w G ge gb ga A c bs E P) (hP : E = 0 → P ≤ bs.length) (hn : bs.length ≤ 1048576) (hE : E ≤ 9) (hN : NextR bs E P v E' P') :
    Calls Try.prog 41 #[.pointer (some ⟨ge, 0, none⟩), .pointer (some ⟨gb, 0, none⟩), .pointer (some ⟨ga, 0, none⟩)] w fun e w' => e = .returned (.int .u64 (v : Int)) ∧ Gs w' G ge gb ga A c bs E' P' ∧ Chg (fun k => k = ge ∨ k = ga) w w' := by
  have c0 : w.cell? ⟨ge, 0, none⟩ = some (.int .i64 (E : Int)) := h.ke.cell 0
  have c1 : w.cell? ⟨gb, 0, none⟩ = some (.slice A bs.length c) := h.kb.cell 0
  have c2 : w.cell? ⟨ga, 0, none⟩ = some (.int .i64 (P : Int)) := h.ka.cell 0
  by_cases hE0 : E = 0
  · have hv := hide (varint_any A c bs P w G h.rd (hP hE0) hn v P' E' (hN.2 hE0))
    subst hE0
    have f0 := h.ke.free 0
    have f2 := h.ka.free 0
    have hs1 := h.setP P'
    have hs2 := hs1.1.setE E'
    have f3 := hs1.1.ke.free 0
    have hne : ge ≠ ga := h.ke.same h.ka (by decide)
    have hfin := hide (show Gs _ G ge gb ga A c bs E' P' ∧ Chg (fun k => k = ge ∨ k = ga) w _ from ⟨hs2.1, (hs1.2.mono (fun _ _ h => Or.inr h)).trans hs2.2 (fun _ _ h => Or.inl h)⟩)
    generalize bs.length = n at *
    clear h hP hn hE hN hs1 hs2
    go_enter Try.func41, Try.ntmps41
    go_wp2_with (go_at_call 40; (with_reducible refine hv.out.mono ?_); rintro e w' ⟨rfl, rfl⟩)
    go_ret
    exact ⟨rfl, hfin.out⟩
  · obtain ⟨rfl, rfl, rfl⟩ := hN.1 hE0
    have hEb : ((E' : Int) == 0) = false := by simp; omega
    have hEb2 : (E' == 0) = false := by simp; omega
    have hfin := hide h
    generalize bs.length = n at *
    clear h hP hn hN hE hE0
    go_enter Try.func41, Try.ntmps41
    go_wp2
    go_ret
    exact ⟨rfl, hfin.out, Chg.refl _ _⟩

end Go.Proofs.Ytmpdoileiniijaa
