/- Layer 13 (arch): what a part of an archive unpacks to, which directory it is, and which entry a number has: plain law. There is no condition. -/
import Derived.Test.YtaapjampmnanmaaGreatGz
import Derived.Deep.DeepCutAuto
import Derived.Test.YtaapjampmnanmaaGreatHuffX
import Derived.Test.YtaapjampmnanmaaGreatInfX
import Derived.Deep.LoopGhost
import Derived.StillTailTactics
import Derived.Test.YtaapjampmnanmaaGreatDefX
import Derived.BigQuiet
import Derived.Test.YtaapjampmnanmaaGreatInfY
import Derived.Deep.RegionHeld3
import Derived.Test.YtaapjampmnanmaaGreatArchK
import Derived.Test.YtaapjampmnanmaaGreatDirX
namespace Go.Proofs.YtaapjampmnanmaaGreat
open Go.RowKit Go.Shelf
set_option linter.unusedVariables false
set_option linter.unusedSimpArgs false
theorem Gz.all_len {F most : Nat} : ∀ {f : Nat} {out bs o : List UInt8}, Gz.all F most f out bs = .inr o → out.length ≤ most → o.length ≤ most := by
  intro f
  induction f with
  | zero => intro out bs o h; cases h
  | succ f ih =>
    intro out bs o h hl
    rw [Gz.all] at h
    obtain ⟨⟨x, q⟩, hm, h⟩ := Gz.bind_some h
    have hx := (Gz.member_some hm).2.2
    have h2 : (if bs.drop q = [] then .inr (out ++ x) else Gz.all F most f (out ++ x) (bs.drop q)) = Sum.inr o := h
    have hl2 : (out ++ x).length ≤ most := by rw [List.length_append]; omega
    split at h2
    · cases h2; exact hl2
    · exact ih h2 hl2
def Ar.part (bs : List UInt8) (a n : Nat) : List UInt8 := (bs.drop a).take n
def Ar.unpack (bs : List UInt8) (a n : Nat) (pk : Int) : Sum Nat (List UInt8) :=
  if Within a n bs.length then (if pk = 1 then (if 1048576 < n then .inl 5 else .inr (Ar.part bs a n)) else Gz.all (8 * n + 1) 1048576 (n + 1) [] (Ar.part bs a n)) else .inl 8
theorem Ar.part_len {bs : List UInt8} {a n : Nat} (h : Within a n bs.length) : (Ar.part bs a n).length = n := by
  unfold Ar.part Within at *
  rw [List.length_take, List.length_drop]
  omega
theorem Ar.unpack_len {bs d : List UInt8} {a n : Nat} {pk : Int} (h : Ar.unpack bs a n pk = .inr d) : d.length ≤ 1048576 := by
  unfold Ar.unpack at h
  split at h
  · rename_i hw
    split at h
    · split at h
      · cases h
      · cases h
        rw [Ar.part_len hw]
        omega
    · exact Gz.all_len h (Nat.zero_le _)
  · cases h
def DirR (bs : List UInt8) (pk : Int) (a n : Nat) (r : List Ent × Nat) : Prop :=
  (∀ e, Ar.unpack bs a n pk = .inl e → r = ([], e)) ∧ (∀ d, Ar.unpack bs a n pk = .inr d → GetR d r)
def FindR (es : List Ent) (id : Nat) (r : Ent × Bool) : Prop := (¬ RightE es → r = (Ent.zero, false)) ∧ (RightE es → ∃ i, CutAt es id i ∧ r = Fd es id i)
theorem FindR.no {es : List Ent} {id : Nat} {r : Ent × Bool} (h : FindR es id r) : ¬ RightE es → r = (Ent.zero, false) := by unfold FindR at h; exact h.1
theorem FindR.yes {es : List Ent} {id : Nat} {r : Ent × Bool} (h : FindR es id r) : RightE es → ∃ i, CutAt es id i ∧ r = Fd es id i := by unfold FindR at h; exact h.2
theorem GetR.right {bs : List UInt8} {r : List Ent × Nat} (h : GetR bs r) : r.2 = 0 → RightE r.1 := by
  obtain ⟨n, p, e, h0, h1, h2, h3, h4, h5⟩ := h
  intro hz
  by_cases he : e = 0
  · by_cases hn : 65536 < n
    · rw [h2 he hn] at hz; cases hz
    · by_cases hE : Ef bs n p = 0
      · by_cases hb : pf bs n p < bs.length ∨ ¬ RightE (gents (val bs n p) n)
        · rw [h4 he (by omega) hE hb] at hz; cases hz
        · have hR : RightE (gents (val bs n p) n) := Classical.byContradiction fun h => hb (.inr h)
          subst he
          have hp := (vr_use (Nat.zero_le _) h0).2
          have hpf := (rd_pf bs n p hp hE).2
          rw [h5 rfl (by omega) hE (by have : ¬ pf bs n p < bs.length := fun h => hb (.inl h); omega) hR]
          exact hR
      · rw [h3 he (by omega) hE] at hz; exact absurd hz hE
  · rw [h1 he] at hz; exact absurd hz he
def DownR (bs : List UInt8) (pk : Int) (l0 l1 id : Nat) : Nat → Nat → Nat → Ent × Bool × Nat → Prop
  | 0, _, _, r => r = (Ent.zero, false, 3)
  | k + 1, a, n, r => ∃ d, DirR bs pk a n d ∧ (d.2 ≠ 0 → r = (Ent.zero, false, d.2)) ∧ (d.2 = 0 → ∃ x, FindR d.1 id x ∧ (x.2 = false → r = (Ent.zero, false, 0)) ∧
      (x.2 = true → (0 < x.1.run → r = (x.1, true, 0)) ∧ (x.1.run = 0 → (¬ Within x.1.off x.1.len l1 → r = (Ent.zero, false, 8)) ∧ (Within x.1.off x.1.len l1 → DownR bs pk l0 l1 id k ((l0 + x.1.off) % 18446744073709551616) x.1.len r))))
theorem RightE.few {es : List Ent} (h : RightE es) : es.length ≤ 65536 := by unfold RightE at h; exact h.2.1
theorem RightE.big {es : List Ent} (h : RightE es) : ∀ x ∈ es, x.big := by
  intro x hx
  obtain ⟨j, hj, rfl⟩ := List.getElem_of_mem hx
  have h1 := h.2.2.1 j hj
  unfold Ent.ok at h1
  unfold Ent.big
  omega
end Go.Proofs.YtaapjampmnanmaaGreat
