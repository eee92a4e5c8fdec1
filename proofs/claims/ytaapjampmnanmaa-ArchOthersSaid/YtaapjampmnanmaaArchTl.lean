/- Layer 13 (arch): which tile an archive tells of a place, and that bytes elsewhere have no influence: plain law. There is no condition. -/
import Derived.Test.YtaapjampmnanmaaArchUn
namespace Go.Proofs.Ytaapjampmnanmaa
open Go.RowKit Go.Shelf
set_option linter.unusedVariables false
set_option linter.unusedSimpArgs false

/-- What an archive tells of a number (ok: there is one, and its zoom is one of the archive's): the tile, whether it is one, and the error. -/
def TileR (bs : List UInt8) (h : Hd) (ok : Bool) (id : Nat) (r : List UInt8 × Bool × Nat) : Prop :=
  (ok = false → r = ([], false, 0)) ∧ (ok = true → ∃ f, DownR bs h.inn h.l0 h.l1 id 4 h.r0 h.r1 f ∧ (f.2.1 = false → r = ([], false, f.2.2)) ∧
    (f.2.1 = true → (¬ Within f.1.off f.1.len h.d1 → r = ([], false, 8)) ∧ (Within f.1.off f.1.len h.d1 →
      (∀ e, Ar.unpack bs ((h.d0 + f.1.off) % 18446744073709551616) f.1.len h.out = .inl e → r = ([], false, e)) ∧
      (∀ d, Ar.unpack bs ((h.d0 + f.1.off) % 18446744073709551616) f.1.len h.out = .inr d → r = (d, true, 0)))))
theorem TileR.of (bs : List UInt8) (h : Hd) (id : Nat) (f : Ent × Bool × Nat) (hf : DownR bs h.inn h.l0 h.l1 id 4 h.r0 h.r1 f) : ∃ r, TileR bs h true id r := by
  cases hb : f.2.1 with
  | false => exact ⟨_, fun h => (by cases h), fun _ => ⟨f, hf, fun _ => rfl, fun h => (by rw [hb] at h; cases h)⟩⟩
  | true =>
    by_cases hw : Within f.1.off f.1.len h.d1
    · cases hu : Ar.unpack bs ((h.d0 + f.1.off) % 18446744073709551616) f.1.len h.out with
      | inl e => exact ⟨([], false, e), fun h => (by cases h), fun _ => ⟨f, hf, fun h => (by rw [hb] at h; cases h), fun _ => ⟨fun h => absurd hw h, fun _ => ⟨fun e' h => (by rw [hu] at h; cases h; rfl), fun d h => (by rw [hu] at h; cases h)⟩⟩⟩⟩
      | inr d => exact ⟨(d, true, 0), fun h => (by cases h), fun _ => ⟨f, hf, fun h => (by rw [hb] at h; cases h), fun _ => ⟨fun h => absurd hw h, fun _ => ⟨fun e' h => (by rw [hu] at h; cases h), fun d' h => (by rw [hu] at h; cases h; rfl)⟩⟩⟩⟩
    · exact ⟨_, fun h => (by cases h), fun _ => ⟨f, hf, fun h => (by rw [hb] at h; cases h), fun _ => ⟨fun _ => rfl, fun h => absurd h hw⟩⟩⟩
theorem TileR.ex (bs : List UInt8) (h : Hd) (ok : Bool) (id : Nat) (hx : ∀ es : List Ent, Asc es → ∃ i, CutAt es id i) : ∃ r, TileR bs h ok id r := by
  cases ok with
  | false => exact ⟨_, fun _ => rfl, fun h => (by cases h)⟩
  | true =>
    obtain ⟨f, hf⟩ := DownR.ex bs h.inn h.l0 h.l1 id hx 4 h.r0 h.r1
    exact TileR.of bs h id f hf

/-- A byte that lies elsewhere does not change a part. -/
theorem Ar.part_set {bs : List UInt8} {a n k : Nat} (x : UInt8) (h : k < a ∨ a + n ≤ k) : Ar.part (bs.set k x) a n = Ar.part bs a n := by
  unfold Ar.part
  apply List.ext_getElem?
  intro i
  rw [List.getElem?_take, List.getElem?_take]
  split
  · rw [List.getElem?_drop, List.getElem?_drop, List.getElem?_set_ne (by omega)]
  · rfl
theorem Ar.unpack_set {bs : List UInt8} {a n k : Nat} (x : UInt8) (pk : Int) (h : Within a n bs.length → k < a ∨ a + n ≤ k) : Ar.unpack (bs.set k x) a n pk = Ar.unpack bs a n pk := by
  unfold Ar.unpack
  rw [List.length_set]
  by_cases hw : Within a n bs.length
  · rw [if_pos hw, if_pos hw, Ar.part_set x (h hw)]
  · rw [if_neg hw, if_neg hw]
theorem DirR.set {bs : List UInt8} {a n k : Nat} {pk : Int} {r : List Ent × Nat} (x : UInt8) (h : Within a n bs.length → k < a ∨ a + n ≤ k) (hd : DirR bs pk a n r) : DirR (bs.set k x) pk a n r := by
  unfold DirR at *
  rw [Ar.unpack_set x pk h]
  exact hd
theorem DownR.set {bs : List UInt8} {pk : Int} {l0 l1 id k : Nat} (x : UInt8) (hl : Within l0 l1 bs.length) (hb : bs.length ≤ 2000) (hk : k < l0 ∨ l0 + l1 ≤ k) :
    ∀ (j a n : Nat) (r : Ent × Bool × Nat), (Within a n bs.length → k < a ∨ a + n ≤ k) → DownR bs pk l0 l1 id j a n r → DownR (bs.set k x) pk l0 l1 id j a n r := by
  intro j
  induction j with
  | zero => intro a n r _ h; exact h
  | succ j ih =>
    intro a n r hp h
    obtain ⟨d, hd, h1, h2⟩ := h
    refine ⟨d, hd.set x hp, h1, fun h0 => ?_⟩
    obtain ⟨q, hq, h3, h4⟩ := h2 h0
    refine ⟨q, hq, h3, fun h5 => ⟨(h4 h5).1, fun h6 => ⟨((h4 h5).2 h6).1, fun h7 => ih _ _ _ ?_ (((h4 h5).2 h6).2 h7)⟩⟩⟩
    intro _
    unfold Within at hl h7
    omega
theorem TileR.set {bs : List UInt8} {h : Hd} {id k : Nat} {r : List UInt8 × Bool × Nat} (x : UInt8) (hr : TileR bs h true id r) (hok : r.2.1 = true)
    (hl : Within h.l0 h.l1 bs.length) (hb : bs.length ≤ 2000) (hk : k < h.l0 ∨ h.l0 + h.l1 ≤ k) (hk0 : k < h.r0 ∨ h.r0 + h.r1 ≤ k) (hkd : ∀ f, DownR bs h.inn h.l0 h.l1 id 4 h.r0 h.r1 f → f.2.1 = true → k < (h.d0 + f.1.off) % 18446744073709551616 ∨ (h.d0 + f.1.off) % 18446744073709551616 + f.1.len ≤ k) :
    TileR (bs.set k x) h true id r := by
  refine ⟨fun h => (by cases h), fun _ => ?_⟩
  obtain ⟨f, hf, h1, h2⟩ := hr.2 rfl
  refine ⟨f, hf.set x hl hb hk _ _ _ _ (fun _ => hk0), h1, fun h3 => ?_⟩
  rw [Ar.unpack_set x h.out (fun _ => hkd f hf h3)]
  exact h2 h3

end Go.Proofs.Ytaapjampmnanmaa
