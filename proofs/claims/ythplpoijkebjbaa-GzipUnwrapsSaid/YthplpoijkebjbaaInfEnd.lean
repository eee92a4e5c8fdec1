/- Layer 4 (inflate): the plain law of bytes that end earlier, and of bytes behind. There is no condition. -/
import Derived.Test.YthplpoijkebjbaaInfLaw
namespace Go.Proofs.Ythplpoijkebjbaa
set_option linter.unusedVariables false

/-- Whatever is refused is refused by an error that is none but OK. -/
def Inf.NZ {α : Type} (p : Inf.M α) : Prop := ∀ a o e, p a o = .inl e → e ≠ 0
theorem Inf.NZ.ret {α : Type} (x : α) : Inf.NZ (Inf.ret x) := fun a o e h => by cases h
theorem Inf.NZ.err {α : Type} (e : Nat) (he : e ≠ 0) : Inf.NZ (Inf.err e : Inf.M α) := fun a o e' h => by
  cases h
  exact he
theorem Inf.NZ.bind {α β : Type} {p : Inf.M α} {f : α → Inf.M β} (hp : Inf.NZ p) (hf : ∀ x, Inf.NZ (f x)) : Inf.NZ (Inf.bind p f) := fun a o e h => by
  cases hr : p a o with
  | inl e' =>
    rw [Inf.bind_err hr] at h
    cases h
    exact hp a o e hr
  | inr r =>
    obtain ⟨x, a1, o1⟩ := r
    rw [Inf.bind_ok hr] at h
    exact hf x a1 o1 e h
theorem Inf.NZ.ite {α : Type} {c : Prop} [Decidable c] {p q : Inf.M α} (hp : Inf.NZ p) (hq : Inf.NZ q) : Inf.NZ (if c then p else q) := by
  by_cases h : c
  · rwa [if_pos h]
  · rwa [if_neg h]
section
variable (l : List Bool) (most : Nat)
theorem Inf.NZ.bits (n : Nat) : Inf.NZ (Inf.bits l n) := fun a o e h => by
  unfold Inf.bits at h
  split at h
  · cases h
  · cases h
    decide
theorem Inf.NZ.align : Inf.NZ Inf.align := fun a o e h => by cases h
theorem Inf.NZ.sym (ls : List Nat) : Inf.NZ (Inf.sym l ls) := fun a o e h => by
  unfold Inf.sym at h
  split at h
  · cases h
  · cases h
    omega
theorem Inf.NZ.put (c : UInt8) : Inf.NZ (Inf.put most c) := fun a o e h => by
  unfold Inf.put at h
  split at h
  · cases h
    decide
  · cases h
theorem Inf.NZ.raw (n : Nat) : Inf.NZ (Inf.raw l most n) := by
  induction n with
  | zero => exact Inf.NZ.ret ()
  | succ n ih => exact (Inf.NZ.bits l 8).bind fun c => (Inf.NZ.put most _).bind fun _ => ih
theorem Inf.NZ.stored : Inf.NZ (Inf.stored l most) := Inf.NZ.align.bind fun _ => (Inf.NZ.bits l 16).bind fun n => (Inf.NZ.bits l 16).bind fun m => Inf.NZ.ite (Inf.NZ.raw l most n) (Inf.NZ.err 3 (by decide))
theorem Inf.NZ.back (d n : Nat) : Inf.NZ (Inf.back most d n) := by
  induction n with
  | zero => exact Inf.NZ.ret ()
  | succ n ih => exact fun a o e h => ((Inf.NZ.put most (o.getD (o.length - d) 0)).bind fun _ => ih) a o e h
theorem Inf.NZ.reach (d n : Nat) : Inf.NZ (Inf.reach most d n) := fun a o e h => by
  unfold Inf.reach at h
  split at h
  · cases h
    decide
  · exact Inf.NZ.back most d n a o e h
theorem Inf.NZ.copied (far : List Nat) (s : Nat) : Inf.NZ (Inf.copied l most far s) :=
  Inf.NZ.ite (Inf.NZ.err 3 (by decide)) ((Inf.NZ.bits l _).bind fun _ => (Inf.NZ.sym l far).bind fun t => Inf.NZ.ite (Inf.NZ.err 3 (by decide)) ((Inf.NZ.bits l _).bind fun _ => Inf.NZ.reach most _ _))
theorem Inf.NZ.symbols (near far : List Nat) (f : Nat) : Inf.NZ (Inf.symbols l most near far f) := by
  induction f with
  | zero => exact Inf.NZ.err 3 (by decide)
  | succ f ih => exact (Inf.NZ.sym l near).bind fun s => Inf.NZ.ite ((Inf.NZ.put most _).bind fun _ => ih) (Inf.NZ.ite (Inf.NZ.ret ()) ((Inf.NZ.copied l most far s).bind fun _ => ih))
theorem Inf.NZ.often (acc : List Nat) (s : Nat) : Inf.NZ (Inf.often l acc s) :=
  Inf.NZ.ite (Inf.NZ.ite (Inf.NZ.err 3 (by decide)) ((Inf.NZ.bits l 2).bind fun _ => Inf.NZ.ret _)) (Inf.NZ.ite ((Inf.NZ.bits l 3).bind fun _ => Inf.NZ.ret _) (Inf.NZ.ite ((Inf.NZ.bits l 7).bind fun _ => Inf.NZ.ret _) (Inf.NZ.ret _)))
theorem Inf.NZ.lens (ls : List Nat) (many f : Nat) : ∀ acc, Inf.NZ (Inf.lens l ls many f acc) := by
  induction f with
  | zero => intro acc; exact Inf.NZ.err 3 (by decide)
  | succ f ih => intro acc; exact Inf.NZ.ite (Inf.NZ.ret acc) ((Inf.NZ.sym l ls).bind fun s => (Inf.NZ.often l acc s).bind fun nv => Inf.NZ.ite (Inf.NZ.err 3 (by decide)) (ih _))
theorem Inf.NZ.need (ls : List Nat) (short : Bool) : Inf.NZ (Inf.need ls short) := fun a o e h => by
  unfold Inf.need at h
  split at h
  · cases h
  · cases h
    decide
theorem Inf.NZ.three (n : Nat) : ∀ i acc, Inf.NZ (Inf.three l n i acc) := by
  induction n with
  | zero => intro i acc; exact Inf.NZ.ret acc
  | succ n ih => intro i acc; exact (Inf.NZ.bits l 3).bind fun v => ih _ _
theorem Inf.NZ.dynamic : Inf.NZ (Inf.dynamic l) :=
  (Inf.NZ.bits l 5).bind fun a => (Inf.NZ.bits l 5).bind fun b => Inf.NZ.ite (Inf.NZ.err 3 (by decide)) ((Inf.NZ.bits l 4).bind fun m => (Inf.NZ.three l _ _ _).bind fun c =>
    (Inf.NZ.need c false).bind fun _ => (Inf.NZ.lens l c _ _ _).bind fun ls => Inf.NZ.ite (Inf.NZ.err 3 (by decide)) ((Inf.NZ.need _ false).bind fun _ => (Inf.NZ.need _ true).bind fun _ => Inf.NZ.ret _))
theorem Inf.NZ.block (F : Nat) : Inf.NZ (Inf.block l most F) :=
  (Inf.NZ.bits l 1).bind fun fin => (Inf.NZ.bits l 2).bind fun k => Inf.NZ.ite ((Inf.NZ.stored l most).bind fun _ => Inf.NZ.ret _)
    (Inf.NZ.ite ((Inf.NZ.symbols l most _ _ F).bind fun _ => Inf.NZ.ret _) (Inf.NZ.ite ((Inf.NZ.dynamic l).bind fun c => (Inf.NZ.symbols l most _ _ F).bind fun _ => Inf.NZ.ret _) (Inf.NZ.err 3 (by decide))))
theorem Inf.NZ.blocks (F f : Nat) : Inf.NZ (Inf.blocks l most F f) := by
  induction f with
  | zero => exact Inf.NZ.err 3 (by decide)
  | succ f ih => exact (Inf.NZ.block l most F).bind fun fin => Inf.NZ.ite (Inf.NZ.ret ()) ih
end
/-- What all blocks come to. -/
def Inf.fin : Inf.R Unit → Sum Nat (List UInt8 × Nat)
  | .inl e => .inl e
  | .inr (_, a, o) => .inr (o, (a + Bit.gap a) / 8)
theorem Inf.data_fin (l : List Bool) (most F : Nat) : Inf.data l most F = Inf.fin (Inf.blocks l most F F 0 []) := by
  unfold Inf.data
  cases Inf.blocks l most F F 0 [] <;> rfl
theorem Inf.data_nz {l : List Bool} {most F e : Nat} (h : Inf.data l most F = .inl e) : e ≠ 0 := by
  rw [Inf.data_fin] at h
  cases hb : Inf.blocks l most F F 0 [] with
  | inl e' =>
    rw [hb] at h
    cases h
    exact Inf.NZ.blocks l most F F 0 [] e hb
  | inr r => rw [hb] at h; cases h
theorem Inf.data_some {l : List Bool} {most F n : Nat} {o : List UInt8} (h : Inf.data l most F = .inr (o, n)) : ∃ a, Inf.blocks l most F F 0 [] = .inr ((), a, o) ∧ n = (a + Bit.gap a) / 8 := by
  rw [Inf.data_fin] at h
  cases hb : Inf.blocks l most F F 0 [] with
  | inl e' => rw [hb] at h; cases h
  | inr r =>
    obtain ⟨_, a, o'⟩ := r
    rw [hb] at h
    cases h
    exact ⟨a, rfl, rfl⟩
theorem Inf.data_le {l : List Bool} {most F n : Nat} {o : List UInt8} (h : Inf.data l most F = .inr (o, n)) (h8 : l.length % 8 = 0) : 8 * n ≤ l.length := by
  obtain ⟨a, hb, hn⟩ := Inf.data_some h
  have h1 := ((Inf.Mono.blocks most F F).2 l l 0 [] (List.prefix_refl l) h8 (Nat.zero_le _)).1 _ _ _ hb
  have h2 : a ≤ l.length := by
    rcases Nat.lt_or_ge l.length a with h | h
    · have := h1.2 h
      rw [show (fun l => Inf.blocks l most F F) l 0 [] = Inf.blocks l most F F 0 [] from rfl, hb] at this
      cases this
    · exact h
  unfold Bit.gap at hn
  omega
/-- Of what begins alike and is long enough, the same is read. -/
theorem Inf.data_pre {l l' : List Bool} {most F n : Nat} {o : List UInt8} (h : Inf.data l most F = .inr (o, n)) (hl : l' <+: l) (h8 : l'.length % 8 = 0) : (8 * n ≤ l'.length → Inf.data l' most F = .inr (o, n)) ∧ (l'.length < 8 * n → Inf.data l' most F = .inl 2) := by
  obtain ⟨a, hb, hn⟩ := Inf.data_some h
  obtain ⟨h1, h2⟩ := ((Inf.Mono.blocks most F F).2 l l' 0 [] hl h8 (Nat.zero_le _)).1 _ _ _ hb
  have e : ∀ l, (fun l => Inf.blocks l most F F) l 0 [] = Inf.blocks l most F F 0 [] := fun _ => rfl
  rw [e] at h1 h2
  unfold Bit.gap at hn
  constructor
  · intro hle
    rw [Inf.data_fin, h1 (by omega), hn]
    rfl
  · intro hlt
    rw [Inf.data_fin, h2 (by omega)]
    rfl
/-- Of what goes on behind, the same is read. -/
theorem Inf.data_ext {l l' : List Bool} {most F n : Nat} {o : List UInt8} (h : Inf.data l' most F = .inr (o, n)) (hl : l' <+: l) (h8 : l'.length % 8 = 0) : Inf.data l most F = .inr (o, n) := by
  cases hd : Inf.data l most F with
  | inl e =>
    exfalso
    rw [Inf.data_fin] at hd
    cases hb : Inf.blocks l most F F 0 [] with
    | inr r => rw [hb] at hd; cases hd
    | inl e' =>
      obtain ⟨e2, h2⟩ := ((Inf.Mono.blocks most F F).2 l l' 0 [] hl h8 (Nat.zero_le _)).2 e' hb
      rw [Inf.data_fin, show Inf.blocks l' most F F 0 [] = .inl e2 from h2] at h
      cases h
  | inr r =>
    obtain ⟨o2, n2⟩ := r
    obtain ⟨h1, h2⟩ := Inf.data_pre hd hl h8
    by_cases hc : 8 * n2 ≤ l'.length
    · have := h1 hc
      rw [h] at this
      exact this.symm ▸ rfl
    · have := h2 (by omega)
      rw [h] at this
      cases this

end Go.Proofs.Ythplpoijkebjbaa
