/- Layer 4 (inflate): the plain law: what any bits are unpacked, or why they can't be. There is no condition. Layer 4 (inflate): the plain law of bytes that end earlier, and of bytes behind. There is no condition. Layer 4 (inflate): the unpacker's memory, and the walk of a code's Read with what it leaves alone. The conditions: where things lie. Layer 4 (inflate): the unpacker's small steps: bits, symbol, put. The conditions: where things lie. Layer 4 (inflate): the unpacker's blocks: stored, copied, symbols. The conditions: where things lie. -/
import Derived.Test.YtaapjampmnanmaaGreatHuffX
import Derived.Test.YtaapjampmnanmaaGreatDefX
import Derived.Deep.QuietTactic
import Derived.BigQuiet
import Derived.StillTailTactics
import Derived.Deep.LoopGhost
namespace Go.Proofs.YtaapjampmnanmaaGreat
set_option linter.unusedVariables false
abbrev Inf.R (α : Type) : Type := Sum Nat (α × Nat × List UInt8)
abbrev Inf.M (α : Type) : Type := Nat → List UInt8 → Inf.R α
def Inf.bind {α β : Type} (p : Inf.M α) (f : α → Inf.M β) : Inf.M β := fun a o =>
  match p a o with
  | .inl e => .inl e
  | .inr (x, a', o') => f x a' o'
def Inf.ret {α : Type} (x : α) : Inf.M α := fun a o => .inr (x, a, o)
def Inf.err {α : Type} (e : Nat) : Inf.M α := fun _ _ => .inl e
theorem Inf.bind_ok {α β : Type} {p : Inf.M α} {f : α → Inf.M β} {a a' : Nat} {o o' : List UInt8} {x : α} (h : p a o = .inr (x, a', o')) : Inf.bind p f a o = f x a' o' := by simp only [Inf.bind, h]
theorem Inf.bind_err {α β : Type} {p : Inf.M α} {f : α → Inf.M β} {a : Nat} {o : List UInt8} {e : Nat} (h : p a o = .inl e) : Inf.bind p f a o = .inl e := by simp only [Inf.bind, h]
section
variable (l : List Bool) (most : Nat)
def Inf.bits (n : Nat) : Inf.M Nat := fun a o => if a + n ≤ l.length then .inr (Bit.num ((l.drop a).take n), a + n, o) else .inl 2
def Inf.align : Inf.M Unit := fun a o => .inr ((), a + Bit.gap a, o)
def Inf.sym (ls : List Nat) : Inf.M Nat := fun a o =>
  match Huf.dec ls (l.drop a) 15 0 0 with
  | (m, x, 0) => .inr (m, a + x, o)
  | (_, _, e + 1) => .inl (e + 1)
def Inf.put (c : UInt8) : Inf.M Unit := fun a o => if most ≤ o.length then .inl 5 else .inr ((), a, o ++ [c])
def Inf.raw : Nat → Inf.M Unit
  | 0 => Inf.ret ()
  | n + 1 => Inf.bind (Inf.bits l 8) fun c => Inf.bind (Inf.put most (UInt8.ofNat c)) fun _ => Inf.raw n
def Inf.stored : Inf.M Unit := Inf.bind Inf.align fun _ => Inf.bind (Inf.bits l 16) fun n => Inf.bind (Inf.bits l 16) fun m => if n + m = 65535 then Inf.raw l most n else Inf.err 3
def Inf.back (d : Nat) : Nat → Inf.M Unit
  | 0 => Inf.ret ()
  | n + 1 => fun a o => Inf.bind (Inf.put most (o.getD (o.length - d) 0)) (fun _ => Inf.back d n) a o
def Inf.reach (d n : Nat) : Inf.M Unit := fun a o => if o.length < d then .inl 3 else Inf.back most d n a o
def Inf.copied (far : List Nat) (s : Nat) : Inf.M Unit :=
  if s < 257 ∨ 285 < s then Inf.err 3
  else Inf.bind (Inf.bits l (Def.lenX (s - 257))) fun k => Inf.bind (Inf.sym l far) fun t =>
    if 29 < t then Inf.err 3
    else Inf.bind (Inf.bits l (Def.dstX t)) fun m => Inf.reach most (Def.dstB t + m) (Def.lenB (s - 257) + k)
def Inf.symbols (near far : List Nat) : Nat → Inf.M Unit
  | 0 => Inf.err 3
  | f + 1 => Inf.bind (Inf.sym l near) fun s =>
    if s < 256 then Inf.bind (Inf.put most (UInt8.ofNat s)) fun _ => Inf.symbols near far f
    else if s = 256 then Inf.ret () else Inf.bind (Inf.copied l most far s) fun _ => Inf.symbols near far f
def Inf.often (acc : List Nat) (s : Nat) : Inf.M (Nat × Nat) :=
  if s = 16 then (if acc = [] then Inf.err 3 else Inf.bind (Inf.bits l 2) fun k => Inf.ret (3 + k, acc.getD (acc.length - 1) 0))
  else if s = 17 then Inf.bind (Inf.bits l 3) fun k => Inf.ret (3 + k, 0)
  else if s = 18 then Inf.bind (Inf.bits l 7) fun k => Inf.ret (11 + k, 0)
  else Inf.ret (1, s)
def Inf.lens (ls : List Nat) (many : Nat) : Nat → List Nat → Inf.M (List Nat)
  | 0, _ => Inf.err 3
  | f + 1, acc =>
    if many ≤ acc.length then Inf.ret acc
    else Inf.bind (Inf.sym l ls) fun s => Inf.bind (Inf.often l acc s) fun nv =>
      if many - acc.length < nv.1 then Inf.err 3 else Inf.lens ls many f (acc ++ List.replicate nv.1 nv.2)
instance (ls : List Nat) (short : Bool) : Decidable (Huf.fits ls short) := by unfold Huf.fits; infer_instance
def Inf.need (ls : List Nat) (short : Bool) : Inf.M Unit := fun a o => if Huf.fits ls short then .inr ((), a, o) else .inl 3
def Inf.order : List Nat := [16, 17, 18, 0, 8, 7, 9, 6, 10, 5, 11, 4, 12, 3, 13, 2, 14, 1, 15]
def Inf.three : Nat → Nat → List Nat → Inf.M (List Nat)
  | 0, _, acc => Inf.ret acc
  | n + 1, i, acc => Inf.bind (Inf.bits l 3) fun v => Inf.three n (i + 1) (acc.set (Inf.order.getD i 0) v)
def Inf.dynamic : Inf.M (List Nat × List Nat) :=
  Inf.bind (Inf.bits l 5) fun a => Inf.bind (Inf.bits l 5) fun b =>
    if 29 < a ∨ 29 < b then Inf.err 3
    else Inf.bind (Inf.bits l 4) fun m => Inf.bind (Inf.three l (m + 4) 0 (List.replicate 19 0)) fun c =>
      Inf.bind (Inf.need c false) fun _ => Inf.bind (Inf.lens l c (a + b + 258) (a + b + 259) []) fun ls =>
        if ls.getD 256 0 = 0 then Inf.err 3
        else Inf.bind (Inf.need (ls.take (a + 257)) false) fun _ => Inf.bind (Inf.need (ls.drop (a + 257)) true) fun _ =>
          Inf.ret (ls.take (a + 257), ls.drop (a + 257))
def Inf.block (F : Nat) : Inf.M Bool := Inf.bind (Inf.bits l 1) fun fin => Inf.bind (Inf.bits l 2) fun k =>
  if k = 0 then Inf.bind (Inf.stored l most) fun _ => Inf.ret (fin == 1)
  else if k = 1 then Inf.bind (Inf.symbols l most lsF (List.replicate 32 5) F) fun _ => Inf.ret (fin == 1)
  else if k = 2 then Inf.bind (Inf.dynamic l) fun c => Inf.bind (Inf.symbols l most c.1 c.2 F) fun _ => Inf.ret (fin == 1)
  else Inf.err 3
def Inf.blocks (F : Nat) : Nat → Inf.M Unit
  | 0 => Inf.err 3
  | f + 1 => Inf.bind (Inf.block l most F) fun fin => if fin then Inf.ret () else Inf.blocks F f
def Inf.data (F : Nat) : Sum Nat (List UInt8 × Nat) :=
  match Inf.blocks l most F F 0 [] with
  | .inl e => .inl e
  | .inr (_, a, o) => .inr (o, (a + Bit.gap a) / 8)
end
/-! ### A stream that ends earlier -/
def Inf.Mono {α : Type} (p : List Bool → Inf.M α) : Prop :=
  (∀ l a o x a' o', p l a o = .inr (x, a', o') → a ≤ a') ∧
  ∀ (l l' : List Bool) (a : Nat) (o : List UInt8), l' <+: l → l'.length % 8 = 0 → a ≤ l'.length →
    (∀ x a' o', p l a o = .inr (x, a', o') → (a' ≤ l'.length → p l' a o = .inr (x, a', o')) ∧ (l'.length < a' → p l' a o = .inl 2)) ∧
    (∀ e, p l a o = .inl e → ∃ e', p l' a o = .inl e')
theorem Inf.Mono.ret {α : Type} (x : α) : Inf.Mono fun _ => Inf.ret x := by
  refine ⟨fun l a o x' a' o' h => ?_, fun l l' a o _ _ ha => ⟨fun x' a' o' h => ?_, fun e h => ?_⟩⟩
  · cases h
    exact Nat.le_refl _
  · cases h
    exact ⟨fun _ => rfl, fun h => by omega⟩
  · cases h
theorem Inf.Mono.err {α : Type} (e : Nat) : Inf.Mono fun _ => (Inf.err e : Inf.M α) :=
  ⟨fun l a o x' a' o' h => (by cases h), fun l l' a o _ _ _ => ⟨fun x' a' o' h => (by cases h), fun e' _ => ⟨e, rfl⟩⟩⟩
theorem Inf.Mono.bind {α β : Type} {p : List Bool → Inf.M α} {f : List Bool → α → Inf.M β} (hp : Inf.Mono p) (hf : ∀ x, Inf.Mono fun l => f l x) : Inf.Mono fun l => Inf.bind (p l) (f l) := by
  refine ⟨fun l a o y a2 o2 h => ?_, fun l l' a o hl h8 ha => ?_⟩
  · dsimp only at h
    cases hr : p l a o with
    | inl e => rw [Inf.bind_err hr] at h; cases h
    | inr r =>
      obtain ⟨x, a1, o1⟩ := r
      rw [Inf.bind_ok hr] at h
      exact Nat.le_trans (hp.1 _ _ _ _ _ _ hr) ((hf x).1 _ _ _ _ _ _ h)
  · obtain ⟨h1, h2⟩ := hp.2 l l' a o hl h8 ha
    dsimp only
    cases hr : p l a o with
    | inl e =>
      obtain ⟨e', he'⟩ := h2 e hr
      exact ⟨fun x a' o' h => (by rw [Inf.bind_err hr] at h; cases h), fun _ _ => ⟨e', Inf.bind_err he'⟩⟩
    | inr r =>
      obtain ⟨x, a1, o1⟩ := r
      obtain ⟨g2, g3⟩ := h1 x a1 o1 hr
      by_cases hc : a1 ≤ l'.length
      · have hr' := g2 hc
        obtain ⟨k1, k2⟩ := (hf x).2 l l' a1 o1 hl h8 hc
        simp only [Inf.bind_ok hr, Inf.bind_ok hr']
        exact ⟨k1, k2⟩
      · have hr' := g3 (by omega)
        simp only [Inf.bind_ok hr, Inf.bind_err hr']
        refine ⟨fun y a2 o2 h => ?_, fun _ _ => ⟨2, rfl⟩⟩
        have hm := (hf x).1 _ _ _ _ _ _ h
        exact ⟨fun h' => by omega, fun _ => trivial⟩
theorem Inf.Mono.ite {α : Type} {c : Prop} [Decidable c] {p q : List Bool → Inf.M α} (hp : Inf.Mono p) (hq : Inf.Mono q) : Inf.Mono fun l => if c then p l else q l := by
  by_cases h : c
  · simpa only [if_pos h] using hp
  · simpa only [if_neg h] using hq
theorem Inf.Mono.still {α : Type} {p : Inf.M α} (h : ∀ a o x a' o', p a o = .inr (x, a', o') → a' = a) : Inf.Mono fun _ => p := by
  refine ⟨fun l a o x a' o' he => Nat.le_of_eq (h _ _ _ _ _ he).symm, fun l l' a o _ _ ha => ⟨fun x a' o' he => ⟨fun _ => he, fun hlt => ?_⟩, fun e he => ⟨e, he⟩⟩⟩
  have := h _ _ _ _ _ he
  omega
theorem prefix_drop {l l' : List Bool} (h : l' <+: l) (a n : Nat) (ha : a + n ≤ l'.length) : (l.drop a).take n = (l'.drop a).take n := by
  obtain ⟨t, rfl⟩ := h
  rw [List.drop_append_of_le_length (by omega), List.take_append_of_le_length (by rw [List.length_drop]; omega)]
theorem Inf.Mono.bits (n : Nat) : Inf.Mono fun l => Inf.bits l n := by
  refine ⟨fun l a o x a' o' h => ?_, fun l l' a o hl h8 ha => ?_⟩
  · dsimp only at h
    unfold Inf.bits at h
    split at h
    · cases h; omega
    · cases h
  · dsimp only
    have hle := hl.length_le
    unfold Inf.bits
    by_cases h1 : a + n ≤ l'.length
    · rw [if_pos h1, if_pos (by omega), prefix_drop hl a n h1]
      refine ⟨fun x a' o' h => ⟨fun _ => h, fun h' => ?_⟩, fun e h => (by cases h)⟩
      cases h
      omega
    · rw [if_neg h1]
      refine ⟨fun x a' o' h => ?_, fun _ _ => ⟨2, rfl⟩⟩
      split at h
      · cases h
        exact ⟨fun h' => by omega, fun _ => rfl⟩
      · cases h
theorem Inf.Mono.align : Inf.Mono fun _ => Inf.align := by
  refine ⟨fun l a o x a' o' h => (by cases h; omega), fun l l' a o _ h8 ha => ⟨fun x a' o' h => ⟨fun _ => h, fun h' => ?_⟩, fun e h => (by cases h)⟩⟩
  cases h
  unfold Bit.gap at h'
  omega
theorem Huf.dec_mono (ls : List Nat) (l l' : List Bool) (hl : l' <+: l) : ∀ r s v, s ≤ l'.length →
    ((Huf.dec ls l r s v).2.1 ≤ l'.length ∧ (Huf.dec ls l r s v).2.2 ≠ 2 → Huf.dec ls l' r s v = Huf.dec ls l r s v) ∧ (l'.length < (Huf.dec ls l r s v).2.1 → (Huf.dec ls l' r s v).2.2 = 2) ∧ ((Huf.dec ls l r s v).2.2 = 2 → (Huf.dec ls l' r s v).2.2 = 2) := by
  intro r
  induction r with
  | zero => intro s v hs; exact ⟨fun _ => rfl, fun h => by simp [Huf.dec] at h; omega, fun h => by simp [Huf.dec] at h⟩
  | succ r ih =>
    intro s v hs
    by_cases h' : s < l'.length
    · have he' : l'[s]? = some l'[s] := List.getElem?_eq_getElem h'
      have he : l[s]? = some l'[s] := by
        obtain ⟨t, rfl⟩ := hl
        rw [List.getElem?_append_left h', he']
      cases hh : Huf.hits ls (s + 1) (2 * v + l'[s].toNat) with
      | true =>
        rw [Huf.dec_hit ls l r s v _ he hh, Huf.dec_hit ls l' r s v _ he' hh]
        exact ⟨fun _ => rfl, fun h => by simp at h; omega, fun h => h⟩
      | false =>
        rw [Huf.dec_miss ls l r s v _ he hh, Huf.dec_miss ls l' r s v _ he' hh]
        exact ih (s + 1) _ (by omega)
    · rw [Huf.dec_short ls l' r s v (by omega)]
      refine ⟨fun ⟨h1, h2⟩ => ?_, fun _ => rfl, fun _ => rfl⟩
      by_cases h : s < l.length
      · have he : l[s]? = some l[s] := List.getElem?_eq_getElem h
        cases hh : Huf.hits ls (s + 1) (2 * v + l[s].toNat) with
        | true =>
          rw [Huf.dec_hit ls l r s v _ he hh] at h1
          simp at h1
          omega
        | false =>
          rw [Huf.dec_miss ls l r s v _ he hh] at h1
          have := (Huf.dec_le ls l r (s + 1) (2 * v + l[s].toNat)).1
          omega
      · rw [Huf.dec_short ls l r s v (by omega)] at h2
        simp at h2
theorem Huf.dec_err (ls : List Nat) (l : List Bool) : ∀ r s v, (Huf.dec ls l r s v).2.2 = 0 ∨ (Huf.dec ls l r s v).2.2 = 2 ∨ (Huf.dec ls l r s v).2.2 = 3 := by
  intro r
  induction r with
  | zero => intro s v; exact .inr (.inr rfl)
  | succ r ih =>
    intro s v
    rw [Huf.dec]
    split
    · exact .inr (.inl rfl)
    · split
      · exact .inl rfl
      · exact ih _ _
theorem Inf.sym_ok {l : List Bool} {ls : List Nat} {a m x : Nat} {o : List UInt8} (h : Huf.dec ls (l.drop a) 15 0 0 = (m, x, 0)) : Inf.sym l ls a o = .inr (m, a + x, o) := by simp only [Inf.sym, h]
theorem Inf.sym_err {l : List Bool} {ls : List Nat} {a m x e : Nat} {o : List UInt8} (h : Huf.dec ls (l.drop a) 15 0 0 = (m, x, e)) (he : e ≠ 0) : Inf.sym l ls a o = .inl e := by
  cases e with
  | zero => exact absurd rfl he
  | succ e => simp only [Inf.sym, h]
theorem Inf.Mono.sym (ls : List Nat) : Inf.Mono fun l => Inf.sym l ls := by
  refine ⟨fun l a o x a' o' h => ?_, fun l l' a o hl h8 ha => ?_⟩
  · dsimp only at h
    unfold Inf.sym at h
    split at h
    · cases h; omega
    · cases h
  · dsimp only
    have hd : (l'.drop a) <+: (l.drop a) := by
      obtain ⟨t, rfl⟩ := hl
      rw [List.drop_append_of_le_length (by omega)]
      exact List.prefix_append _ _
    obtain ⟨h1, h2, h3⟩ := Huf.dec_mono ls (l.drop a) (l'.drop a) hd 15 0 0 (Nat.zero_le _)
    have he := Huf.dec_err ls (l.drop a) 15 0 0
    have hlen : (l'.drop a).length = l'.length - a := List.length_drop
    rw [hlen] at h1 h2
    generalize hr : Huf.dec ls (l.drop a) 15 0 0 = r at h1 h2 h3 he
    generalize hr' : Huf.dec ls (l'.drop a) 15 0 0 = r' at h1 h2 h3
    obtain ⟨m, x, e⟩ := r
    obtain ⟨m', x', e'⟩ := r'
    simp only at h1 h2 h3 he
    by_cases h0 : e = 0
    · subst h0
      rw [Inf.sym_ok hr]
      refine ⟨fun y a' o' h => ?_, fun e h => (by cases h)⟩
      cases h
      refine ⟨fun hle => ?_, fun hlt => ?_⟩
      · have := h1 ⟨by omega, by decide⟩
        cases this
        exact Inf.sym_ok hr'
      · have := h2 (by omega)
        subst this
        exact Inf.sym_err hr' (by decide)
    · rw [Inf.sym_err hr h0]
      refine ⟨fun y a' o' h => (by cases h), fun _ _ => ?_⟩
      by_cases h0' : e' = 0
      · exfalso
        subst h0'
        rcases he with he | he | he
        · exact h0 he
        · have := h3 he
          cases this
        · by_cases hx : x ≤ l'.length - a
          · have := h1 ⟨hx, by omega⟩
            injection this with _ h
            injection h with _ h
            exact h0 h.symm
          · have := h2 (by omega)
            cases this
      · exact ⟨e', Inf.sym_err hr' h0'⟩
theorem Inf.Mono.put (most : Nat) (c : UInt8) : Inf.Mono fun _ => Inf.put most c := by
  refine Inf.Mono.still fun a o x a' o' h => ?_
  unfold Inf.put at h
  split at h
  · cases h
  · cases h; rfl
theorem Inf.Mono.raw (most n : Nat) : Inf.Mono fun l => Inf.raw l most n := by
  induction n with
  | zero => exact Inf.Mono.ret ()
  | succ n ih => exact (Inf.Mono.bits 8).bind fun c => (Inf.Mono.put most _).bind fun _ => ih
theorem Inf.Mono.stored (most : Nat) : Inf.Mono fun l => Inf.stored l most :=
  Inf.Mono.align.bind fun _ => (Inf.Mono.bits 16).bind fun n => (Inf.Mono.bits 16).bind fun m => Inf.Mono.ite (Inf.Mono.raw most n) (Inf.Mono.err 3)
theorem Inf.back_still (most d n : Nat) : ∀ a o x a' o', Inf.back most d n a o = .inr (x, a', o') → a' = a := by
  induction n with
  | zero => intro a o x a' o' h; cases h; rfl
  | succ n ih =>
    intro a o x a' o' h
    rw [Inf.back] at h
    dsimp only at h
    cases hp : Inf.put most (o.getD (o.length - d) 0) a o with
    | inl e => rw [Inf.bind_err hp] at h; cases h
    | inr r =>
      obtain ⟨y, a1, o1⟩ := r
      rw [Inf.bind_ok hp] at h
      have := ih _ _ _ _ _ h
      subst this
      unfold Inf.put at hp
      split at hp
      · cases hp
      · cases hp; rfl
theorem Inf.Mono.reach (most d n : Nat) : Inf.Mono fun _ => Inf.reach most d n := by
  refine Inf.Mono.still fun a o x a' o' h => ?_
  unfold Inf.reach at h
  split at h
  · cases h
  · exact Inf.back_still most d n _ _ _ _ _ h
theorem Inf.Mono.copied (most : Nat) (far : List Nat) (s : Nat) : Inf.Mono fun l => Inf.copied l most far s :=
  Inf.Mono.ite (Inf.Mono.err 3) ((Inf.Mono.bits _).bind fun _ => (Inf.Mono.sym far).bind fun t => Inf.Mono.ite (Inf.Mono.err 3) ((Inf.Mono.bits _).bind fun _ => Inf.Mono.reach most _ _))
theorem Inf.Mono.symbols (most : Nat) (near far : List Nat) (f : Nat) : Inf.Mono fun l => Inf.symbols l most near far f := by
  induction f with
  | zero => exact Inf.Mono.err 3
  | succ f ih => exact (Inf.Mono.sym near).bind fun s => Inf.Mono.ite ((Inf.Mono.put most _).bind fun _ => ih) (Inf.Mono.ite (Inf.Mono.ret ()) ((Inf.Mono.copied most far s).bind fun _ => ih))
theorem Inf.Mono.often (acc : List Nat) (s : Nat) : Inf.Mono fun l => Inf.often l acc s :=
  Inf.Mono.ite (Inf.Mono.ite (Inf.Mono.err 3) ((Inf.Mono.bits 2).bind fun _ => Inf.Mono.ret _)) (Inf.Mono.ite ((Inf.Mono.bits 3).bind fun _ => Inf.Mono.ret _) (Inf.Mono.ite ((Inf.Mono.bits 7).bind fun _ => Inf.Mono.ret _) (Inf.Mono.ret _)))
theorem Inf.Mono.lens (ls : List Nat) (many f : Nat) : ∀ acc, Inf.Mono fun l => Inf.lens l ls many f acc := by
  induction f with
  | zero => intro acc; exact Inf.Mono.err 3
  | succ f ih => intro acc; exact Inf.Mono.ite (Inf.Mono.ret acc) ((Inf.Mono.sym ls).bind fun s => (Inf.Mono.often acc s).bind fun nv => Inf.Mono.ite (Inf.Mono.err 3) (ih _))
theorem Inf.Mono.need (ls : List Nat) (short : Bool) : Inf.Mono fun _ => Inf.need ls short := by
  refine Inf.Mono.still fun a o x a' o' h => ?_
  unfold Inf.need at h
  split at h
  · cases h; rfl
  · cases h
theorem Inf.Mono.three (n : Nat) : ∀ i acc, Inf.Mono fun l => Inf.three l n i acc := by
  induction n with
  | zero => intro i acc; exact Inf.Mono.ret acc
  | succ n ih => intro i acc; exact (Inf.Mono.bits 3).bind fun v => ih _ _
theorem Inf.Mono.dynamic : Inf.Mono fun l => Inf.dynamic l :=
  (Inf.Mono.bits 5).bind fun a => (Inf.Mono.bits 5).bind fun b => Inf.Mono.ite (Inf.Mono.err 3) ((Inf.Mono.bits 4).bind fun m => (Inf.Mono.three _ _ _).bind fun c =>
    (Inf.Mono.need c false).bind fun _ => (Inf.Mono.lens c _ _ _).bind fun ls => Inf.Mono.ite (Inf.Mono.err 3) ((Inf.Mono.need _ false).bind fun _ => (Inf.Mono.need _ true).bind fun _ => Inf.Mono.ret _))
theorem Inf.Mono.block (most F : Nat) : Inf.Mono fun l => Inf.block l most F :=
  (Inf.Mono.bits 1).bind fun fin => (Inf.Mono.bits 2).bind fun k => Inf.Mono.ite ((Inf.Mono.stored most).bind fun _ => Inf.Mono.ret _)
    (Inf.Mono.ite ((Inf.Mono.symbols most _ _ F).bind fun _ => Inf.Mono.ret _) (Inf.Mono.ite (Inf.Mono.dynamic.bind fun c => (Inf.Mono.symbols most _ _ F).bind fun _ => Inf.Mono.ret _) (Inf.Mono.err 3)))
theorem Inf.Mono.blocks (most F : Nat) (f : Nat) : Inf.Mono fun l => Inf.blocks l most F f := by
  induction f with
  | zero => exact Inf.Mono.err 3
  | succ f ih => exact (Inf.Mono.block most F).bind fun fin => Inf.Mono.ite (Inf.Mono.ret ()) ih
end Go.Proofs.YtaapjampmnanmaaGreat
namespace Go.Proofs.YtaapjampmnanmaaGreat
set_option linter.unusedVariables false
def Inf.NZ {α : Type} (p : Inf.M α) : Prop := ∀ a o e, p a o = .inl e → e ≠ 0
theorem Inf.NZ.ret {α : Type} (x : α) : Inf.NZ (Inf.ret x) := fun a o e h => by cases h
theorem Inf.NZ.err {α : Type} (e : Nat) (he : e ≠ 0) : Inf.NZ (Inf.err e : Inf.M α) := fun a o e' h => by
  cases h
  exact he
theorem Inf.NZ.bind {α β : Type} {p : Inf.M α} {f : α → Inf.M β} (hp : Inf.NZ p) (hf : ∀ x, Inf.NZ (f x)) : Inf.NZ (Inf.bind p f) := fun a o e h => by
  cases hr : p a o with
  | inl e' =>
    rw [Inf.bind_err hr] at h
    cases h
    exact hp a o e hr
  | inr r =>
    obtain ⟨x, a1, o1⟩ := r
    rw [Inf.bind_ok hr] at h
    exact hf x a1 o1 e h
theorem Inf.NZ.ite {α : Type} {c : Prop} [Decidable c] {p q : Inf.M α} (hp : Inf.NZ p) (hq : Inf.NZ q) : Inf.NZ (if c then p else q) := by
  by_cases h : c
  · rwa [if_pos h]
  · rwa [if_neg h]
section
variable (l : List Bool) (most : Nat)
theorem Inf.NZ.bits (n : Nat) : Inf.NZ (Inf.bits l n) := fun a o e h => by
  unfold Inf.bits at h
  split at h
  · cases h
  · cases h
    decide
theorem Inf.NZ.align : Inf.NZ Inf.align := fun a o e h => by cases h
theorem Inf.NZ.sym (ls : List Nat) : Inf.NZ (Inf.sym l ls) := fun a o e h => by
  unfold Inf.sym at h
  split at h
  · cases h
  · cases h
    omega
theorem Inf.NZ.put (c : UInt8) : Inf.NZ (Inf.put most c) := fun a o e h => by
  unfold Inf.put at h
  split at h
  · cases h
    decide
  · cases h
theorem Inf.NZ.raw (n : Nat) : Inf.NZ (Inf.raw l most n) := by
  induction n with
  | zero => exact Inf.NZ.ret ()
  | succ n ih => exact (Inf.NZ.bits l 8).bind fun c => (Inf.NZ.put most _).bind fun _ => ih
theorem Inf.NZ.stored : Inf.NZ (Inf.stored l most) := Inf.NZ.align.bind fun _ => (Inf.NZ.bits l 16).bind fun n => (Inf.NZ.bits l 16).bind fun m => Inf.NZ.ite (Inf.NZ.raw l most n) (Inf.NZ.err 3 (by decide))
theorem Inf.NZ.back (d n : Nat) : Inf.NZ (Inf.back most d n) := by
  induction n with
  | zero => exact Inf.NZ.ret ()
  | succ n ih => exact fun a o e h => ((Inf.NZ.put most (o.getD (o.length - d) 0)).bind fun _ => ih) a o e h
theorem Inf.NZ.reach (d n : Nat) : Inf.NZ (Inf.reach most d n) := fun a o e h => by
  unfold Inf.reach at h
  split at h
  · cases h
    decide
  · exact Inf.NZ.back most d n a o e h
theorem Inf.NZ.copied (far : List Nat) (s : Nat) : Inf.NZ (Inf.copied l most far s) :=
  Inf.NZ.ite (Inf.NZ.err 3 (by decide)) ((Inf.NZ.bits l _).bind fun _ => (Inf.NZ.sym l far).bind fun t => Inf.NZ.ite (Inf.NZ.err 3 (by decide)) ((Inf.NZ.bits l _).bind fun _ => Inf.NZ.reach most _ _))
theorem Inf.NZ.symbols (near far : List Nat) (f : Nat) : Inf.NZ (Inf.symbols l most near far f) := by
  induction f with
  | zero => exact Inf.NZ.err 3 (by decide)
  | succ f ih => exact (Inf.NZ.sym l near).bind fun s => Inf.NZ.ite ((Inf.NZ.put most _).bind fun _ => ih) (Inf.NZ.ite (Inf.NZ.ret ()) ((Inf.NZ.copied l most far s).bind fun _ => ih))
theorem Inf.NZ.often (acc : List Nat) (s : Nat) : Inf.NZ (Inf.often l acc s) :=
  Inf.NZ.ite (Inf.NZ.ite (Inf.NZ.err 3 (by decide)) ((Inf.NZ.bits l 2).bind fun _ => Inf.NZ.ret _)) (Inf.NZ.ite ((Inf.NZ.bits l 3).bind fun _ => Inf.NZ.ret _) (Inf.NZ.ite ((Inf.NZ.bits l 7).bind fun _ => Inf.NZ.ret _) (Inf.NZ.ret _)))
theorem Inf.NZ.lens (ls : List Nat) (many f : Nat) : ∀ acc, Inf.NZ (Inf.lens l ls many f acc) := by
  induction f with
  | zero => intro acc; exact Inf.NZ.err 3 (by decide)
  | succ f ih => intro acc; exact Inf.NZ.ite (Inf.NZ.ret acc) ((Inf.NZ.sym l ls).bind fun s => (Inf.NZ.often l acc s).bind fun nv => Inf.NZ.ite (Inf.NZ.err 3 (by decide)) (ih _))
theorem Inf.NZ.need (ls : List Nat) (short : Bool) : Inf.NZ (Inf.need ls short) := fun a o e h => by
  unfold Inf.need at h
  split at h
  · cases h
  · cases h
    decide
theorem Inf.NZ.three (n : Nat) : ∀ i acc, Inf.NZ (Inf.three l n i acc) := by
  induction n with
  | zero => intro i acc; exact Inf.NZ.ret acc
  | succ n ih => intro i acc; exact (Inf.NZ.bits l 3).bind fun v => ih _ _
theorem Inf.NZ.dynamic : Inf.NZ (Inf.dynamic l) :=
  (Inf.NZ.bits l 5).bind fun a => (Inf.NZ.bits l 5).bind fun b => Inf.NZ.ite (Inf.NZ.err 3 (by decide)) ((Inf.NZ.bits l 4).bind fun m => (Inf.NZ.three l _ _ _).bind fun c =>
    (Inf.NZ.need c false).bind fun _ => (Inf.NZ.lens l c _ _ _).bind fun ls => Inf.NZ.ite (Inf.NZ.err 3 (by decide)) ((Inf.NZ.need _ false).bind fun _ => (Inf.NZ.need _ true).bind fun _ => Inf.NZ.ret _))
theorem Inf.NZ.block (F : Nat) : Inf.NZ (Inf.block l most F) :=
  (Inf.NZ.bits l 1).bind fun fin => (Inf.NZ.bits l 2).bind fun k => Inf.NZ.ite ((Inf.NZ.stored l most).bind fun _ => Inf.NZ.ret _)
    (Inf.NZ.ite ((Inf.NZ.symbols l most _ _ F).bind fun _ => Inf.NZ.ret _) (Inf.NZ.ite ((Inf.NZ.dynamic l).bind fun c => (Inf.NZ.symbols l most _ _ F).bind fun _ => Inf.NZ.ret _) (Inf.NZ.err 3 (by decide))))
theorem Inf.NZ.blocks (F f : Nat) : Inf.NZ (Inf.blocks l most F f) := by
  induction f with
  | zero => exact Inf.NZ.err 3 (by decide)
  | succ f ih => exact (Inf.NZ.block l most F).bind fun fin => Inf.NZ.ite (Inf.NZ.ret ()) ih
end
def Inf.fin : Inf.R Unit → Sum Nat (List UInt8 × Nat)
  | .inl e => .inl e
  | .inr (_, a, o) => .inr (o, (a + Bit.gap a) / 8)
theorem Inf.data_fin (l : List Bool) (most F : Nat) : Inf.data l most F = Inf.fin (Inf.blocks l most F F 0 []) := by
  unfold Inf.data
  cases Inf.blocks l most F F 0 [] <;> rfl
theorem Inf.data_nz {l : List Bool} {most F e : Nat} (h : Inf.data l most F = .inl e) : e ≠ 0 := by
  rw [Inf.data_fin] at h
  cases hb : Inf.blocks l most F F 0 [] with
  | inl e' =>
    rw [hb] at h
    cases h
    exact Inf.NZ.blocks l most F F 0 [] e hb
  | inr r => rw [hb] at h; cases h
theorem Inf.data_some {l : List Bool} {most F n : Nat} {o : List UInt8} (h : Inf.data l most F = .inr (o, n)) : ∃ a, Inf.blocks l most F F 0 [] = .inr ((), a, o) ∧ n = (a + Bit.gap a) / 8 := by
  rw [Inf.data_fin] at h
  cases hb : Inf.blocks l most F F 0 [] with
  | inl e' => rw [hb] at h; cases h
  | inr r =>
    obtain ⟨_, a, o'⟩ := r
    rw [hb] at h
    cases h
    exact ⟨a, rfl, rfl⟩
theorem Inf.data_le {l : List Bool} {most F n : Nat} {o : List UInt8} (h : Inf.data l most F = .inr (o, n)) (h8 : l.length % 8 = 0) : 8 * n ≤ l.length := by
  obtain ⟨a, hb, hn⟩ := Inf.data_some h
  have h1 := ((Inf.Mono.blocks most F F).2 l l 0 [] (List.prefix_refl l) h8 (Nat.zero_le _)).1 _ _ _ hb
  have h2 : a ≤ l.length := by
    rcases Nat.lt_or_ge l.length a with h | h
    · have := h1.2 h
      rw [show (fun l => Inf.blocks l most F F) l 0 [] = Inf.blocks l most F F 0 [] from rfl, hb] at this
      cases this
    · exact h
  unfold Bit.gap at hn
  omega
theorem Inf.data_pre {l l' : List Bool} {most F n : Nat} {o : List UInt8} (h : Inf.data l most F = .inr (o, n)) (hl : l' <+: l) (h8 : l'.length % 8 = 0) : (8 * n ≤ l'.length → Inf.data l' most F = .inr (o, n)) ∧ (l'.length < 8 * n → Inf.data l' most F = .inl 2) := by
  obtain ⟨a, hb, hn⟩ := Inf.data_some h
  obtain ⟨h1, h2⟩ := ((Inf.Mono.blocks most F F).2 l l' 0 [] hl h8 (Nat.zero_le _)).1 _ _ _ hb
  have e : ∀ l, (fun l => Inf.blocks l most F F) l 0 [] = Inf.blocks l most F F 0 [] := fun _ => rfl
  rw [e] at h1 h2
  unfold Bit.gap at hn
  constructor
  · intro hle
    rw [Inf.data_fin, h1 (by omega), hn]
    rfl
  · intro hlt
    rw [Inf.data_fin, h2 (by omega)]
    rfl
theorem Inf.data_ext {l l' : List Bool} {most F n : Nat} {o : List UInt8} (h : Inf.data l' most F = .inr (o, n)) (hl : l' <+: l) (h8 : l'.length % 8 = 0) : Inf.data l most F = .inr (o, n) := by
  cases hd : Inf.data l most F with
  | inl e =>
    exfalso
    rw [Inf.data_fin] at hd
    cases hb : Inf.blocks l most F F 0 [] with
    | inr r => rw [hb] at hd; cases hd
    | inl e' =>
      obtain ⟨e2, h2⟩ := ((Inf.Mono.blocks most F F).2 l l' 0 [] hl h8 (Nat.zero_le _)).2 e' hb
      rw [Inf.data_fin, show Inf.blocks l' most F F 0 [] = .inl e2 from h2] at h
      cases h
  | inr r =>
    obtain ⟨o2, n2⟩ := r
    obtain ⟨h1, h2⟩ := Inf.data_pre hd hl h8
    by_cases hc : 8 * n2 ≤ l'.length
    · have := h1 hc
      rw [h] at this
      exact this.symm ▸ rfl
    · have := h2 (by omega)
      rw [h] at this
      cases this
end Go.Proofs.YtaapjampmnanmaaGreat
namespace Go.Proofs.YtaapjampmnanmaaGreat
set_option linter.unusedVariables false
open Go.RowKit
set_option maxRecDepth 100000 in
set_option maxHeartbeats 2000000 in
theorem iread_any (g gr B0 B a : Nat) (Ab : Option Addr) (ls : List Nat) (bs : List UInt8) (w : World) (h : CodeAt B0 w g ls) (hr : RdIs w B gr Ab bs a) (hl : bs.length ≤ 1048576) (ha : a ≤ 8 * bs.length) (hn : ls.length ≤ 288) (hsl : Huf.sum ls ≤ 32768)
    (m x er : Nat) (hd : Huf.dec ls ((Bit.bitsOf bs).drop a) 15 0 0 = (m, x, er)) :
    Calls Tryz.prog 206 #[.pointer (some ⟨g, 0, none⟩), .pointer (some ⟨gr, 0, none⟩)] w fun e w' => e = .returned (.tuple #[.int .i64 (m : Int), .int .i64 (er : Int)]) ∧ RdIs w' B gr Ab bs (a + x) ∧ Chg (fun k => k = gr) w w' := by
  have hbl := Bit.bitsOf_length bs
  have hVs := hide (Huf.V_small ls hsl)
  replace h := hide h
  replace hr := hide hr
  replace hl := hide hl
  replace ha := hide ha
  replace hn := hide hn
  clear hsl
  obtain ⟨l, hlx⟩ : ∃ l, (Bit.bitsOf bs).drop a = l := ⟨_, rfl⟩
  have hll : Hid (l.length = 8 * bs.length - a) := hide (by rw [← hlx, List.length_drop, hbl])
  rw [hlx] at hd
  have hba := hide (fun s b (h : l[s]? = some b) => bit_at bs a s b (by rw [hlx]; exact h))
  replace hd := hide hd
  clear hbl hlx
  go_enter Tryz.func206, Tryz.ntmps206
  go_wp2
  go_loopw [6, 7] (fun v i wr => ∃ s V : Nat, s ≤ 15 ∧ i = .int .i64 ((s : Int) + 1) ∧ v = .int .u32 (V : Int) ∧ Hid (V < 2 ^ s) ∧ Hid (Huf.dec ls l (15 - s) s V = (m, x, er)) ∧ Hid (s ≤ l.length) ∧ Hid (RdIs wr B gr Ab bs (a + s)) ∧ Hid (CodeAt B0 wr g ls) ∧ Hid (Chg (fun k => k = gr) w wr)) (fun _ i _ => 17 - (intOf i).toNat)
  case atStart => exact ⟨0, 0, by omega, rfl, rfl, hide (by decide), hd, hide (Nat.zero_le _), hr, h, hide (Chg.refl _ _)⟩
  case round =>
    obtain ⟨s, V, hs15, rfl, rfl, hV, hd, hsl, hr, h, hb⟩ := hrel
    by_cases hs : s < 15
    · have hsI : (s : Int) ≤ 14 := by omega
      by_cases hsl2 : s < l.length
      · have hbit := hba.out s l[s] (List.getElem?_eq_getElem hsl2)
        have hrb := hide (rbits_ok gr Ab bs (a + s) 1 wr B hr.out (by have := hl.out; omega) (by omega) (by have := hll.out; have := ha.out; omega))
        rw [hbit, show ((1 : Nat) : Int) = 1 from rfl] at hrb
        have hVle : V ≤ 32767 := by
          have : 2 ^ s ≤ 2 ^ 14 := Nat.pow_le_pow_right (by omega) (by omega)
          have := hV.out
          omega
        have hbn : l[s].toNat ≤ 1 := by cases l[s] <;> decide
        have hor := or_bit1 V l[s].toNat hVle hbn
        have hmiss := hide (Huf.dec_miss ls l (14 - s) s V l[s] (List.getElem?_eq_getElem hsl2))
        have hhit := hide (Huf.dec_hit ls l (14 - s) s V l[s] (List.getElem?_eq_getElem hsl2))
        have hV2 : Hid (2 * V + l[s].toNat < 2 ^ (s + 1)) := hide (by rw [Nat.pow_succ]; have := hV.out; omega)
        generalize l[s].toNat = b at *
        obtain ⟨Y, hY⟩ : ∃ Y, 2 * V + b = Y := ⟨_, rfl⟩
        rw [hY] at hor hmiss hhit hV2
        have hYI : (Y : Int) ≤ 65535 := by omega
        have hVI : (V : Int) ≤ 32767 := by omega
        clear hY hVle hbit hbn
        go_upto_region 12 with (go_at_call 195; (with_reducible refine hrb.out.mono ?_); rintro e w1 ⟨rfl, h1, hb1⟩; have hx1 := KeepX.rd hr.out hb1; have h1 := hide h1; have hb1 := hide (hb.out.trans hb1 (fun _ _ h => h)); have hc1 := h.out.keep hx1; obtain ⟨Ab_, cb, Al, cl, Ao, co, hcd⟩ := hc1; have d2 := hcd.cellf (s + 1) (by omega); have d18 := hcd.cello (s + 1) (by omega); have hcd := hide hcd; clear hx1)
        have h14 : 15 - s = 14 - s + 1 := by omega
        have h14b : 14 - s = 15 - (s + 1) := by omega
        rw [h14] at hd
        have hfc := Huf.first_cnt ls (s + 1) (by omega)
        have hvs := hVs.out (s + 1) (by omega)
        have hll2 : (Huf.lists ls ls.length (s + 1)).length = Huf.cnt ls (s + 1) := by rw [Huf.lists_pos ls ls.length (s + 1) (by omega)]; rfl
        have hhd : Huf.hits ls (s + 1) Y = (decide (Huf.first ls (s + 1) ≤ Y) && decide (Y < Huf.first ls (s + 1) + Huf.cnt ls (s + 1))) := rfl
        rw [hll2] at d18
        have hoo : Hid (Ow w1 B0 3 (Ao (s + 1)) (Huf.cnt ls (s + 1)) (co (s + 1)) ((Huf.idx ls ls.length (s + 1)).map jv)) := hide (by
          have := hcd.out.oo (s + 1) (by omega)
          rw [hll2, Huf.lists_pos ls ls.length (s + 1) (by omega)] at this
          exact this)
        have hsymv : Hid (Huf.sym ls (s + 1) Y = (Huf.idx ls ls.length (s + 1)).getD (Y - Huf.first ls (s + 1)) 0) := hide rfl
        have hidl : Hid ((Huf.idx ls ls.length (s + 1)).length = Huf.cnt ls (s + 1)) := hide rfl
        have hcode := hide (show CodeAt B0 w1 g ls from ⟨Ab_, cb, Al, cl, Ao, co, hcd.out⟩)
        generalize Huf.first ls (s + 1) = F at *
        generalize Huf.cnt ls (s + 1) = N at *
        generalize Huf.V ls (s + 1) = VV at *
        have hFI : (F : Int) + N ≤ 32768 := by omega
        clear hll2 hcd
        by_cases hA : Y < F
        · have hAI : (Y : Int) + 1 ≤ F := by omega
          have hm : Huf.hits ls (s + 1) Y = false := by rw [hhd]; simp; omega
          have hd2 := hide (hmiss.out hm)
          rw [hd.out, h14b] at hd2
          clear hhd hm hA hfc hvs h14 h14b
          generalize Huf.hits ls (s + 1) Y = hh at *
          go_wp2
          go_roundw
          case rel => exact ⟨s + 1, Y, by omega, by go_num, rfl, hV2, hide hd2.out.symm, hide hsl2, h1, hcode, hb1⟩
          case measure => simp [intOf] <;> omega
        · have hAI : (F : Int) ≤ Y := by omega
          obtain ⟨q, hq⟩ : ∃ q, Y - F = q := ⟨_, rfl⟩
          have hqI : ((Y : Int) - F) % 4294967296 = q := by omega
          have hqI2 : (q : Int) ≤ 65535 := by omega
          by_cases hB : q < N
          · have hBI : (q : Int) < N := by omega
            have hm : Huf.hits ls (s + 1) Y = true := by rw [hhd]; simp; omega
            have hd2 := hhit.out hm
            rw [hd.out] at hd2
            injection hd2 with e1 e2
            injection e2 with e2 e3
            subst e2 e3
            rw [hsymv.out, hq] at e1
            have hql : q < (Huf.idx ls ls.length (s + 1)).length := by rw [hidl.out]; exact hB
            rw [List.getD_eq_getElem?_getD, List.getElem?_eq_getElem hql] at e1
            obtain ⟨ga, hAo, _, _⟩ := hoo.out.pos (by omega)
            rw [hAo] at hoo d18
            have e0 := hoo.out.cells (g := ga) rfl q (jv (Huf.idx ls ls.length (s + 1))[q]) (by rw [List.getElem?_map, List.getElem?_eq_getElem hql]; rfl)
            rw [Addr.add_mid, Nat.zero_add] at e0
            simp only [Option.getD_some] at e1
            unfold jv at e0
            rw [← e1] at e0
            clear hhd hm hA hfc hvs hq hql hB hoo e1 h14 h14b
            go_wp2
            go_ret2
            exact ⟨rfl, h1.out, hb1.out⟩
          · have hBI : (N : Int) ≤ q := by omega
            have hm : Huf.hits ls (s + 1) Y = false := by rw [hhd]; simp; omega
            have hd2 := hide (hmiss.out hm)
            rw [hd.out, h14b] at hd2
            clear hhd hm hA hfc hvs hq hB h14 h14b
            go_wp2
            go_roundw
            case rel => exact ⟨s + 1, Y, by omega, by go_num, rfl, hV2, hide hd2.out.symm, hide hsl2, h1, hcode, hb1⟩
            case measure => simp [intOf] <;> omega
      · have hrb := hide (rbits_short gr Ab bs (a + s) 1 wr B hr.out (by have := hl.out; omega) (by have := hll.out; have := hsl.out; have := ha.out; omega) (by omega) (by have := hll.out; have := hsl.out; have := ha.out; omega))
        have h14 : 15 - s = 14 - s + 1 := by omega
        have hd2 := Huf.dec_short ls l (14 - s) s V (by omega)
        rw [← h14, hd.out] at hd2
        injection hd2 with e1 e2
        injection e2 with e2 e3
        subst e1 e2 e3
        rw [show ((1 : Nat) : Int) = 1 from rfl] at hrb
        clear h14 hsl2
        have hVI : (V : Int) ≤ 32767 := by
          have : 2 ^ x ≤ 2 ^ 14 := Nat.pow_le_pow_right (by omega) (by omega)
          have := hV.out
          omega
        go_wp2_with (go_at_call 195; (with_reducible refine hrb.out.mono ?_); rintro e w1 ⟨rfl, k1, rfl⟩)
        go_ret2
        exact ⟨rfl, hr.out.below (below_drewN (Below.refl _ wr) k1), hb.out.drewN k1⟩
    · obtain rfl : s = 15 := by omega
      have hd2 := hd.out
      rw [Nat.sub_self, Huf.dec] at hd2
      injection hd2 with e1 e2
      injection e2 with e2 e3
      subst e1 e2 e3
      go_wp2
      go_ret2
      exact ⟨rfl, hr.out, hb.out⟩
def KeepU (w w' : World) : Prop :=
  w.heap.size ≤ w'.heap.size ∧ ∀ (k : Nat) (cs : Array Value) (t : TypeId) (fz : Nat × Nat), w.heap[k]? = some (.cells cs t fz) → t ≠ 214 → t ≠ 248 → t ≠ 5 → w'.heap[k]? = some (.cells cs t fz)
theorem KeepU.refl (w : World) : KeepU w w := ⟨Nat.le_refl _, fun _ _ _ _ h _ _ _ => h⟩
theorem KeepU.trans {a b c : World} (h : KeepU a b) (k : KeepU b c) : KeepU a c := ⟨Nat.le_trans h.1 k.1, fun i cs t fz x h1 h2 h3 => k.2 i cs t fz (h.2 i cs t fz x h1 h2 h3) h1 h2 h3⟩
theorem KeepU.below {w w' : World} (h : Below w.heap.size w w') : KeepU w w' := ⟨h.size, fun k _ _ _ x _ _ _ => (h.block k (lt_of_block x)).trans x⟩
theorem KeepU.row {w w' : World} (h : KeepU w w') {g : Nat} {t : TypeId} {cs : Array Value} (hk : Blk w g t cs) (h1 : t ≠ 214) (h2 : t ≠ 248) (h3 : t ≠ 5) : Blk w' g t cs := h.2 g cs t (0, 0) hk h1 h2 h3
theorem KeepU.ow {w w' : World} (h : KeepU w w') {base n c : Nat} {e : TypeId} {A : Option Addr} {xs : List Value} (ho : Ow w base e A n c xs) (h1 : e ≠ 214) (h2 : e ≠ 248) (h3 : e ≠ 5) : Ow w' base e A n c xs := by
  refine ⟨ho.1, ?_⟩
  rcases ho.2 with h0 | ⟨g, cap, cur, hv, hb, hh, r⟩
  · exact .inl h0
  · exact .inr ⟨g, cap, cur, hv, hb, h.2 g cur e (0, 0) hh h1 h2 h3, r⟩
theorem KeepU.chg {R : Nat → Prop} {w w' : World} (h : Chg R w w') (hR : ∀ k cs t fz, R k → w.heap[k]? = some (.cells cs t fz) → t = 214 ∨ t = 248 ∨ t = 5) : KeepU w w' := by
  refine ⟨h.size, fun k cs t fz x h1 h2 h3 => (h.block k (lt_of_block x) fun hr => ?_).trans x⟩
  rcases hR k cs t fz hr x with h | h | h
  · exact h1 h
  · exact h2 h
  · exact h3 h
theorem KeepU.rd {w w' : World} {B gr a : Nat} {Ab : Option Addr} {bs : List UInt8} (hr : RdIs w B gr Ab bs a) (h : Chg (fun k => k = gr) w w') : KeepU w w' := by
  obtain ⟨c, hk, _⟩ := hr
  refine KeepU.chg h ?_
  rintro k cs t fz rfl x
  unfold Blk at hk
  rw [hk] at x
  injection x with x
  injection x with _ ht
  exact .inr (.inl ht.symm)
theorem Cd.keepU {w w' : World} {B g n : Nat} {Ab : Option Addr} {cb : Nat} {Al : Option Addr} {cl : Nat} {ls : List Nat} {fs : Nat → Nat} {Ao : Nat → Option Addr} {co : Nat → Nat} {os : Nat → List Nat} {bits : Nat → Nat}
    (h : Cd w B g n Ab cb Al cl ls fs Ao co os bits) (hx : KeepU w w') : Cd w' B g n Ab cb Al cl ls fs Ao co os bits := by
  obtain ⟨cs, hk, hr⟩ := h.cells
  exact ⟨⟨cs, hx.row hk (by decide) (by decide) (by decide), hr⟩, h.hg, hx.ow h.ob (by decide) (by decide) (by decide), hx.ow h.ol (by decide) (by decide) (by decide), fun s hs => hx.ow (h.oo s hs) (by decide) (by decide) (by decide), h.apart, h.apartL⟩
theorem CodeAt.keepU {B g : Nat} {w w' : World} {ls : List Nat} (h : CodeAt B w g ls) (hx : KeepU w w') : CodeAt B w' g ls := by
  obtain ⟨Ab, cb, Al, cl, Ao, co, h⟩ := h
  exact ⟨Ab, cb, Al, cl, Ao, co, h.keepU hx⟩
def UAt (B gu gr most : Nat) (bs : List UInt8) (w : World) (a : Nat) (o : List UInt8) : Prop :=
  ∃ A c Ab, Blk w gu 214 #[.pointer (some ⟨gr, 0, none⟩), .slice A o.length c, .int .i64 (most : Int)] ∧ RdIs w B gr Ab bs a ∧ Ow w B 5 A o.length c (o.map bv) ∧ B ≤ gu ∧ B ≤ gr ∧ (∀ k, blk A = some k → blk Ab ≠ some k) ∧ a ≤ 8 * bs.length ∧ bs.length ≤ 1048576 ∧ o.length ≤ most ∧ most ≤ 1048576
section
variable {B gu gr most a : Nat} {bs o : List UInt8} {w w' : World}
theorem UAt.size (h : UAt B gu gr most bs w a o) : B ≤ w.heap.size := by
  obtain ⟨A, c, Ab, h1, _, _, h4, _⟩ := h
  have := h1.lt
  omega
theorem UAt.bounds (h : UAt B gu gr most bs w a o) : a ≤ 8 * bs.length ∧ bs.length ≤ 1048576 ∧ o.length ≤ most ∧ most ≤ 1048576 := by
  obtain ⟨A, c, Ab, _, _, _, _, _, _, h⟩ := h
  exact h
theorem UAt.below (h : UAt B gu gr most bs w a o) (hb : Below w.heap.size w w') : UAt B gu gr most bs w' a o := by
  obtain ⟨A, c, Ab, h1, h2, h3, h4, h5, h6⟩ := h
  exact ⟨A, c, Ab, h1.below hb h1.lt, h2.below hb, h3.below hb, h4, h5, h6⟩
theorem UAt.calm {R : Nat → Prop} (h : UAt B gu gr most bs w a o) (hc : Chg R w w') (hR : ∀ k cs t fz, R k → w.heap[k]? = some (.cells cs t fz) → t ≠ 214 ∧ t ≠ 248 ∧ t ≠ 5) : UAt B gu gr most bs w' a o := by
  obtain ⟨A, c, Ab, h1, h2, h3, h4, h5, h6⟩ := h
  obtain ⟨cb, h7, h8⟩ := h2
  have hb : ∀ {base n c' : Nat} {A' : Option Addr} {xs : List Value}, Ow w base 5 A' n c' xs → ∀ g, blk A' = some g → ¬ R g := by
    intro base n c' A' xs ho g hg hr
    rcases ho.2 with ⟨hv, _⟩ | ⟨g', cap, cur, hv, _, hh, _⟩
    · injection hv with e1
      rw [e1] at hg
      simp [blk] at hg
    · injection hv with e1
      rw [e1] at hg
      have : g' = g := by simpa [blk] using hg
      subst this
      exact (hR _ _ _ _ hr hh).2.2 rfl
  exact ⟨A, c, Ab, h1.chg hc (fun hr => (hR _ _ _ _ hr h1).1 rfl), ⟨cb, h7.chg hc (fun hr => (hR _ _ _ _ hr h7).2.1 rfl), h8.chg hc (hb h8)⟩, h3.chg hc (hb h3), h4, h5, h6⟩
theorem UAt.moved {A : Option Addr} {c : Nat} {Ab : Option Addr} (h1 : Blk w gu 214 #[.pointer (some ⟨gr, 0, none⟩), .slice A o.length c, .int .i64 (most : Int)]) (h2 : RdIs w B gr Ab bs a) (h3 : Ow w B 5 A o.length c (o.map bv)) (h4 : B ≤ gu) (h5 : B ≤ gr)
    (h6 : (∀ k, blk A = some k → blk Ab ≠ some k) ∧ a ≤ 8 * bs.length ∧ bs.length ≤ 1048576 ∧ o.length ≤ most ∧ most ≤ 1048576) {a' : Nat} (ha : a' ≤ 8 * bs.length) (hs : RdIs w' B gr Ab bs a') (hc : Chg (fun k => k = gr) w w') : UAt B gu gr most bs w' a' o ∧ Below B w w' ∧ KeepU w w' := by
  obtain ⟨cb, h7, h8⟩ := h2
  have hB : B ≤ w.heap.size := Nat.le_trans h4 (Nat.le_of_lt h1.lt)
  refine ⟨⟨A, c, Ab, h1.chg hc (fun hr => h1.same h7 (by decide) hr), hs, h3.chg hc ?_, h4, h5, h6.1, ha, h6.2.2⟩, hc.to_below hB (fun i hi => by omega), KeepU.rd ⟨cb, h7, h8⟩ hc⟩
  rintro k hk rfl
  exact h3.ne h7 (by decide) hk
theorem UAt.put {x : UInt8} {A : Option Addr} {c : Nat} {Ab : Option Addr} (h1 : Blk w gu 214 #[.pointer (some ⟨gr, 0, none⟩), .slice A o.length c, .int .i64 (most : Int)]) (h2 : RdIs w B gr Ab bs a) (h3 : Ow w B 5 A o.length c (o.map bv)) (h4 : B ≤ gu) (h5 : B ≤ gr)
    (h6 : (∀ k, blk A = some k → blk Ab ≠ some k) ∧ a ≤ 8 * bs.length ∧ bs.length ≤ 1048576 ∧ o.length ≤ most ∧ most ≤ 1048576) (hf : ¬ most ≤ o.length) {A3 : Option Addr} {c3 : Nat} {w3 : World} (ho : Ow w3 B 5 A3 (o.length + 1) c3 (o.map bv ++ [bv x])) (hg : Chg (fun k => blk A = some k) w w3)
    (hn : blk A3 = blk A ∨ ∃ k, w.heap.size ≤ k ∧ blk A3 = some k) : UAt B gu gr most bs (w3.setCell ⟨gu, 1, none⟩ (.slice A3 (o.length + 1) c3)) a (o ++ [x]) ∧ Below B w (w3.setCell ⟨gu, 1, none⟩ (.slice A3 (o.length + 1) c3)) ∧ KeepU w (w3.setCell ⟨gu, 1, none⟩ (.slice A3 (o.length + 1) c3)) := by
  obtain ⟨cb, h7, h8⟩ := h2
  have hB : B ≤ w.heap.size := Nat.le_trans h4 (Nat.le_of_lt h1.lt)
  have hA : ∀ k, blk A = some k → B ≤ k ∧ k < w.heap.size := fun k hk => h3.blk_lt k hk
  have hgu : ¬ blk A = some gu := h3.ne h1 (by decide)
  have hgr : ¬ blk A = some gr := h3.ne h7 (by decide)
  have hne : gr ≠ gu := fun e => h1.same h7 (by decide) e.symm
  have k1 := h1.chg hg hgu
  have k2 := h7.chg hg hgr
  have hgw : Chg (fun k => k = gu) w3 (w3.setCell ⟨gu, 1, none⟩ (.slice A3 (o.length + 1) c3)) := (Chg.refl (fun k => k = gu) w3).setCell (p := ⟨gu, 1, none⟩) (.inr rfl) _
  have hA3 : blk A3 ≠ some gu := ho.ne k1 (by decide)
  have hall : Chg (fun k => blk A = some k ∨ k = gu) w (w3.setCell ⟨gu, 1, none⟩ (.slice A3 (o.length + 1) c3)) := (hg.mono (fun _ _ h => .inl h)).trans hgw (fun _ _ h => .inr h)
  refine ⟨⟨A3, c3, Ab, ?_, ⟨cb, k2.far hne _, ?_⟩, ?_, h4, h5, ?_, h6.2.1, h6.2.2.1, by rw [List.length_append, List.length_singleton]; omega, h6.2.2.2.2⟩, hall.to_below hB ?_, KeepU.chg hall ?_⟩
  · have := k1.set 1 (.slice A3 (o.length + 1) c3)
    rw [List.length_append, List.length_singleton]
    exact this
  · refine h8.chg hall ?_
    rintro k hk (h | rfl)
    · exact h6.1 k h hk
    · exact h8.ne h1 (by decide) hk
  · rw [List.length_append, List.length_singleton, List.map_append]
    exact ho.chg hgw (fun k hk e => hA3 (by rw [hk, e]))
  · intro k hk hb
    rcases hn with hn | ⟨k', hk', hn⟩
    · exact h6.1 k (by rw [← hn]; exact hk) hb
    · have := (h8.blk_lt k hb).2
      rw [hn] at hk
      injection hk with hk
      omega
  · rintro k (h | rfl)
    · exact (hA k h).1
    · exact h4
  · rintro k cs t fz (h | rfl) hx
    · right
      right
      rcases h3.2 with ⟨hv, _⟩ | ⟨g', cap, cur, hv, _, hh, _⟩
      · injection hv with e1
        rw [e1] at h
        simp [blk] at h
      · injection hv with e1
        rw [e1] at h
        have : g' = k := by simpa [blk] using h
        subst this
        rw [hh] at hx
        injection hx with hx
        injection hx with _ ht
        exact ht.symm
    · left
      unfold Blk at h1
      rw [h1] at hx
      injection hx with hx
      injection hx with _ ht
      exact ht.symm
end
def stopE (e : Nat) : List PanicEntry := [{ v := .iface 216 (.agg #[.int .i64 (e : Int)]), recovered := false }]
def UP (B gu gr most : Nat) (bs : List UInt8) (w : World) {α : Type} (val : α → Value) (r : Inf.R α) (e : Ending) (w' : World) : Prop :=
  (∃ er, r = .inl er ∧ e = .panicked (stopE er) ∧ Below B w w' ∧ KeepU w w') ∨
  (∃ x a o, r = .inr (x, a, o) ∧ e = .returned (val x) ∧ UAt B gu gr most bs w' a o ∧ Below B w w' ∧ KeepU w w')
end Go.Proofs.YtaapjampmnanmaaGreat
namespace Go.Proofs.YtaapjampmnanmaaGreat
open Go.RowKit
set_option linter.unusedVariables false
theorem must_ok (w : World) : Calls Tryz.prog 196 #[.int .i64 0] w fun e w' => e = .returned (.tuple #[]) ∧ w = w' := by
  go_enter Tryz.func196, Tryz.ntmps196
  go_wp2
  go_end0
  exact ⟨rfl, rfl⟩
theorem must_err (n : Nat) (hn : n ≠ 0) (w : World) : Calls Tryz.prog 196 #[.int .i64 (n : Int)] w fun e w' => e = .panicked (stopE n) ∧ w = w' := by
  have hz : ((n : Int) == 0) = false := by simp; omega
  have hz2 : ((n : Int) != 0) = true := by simp; omega
  go_enter Tryz.func196, Tryz.ntmps196
  go_wp2
  exact ⟨rfl, rfl, rfl⟩
theorem must_errI (n : Nat) (ni : Int) (hn : n ≠ 0) (he : (n : Int) = ni) (w : World) : Calls Tryz.prog 196 #[.int .i64 ni] w fun e w' => e = .panicked (stopE n) ∧ w = w' := by
  subst he
  exact must_err n hn w
section
variable {B gu gr most a : Nat} {bs o : List UInt8} {w : World}
theorem ubits (h : UAt B gu gr most bs w a o) (n : Nat) (hn : n ≤ 32) :
    Calls Tryz.prog 174 #[.pointer (some ⟨gu, 0, none⟩), .int .i64 (n : Int)] w (UP B gu gr most bs w (fun v : Nat => .int .i64 (v : Int)) (Inf.bits (Bit.bitsOf bs) n a o)) := by
  obtain ⟨ha, hl, _⟩ := h.bounds
  have hbl := Bit.bitsOf_length bs
  have h' := h
  obtain ⟨A, c, Ab, h1, h2, h3, h4, h5, h6⟩ := h'
  have c0 : w.cell? ⟨gu, 0, none⟩ = some (.pointer (some ⟨gr, 0, none⟩)) := h1.cell 0
  by_cases hle : a + n ≤ 8 * bs.length
  · have hr : Inf.bits (Bit.bitsOf bs) n a o = .inr (Bit.num (((Bit.bitsOf bs).drop a).take n), a + n, o) := if_pos (by omega)
    rw [hr]
    have hb := hide (rbits_ok gr Ab bs a n w B h2 (by omega) hn hle)
    have hv : Bit.num (((Bit.bitsOf bs).drop a).take n) < 4294967296 := by
      have h1 := Bit.num_lt (((Bit.bitsOf bs).drop a).take n)
      have h2 : (((Bit.bitsOf bs).drop a).take n).length ≤ 32 := by rw [List.length_take]; omega
      have h3 : 2 ^ (((Bit.bitsOf bs).drop a).take n).length ≤ 2 ^ 32 := Nat.pow_le_pow_right (by decide) h2
      exact Nat.lt_of_lt_of_le h1 h3
    generalize Bit.num (((Bit.bitsOf bs).drop a).take n) = v at *
    have hw : IntKind.i64.wrap (v : Int) = (v : Int) := by rw [IntKind.wrap_i64]; omega
    have hmv := hide (fun w' (hs : RdIs w' B gr Ab bs (a + n)) (hc : Chg (fun k => k = gr) w w') => UAt.moved h1 h2 h3 h4 h5 h6 hle hs hc)
    clear hbl hr h1 h2 h3 h4 h5 h6 hle hv ha hl h
    go_enter Tryz.func174, Tryz.ntmps174
    go_wp2_with (first
      | (go_at_call 195; (with_reducible refine hb.out.mono ?_); rintro e w1 ⟨rfl, h1, hc1⟩; have h1 := hide h1; have hc1 := hide hc1)
      | (go_at_call 196; (with_reducible refine (must_ok _).mono ?_); rintro e w2 ⟨rfl, rfl⟩))
    go_ret
    exact .inr ⟨v, a + n, o, rfl, rfl, hmv.out _ h1.out hc1.out⟩
  · have hr : Inf.bits (Bit.bitsOf bs) n a o = .inl 2 := if_neg (by omega)
    rw [hr]
    have hb := hide (rbits_short gr Ab bs a n w B h2 (by omega) ha hn (by omega))
    have hB := h.size
    clear hbl hr h1 h2 h3 h4 h5 h6 hle ha hl h
    go_enter Tryz.func174, Tryz.ntmps174
    go_wp2_with (first
      | (go_at_call 195; (with_reducible refine hb.out.mono ?_); rintro e w1 ⟨rfl, k1, rfl⟩)
      | (go_at_call 196; (with_reducible refine (must_errI 2 2 (by decide) rfl _).mono ?_); rintro e w2 ⟨rfl, rfl⟩))
    exact ⟨rfl, .inl ⟨2, rfl, rfl, below_drewN (Below.refl _ w) k1, KeepU.below (below_drewN (Below.refl _ w) k1)⟩⟩
theorem usym (h : UAt B gu gr most bs w a o) (gc B0 : Nat) (ls : List Nat) (hc : CodeAt B0 w gc ls) (hn : ls.length ≤ 288) (hs : Huf.sum ls ≤ 32768) :
    Calls Tryz.prog 198 #[.pointer (some ⟨gu, 0, none⟩), .pointer (some ⟨gc, 0, none⟩)] w (UP B gu gr most bs w (fun v : Nat => .int .i64 (v : Int)) (Inf.sym (Bit.bitsOf bs) ls a o)) := by
  obtain ⟨ha, hl, _⟩ := h.bounds
  have h' := h
  obtain ⟨A, c, Ab, h1, h2, h3, h4, h5, h6⟩ := h'
  have c0 : w.cell? ⟨gu, 0, none⟩ = some (.pointer (some ⟨gr, 0, none⟩)) := h1.cell 0
  obtain ⟨m, x, er, hd⟩ : ∃ m x er, Huf.dec ls ((Bit.bitsOf bs).drop a) 15 0 0 = (m, x, er) := ⟨_, _, _, rfl⟩
  have hb := hide (iread_any gc gr B0 B a Ab ls bs w hc h2 hl ha hn hs m x er hd)
  have hx : a + x ≤ 8 * bs.length := by
    have := (Huf.dec_le ls ((Bit.bitsOf bs).drop a) 15 0 0).2.2 (Nat.zero_le _)
    rw [hd, List.length_drop, Bit.bitsOf_length] at this
    simp only at this
    omega
  have hmv := hide (fun w' (hs : RdIs w' B gr Ab bs (a + x)) (hc : Chg (fun k => k = gr) w w') => UAt.moved h1 h2 h3 h4 h5 h6 hx hs hc)
  by_cases he : er = 0
  · subst he
    have hr : Inf.sym (Bit.bitsOf bs) ls a o = .inr (m, a + x, o) := Inf.sym_ok hd
    rw [hr]
    replace hd := hide hd
    clear h1 h2 h3 h4 h5 h6 hx hr ha hl h hc hn hs
    rw [show (((0 : Nat) : Nat) : Int) = 0 from rfl] at hb
    go_enter Tryz.func198, Tryz.ntmps198
    go_wp2_with (first
      | (go_at_call 206; (with_reducible refine hb.out.mono ?_); rintro e w1 ⟨rfl, h1, hc1⟩; have h1 := hide h1; have hc1 := hide hc1)
      | (go_at_call 196; (with_reducible refine (must_ok _).mono ?_); rintro e w2 ⟨rfl, rfl⟩))
    go_ret
    exact .inr ⟨m, a + x, o, rfl, rfl, hmv.out _ h1.out hc1.out⟩
  · have hr : Inf.sym (Bit.bitsOf bs) ls a o = .inl er := Inf.sym_err hd he
    rw [hr]
    replace hd := hide hd
    clear h1 h2 h3 h4 h5 h6 hx hr ha hl h hc hn hs
    go_enter Tryz.func198, Tryz.ntmps198
    go_wp2_with (first
      | (go_at_call 206; (with_reducible refine hb.out.mono ?_); rintro e w1 ⟨rfl, h1, hc1⟩; have h1 := hide h1; have hc1 := hide hc1)
      | (go_at_call 196; (with_reducible refine (must_err er he _).mono ?_); rintro e w2 ⟨rfl, rfl⟩))
    exact ⟨rfl, .inl ⟨er, rfl, rfl, (hmv.out _ h1.out hc1.out).2⟩⟩
theorem uput (h : UAt B gu gr most bs w a o) (x : UInt8) :
    Calls Tryz.prog 197 #[.pointer (some ⟨gu, 0, none⟩), .int .u8 (x.toNat : Int)] w (UP B gu gr most bs w (fun _ : Unit => .tuple #[]) (Inf.put most x a o)) := by
  obtain ⟨ha, hl, hom, hm⟩ := h.bounds
  have hB := h.size
  have h' := h
  obtain ⟨A, c, Ab, h1, h2, h3, h4, h5, h6⟩ := h'
  have c1 : w.cell? ⟨gu, 1, none⟩ = some (.slice A o.length c) := h1.cell 1
  have c2 : w.cell? ⟨gu, 2, none⟩ = some (.int .i64 (most : Int)) := h1.cell 2
  by_cases hf : most ≤ o.length
  · have hr : Inf.put most x a o = .inl 5 := if_pos hf
    rw [hr]
    obtain ⟨N, hN⟩ : ∃ N, o.length = N := ⟨_, rfl⟩
    rw [hN] at c1 hf
    have hI : (most : Int) ≤ (N : Int) := by omega
    clear hN h1 h2 h3 h4 h5 h6 hr ha hl h hom hm hf
    go_enter Tryz.func197, Tryz.ntmps197
    go_wp2
    go_quiet (fail)
    go_wp2
    exact ⟨rfl, .inl ⟨5, rfl, rfl, by first | exact below_drewN (Below.refl _ w) _ | exact Below.refl _ w, KeepU.below (by first | exact below_drewN (Below.refl _ w) _ | exact Below.refl _ w)⟩⟩
  · have hr : Inf.put most x a o = .inr ((), a, o ++ [x]) := if_neg hf
    rw [hr]
    have hwl := hide (fun (n : Nat) => @UAt.put B gu gr most a bs o (w.drewN n) x A c Ab h1 h2 h3 h4 h5 h6 hf)
    have hne : ¬ blk A = some gu := h3.ne h1 (by decide)
    have hmx : Hid (o.length + 1 ≤ 1048576) := hide (by omega)
    have h3 := hide h3
    have h1 := hide h1
    clear h2 h4 h5 h6 ha hl h hr hom hm
    obtain ⟨N, hN⟩ : ∃ N, o.length = N := ⟨_, rfl⟩
    rw [hN] at c1 hwl h3 h1 hmx hf
    have hI : (N : Int) < (most : Int) := by omega
    clear hf
    replace hN := hide hN
    replace hB := hide hB
    replace hne := hide hne
    go_enter Tryz.func197, Tryz.ntmps197
    go_wp2
    go_quiet (fail)
    go_wp2_with (at_builtin; refine wpList_append_one _ rfl (.tmp 20) (.tmp 22) rfl elem_byte rfl (show Ow (w.drewN _) B 5 A N c (o.map bv) from h3.out) (bv x) 5 _ rfl rfl (by have := hmx.out; simp only [maxLen]; omega) (by have := hmx.out; omega) hB.out ?_; intro A3 c3 w3 ho3 hg3 hn3; have hfin := hide (hwl.out _ ho3 hg3 hn3); have k3 := (show Blk (w.drewN _) gu _ _ from h1.out).chg hg3 hne.out; have d1 : w3.cell? ⟨gu, 1, none⟩ = some (.slice A N c) := k3.cell 1; have f1 := k3.free 1; clear ho3 hg3 hn3 k3)
    go_end0
    exact .inr ⟨(), a, o ++ [x], rfl, rfl, hfin.out.1, (below_drewN (Below.refl B w) _).trans hfin.out.2.1, (KeepU.below (below_drewN (Below.refl _ w) _)).trans hfin.out.2.2⟩
end
theorem UP.go {B gu gr most : Nat} {bs : List UInt8} {w : World} {α : Type} {val : α → Value} {r : Inf.R α} {f : FuncId} {args : Array Value} {R : Ending → World → Prop}
    (h : Calls Tryz.prog f args w (UP B gu gr most bs w val r))
    (hp : ∀ er w', r = .inl er → Below B w w' → KeepU w w' → R (.panicked (stopE er)) w')
    (hk : ∀ x a o w', r = .inr (x, a, o) → UAt B gu gr most bs w' a o → Below B w w' → KeepU w w' → R (.returned (val x)) w') : Calls Tryz.prog f args w R := by
  refine h.mono ?_
  rintro e w' (⟨er, h1, rfl, h2, h3⟩ | ⟨x, a, o, h1, rfl, h2, h3, h4⟩)
  · exact hp er w' h1 h2 h3
  · exact hk x a o w' h1 h2 h3 h4
def UQ (B gu gr most : Nat) (bs : List UInt8) (w : World) {α : Type} (P : α → Value → World → Prop) (r : Inf.R α) (e : Ending) (w' : World) : Prop :=
  (∃ er, r = .inl er ∧ e = .panicked (stopE er) ∧ Below B w w' ∧ KeepU w w') ∨
  (∃ x a o v, r = .inr (x, a, o) ∧ e = .returned v ∧ P x v w' ∧ UAt B gu gr most bs w' a o ∧ Below B w w' ∧ KeepU w w')
theorem UQ.go {B gu gr most : Nat} {bs : List UInt8} {w : World} {α : Type} {P : α → Value → World → Prop} {r : Inf.R α} {f : FuncId} {args : Array Value} {R : Ending → World → Prop}
    (h : Calls Tryz.prog f args w (UQ B gu gr most bs w P r))
    (hp : ∀ er w', r = .inl er → Below B w w' → KeepU w w' → R (.panicked (stopE er)) w')
    (hk : ∀ x a o v w', r = .inr (x, a, o) → P x v w' → UAt B gu gr most bs w' a o → Below B w w' → KeepU w w' → R (.returned v) w') : Calls Tryz.prog f args w R := by
  refine h.mono ?_
  rintro e w' (⟨er, h1, rfl, h2, h3⟩ | ⟨x, a, o, v, h1, rfl, h0, h2, h3, h4⟩)
  · exact hp er w' h1 h2 h3
  · exact hk x a o v w' h1 h0 h2 h3 h4
theorem Inf.bits_is {l : List Bool} {n a v a' : Nat} {o o' : List UInt8} (h : Inf.bits l n a o = .inr (v, a', o')) : v < 2 ^ n ∧ a' = a + n ∧ o' = o ∧ a + n ≤ l.length := by
  unfold Inf.bits at h
  split at h
  · cases h
    refine ⟨?_, rfl, rfl, by assumption⟩
    have h1 := Bit.num_lt ((l.drop a).take n)
    have h2 : ((l.drop a).take n).length ≤ n := by rw [List.length_take]; omega
    exact Nat.lt_of_lt_of_le h1 (Nat.pow_le_pow_right (by decide) h2)
  · cases h
theorem Huf.sym_lt (ls : List Nat) (s v : Nat) (h : Huf.hits ls s v = true) : Huf.sym ls s v < ls.length := by
  unfold Huf.hits at h
  simp only [Bool.and_eq_true, decide_eq_true_eq] at h
  have hl : v - Huf.first ls s < (Huf.idx ls ls.length s).length := by
    rw [show (Huf.idx ls ls.length s).length = Huf.cnt ls s from rfl]
    omega
  unfold Huf.sym
  rw [List.getD_eq_getElem?_getD, List.getElem?_eq_getElem hl, Option.getD_some]
  exact (Huf.idx_at ls s ls.length _ hl).2.2
theorem Huf.dec_is (ls : List Nat) (l : List Bool) : ∀ r s v m x, Huf.dec ls l r s v = (m, x, 0) → m < ls.length ∧ s < x := by
  intro r
  induction r with
  | zero => intro s v m x h; cases h
  | succ r ih =>
    intro s v m x h
    rw [Huf.dec] at h
    split at h
    · cases h
    · split at h
      · rename_i hh
        cases h
        exact ⟨Huf.sym_lt ls _ _ hh, by omega⟩
      · have := ih _ _ _ _ h
        omega
theorem Inf.sym_is {l : List Bool} {ls : List Nat} {a m a' : Nat} {o o' : List UInt8} (h : Inf.sym l ls a o = .inr (m, a', o')) : m < ls.length ∧ a < a' ∧ o' = o := by
  unfold Inf.sym at h
  split at h
  · rename_i m' x' hd
    cases h
    obtain ⟨h1, h2⟩ := Huf.dec_is ls _ _ _ _ _ _ hd
    exact ⟨h1, by omega, rfl⟩
  · cases h
end Go.Proofs.YtaapjampmnanmaaGreat
namespace Go.Proofs.YtaapjampmnanmaaGreat
open Go.RowKit
set_option linter.unusedVariables false
theorem xor_nat (n : Nat) (h : n ≤ 65535) : n ^^^ 65535 = 65535 - n := by
  refine Nat.eq_of_testBit_eq fun i => ?_
  rw [Nat.testBit_xor, show (65535 : Nat) = 2 ^ 16 - 1 from rfl, Nat.testBit_two_pow_sub_one, show 2 ^ 16 - 1 - n = 2 ^ 16 - (n + 1) from by omega, Nat.testBit_two_pow_sub_succ (by omega)]
  by_cases hi : i < 16
  · simp [hi]
  · have : n.testBit i = false := Nat.testBit_lt_two_pow (Nat.lt_of_lt_of_le (show n < 2 ^ 16 by omega) (Nat.pow_le_pow_right (by decide) (by omega)))
    simp [hi, this]
theorem xor_sum (n m : Nat) (hn : n ≤ 65535) (hm : m ≤ 65535) : n ^^^ m = 65535 ↔ n + m = 65535 := by
  constructor
  · intro h
    have h1 : n ^^^ (n ^^^ m) = n ^^^ 65535 := by rw [h]
    rw [← Nat.xor_assoc, Nat.xor_self, Nat.zero_xor, xor_nat n hn] at h1
    omega
  · intro h
    have h1 : m = n ^^^ 65535 := by rw [xor_nat n hn]; omega
    rw [h1, ← Nat.xor_assoc, Nat.xor_self, Nat.zero_xor]
theorem inf_xor_i64 (n m : Nat) (hn : n ≤ 65535) (hm : m ≤ 65535) : bits .xor .i64 (n : Int) (m : Int) = ((n ^^^ m : Nat) : Int) := by
  have h := Nat.xor_lt_two_pow (n := 16) (show n < 2 ^ 16 by omega) (show m < 2 ^ 16 by omega)
  show IntKind.i64.wrap ((BitVec.ofInt 64 (n : Int) ^^^ BitVec.ofInt 64 (m : Int)).toNat : Int) = _
  rw [BitVec.toNat_xor, BitVec.toNat_ofInt, BitVec.toNat_ofInt]
  have e : ∀ k : Nat, k ≤ 65535 → ((k : Int) % ((2 ^ 64 : Nat) : Int)).toNat = k := by
    intro k hk
    have : ((2 ^ 64 : Nat) : Int) = 18446744073709551616 := by decide
    omega
  rw [e n hn, e m hm, IntKind.wrap_i64]
  omega
section
variable {B gu gr most a : Nat} {bs o : List UInt8} {w : World}
theorem ualign (h : UAt B gu gr most bs w a o) : Calls Tryz.prog 148 #[.pointer (some ⟨gr, 0, none⟩)] w fun e w' => e = .returned (.int .i64 (Bit.gap a : Int)) ∧ UAt B gu gr most bs w' (a + Bit.gap a) o ∧ Below B w w' ∧ KeepU w w' := by
  obtain ⟨A, c, Ab, h1, h2, h3, h4, h5, h6⟩ := h
  refine (ralign_ok gr Ab bs a w B h2 (by omega)).mono ?_
  rintro e w' ⟨he, hr, hc⟩
  exact ⟨he, UAt.moved h1 h2 h3 h4 h5 h6 (by unfold Bit.gap; omega) hr hc⟩
theorem UAt.cell0 (h : UAt B gu gr most bs w a o) : w.cell? ⟨gu, 0, none⟩ = some (.pointer (some ⟨gr, 0, none⟩)) := by
  obtain ⟨A, c, Ab, h1, _⟩ := h
  exact h1.cell 0
set_option maxHeartbeats 2000000 in
theorem ustored (h : UAt B gu gr most bs w a o) (R : Inf.R Unit) (hR : Inf.stored (Bit.bitsOf bs) most a o = R) :
    Calls Tryz.prog 175 #[.pointer (some ⟨gu, 0, none⟩)] w (UP B gu gr most bs w (fun _ : Unit => .tuple #[]) R) := by
  have c0 := h.cell0
  have h1 := hide (ualign h)
  have hR1 := hide (show Inf.bind (Inf.bits (Bit.bitsOf bs) 16) (fun n => Inf.bind (Inf.bits (Bit.bitsOf bs) 16) fun m => if n + m = 65535 then Inf.raw (Bit.bitsOf bs) most n else Inf.err 3) (a + Bit.gap a) o = R from hR)
  clear h hR
  go_enter Tryz.func175, Tryz.ntmps175
  go_wp2_with fail
  refine h1.out.mono ?_
  rintro e w1 ⟨rfl, u1, b1, k1⟩
  have hu1 := hide (ubits u1 16 (by decide))
  have b1 := hide b1
  have k1 := hide k1
  clear u1
  go_wp2_with fail
  refine UP.go hu1.out (fun er w2 e2 b2 k2 => ⟨rfl, .inl ⟨er, hR1.out.symm.trans (Inf.bind_err e2), rfl, b1.out.trans b2, k1.out.trans k2⟩⟩) ?_
  intro n a2 o2 w2 e2 u2 b2 k2
  have hu2 := hide (ubits u2 16 (by decide))
  have hR2 := hide ((Inf.bind_ok e2).symm.trans hR1.out)
  have hn := (Inf.bits_is e2).1
  have b2 := hide (b1.out.trans b2)
  have k2 := hide (k1.out.trans k2)
  clear u2 e2
  have hn16 : n ≤ 65535 := by omega
  go_wp2_with fail
  refine UP.go hu2.out (fun er w3 e3 b3 k3 => ⟨rfl, .inl ⟨er, hR2.out.symm.trans (Inf.bind_err e3), rfl, b2.out.trans b3, k2.out.trans k3⟩⟩) ?_
  intro m a3 o3 w3 e3 u3 b3 k3
  have u3 := hide u3
  have hR3 := hide ((Inf.bind_ok e3).symm.trans hR2.out)
  have hm := (Inf.bits_is e3).1
  have b3 := hide (b2.out.trans b3)
  have k3 := hide (k2.out.trans k3)
  have hxo := inf_xor_i64 n m hn16 (by omega)
  have hxs := xor_sum n m hn16 (by omega)
  clear e3 hm
  obtain ⟨X, hX⟩ : ∃ X, n ^^^ m = X := ⟨_, rfl⟩
  rw [hX] at hxo hxs
  clear hX
  by_cases hs : n + m = 65535
  · have hR4 := hide (show Inf.raw (Bit.bitsOf bs) most n a3 o3 = R from by have := hR3.out; rwa [if_pos hs] at this)
    have hX := hxs.2 hs
    have hXb : ((X : Int) != 65535) = false := by simp; omega
    have hXb2 : ((X : Int) == 65535) = true := by simp; omega
    have hnI : (n : Int) ≤ 70000 := by omega
    have hn7 : n ≤ 70000 := by omega
    clear hR1 hR2 hR3 hs hu1 hu2 h1 hxs b1 k1 b2 k2 hX hn hn16
    go_wp2
    go_loopw [18] (fun s18 wr => ∃ (i : Nat) (a' : Nat) (o' : List UInt8), i ≤ n ∧ s18 = .int .i64 (i : Int) ∧ Hid (Inf.raw (Bit.bitsOf bs) most (n - i) a' o' = R) ∧ Hid (UAt B gu gr most bs wr a' o') ∧ Hid (Below B w wr) ∧ Hid (KeepU w wr)) (fun s18 _ => n - (intOf s18).toNat)
    case atStart => exact ⟨0, a3, o3, Nat.zero_le _, rfl, hR4, u3, b3, k3⟩
    case round =>
      clear hR4 u3 b3 k3
      obtain ⟨i, a', o', hi, rfl, hR, u, b, k⟩ := hrel
      by_cases hlt : i < n
      · have hltI : (i : Int) < (n : Int) := by omega
        have hR' := hide (show Inf.bind (Inf.bits (Bit.bitsOf bs) 8) (fun c => Inf.bind (Inf.put most (UInt8.ofNat c)) fun _ => Inf.raw (Bit.bitsOf bs) most (n - (i + 1))) a' o' = R from by
          have := hR.out
          rwa [show n - i = n - (i + 1) + 1 from by omega] at this)
        have hu4 := hide (ubits u.out 8 (by decide))
        clear hxo hXb hXb2 hR u
        go_wp2_with fail
        refine UP.go hu4.out (fun er w4 e4 b4 k4 => ⟨rfl, .inl ⟨er, hR'.out.symm.trans (Inf.bind_err e4), rfl, b.out.trans b4, k.out.trans k4⟩⟩) ?_
        intro x a4 o4 w4 e4 u4 b4 k4
        have hR5 := hide ((Inf.bind_ok e4).symm.trans hR'.out)
        have hx := (Inf.bits_is e4).1
        have b4 := hide (b.out.trans b4)
        have k4 := hide (k.out.trans k4)
        have hx8 : IntKind.u8.wrap (x : Int) = (x : Int) := by rw [IntKind.wrap_u8]; omega
        have hu5 := uput u4 (UInt8.ofNat x)
        rw [UInt8.toNat_ofNat_of_lt' (show x < 256 from hx)] at hu5
        have hu5 := hide hu5
        clear e4 u4 hx
        go_wp2_with fail
        refine UP.go hu5.out (fun er w5 e5 b5 k5 => ⟨rfl, .inl ⟨er, hR5.out.symm.trans (Inf.bind_err e5), rfl, b4.out.trans b5, k4.out.trans k5⟩⟩) ?_
        intro _ a5 o5 w5 e5 u5 b5 k5
        have hR6 := hide ((Inf.bind_ok e5).symm.trans hR5.out)
        have b5 := hide (b4.out.trans b5)
        have k5 := hide (k4.out.trans k5)
        have u5 := hide u5
        clear e5 hR5 hR' hu4 hu5 hx8 b4 k4 b k
        go_wp2
        go_roundw
        case rel => exact ⟨i + 1, a5, o5, by omega, by go_num, hR6, u5, b5, k5⟩
        case measure => simp [intOf] <;> omega
      · obtain rfl : i = n := by omega
        have hR' := hide (show Sum.inr ((), a', o') = R from by have := hR.out; rwa [Nat.sub_self] at this)
        go_wp2
        go_end0
        exact .inr ⟨(), a', o', hR'.out.symm, rfl, u.out, b.out, k.out⟩
  · have hR4 := hide (show Sum.inl 3 = R from by have := hR3.out; rwa [if_neg hs] at this)
    have hX : ¬ X = 65535 := fun h => hs (hxs.1 h)
    have hXb : ((X : Int) != 65535) = true := by simp; omega
    have hXb2 : ((X : Int) == 65535) = false := by simp; omega
    clear hR1 hR2 hR3 hs hu1 hu2 h1 hxs hX hn hn16
    go_wp2
    exact ⟨rfl, .inl ⟨3, hR4.out.symm, rfl, b3.out, k3.out⟩⟩
theorem Inf.lenV_in (s : Nat) (h1 : 257 ≤ s) (h2 : s ≤ 285) : Def.lenV (s : Int) = ((Def.lenB (s - 257) : Int), (Def.lenX (s - 257) : Int)) := by
  unfold Def.lenV
  rw [if_pos (by omega), show ((s : Int) - 257).toNat = s - 257 from by omega]
theorem Inf.lenV_out (s : Nat) (h : s < 257 ∨ 285 < s) : Def.lenV (s : Int) = (0, 0) := by
  unfold Def.lenV
  rw [if_neg (by omega)]
theorem Inf.dstV_in (s : Nat) (h2 : s ≤ 29) : Def.dstV (s : Int) = ((Def.dstB s : Int), (Def.dstX s : Int)) := by
  unfold Def.dstV
  rw [if_pos (by omega), Int.toNat_natCast]
theorem Inf.dstV_out (s : Nat) (h : 29 < s) : Def.dstV (s : Int) = (0, 0) := by
  unfold Def.dstV
  rw [if_neg (by omega)]
theorem Inf.lenB_pos : ∀ k < 29, 3 ≤ Def.lenB k := by decide
theorem Inf.dstB_pos : ∀ k < 30, 1 ≤ Def.dstB k := by decide
theorem Inf.put_is {most a a' : Nat} {x : UInt8} {o o' : List UInt8} {y : Unit} (h : Inf.put most x a o = .inr (y, a', o')) : a' = a ∧ o' = o ++ [x] := by
  unfold Inf.put at h
  split at h
  · cases h
  · cases h
    exact ⟨rfl, rfl⟩
theorem uback_load (h : UAt B gu gr most bs w a o) : ∃ A c, w.cell? ⟨gu, 1, none⟩ = some (.slice A o.length c) ∧ o.length ≤ 1048576 ∧ ∀ j (hj : j < o.length), ∃ b off, A = some ⟨b, off, none⟩ ∧ w.cell? ⟨b, off + j, none⟩ = some (.int .u8 (o[j].toNat : Int)) := by
  obtain ⟨A, c, Ab, h1, h2, h3, h4, h5, h6⟩ := h
  refine ⟨A, c, h1.cell 1, by omega, fun j hj => ?_⟩
  obtain ⟨b, off, hA, _, hc⟩ := h3.rd.byte hj
  exact ⟨b, off, hA, hc⟩
set_option maxRecDepth 100000 in
set_option maxHeartbeats 4000000 in
theorem ucopied (h : UAt B gu gr most bs w a o) (s gf B0 : Nat) (far : List Nat) (hs : s ≤ 1000) (hc : CodeAt B0 w gf far) (hn : far.length ≤ 288) (hsum : Huf.sum far ≤ 32768) (R : Inf.R Unit) (hR : Inf.copied (Bit.bitsOf bs) most far s a o = R) :
    Calls Tryz.prog 199 #[.pointer (some ⟨gu, 0, none⟩), .int .i64 (s : Int), .pointer (some ⟨gf, 0, none⟩)] w (UP B gu gr most bs w (fun _ : Unit => .tuple #[]) R) := by
  have hl := length_any (s : Int) w (by omega) (by omega)
  have hBw := h.size
  by_cases hin : s < 257 ∨ 285 < s
  · rw [Inf.lenV_out s hin] at hl
    have hR1 := hide (show Sum.inl 3 = R from by rw [← hR]; unfold Inf.copied; rw [if_pos hin]; rfl)
    replace hl := hide hl
    clear h hc hn hsum hR hin hs
    go_enter Tryz.func199, Tryz.ntmps199
    go_wp2_with fail
    refine hl.out.mono ?_
    rintro e w1 ⟨rfl, rfl⟩
    go_wp2
    exact ⟨rfl, .inl ⟨3, hR1.out.symm, rfl, Below.refl _ _, KeepU.refl _⟩⟩
  · have hk29 : s - 257 < 29 := by omega
    rw [Inf.lenV_in s (by omega) (by omega)] at hl
    have hR1 := show Inf.bind (Inf.bits (Bit.bitsOf bs) (Def.lenX (s - 257))) (fun k => Inf.bind (Inf.sym (Bit.bitsOf bs) far) fun t =>
      if 29 < t then Inf.err 3 else Inf.bind (Inf.bits (Bit.bitsOf bs) (Def.dstX t)) fun m => Inf.reach most (Def.dstB t + m) (Def.lenB (s - 257) + k)) a o = R from by rw [← hR]; unfold Inf.copied; rw [if_neg hin]
    obtain ⟨hLB, hLX⟩ := Def.len_small _ hk29
    have hLB3 := Inf.lenB_pos _ hk29
    simp only at hl
    generalize Def.lenB (s - 257) = LB at *
    generalize Def.lenX (s - 257) = LX at *
    have hu1 := hide (ubits h LX (by omega))
    have hsy := hide (fun (w' : World) (a' : Nat) (o' : List UInt8) (u : UAt B gu gr most bs w' a' o') (k : KeepU w w') => usym u gf B0 far (hc.keepU k) hn hsum)
    have hLBz : ((LB : Int) == 0) = false := by simp; omega
    replace hl := hide hl
    replace hR1 := hide hR1
    clear h hc hn hsum hR hin hk29 hs
    go_enter Tryz.func199, Tryz.ntmps199
    go_wp2_with fail
    refine hl.out.mono ?_
    rintro e w1 ⟨rfl, rfl⟩
    go_wp2_with fail
    refine UP.go hu1.out (fun er w2 e2 b2 k2 => ⟨rfl, .inl ⟨er, hR1.out.symm.trans (Inf.bind_err e2), rfl, b2, k2⟩⟩) ?_
    intro kx a2 o2 w2 e2 u2 b2 k2
    have hR2 := hide ((Inf.bind_ok e2).symm.trans hR1.out)
    have hkx : kx ≤ 1024 := by
      have h1 := (Inf.bits_is e2).1
      have h2 : 2 ^ LX ≤ 2 ^ 10 := Nat.pow_le_pow_right (by decide) hLX
      omega
    obtain ⟨n, hnn⟩ : ∃ n, LB + kx = n := ⟨_, rfl⟩
    have hnI : (LB : Int) + (kx : Int) = (n : Int) := by omega
    have hn1 : n ≤ 2000 := by omega
    have hw1 : IntKind.i64.wrap (n : Int) = (n : Int) := by rw [IntKind.wrap_i64]; omega
    have hs2 := hide (hsy.out _ _ _ u2 k2)
    rw [hnn] at hR2
    have b2 := hide b2
    have k2 := hide k2
    clear e2 u2 hu1 hR1 hkx hLX hnn hl
    go_wp2_with fail
    refine UP.go hs2.out (fun er w3 e3 b3 k3 => ⟨rfl, .inl ⟨er, hR2.out.symm.trans (Inf.bind_err e3), rfl, b2.out.trans b3, k2.out.trans k3⟩⟩) ?_
    intro t a3 o3 w3 e3 u3 b3 k3
    have hR3 := hide ((Inf.bind_ok e3).symm.trans hR2.out)
    have b3 := hide (b2.out.trans b3)
    have k3 := hide (k2.out.trans k3)
    clear e3 hR2 hs2 b2 k2
    have hds := distance_any (t : Int) w3
    by_cases ht : 29 < t
    · rw [Inf.dstV_out t ht] at hds
      replace hds := hide hds
      have hR4 := hide (show Sum.inl 3 = R from by have := hR3.out; rwa [if_pos ht] at this)
      clear hR3 u3 hsy ht
      go_wp2_with fail
      refine hds.out.mono ?_
      rintro e w4 ⟨rfl, rfl⟩
      go_wp2
      exact ⟨rfl, .inl ⟨3, hR4.out.symm, rfl, b3.out, k3.out⟩⟩
    · rw [Inf.dstV_in t (by omega)] at hds
      have hR4 := hR3.out
      rw [if_neg ht] at hR4
      obtain ⟨hDB, hDX⟩ := Def.dst_small t (by omega)
      have hDB1 := Inf.dstB_pos t (by omega)
      simp only at hds
      generalize Def.dstB t = DB at *
      generalize Def.dstX t = DX at *
      have hDBz : ((DB : Int) == 0) = false := by simp; omega
      have hu4 := hide (ubits u3 DX (by omega))
      replace hds := hide hds
      replace hR4 := hide hR4
      clear hR3 u3 hsy ht
      go_wp2_with fail
      refine hds.out.mono ?_
      rintro e w4 ⟨rfl, rfl⟩
      go_wp2_with fail
      refine UP.go hu4.out (fun er w5 e5 b5 k5 => ⟨rfl, .inl ⟨er, hR4.out.symm.trans (Inf.bind_err e5), rfl, b3.out.trans b5, k3.out.trans k5⟩⟩) ?_
      intro m a5 o5 w5 e5 u5 b5 k5
      have hR5 := hide ((Inf.bind_ok e5).symm.trans hR4.out)
      have hm : m ≤ 1048576 := by
        have h1 := (Inf.bits_is e5).1
        have h2 : 2 ^ DX ≤ 2 ^ 20 := Nat.pow_le_pow_right (by decide) hDX
        omega
      have b5 := hide (b3.out.trans b5)
      have k5 := hide (k3.out.trans k5)
      obtain ⟨d, hdd⟩ : ∃ d, DB + m = d := ⟨_, rfl⟩
      rw [hdd] at hR5
      have hdI : (DB : Int) + (m : Int) = (d : Int) := by omega
      have hd1 : 1 ≤ d := by omega
      have hd2 : d ≤ 2000000 := by omega
      have hwd : IntKind.i64.wrap (d : Int) = (d : Int) := by rw [IntKind.wrap_i64]; omega
      clear e5 hR4 hu4 hm hDB hDX hdd b3 k3 hds
      obtain ⟨A5, c5, hc5, ho5, _⟩ := uback_load u5
      obtain ⟨N, hN⟩ : ∃ N, o5.length = N := ⟨_, rfl⟩
      rw [hN] at hc5 ho5
      by_cases hdN : N < d
      · have hdNI : (N : Int) < (d : Int) := by omega
        have hR6 := hide (show Sum.inl 3 = R from by have := hR5.out; unfold Inf.reach at this; rwa [if_pos (by omega)] at this)
        clear hR5 u5 hN hdN ho5
        go_wp2
        exact ⟨rfl, .inl ⟨3, hR6.out.symm, rfl, b5.out, k5.out⟩⟩
      · have hdNI : (d : Int) ≤ (N : Int) := by omega
        have hR6 := hide (show Inf.back most d n a5 o5 = R from by have := hR5.out; unfold Inf.reach at this; rwa [if_neg (by omega)] at this)
        have hdN5 := hide (show d ≤ o5.length from by omega)
        have u5 := hide u5
        have hdNb : decide (N < d) = false := by simp; omega
        clear hR5 hN hdN ho5
        go_wp2
        clear hdNb hc5 hwd hdNI hDBz hdI hw1 hnI hLBz
        go_loopw [50] (fun s50 wr => ∃ (i : Nat) (a' : Nat) (o' : List UInt8), i ≤ n ∧ s50 = .int .i64 (i : Int) ∧ Hid (Inf.back most d (n - i) a' o' = R) ∧ Hid (d ≤ o'.length) ∧ Hid (UAt B gu gr most bs wr a' o') ∧ Hid (Below B w wr) ∧ Hid (KeepU w wr)) (fun s50 _ => n - (intOf s50).toNat)
        case atStart => exact ⟨0, a5, o5, Nat.zero_le _, rfl, hR6, hdN5, u5, b5, k5⟩
        case round =>
          clear hR6 u5 b5 k5 hdN5
          obtain ⟨i, a', o', hi, rfl, hR, hdo, u, b, k⟩ := hrel
          by_cases hlt : i < n
          · have hltI : (i : Int) < (n : Int) := by omega
            have hR' := hide (show Inf.bind (Inf.put most (o'.getD (o'.length - d) 0)) (fun _ => Inf.back most d (n - (i + 1))) a' o' = R from by
              have := hR.out
              rwa [show n - i = n - (i + 1) + 1 from by omega] at this)
            obtain ⟨A, c, hc, ho, hcell⟩ := uback_load u.out
            obtain ⟨q, hq⟩ : ∃ q, o'.length - d = q := ⟨_, rfl⟩
            have hql : q < o'.length := by have := hdo.out; omega
            obtain ⟨b0, off, rfl, hcq⟩ := hcell q hql
            rw [hq, List.getD_eq_getElem?_getD, List.getElem?_eq_getElem hql, Option.getD_some] at hR'
            have hup := fun (W : World) (uu : UAt B gu gr most bs W a' o') => uput uu o'[q]
            obtain ⟨N', hN'⟩ : ∃ N, o'.length = N := ⟨_, rfl⟩
            generalize o'[q] = x at *
            obtain ⟨xn, hxn⟩ : ∃ xn, x.toNat = xn := ⟨_, rfl⟩
            rw [hxn] at hcq hup
            have hdo2 := hide (show d ≤ N' from by rw [← hN']; exact hdo.out)
            rw [hN'] at hc ho
            have hqI : (N' : Int) - (d : Int) = (q : Int) := by have := hdo2.out; omega
            have hwq : IntKind.i64.wrap (q : Int) = (q : Int) := by rw [IntKind.wrap_i64]; omega
            have hq0 : (0 : Int) ≤ (q : Int) := by omega
            have hqN : (q : Int) < (N' : Int) := by omega
            have hu4 := hide (show Calls Tryz.prog 197 #[.pointer (some ⟨gu, 0, none⟩), .int .u8 (xn : Int)] wr.drew (UP B gu gr most bs wr.drew (fun _ : Unit => .tuple #[]) (Inf.put most x a' o')) from hup wr.drew (u.out.below (below_drewN (Below.refl _ wr) 1)))
            have bd := hide (show Below B w wr.drew from below_drewN b.out 1)
            have kd := hide (show KeepU w wr.drew from k.out.trans (KeepU.below (below_drewN (Below.refl _ wr) 1)))
            have hN' := hide hN'
            clear hR u hq hql hcell hup hxn
            go_wp2
            go_still_tail 14, (by kernel_rfl)
            change wpList _ _ _ _ _ wr.drew
            go_wp2_with fail
            refine UP.go hu4.out (fun er w5 e5 b5 k5 => ⟨rfl, .inl ⟨er, hR'.out.symm.trans (Inf.bind_err e5), rfl, bd.out.trans b5, kd.out.trans k5⟩⟩) ?_
            intro _ a5 o5 w5 e5 u5 b5 k5
            have hR6 := hide ((Inf.bind_ok e5).symm.trans hR'.out)
            have hdo5 := hide (show d ≤ o5.length from by rw [(Inf.put_is e5).2, List.length_append]; have := hdo.out; omega)
            have b5 := hide (bd.out.trans b5)
            have k5 := hide (kd.out.trans k5)
            have u5 := hide u5
            clear e5 hR' hu4 hcq hc hqI hwq hq0 hqN b k bd kd
            go_wp2
            go_roundw
            case rel => exact ⟨i + 1, a5, o5, by omega, by go_num, hR6, hdo5, u5, b5, k5⟩
            case measure => simp [intOf] <;> omega
          · obtain rfl : i = n := by omega
            have hR' := hide (show Sum.inr ((), a', o') = R from by have := hR.out; rwa [Nat.sub_self] at this)
            go_wp2
            go_end0
            exact .inr ⟨(), a', o', hR'.out.symm, rfl, u.out, b.out, k.out⟩
set_option maxRecDepth 100000 in
set_option maxHeartbeats 4000000 in
theorem usymbols (h : UAt B gu gr most bs w a o) (gn gf B0 B1 F : Nat) (near far : List Nat) (hc : CodeAt B0 w gn near) (hc2 : CodeAt B1 w gf far) (hn : near.length ≤ 288) (hsum : Huf.sum near ≤ 32768) (hn2 : far.length ≤ 288) (hsum2 : Huf.sum far ≤ 32768) (hF : 8 * bs.length < a + F) (R : Inf.R Unit) (hR : Inf.symbols (Bit.bitsOf bs) most near far F a o = R) :
    Calls Tryz.prog 176 #[.pointer (some ⟨gu, 0, none⟩), .pointer (some ⟨gn, 0, none⟩), .pointer (some ⟨gf, 0, none⟩)] w (UP B gu gr most bs w (fun _ : Unit => .tuple #[]) R) := by
  have hsy := hide (fun (w' : World) (a' : Nat) (o' : List UInt8) (u : UAt B gu gr most bs w' a' o') (k : KeepU w w') => usym u gn B0 near (hc.keepU k) hn hsum)
  have hcp := hide (fun (w' : World) (a' : Nat) (o' : List UInt8) (u : UAt B gu gr most bs w' a' o') (k : KeepU w w') (s : Nat) (hs : s ≤ 1000) => ucopied u s gf B1 far hs (hc2.keepU k) hn2 hsum2 _ rfl)
  have hBw := hide (Below.refl B w)
  have hK := hide (KeepU.refl w)
  have h := hide h
  have hR := hide hR
  have hF := hide hF
  have hn := hide hn
  clear hc hc2 hsum hn2 hsum2
  go_enter Tryz.func176, Tryz.ntmps176
  go_wp2
  go_loopg [6] F (fun gk _ wr => ∃ (a' : Nat) (o' : List UInt8), Hid (Inf.symbols (Bit.bitsOf bs) most near far gk a' o' = R) ∧ Hid (8 * bs.length < a' + gk) ∧ Hid (UAt B gu gr most bs wr a' o') ∧ Hid (Below B w wr) ∧ Hid (KeepU w wr))
  case atStart => exact ⟨a, o, hR, hF, h, hBw, hK⟩
  case round =>
    clear hR hF h hBw hK
    obtain ⟨a', o', hR, hF, u, b, k⟩ := hrel
    obtain ⟨g, rfl⟩ : ∃ g, gk = g + 1 := ⟨gk - 1, by have := u.out.bounds.1; have := hF.out; omega⟩
    have hR1 := hide (show Inf.bind (Inf.sym (Bit.bitsOf bs) near) (fun s => if s < 256 then Inf.bind (Inf.put most (UInt8.ofNat s)) fun _ => Inf.symbols (Bit.bitsOf bs) most near far g
      else if s = 256 then Inf.ret () else Inf.bind (Inf.copied (Bit.bitsOf bs) most far s) fun _ => Inf.symbols (Bit.bitsOf bs) most near far g) a' o' = R from hR.out)
    have hs1 := hide (hsy.out _ _ _ u.out k.out)
    clear hR u
    go_wp2_with fail
    refine UP.go hs1.out (fun er w2 e2 b2 k2 => ⟨rfl, .inl ⟨er, hR1.out.symm.trans (Inf.bind_err e2), rfl, b.out.trans b2, k.out.trans k2⟩⟩) ?_
    intro t a2 o2 w2 e2 u2 b2 k2
    have hR2 := (Inf.bind_ok e2).symm.trans hR1.out
    obtain ⟨ht1, ht2, _⟩ := Inf.sym_is e2
    have htb : t ≤ 1000 := by have := hn.out; omega
    have hF2 := hide (show 8 * bs.length < a2 + g from by have := hF.out; omega)
    have b2 := hide (b.out.trans b2)
    have k2 := hide (k.out.trans k2)
    clear e2 hR1 hs1 b k hF ht1 ht2
    by_cases h1 : t < 256
    · rw [if_pos h1] at hR2
      have hR2 := hide hR2
      have htI : (t : Int) ≤ 255 := by omega
      have htd : decide ((t : Int) < 256) = true := by simp; omega
      have hx8 : IntKind.u8.wrap (t : Int) = (t : Int) := by rw [IntKind.wrap_u8]; omega
      have hu5 := uput u2 (UInt8.ofNat t)
      rw [UInt8.toNat_ofNat_of_lt' (show t < 256 from h1)] at hu5
      have hu5 := hide hu5
      clear u2 h1
      go_wp2_with fail
      refine UP.go hu5.out (fun er w5 e5 b5 k5 => ⟨rfl, .inl ⟨er, hR2.out.symm.trans (Inf.bind_err e5), rfl, b2.out.trans b5, k2.out.trans k5⟩⟩) ?_
      intro _ a5 o5 w5 e5 u5 b5 k5
      have hR3 := hide ((Inf.bind_ok e5).symm.trans hR2.out)
      have hF5 := hide (show 8 * bs.length < a5 + g from by rw [(Inf.put_is e5).1]; exact hF2.out)
      have b5 := hide (b2.out.trans b5)
      have k5 := hide (k2.out.trans k5)
      have u5 := hide u5
      clear e5 hR2 hu5 b2 k2 hF2
      go_wp2
      go_roundg g
      case rel => exact ⟨a5, o5, hR3, hF5, u5, b5, k5⟩
      case measure => omega
    · have htI : (256 : Int) ≤ (t : Int) := by omega
      have htd : decide ((t : Int) < 256) = false := by simp; omega
      rw [if_neg h1] at hR2
      by_cases h2 : t = 256
      · rw [if_pos h2] at hR2
        have hR2 := hide (show Sum.inr ((), a2, o2) = R from hR2)
        have hte : ((t : Int) == 256) = true := by simp; omega
        have u2 := hide u2
        clear h1 h2
        go_wp2
        all_goals (refine bodyPost_ret (results_none rfl _ _ _) rfl ?_; exact .inr ⟨(), a2, o2, hR2.out.symm, rfl, u2.out, b2.out, k2.out⟩)
      · rw [if_neg h2] at hR2
        have hR2 := hide hR2
        have hte : ((t : Int) == 256) = false := by simp; omega
        have hu5 := hide (hcp.out _ _ _ u2 k2.out t htb)
        have hFm := hide (fun (a5 : Nat) (h : a2 ≤ a5) => (show 8 * bs.length < a5 + g from by have := hF2.out; omega))
        clear u2 h1 h2
        go_wp2_with fail
        refine UP.go hu5.out (fun er w5 e5 b5 k5 => ⟨rfl, .inl ⟨er, hR2.out.symm.trans (Inf.bind_err e5), rfl, b2.out.trans b5, k2.out.trans k5⟩⟩) ?_
        intro _ a5 o5 w5 e5 u5 b5 k5
        have hR3 := hide ((Inf.bind_ok e5).symm.trans hR2.out)
        have hF5 := hide (hFm.out a5 ((Inf.Mono.copied most far t).1 _ _ _ _ _ _ e5))
        have b5 := hide (b2.out.trans b5)
        have k5 := hide (k2.out.trans k5)
        have u5 := hide u5
        clear e5 hR2 hu5 b2 k2 hF2 hFm
        go_wp2
        go_roundg g
        case rel => exact ⟨a5, o5, hR3, hF5, u5, b5, k5⟩
        case measure => omega
end
end Go.Proofs.YtaapjampmnanmaaGreat
