/- Layer 4 (inflate): the plain law: what any bits are unpacked, or why they can't be. There is no condition. Layer 4 (inflate): the plain law of bytes that end earlier, and of bytes behind. There is no condition. Layer 4 (inflate): the unpacker's memory, and the walk of a code's Read with what it leaves alone. The conditions: where things lie. Layer 4 (inflate): the unpacker's small steps: bits, symbol, put. The conditions: where things lie. Layer 4 (inflate): the unpacker's blocks: stored, copied, symbols. The conditions: where things lie. -/
import Derived.Test.YtaapjampmnanmaaGreatHuffX
import Derived.Test.YtaapjampmnanmaaGreatDefX
import Derived.Deep.QuietTactic
import Derived.BigQuiet
import Derived.StillTailTactics
import Derived.Deep.LoopGhost
namespace Go.Proofs.YtaapjampmnanmaaGreat
set_option linter.unusedVariables false

/-- An error; or what was read, the bits read so far, and the bytes so far. -/
abbrev Inf.R (α : Type) : Type := Sum Nat (α × Nat × List UInt8)
abbrev Inf.M (α : Type) : Type := Nat → List UInt8 → Inf.R α
def Inf.bind {α β : Type} (p : Inf.M α) (f : α → Inf.M β) : Inf.M β := fun a o =>
  match p a o with
  | .inl e => .inl e
  | .inr (x, a', o') => f x a' o'
def Inf.ret {α : Type} (x : α) : Inf.M α := fun a o => .inr (x, a, o)
def Inf.err {α : Type} (e : Nat) : Inf.M α := fun _ _ => .inl e
theorem Inf.bind_ok {α β : Type} {p : Inf.M α} {f : α → Inf.M β} {a a' : Nat} {o o' : List UInt8} {x : α} (h : p a o = .inr (x, a', o')) : Inf.bind p f a o = f x a' o' := by simp only [Inf.bind, h]
theorem Inf.bind_err {α β : Type} {p : Inf.M α} {f : α → Inf.M β} {a : Nat} {o : List UInt8} {e : Nat} (h : p a o = .inl e) : Inf.bind p f a o = .inl e := by simp only [Inf.bind, h]

section
variable (l : List Bool) (most : Nat)
def Inf.bits (n : Nat) : Inf.M Nat := fun a o => if a + n ≤ l.length then .inr (Bit.num ((l.drop a).take n), a + n, o) else .inl 2
def Inf.align : Inf.M Unit := fun a o => .inr ((), a + Bit.gap a, o)
def Inf.sym (ls : List Nat) : Inf.M Nat := fun a o =>
  match Huf.dec ls (l.drop a) 15 0 0 with
  | (m, x, 0) => .inr (m, a + x, o)
  | (_, _, e + 1) => .inl (e + 1)
def Inf.put (c : UInt8) : Inf.M Unit := fun a o => if most ≤ o.length then .inl 5 else .inr ((), a, o ++ [c])
/-- So many bytes as they are. -/
def Inf.raw : Nat → Inf.M Unit
  | 0 => Inf.ret ()
  | n + 1 => Inf.bind (Inf.bits l 8) fun c => Inf.bind (Inf.put most (UInt8.ofNat c)) fun _ => Inf.raw n
def Inf.stored : Inf.M Unit := Inf.bind Inf.align fun _ => Inf.bind (Inf.bits l 16) fun n => Inf.bind (Inf.bits l 16) fun m => if n + m = 65535 then Inf.raw l most n else Inf.err 3
/-- So many bytes from d back. -/
def Inf.back (d : Nat) : Nat → Inf.M Unit
  | 0 => Inf.ret ()
  | n + 1 => fun a o => Inf.bind (Inf.put most (o.getD (o.length - d) 0)) (fun _ => Inf.back d n) a o
def Inf.reach (d n : Nat) : Inf.M Unit := fun a o => if o.length < d then .inl 3 else Inf.back most d n a o
def Inf.copied (far : List Nat) (s : Nat) : Inf.M Unit :=
  if s < 257 ∨ 285 < s then Inf.err 3
  else Inf.bind (Inf.bits l (Def.lenX (s - 257))) fun k => Inf.bind (Inf.sym l far) fun t =>
    if 29 < t then Inf.err 3
    else Inf.bind (Inf.bits l (Def.dstX t)) fun m => Inf.reach most (Def.dstB t + m) (Def.lenB (s - 257) + k)
def Inf.symbols (near far : List Nat) : Nat → Inf.M Unit
  | 0 => Inf.err 3
  | f + 1 => Inf.bind (Inf.sym l near) fun s =>
    if s < 256 then Inf.bind (Inf.put most (UInt8.ofNat s)) fun _ => Inf.symbols near far f
    else if s = 256 then Inf.ret () else Inf.bind (Inf.copied l most far s) fun _ => Inf.symbols near far f
/-- What a symbol of lengths tells: how often, and which. -/
def Inf.often (acc : List Nat) (s : Nat) : Inf.M (Nat × Nat) :=
  if s = 16 then (if acc = [] then Inf.err 3 else Inf.bind (Inf.bits l 2) fun k => Inf.ret (3 + k, acc.getD (acc.length - 1) 0))
  else if s = 17 then Inf.bind (Inf.bits l 3) fun k => Inf.ret (3 + k, 0)
  else if s = 18 then Inf.bind (Inf.bits l 7) fun k => Inf.ret (11 + k, 0)
  else Inf.ret (1, s)
def Inf.lens (ls : List Nat) (many : Nat) : Nat → List Nat → Inf.M (List Nat)
  | 0, _ => Inf.err 3
  | f + 1, acc =>
    if many ≤ acc.length then Inf.ret acc
    else Inf.bind (Inf.sym l ls) fun s => Inf.bind (Inf.often l acc s) fun nv =>
      if many - acc.length < nv.1 then Inf.err 3 else Inf.lens ls many f (acc ++ List.replicate nv.1 nv.2)
instance (ls : List Nat) (short : Bool) : Decidable (Huf.fits ls short) := by unfold Huf.fits; infer_instance
/-- Is it a code? -/
def Inf.need (ls : List Nat) (short : Bool) : Inf.M Unit := fun a o => if Huf.fits ls short then .inr ((), a, o) else .inl 3
def Inf.order : List Nat := [16, 17, 18, 0, 8, 7, 9, 6, 10, 5, 11, 4, 12, 3, 13, 2, 14, 1, 15]
/-- The lengths of lengths, from the i-th on. -/
def Inf.three : Nat → Nat → List Nat → Inf.M (List Nat)
  | 0, _, acc => Inf.ret acc
  | n + 1, i, acc => Inf.bind (Inf.bits l 3) fun v => Inf.three n (i + 1) (acc.set (Inf.order.getD i 0) v)
def Inf.dynamic : Inf.M (List Nat × List Nat) :=
  Inf.bind (Inf.bits l 5) fun a => Inf.bind (Inf.bits l 5) fun b =>
    if 29 < a ∨ 29 < b then Inf.err 3
    else Inf.bind (Inf.bits l 4) fun m => Inf.bind (Inf.three l (m + 4) 0 (List.replicate 19 0)) fun c =>
      Inf.bind (Inf.need c false) fun _ => Inf.bind (Inf.lens l c (a + b + 258) (a + b + 259) []) fun ls =>
        if ls.getD 256 0 = 0 then Inf.err 3
        else Inf.bind (Inf.need (ls.take (a + 257)) false) fun _ => Inf.bind (Inf.need (ls.drop (a + 257)) true) fun _ =>
          Inf.ret (ls.take (a + 257), ls.drop (a + 257))
/-- One block; is it the last one? -/
def Inf.block (F : Nat) : Inf.M Bool := Inf.bind (Inf.bits l 1) fun fin => Inf.bind (Inf.bits l 2) fun k =>
  if k = 0 then Inf.bind (Inf.stored l most) fun _ => Inf.ret (fin == 1)
  else if k = 1 then Inf.bind (Inf.symbols l most lsF (List.replicate 32 5) F) fun _ => Inf.ret (fin == 1)
  else if k = 2 then Inf.bind (Inf.dynamic l) fun c => Inf.bind (Inf.symbols l most c.1 c.2 F) fun _ => Inf.ret (fin == 1)
  else Inf.err 3
def Inf.blocks (F : Nat) : Nat → Inf.M Unit
  | 0 => Inf.err 3
  | f + 1 => Inf.bind (Inf.block l most F) fun fin => if fin then Inf.ret () else Inf.blocks F f
/-- All of it: the bytes, and how many were used. -/
def Inf.data (F : Nat) : Sum Nat (List UInt8 × Nat) :=
  match Inf.blocks l most F F 0 [] with
  | .inl e => .inl e
  | .inr (_, a, o) => .inr (o, (a + Bit.gap a) / 8)
end

/-! ### A stream that ends earlier -/
/-- What is read of a stream is read of another one that begins alike, if that is long enough; else it is too short. -/
def Inf.Mono {α : Type} (p : List Bool → Inf.M α) : Prop :=
  (∀ l a o x a' o', p l a o = .inr (x, a', o') → a ≤ a') ∧
  ∀ (l l' : List Bool) (a : Nat) (o : List UInt8), l' <+: l → l'.length % 8 = 0 → a ≤ l'.length →
    (∀ x a' o', p l a o = .inr (x, a', o') → (a' ≤ l'.length → p l' a o = .inr (x, a', o')) ∧ (l'.length < a' → p l' a o = .inl 2)) ∧
    (∀ e, p l a o = .inl e → ∃ e', p l' a o = .inl e')
theorem Inf.Mono.ret {α : Type} (x : α) : Inf.Mono fun _ => Inf.ret x := by
  refine ⟨fun l a o x' a' o' h => ?_, fun l l' a o _ _ ha => ⟨fun x' a' o' h => ?_, fun e h => ?_⟩⟩
  · cases h
    exact Nat.le_refl _
  · cases h
    exact ⟨fun _ => rfl, fun h => by omega⟩
  · cases h
theorem Inf.Mono.err {α : Type} (e : Nat) : Inf.Mono fun _ => (Inf.err e : Inf.M α) :=
  ⟨fun l a o x' a' o' h => (by cases h), fun l l' a o _ _ _ => ⟨fun x' a' o' h => (by cases h), fun e' _ => ⟨e, rfl⟩⟩⟩
theorem Inf.Mono.bind {α β : Type} {p : List Bool → Inf.M α} {f : List Bool → α → Inf.M β} (hp : Inf.Mono p) (hf : ∀ x, Inf.Mono fun l => f l x) : Inf.Mono fun l => Inf.bind (p l) (f l) := by
  refine ⟨fun l a o y a2 o2 h => ?_, fun l l' a o hl h8 ha => ?_⟩
  · dsimp only at h
    cases hr : p l a o with
    | inl e => rw [Inf.bind_err hr] at h; cases h
    | inr r =>
      obtain ⟨x, a1, o1⟩ := r
      rw [Inf.bind_ok hr] at h
      exact Nat.le_trans (hp.1 _ _ _ _ _ _ hr) ((hf x).1 _ _ _ _ _ _ h)
  · obtain ⟨h1, h2⟩ := hp.2 l l' a o hl h8 ha
    dsimp only
    cases hr : p l a o with
    | inl e =>
      obtain ⟨e', he'⟩ := h2 e hr
      exact ⟨fun x a' o' h => (by rw [Inf.bind_err hr] at h; cases h), fun _ _ => ⟨e', Inf.bind_err he'⟩⟩
    | inr r =>
      obtain ⟨x, a1, o1⟩ := r
      obtain ⟨g2, g3⟩ := h1 x a1 o1 hr
      by_cases hc : a1 ≤ l'.length
      · have hr' := g2 hc
        obtain ⟨k1, k2⟩ := (hf x).2 l l' a1 o1 hl h8 hc
        simp only [Inf.bind_ok hr, Inf.bind_ok hr']
        exact ⟨k1, k2⟩
      · have hr' := g3 (by omega)
        simp only [Inf.bind_ok hr, Inf.bind_err hr']
        refine ⟨fun y a2 o2 h => ?_, fun _ _ => ⟨2, rfl⟩⟩
        have hm := (hf x).1 _ _ _ _ _ _ h
        exact ⟨fun h' => by omega, fun _ => trivial⟩
theorem Inf.Mono.ite {α : Type} {c : Prop} [Decidable c] {p q : List Bool → Inf.M α} (hp : Inf.Mono p) (hq : Inf.Mono q) : Inf.Mono fun l => if c then p l else q l := by
  by_cases h : c
  · simpa only [if_pos h] using hp
  · simpa only [if_neg h] using hq
/-- What looks at no bit. -/
theorem Inf.Mono.still {α : Type} {p : Inf.M α} (h : ∀ a o x a' o', p a o = .inr (x, a', o') → a' = a) : Inf.Mono fun _ => p := by
  refine ⟨fun l a o x a' o' he => Nat.le_of_eq (h _ _ _ _ _ he).symm, fun l l' a o _ _ ha => ⟨fun x a' o' he => ⟨fun _ => he, fun hlt => ?_⟩, fun e he => ⟨e, he⟩⟩⟩
  have := h _ _ _ _ _ he
  omega
theorem prefix_drop {l l' : List Bool} (h : l' <+: l) (a n : Nat) (ha : a + n ≤ l'.length) : (l.drop a).take n = (l'.drop a).take n := by
  obtain ⟨t, rfl⟩ := h
  rw [List.drop_append_of_le_length (by omega), List.take_append_of_le_length (by rw [List.length_drop]; omega)]
theorem Inf.Mono.bits (n : Nat) : Inf.Mono fun l => Inf.bits l n := by
  refine ⟨fun l a o x a' o' h => ?_, fun l l' a o hl h8 ha => ?_⟩
  · dsimp only at h
    unfold Inf.bits at h
    split at h
    · cases h; omega
    · cases h
  · dsimp only
    have hle := hl.length_le
    unfold Inf.bits
    by_cases h1 : a + n ≤ l'.length
    · rw [if_pos h1, if_pos (by omega), prefix_drop hl a n h1]
      refine ⟨fun x a' o' h => ⟨fun _ => h, fun h' => ?_⟩, fun e h => (by cases h)⟩
      cases h
      omega
    · rw [if_neg h1]
      refine ⟨fun x a' o' h => ?_, fun _ _ => ⟨2, rfl⟩⟩
      split at h
      · cases h
        exact ⟨fun h' => by omega, fun _ => rfl⟩
      · cases h
theorem Inf.Mono.align : Inf.Mono fun _ => Inf.align := by
  refine ⟨fun l a o x a' o' h => (by cases h; omega), fun l l' a o _ h8 ha => ⟨fun x a' o' h => ⟨fun _ => h, fun h' => ?_⟩, fun e h => (by cases h)⟩⟩
  cases h
  unfold Bit.gap at h'
  omega
theorem Huf.dec_mono (ls : List Nat) (l l' : List Bool) (hl : l' <+: l) : ∀ r s v, s ≤ l'.length →
    ((Huf.dec ls l r s v).2.1 ≤ l'.length ∧ (Huf.dec ls l r s v).2.2 ≠ 2 → Huf.dec ls l' r s v = Huf.dec ls l r s v) ∧ (l'.length < (Huf.dec ls l r s v).2.1 → (Huf.dec ls l' r s v).2.2 = 2) ∧ ((Huf.dec ls l r s v).2.2 = 2 → (Huf.dec ls l' r s v).2.2 = 2) := by
  intro r
  induction r with
  | zero => intro s v hs; exact ⟨fun _ => rfl, fun h => by simp [Huf.dec] at h; omega, fun h => by simp [Huf.dec] at h⟩
  | succ r ih =>
    intro s v hs
    by_cases h' : s < l'.length
    · have he' : l'[s]? = some l'[s] := List.getElem?_eq_getElem h'
      have he : l[s]? = some l'[s] := by
        obtain ⟨t, rfl⟩ := hl
        rw [List.getElem?_append_left h', he']
      cases hh : Huf.hits ls (s + 1) (2 * v + l'[s].toNat) with
      | true =>
        rw [Huf.dec_hit ls l r s v _ he hh, Huf.dec_hit ls l' r s v _ he' hh]
        exact ⟨fun _ => rfl, fun h => by simp at h; omega, fun h => h⟩
      | false =>
        rw [Huf.dec_miss ls l r s v _ he hh, Huf.dec_miss ls l' r s v _ he' hh]
        exact ih (s + 1) _ (by omega)
    · rw [Huf.dec_short ls l' r s v (by omega)]
      refine ⟨fun ⟨h1, h2⟩ => ?_, fun _ => rfl, fun _ => rfl⟩
      by_cases h : s < l.length
      · have he : l[s]? = some l[s] := List.getElem?_eq_getElem h
        cases hh : Huf.hits ls (s + 1) (2 * v + l[s].toNat) with
        | true =>
          rw [Huf.dec_hit ls l r s v _ he hh] at h1
          simp at h1
          omega
        | false =>
          rw [Huf.dec_miss ls l r s v _ he hh] at h1
          have := (Huf.dec_le ls l r (s + 1) (2 * v + l[s].toNat)).1
          omega
      · rw [Huf.dec_short ls l r s v (by omega)] at h2
        simp at h2
theorem Huf.dec_err (ls : List Nat) (l : List Bool) : ∀ r s v, (Huf.dec ls l r s v).2.2 = 0 ∨ (Huf.dec ls l r s v).2.2 = 2 ∨ (Huf.dec ls l r s v).2.2 = 3 := by
  intro r
  induction r with
  | zero => intro s v; exact .inr (.inr rfl)
  | succ r ih =>
    intro s v
    rw [Huf.dec]
    split
    · exact .inr (.inl rfl)
    · split
      · exact .inl rfl
      · exact ih _ _
theorem Inf.sym_ok {l : List Bool} {ls : List Nat} {a m x : Nat} {o : List UInt8} (h : Huf.dec ls (l.drop a) 15 0 0 = (m, x, 0)) : Inf.sym l ls a o = .inr (m, a + x, o) := by simp only [Inf.sym, h]
theorem Inf.sym_err {l : List Bool} {ls : List Nat} {a m x e : Nat} {o : List UInt8} (h : Huf.dec ls (l.drop a) 15 0 0 = (m, x, e)) (he : e ≠ 0) : Inf.sym l ls a o = .inl e := by
  cases e with
  | zero => exact absurd rfl he
  | succ e => simp only [Inf.sym, h]
theorem Inf.Mono.sym (ls : List Nat) : Inf.Mono fun l => Inf.sym l ls := by
  refine ⟨fun l a o x a' o' h => ?_, fun l l' a o hl h8 ha => ?_⟩
  · dsimp only at h
    unfold Inf.sym at h
    split at h
    · cases h; omega
    · cases h
  · dsimp only
    have hd : (l'.drop a) <+: (l.drop a) := by
      obtain ⟨t, rfl⟩ := hl
      rw [List.drop_append_of_le_length (by omega)]
      exact List.prefix_append _ _
    obtain ⟨h1, h2, h3⟩ := Huf.dec_mono ls (l.drop a) (l'.drop a) hd 15 0 0 (Nat.zero_le _)
    have he := Huf.dec_err ls (l.drop a) 15 0 0
    have hlen : (l'.drop a).length = l'.length - a := List.length_drop
    rw [hlen] at h1 h2
    generalize hr : Huf.dec ls (l.drop a) 15 0 0 = r at h1 h2 h3 he
    generalize hr' : Huf.dec ls (l'.drop a) 15 0 0 = r' at h1 h2 h3
    obtain ⟨m, x, e⟩ := r
    obtain ⟨m', x', e'⟩ := r'
    simp only at h1 h2 h3 he
    by_cases h0 : e = 0
    · subst h0
      rw [Inf.sym_ok hr]
      refine ⟨fun y a' o' h => ?_, fun e h => (by cases h)⟩
      cases h
      refine ⟨fun hle => ?_, fun hlt => ?_⟩
      · have := h1 ⟨by omega, by decide⟩
        cases this
        exact Inf.sym_ok hr'
      · have := h2 (by omega)
        subst this
        exact Inf.sym_err hr' (by decide)
    · rw [Inf.sym_err hr h0]
      refine ⟨fun y a' o' h => (by cases h), fun _ _ => ?_⟩
      by_cases h0' : e' = 0
      · exfalso
        subst h0'
        rcases he with he | he | he
        · exact h0 he
        · have := h3 he
          cases this
        · by_cases hx : x ≤ l'.length - a
          · have := h1 ⟨hx, by omega⟩
            injection this with _ h
            injection h with _ h
            exact h0 h.symm
          · have := h2 (by omega)
            cases this
      · exact ⟨e', Inf.sym_err hr' h0'⟩
theorem Inf.Mono.put (most : Nat) (c : UInt8) : Inf.Mono fun _ => Inf.put most c := by
  refine Inf.Mono.still fun a o x a' o' h => ?_
  unfold Inf.put at h
  split at h
  · cases h
  · cases h; rfl
theorem Inf.Mono.raw (most n : Nat) : Inf.Mono fun l => Inf.raw l most n := by
  induction n with
  | zero => exact Inf.Mono.ret ()
  | succ n ih => exact (Inf.Mono.bits 8).bind fun c => (Inf.Mono.put most _).bind fun _ => ih
theorem Inf.Mono.stored (most : Nat) : Inf.Mono fun l => Inf.stored l most :=
  Inf.Mono.align.bind fun _ => (Inf.Mono.bits 16).bind fun n => (Inf.Mono.bits 16).bind fun m => Inf.Mono.ite (Inf.Mono.raw most n) (Inf.Mono.err 3)
theorem Inf.back_still (most d n : Nat) : ∀ a o x a' o', Inf.back most d n a o = .inr (x, a', o') → a' = a := by
  induction n with
  | zero => intro a o x a' o' h; cases h; rfl
  | succ n ih =>
    intro a o x a' o' h
    rw [Inf.back] at h
    dsimp only at h
    cases hp : Inf.put most (o.getD (o.length - d) 0) a o with
    | inl e => rw [Inf.bind_err hp] at h; cases h
    | inr r =>
      obtain ⟨y, a1, o1⟩ := r
      rw [Inf.bind_ok hp] at h
      have := ih _ _ _ _ _ h
      subst this
      unfold Inf.put at hp
      split at hp
      · cases hp
      · cases hp; rfl
theorem Inf.Mono.reach (most d n : Nat) : Inf.Mono fun _ => Inf.reach most d n := by
  refine Inf.Mono.still fun a o x a' o' h => ?_
  unfold Inf.reach at h
  split at h
  · cases h
  · exact Inf.back_still most d n _ _ _ _ _ h
theorem Inf.Mono.copied (most : Nat) (far : List Nat) (s : Nat) : Inf.Mono fun l => Inf.copied l most far s :=
  Inf.Mono.ite (Inf.Mono.err 3) ((Inf.Mono.bits _).bind fun _ => (Inf.Mono.sym far).bind fun t => Inf.Mono.ite (Inf.Mono.err 3) ((Inf.Mono.bits _).bind fun _ => Inf.Mono.reach most _ _))
theorem Inf.Mono.symbols (most : Nat) (near far : List Nat) (f : Nat) : Inf.Mono fun l => Inf.symbols l most near far f := by
  induction f with
  | zero => exact Inf.Mono.err 3
  | succ f ih => exact (Inf.Mono.sym near).bind fun s => Inf.Mono.ite ((Inf.Mono.put most _).bind fun _ => ih) (Inf.Mono.ite (Inf.Mono.ret ()) ((Inf.Mono.copied most far s).bind fun _ => ih))
theorem Inf.Mono.often (acc : List Nat) (s : Nat) : Inf.Mono fun l => Inf.often l acc s :=
  Inf.Mono.ite (Inf.Mono.ite (Inf.Mono.err 3) ((Inf.Mono.bits 2).bind fun _ => Inf.Mono.ret _)) (Inf.Mono.ite ((Inf.Mono.bits 3).bind fun _ => Inf.Mono.ret _) (Inf.Mono.ite ((Inf.Mono.bits 7).bind fun _ => Inf.Mono.ret _) (Inf.Mono.ret _)))
theorem Inf.Mono.lens (ls : List Nat) (many f : Nat) : ∀ acc, Inf.Mono fun l => Inf.lens l ls many f acc := by
  induction f with
  | zero => intro acc; exact Inf.Mono.err 3
  | succ f ih => intro acc; exact Inf.Mono.ite (Inf.Mono.ret acc) ((Inf.Mono.sym ls).bind fun s => (Inf.Mono.often acc s).bind fun nv => Inf.Mono.ite (Inf.Mono.err 3) (ih _))
theorem Inf.Mono.need (ls : List Nat) (short : Bool) : Inf.Mono fun _ => Inf.need ls short := by
  refine Inf.Mono.still fun a o x a' o' h => ?_
  unfold Inf.need at h
  split at h
  · cases h; rfl
  · cases h
theorem Inf.Mono.three (n : Nat) : ∀ i acc, Inf.Mono fun l => Inf.three l n i acc := by
  induction n with
  | zero => intro i acc; exact Inf.Mono.ret acc
  | succ n ih => intro i acc; exact (Inf.Mono.bits 3).bind fun v => ih _ _
theorem Inf.Mono.dynamic : Inf.Mono fun l => Inf.dynamic l :=
  (Inf.Mono.bits 5).bind fun a => (Inf.Mono.bits 5).bind fun b => Inf.Mono.ite (Inf.Mono.err 3) ((Inf.Mono.bits 4).bind fun m => (Inf.Mono.three _ _ _).bind fun c =>
    (Inf.Mono.need c false).bind fun _ => (Inf.Mono.lens c _ _ _).bind fun ls => Inf.Mono.ite (Inf.Mono.err 3) ((Inf.Mono.need _ false).bind fun _ => (Inf.Mono.need _ true).bind fun _ => Inf.Mono.ret _))
theorem Inf.Mono.block (most F : Nat) : Inf.Mono fun l => Inf.block l most F :=
  (Inf.Mono.bits 1).bind fun fin => (Inf.Mono.bits 2).bind fun k => Inf.Mono.ite ((Inf.Mono.stored most).bind fun _ => Inf.Mono.ret _)
    (Inf.Mono.ite ((Inf.Mono.symbols most _ _ F).bind fun _ => Inf.Mono.ret _) (Inf.Mono.ite (Inf.Mono.dynamic.bind fun c => (Inf.Mono.symbols most _ _ F).bind fun _ => Inf.Mono.ret _) (Inf.Mono.err 3)))
theorem Inf.Mono.blocks (most F : Nat) (f : Nat) : Inf.Mono fun l => Inf.blocks l most F f := by
  induction f with
  | zero => exact Inf.Mono.err 3
  | succ f ih => exact (Inf.Mono.block most F).bind fun fin => Inf.Mono.ite (Inf.Mono.ret ()) ih

end Go.Proofs.YtaapjampmnanmaaGreat

namespace Go.Proofs.YtaapjampmnanmaaGreat
set_option linter.unusedVariables false

/-- Whatever is refused is refused by an error that is none but OK. -/
def Inf.NZ {α : Type} (p : Inf.M α) : Prop := ∀ a o e, p a o = .inl e → e ≠ 0
theorem Inf.NZ.ret {α : Type} (x : α) : Inf.NZ (Inf.ret x) := fun a o e h => by cases h
theorem Inf.NZ.err {α : Type} (e : Nat) (he : e ≠ 0) : Inf.NZ (Inf.err e : Inf.M α) := fun a o e' h => by
  cases h
  exact he
theorem Inf.NZ.bind {α β : Type} {p : Inf.M α} {f : α → Inf.M β} (hp : Inf.NZ p) (hf : ∀ x, Inf.NZ (f x)) : Inf.NZ (Inf.bind p f) := fun a o e h => by
  cases hr : p a o with
  | inl e' =>
    rw [Inf.bind_err hr] at h
    cases h
    exact hp a o e hr
  | inr r =>
    obtain ⟨x, a1, o1⟩ := r
    rw [Inf.bind_ok hr] at h
    exact hf x a1 o1 e h
theorem Inf.NZ.ite {α : Type} {c : Prop} [Decidable c] {p q : Inf.M α} (hp : Inf.NZ p) (hq : Inf.NZ q) : Inf.NZ (if c then p else q) := by
  by_cases h : c
  · rwa [if_pos h]
  · rwa [if_neg h]
section
variable (l : List Bool) (most : Nat)
theorem Inf.NZ.bits (n : Nat) : Inf.NZ (Inf.bits l n) := fun a o e h => by
  unfold Inf.bits at h
  split at h
  · cases h
  · cases h
    decide
theorem Inf.NZ.align : Inf.NZ Inf.align := fun a o e h => by cases h
theorem Inf.NZ.sym (ls : List Nat) : Inf.NZ (Inf.sym l ls) := fun a o e h => by
  unfold Inf.sym at h
  split at h
  · cases h
  · cases h
    omega
theorem Inf.NZ.put (c : UInt8) : Inf.NZ (Inf.put most c) := fun a o e h => by
  unfold Inf.put at h
  split at h
  · cases h
    decide
  · cases h
theorem Inf.NZ.raw (n : Nat) : Inf.NZ (Inf.raw l most n) := by
  induction n with
  | zero => exact Inf.NZ.ret ()
  | succ n ih => exact (Inf.NZ.bits l 8).bind fun c => (Inf.NZ.put most _).bind fun _ => ih
theorem Inf.NZ.stored : Inf.NZ (Inf.stored l most) := Inf.NZ.align.bind fun _ => (Inf.NZ.bits l 16).bind fun n => (Inf.NZ.bits l 16).bind fun m => Inf.NZ.ite (Inf.NZ.raw l most n) (Inf.NZ.err 3 (by decide))
theorem Inf.NZ.back (d n : Nat) : Inf.NZ (Inf.back most d n) := by
  induction n with
  | zero => exact Inf.NZ.ret ()
  | succ n ih => exact fun a o e h => ((Inf.NZ.put most (o.getD (o.length - d) 0)).bind fun _ => ih) a o e h
theorem Inf.NZ.reach (d n : Nat) : Inf.NZ (Inf.reach most d n) := fun a o e h => by
  unfold Inf.reach at h
  split at h
  · cases h
    decide
  · exact Inf.NZ.back most d n a o e h
theorem Inf.NZ.copied (far : List Nat) (s : Nat) : Inf.NZ (Inf.copied l most far s) :=
  Inf.NZ.ite (Inf.NZ.err 3 (by decide)) ((Inf.NZ.bits l _).bind fun _ => (Inf.NZ.sym l far).bind fun t => Inf.NZ.ite (Inf.NZ.err 3 (by decide)) ((Inf.NZ.bits l _).bind fun _ => Inf.NZ.reach most _ _))
theorem Inf.NZ.symbols (near far : List Nat) (f : Nat) : Inf.NZ (Inf.symbols l most near far f) := by
  induction f with
  | zero => exact Inf.NZ.err 3 (by decide)
  | succ f ih => exact (Inf.NZ.sym l near).bind fun s => Inf.NZ.ite ((Inf.NZ.put most _).bind fun _ => ih) (Inf.NZ.ite (Inf.NZ.ret ()) ((Inf.NZ.copied l most far s).bind fun _ => ih))
theorem Inf.NZ.often (acc : List Nat) (s : Nat) : Inf.NZ (Inf.often l acc s) :=
  Inf.NZ.ite (Inf.NZ.ite (Inf.NZ.err 3 (by decide)) ((Inf.NZ.bits l 2).bind fun _ => Inf.NZ.ret _)) (Inf.NZ.ite ((Inf.NZ.bits l 3).bind fun _ => Inf.NZ.ret _) (Inf.NZ.ite ((Inf.NZ.bits l 7).bind fun _ => Inf.NZ.ret _) (Inf.NZ.ret _)))
theorem Inf.NZ.lens (ls : List Nat) (many f : Nat) : ∀ acc, Inf.NZ (Inf.lens l ls many f acc) := by
  induction f with
  | zero => intro acc; exact Inf.NZ.err 3 (by decide)
  | succ f ih => intro acc; exact Inf.NZ.ite (Inf.NZ.ret acc) ((Inf.NZ.sym l ls).bind fun s => (Inf.NZ.often l acc s).bind fun nv => Inf.NZ.ite (Inf.NZ.err 3 (by decide)) (ih _))
theorem Inf.NZ.need (ls : List Nat) (short : Bool) : Inf.NZ (Inf.need ls short) := fun a o e h => by
  unfold Inf.need at h
  split at h
  · cases h
  · cases h
    decide
theorem Inf.NZ.three (n : Nat) : ∀ i acc, Inf.NZ (Inf.three l n i acc) := by
  induction n with
  | zero => intro i acc; exact Inf.NZ.ret acc
  | succ n ih => intro i acc; exact (Inf.NZ.bits l 3).bind fun v => ih _ _
theorem Inf.NZ.dynamic : Inf.NZ (Inf.dynamic l) :=
  (Inf.NZ.bits l 5).bind fun a => (Inf.NZ.bits l 5).bind fun b => Inf.NZ.ite (Inf.NZ.err 3 (by decide)) ((Inf.NZ.bits l 4).bind fun m => (Inf.NZ.three l _ _ _).bind fun c =>
    (Inf.NZ.need c false).bind fun _ => (Inf.NZ.lens l c _ _ _).bind fun ls => Inf.NZ.ite (Inf.NZ.err 3 (by decide)) ((Inf.NZ.need _ false).bind fun _ => (Inf.NZ.need _ true).bind fun _ => Inf.NZ.ret _))
theorem Inf.NZ.block (F : Nat) : Inf.NZ (Inf.block l most F) :=
  (Inf.NZ.bits l 1).bind fun fin => (Inf.NZ.bits l 2).bind fun k => Inf.NZ.ite ((Inf.NZ.stored l most).bind fun _ => Inf.NZ.ret _)
    (Inf.NZ.ite ((Inf.NZ.symbols l most _ _ F).bind fun _ => Inf.NZ.ret _) (Inf.NZ.ite ((Inf.NZ.dynamic l).bind fun c => (Inf.NZ.symbols l most _ _ F).bind fun _ => Inf.NZ.ret _) (Inf.NZ.err 3 (by decide))))
theorem Inf.NZ.blocks (F f : Nat) : Inf.NZ (Inf.blocks l most F f) := by
  induction f with
  | zero => exact Inf.NZ.err 3 (by decide)
  | succ f ih => exact (Inf.NZ.block l most F).bind fun fin => Inf.NZ.ite (Inf.NZ.ret ()) ih
end
/-- What all blocks come to. -/
def Inf.fin : Inf.R Unit → Sum Nat (List UInt8 × Nat)
  | .inl e => .inl e
  | .inr (_, a, o) => .inr (o, (a + Bit.gap a) / 8)
end Go.Proofs.YtaapjampmnanmaaGreat

namespace Go.Proofs.YtaapjampmnanmaaGreat
set_option linter.unusedVariables false
open Go.RowKit

/-- Every block that holds neither an unpacker, nor a reader, nor bytes, is as it was. -/
def KeepU (w w' : World) : Prop :=
  w.heap.size ≤ w'.heap.size ∧ ∀ (k : Nat) (cs : Array Value) (t : TypeId) (fz : Nat × Nat), w.heap[k]? = some (.cells cs t fz) → t ≠ 214 → t ≠ 248 → t ≠ 5 → w'.heap[k]? = some (.cells cs t fz)
theorem KeepU.refl (w : World) : KeepU w w := ⟨Nat.le_refl _, fun _ _ _ _ h _ _ _ => h⟩
theorem KeepU.trans {a b c : World} (h : KeepU a b) (k : KeepU b c) : KeepU a c := ⟨Nat.le_trans h.1 k.1, fun i cs t fz x h1 h2 h3 => k.2 i cs t fz (h.2 i cs t fz x h1 h2 h3) h1 h2 h3⟩
theorem KeepU.below {w w' : World} (h : Below w.heap.size w w') : KeepU w w' := ⟨h.size, fun k _ _ _ x _ _ _ => (h.block k (lt_of_block x)).trans x⟩
theorem KeepU.row {w w' : World} (h : KeepU w w') {g : Nat} {t : TypeId} {cs : Array Value} (hk : Blk w g t cs) (h1 : t ≠ 214) (h2 : t ≠ 248) (h3 : t ≠ 5) : Blk w' g t cs := h.2 g cs t (0, 0) hk h1 h2 h3
theorem KeepU.ow {w w' : World} (h : KeepU w w') {base n c : Nat} {e : TypeId} {A : Option Addr} {xs : List Value} (ho : Ow w base e A n c xs) (h1 : e ≠ 214) (h2 : e ≠ 248) (h3 : e ≠ 5) : Ow w' base e A n c xs := by
  refine ⟨ho.1, ?_⟩
  rcases ho.2 with h0 | ⟨g, cap, cur, hv, hb, hh, r⟩
  · exact .inl h0
  · exact .inr ⟨g, cap, cur, hv, hb, h.2 g cur e (0, 0) hh h1 h2 h3, r⟩
/-- Only blocks of those kinds, of those that were there, may have changed. -/
theorem KeepU.chg {R : Nat → Prop} {w w' : World} (h : Chg R w w') (hR : ∀ k cs t fz, R k → w.heap[k]? = some (.cells cs t fz) → t = 214 ∨ t = 248 ∨ t = 5) : KeepU w w' := by
  refine ⟨h.size, fun k cs t fz x h1 h2 h3 => (h.block k (lt_of_block x) fun hr => ?_).trans x⟩
  rcases hR k cs t fz hr x with h | h | h
  · exact h1 h
  · exact h2 h
  · exact h3 h
theorem KeepU.rd {w w' : World} {B gr a : Nat} {Ab : Option Addr} {bs : List UInt8} (hr : RdIs w B gr Ab bs a) (h : Chg (fun k => k = gr) w w') : KeepU w w' := by
  obtain ⟨c, hk, _⟩ := hr
  refine KeepU.chg h ?_
  rintro k cs t fz rfl x
  unfold Blk at hk
  rw [hk] at x
  injection x with x
  injection x with _ ht
  exact .inr (.inl ht.symm)
/-- The unpacker at block gu reads the bytes bs by the reader at block gr, at the bit a; its bytes are o. -/
def UAt (B gu gr most : Nat) (bs : List UInt8) (w : World) (a : Nat) (o : List UInt8) : Prop :=
  ∃ A c Ab, Blk w gu 214 #[.pointer (some ⟨gr, 0, none⟩), .slice A o.length c, .int .i64 (most : Int)] ∧ RdIs w B gr Ab bs a ∧ Ow w B 5 A o.length c (o.map bv) ∧ B ≤ gu ∧ B ≤ gr ∧ (∀ k, blk A = some k → blk Ab ≠ some k) ∧ a ≤ 8 * bs.length ∧ bs.length ≤ 1048576 ∧ o.length ≤ most ∧ most ≤ 1048576
section
variable {B gu gr most a : Nat} {bs o : List UInt8} {w w' : World}
theorem UAt.size (h : UAt B gu gr most bs w a o) : B ≤ w.heap.size := by
  obtain ⟨A, c, Ab, h1, _, _, h4, _⟩ := h
  have := h1.lt
  omega
theorem UAt.bounds (h : UAt B gu gr most bs w a o) : a ≤ 8 * bs.length ∧ bs.length ≤ 1048576 ∧ o.length ≤ most ∧ most ≤ 1048576 := by
  obtain ⟨A, c, Ab, _, _, _, _, _, _, h⟩ := h
  exact h
theorem UAt.below (h : UAt B gu gr most bs w a o) (hb : Below w.heap.size w w') : UAt B gu gr most bs w' a o := by
  obtain ⟨A, c, Ab, h1, h2, h3, h4, h5, h6⟩ := h
  exact ⟨A, c, Ab, h1.below hb h1.lt, h2.below hb, h3.below hb, h4, h5, h6⟩
/-- What changes neither unpackers, nor readers, nor bytes. -/
theorem UAt.calm {R : Nat → Prop} (h : UAt B gu gr most bs w a o) (hc : Chg R w w') (hR : ∀ k cs t fz, R k → w.heap[k]? = some (.cells cs t fz) → t ≠ 214 ∧ t ≠ 248 ∧ t ≠ 5) : UAt B gu gr most bs w' a o := by
  obtain ⟨A, c, Ab, h1, h2, h3, h4, h5, h6⟩ := h
  obtain ⟨cb, h7, h8⟩ := h2
  have hb : ∀ {base n c' : Nat} {A' : Option Addr} {xs : List Value}, Ow w base 5 A' n c' xs → ∀ g, blk A' = some g → ¬ R g := by
    intro base n c' A' xs ho g hg hr
    rcases ho.2 with ⟨hv, _⟩ | ⟨g', cap, cur, hv, _, hh, _⟩
    · injection hv with e1
      rw [e1] at hg
      simp [blk] at hg
    · injection hv with e1
      rw [e1] at hg
      have : g' = g := by simpa [blk] using hg
      subst this
      exact (hR _ _ _ _ hr hh).2.2 rfl
  exact ⟨A, c, Ab, h1.chg hc (fun hr => (hR _ _ _ _ hr h1).1 rfl), ⟨cb, h7.chg hc (fun hr => (hR _ _ _ _ hr h7).2.1 rfl), h8.chg hc (hb h8)⟩, h3.chg hc (hb h3), h4, h5, h6⟩
/-- The reader has moved. -/
theorem UAt.moved {A : Option Addr} {c : Nat} {Ab : Option Addr} (h1 : Blk w gu 214 #[.pointer (some ⟨gr, 0, none⟩), .slice A o.length c, .int .i64 (most : Int)]) (h2 : RdIs w B gr Ab bs a) (h3 : Ow w B 5 A o.length c (o.map bv)) (h4 : B ≤ gu) (h5 : B ≤ gr)
    (h6 : (∀ k, blk A = some k → blk Ab ≠ some k) ∧ a ≤ 8 * bs.length ∧ bs.length ≤ 1048576 ∧ o.length ≤ most ∧ most ≤ 1048576) {a' : Nat} (ha : a' ≤ 8 * bs.length) (hs : RdIs w' B gr Ab bs a') (hc : Chg (fun k => k = gr) w w') : UAt B gu gr most bs w' a' o ∧ Below B w w' ∧ KeepU w w' := by
  obtain ⟨cb, h7, h8⟩ := h2
  have hB : B ≤ w.heap.size := Nat.le_trans h4 (Nat.le_of_lt h1.lt)
  refine ⟨⟨A, c, Ab, h1.chg hc (fun hr => h1.same h7 (by decide) hr), hs, h3.chg hc ?_, h4, h5, h6.1, ha, h6.2.2⟩, hc.to_below hB (fun i hi => by omega), KeepU.rd ⟨cb, h7, h8⟩ hc⟩
  rintro k hk rfl
  exact h3.ne h7 (by decide) hk
/-- A byte was put behind the others. -/
theorem UAt.put {x : UInt8} {A : Option Addr} {c : Nat} {Ab : Option Addr} (h1 : Blk w gu 214 #[.pointer (some ⟨gr, 0, none⟩), .slice A o.length c, .int .i64 (most : Int)]) (h2 : RdIs w B gr Ab bs a) (h3 : Ow w B 5 A o.length c (o.map bv)) (h4 : B ≤ gu) (h5 : B ≤ gr)
    (h6 : (∀ k, blk A = some k → blk Ab ≠ some k) ∧ a ≤ 8 * bs.length ∧ bs.length ≤ 1048576 ∧ o.length ≤ most ∧ most ≤ 1048576) (hf : ¬ most ≤ o.length) {A3 : Option Addr} {c3 : Nat} {w3 : World} (ho : Ow w3 B 5 A3 (o.length + 1) c3 (o.map bv ++ [bv x])) (hg : Chg (fun k => blk A = some k) w w3)
    (hn : blk A3 = blk A ∨ ∃ k, w.heap.size ≤ k ∧ blk A3 = some k) : UAt B gu gr most bs (w3.setCell ⟨gu, 1, none⟩ (.slice A3 (o.length + 1) c3)) a (o ++ [x]) ∧ Below B w (w3.setCell ⟨gu, 1, none⟩ (.slice A3 (o.length + 1) c3)) ∧ KeepU w (w3.setCell ⟨gu, 1, none⟩ (.slice A3 (o.length + 1) c3)) := by
  obtain ⟨cb, h7, h8⟩ := h2
  have hB : B ≤ w.heap.size := Nat.le_trans h4 (Nat.le_of_lt h1.lt)
  have hA : ∀ k, blk A = some k → B ≤ k ∧ k < w.heap.size := fun k hk => h3.blk_lt k hk
  have hgu : ¬ blk A = some gu := h3.ne h1 (by decide)
  have hgr : ¬ blk A = some gr := h3.ne h7 (by decide)
  have hne : gr ≠ gu := fun e => h1.same h7 (by decide) e.symm
  have k1 := h1.chg hg hgu
  have k2 := h7.chg hg hgr
  have hgw : Chg (fun k => k = gu) w3 (w3.setCell ⟨gu, 1, none⟩ (.slice A3 (o.length + 1) c3)) := (Chg.refl (fun k => k = gu) w3).setCell (p := ⟨gu, 1, none⟩) (.inr rfl) _
  have hA3 : blk A3 ≠ some gu := ho.ne k1 (by decide)
  have hall : Chg (fun k => blk A = some k ∨ k = gu) w (w3.setCell ⟨gu, 1, none⟩ (.slice A3 (o.length + 1) c3)) := (hg.mono (fun _ _ h => .inl h)).trans hgw (fun _ _ h => .inr h)
  refine ⟨⟨A3, c3, Ab, ?_, ⟨cb, k2.far hne _, ?_⟩, ?_, h4, h5, ?_, h6.2.1, h6.2.2.1, by rw [List.length_append, List.length_singleton]; omega, h6.2.2.2.2⟩, hall.to_below hB ?_, KeepU.chg hall ?_⟩
  · have := k1.set 1 (.slice A3 (o.length + 1) c3)
    rw [List.length_append, List.length_singleton]
    exact this
  · refine h8.chg hall ?_
    rintro k hk (h | rfl)
    · exact h6.1 k h hk
    · exact h8.ne h1 (by decide) hk
  · rw [List.length_append, List.length_singleton, List.map_append]
    exact ho.chg hgw (fun k hk e => hA3 (by rw [hk, e]))
  · intro k hk hb
    rcases hn with hn | ⟨k', hk', hn⟩
    · exact h6.1 k (by rw [← hn]; exact hk) hb
    · have := (h8.blk_lt k hb).2
      rw [hn] at hk
      injection hk with hk
      omega
  · rintro k (h | rfl)
    · exact (hA k h).1
    · exact h4
  · rintro k cs t fz (h | rfl) hx
    · right
      right
      rcases h3.2 with ⟨hv, _⟩ | ⟨g', cap, cur, hv, _, hh, _⟩
      · injection hv with e1
        rw [e1] at h
        simp [blk] at h
      · injection hv with e1
        rw [e1] at h
        have : g' = k := by simpa [blk] using h
        subst this
        rw [hh] at hx
        injection hx with hx
        injection hx with _ ht
        exact ht.symm
    · left
      unfold Blk at h1
      rw [h1] at hx
      injection hx with hx
      injection hx with _ ht
      exact ht.symm
end

end Go.Proofs.YtaapjampmnanmaaGreat

namespace Go.Proofs.YtaapjampmnanmaaGreat
open Go.RowKit
set_option linter.unusedVariables false

section
variable {B gu gr most a : Nat} {bs o : List UInt8} {w : World}
theorem Inf.lenV_in (s : Nat) (h1 : 257 ≤ s) (h2 : s ≤ 285) : Def.lenV (s : Int) = ((Def.lenB (s - 257) : Int), (Def.lenX (s - 257) : Int)) := by
  unfold Def.lenV
  rw [if_pos (by omega), show ((s : Int) - 257).toNat = s - 257 from by omega]
theorem Inf.dstV_in (s : Nat) (h2 : s ≤ 29) : Def.dstV (s : Int) = ((Def.dstB s : Int), (Def.dstX s : Int)) := by
  unfold Def.dstV
  rw [if_pos (by omega), Int.toNat_natCast]
end

end Go.Proofs.YtaapjampmnanmaaGreat
