/- Layer 14 (pack): the map from texts to entries at the operations. There is no condition. Layer 14 (pack): Entries of the program. The conditions: where the items lie; at most 40 items; at most 4000 bytes each. -/
import Derived.Test.YtaapjampmnanmaaGreatPkEnd
import Derived.Test.YtaapjampmnanmaaGreatDirX
import Derived.StringKeys
import Derived.Maps.Keyed
import Derived.Test.YtaapjampmnanmaaGreatPkSorted
import Derived.Test.YtaapjampmnanmaaGreatPkPacked
namespace Go.Proofs.YtaapjampmnanmaaGreat
open Go.RowKit Go.Maps Go.WideMaps
set_option linter.unusedVariables false
set_option linter.unusedSimpArgs false
theorem zero_ent (w : World) : (zeroValue 36).run Tryz.prog w = .ok (entV 0 0) w := by
  obtain ⟨i, hi, hz, hs, hb⟩ := info_parts info_entry
  unfold zeroValue typeInfo
  simp [hi, hz, entV]
theorem key_str (bs : List UInt8) (h : bs.length ≤ maxLen) : keyOf Tryz.prog 9 (.string ⟨bs.toArray⟩) = some (.string bs) := by
  have := keyOf_string_mk (P := Tryz.prog) (k := 9) Tryz.underlying9 (s := ⟨bs.toArray⟩) (by simpa [ByteArray.size] using h)
  simpa using this
theorem wpList_lookup_ent {ops : Array Oper} {rest : List Oper} {o : Oper} {a : Act} {Q : Exit → Act → World → Prop} (w : World) (hg : o.guard = none) (m x : Operand) (hop : o.op = Op.lookup 127 m x true) (b n : Nat) (D : DataW Unit)
    (hm : a.eval m = .map (some b)) (hown : w.ownsMap Tryz.prog 9 entR b n D) (bs : List UInt8) (hbs : bs.length ≤ maxLen) (hx : a.eval x = .string ⟨bs.toArray⟩) (f l : Nat) (hat : D.atKey (.string bs) (entD 0 0) = entD f l) (hs : Bool) (hhas : Maps.has D (.string bs) = hs)
    (hK : wpList Tryz.prog ops Q rest (a.put o.dst (.tuple #[.agg #[.int .u64 0, .int .u64 (f : Int), .int .u64 (l : Int), .int .u64 0], .bool hs])) w) :
    wpList Tryz.prog ops Q (o :: rest) a w := by
  refine wpList_lookup_own_ok w hg m x 127 hop 9 36 (string_keyed Tryz.underlying9) Tryz.underlying127 entR (zero_ent w) (entD 0 0) [] (entR_mk 0 0) b n D hm hown _ (.string bs) hx (key_str bs hbs) ?_
  intro v ps hv
  rw [hat] at hv
  rw [entR_inv hv, hhas]
  exact hK
theorem wpList_update_ent {ops : Array Oper} {rest : List Oper} {o : Oper} {a : Act} {Q : Exit → Act → World → Prop} (w : World) (hg : o.guard = none) (m x v : Operand) (hop : o.op = Op.mapUpdate 127 m x v) (b n : Nat) (D : DataW Unit)
    (hm : a.eval m = .map (some b)) (hown : w.ownsMap Tryz.prog 9 entR b n D) (hn : n < maxLen) (bs : List UInt8) (hbs : bs.length ≤ maxLen) (hx : a.eval x = .string ⟨bs.toArray⟩) (f l : Nat) (hv : a.eval v = .agg #[.int .u64 0, .int .u64 (f : Int), .int .u64 (l : Int), .int .u64 0])
    (hK : ∀ w', w'.ownsMap Tryz.prog 9 entR b (n + 1) (D.put (.string bs) (entD f l)) → Chg (fun k => k = b) w w' → wpList Tryz.prog ops Q rest (a.put o.dst undef) w') :
    wpList Tryz.prog ops Q (o :: rest) a w :=
  wpList_mapUpdate_own w hg m x v 127 hop 9 36 (string_keyed Tryz.underlying9) Tryz.underlying127 entR b n D hm hown hn _ _ (.string bs) hx hv (key_str bs hbs) (entD f l) [] (entR_mk f l)
    (fun w' h1 h2 => hK w' h1 ((chg_of_grown h2).mono (fun i _ h => by injection h with h; exact h.symm)))
end Go.Proofs.YtaapjampmnanmaaGreat
namespace Go.Proofs.YtaapjampmnanmaaGreat
open Go.RowKit Go.Maps
set_option linter.unusedVariables false
set_option linter.unusedSimpArgs false
theorem str_pk {w : World} {B n : Nat} {A : Option Addr} {bs : List UInt8} (hr : Rd w B A n (bs.map bv)) (c : Nat) :
    (convert 22 9 (.slice A n c)).run Tryz.prog w = .ok (.string ⟨bs.toArray⟩) w := by
  have hl := hr.len
  subst hl
  cases A with
  | none =>
    have h0 : bs = [] := by
      cases bs with
      | nil => rfl
      | cons b t => obtain ⟨_, _, h, _⟩ := hr.2 0 (by simp); cases h
    subst h0
    exact run_convert_bytes_nil w _ _ Tryz.underlying22 Tryz.underlying5 _ _ _ Tryz.underlying9
  | some a =>
    refine run_convert_bytes_back w _ _ _ a c bs Tryz.underlying22 Tryz.underlying5 Tryz.underlying9 ?_
    intro j hj
    obtain ⟨b, o, ha, _, hc⟩ := hr.at hj
    cases ha
    rw [Addr.add_mid, hc]
    simp [bv]
theorem cell_lt' {w : World} {b o : Nat} {v : Value} (h : w.cell? ⟨b, o, none⟩ = some v) : b < w.heap.size := by
  unfold World.cell? at h
  simp only at h
  cases hh : w.heap[b]? with
  | none => rw [hh] at h; cases h
  | some ob => exact (Array.getElem?_eq_some_iff.1 hh).1
def ImBy (w : World) (G : Nat) (l : List Im) : Prop := ∀ m ∈ l, Rd w G m.A m.n (m.bs.map bv) ∧ m.n ≤ m.c ∧ m.n ≤ 1048576
theorem ownsMap_chg {P : Program} {t : TypeId} {Rd : Value → Option (DataW Unit × List MemPlace)} {b n : Nat} {D : DataW Unit} {w w' : World} {R : Nat → Prop} (h : w.ownsMap P t Rd b n D) (hk : Chg R w w') (hn : ¬ R b) : w'.ownsMap P t Rd b n D := by
  have hlt := h.lt
  obtain ⟨es, clock, hb, F, hs, hD⟩ := h
  exact ⟨es, clock, (hk.block b hlt hn).trans hb, F, hs, hD⟩
theorem ownsMap_not_cells {P : Program} {t : TypeId} {Rd : Value → Option (DataW Unit × List MemPlace)} {b n : Nat} {D : DataW Unit} {w : World} {cur : Array Value} {ty : TypeId} (h : w.ownsMap P t Rd b n D) : w.heap[b]? ≠ some (.cells cur ty (0, 0)) := by
  obtain ⟨es, clock, hb, _⟩ := h
  rw [hb]
  intro h
  cases h
structure EnM (G b : Nat) (w1 w : World) (out : List Ent) (cs : List (List UInt8)) (A9 : Option Addr) (c9 : Nat) (A10 : Option Addr) (c10 : Nat) (vs : List Sl) (n : Nat) (D : DataW Unit) : Prop where
  le : G ≤ b
  ents : OwE w (b + 1) A9 c9 out
  rows : OwR w (b + 1) 22 1 A10 vs.length c10 (vs.map fun s => [Sl.val s])
  byts : Byts w G vs cs
  map : w.ownsMap Tryz.prog 9 entR b n D
  bel : Below b w1 w
section
variable {G b : Nat} {w1 w w' : World} {out : List Ent} {cs : List (List UInt8)} {A9 : Option Addr} {c9 : Nat} {A10 : Option Addr} {c10 : Nat} {vs : List Sl} {n : Nat} {D : DataW Unit}
theorem EnM.below (h : EnM G b w1 w out cs A9 c9 A10 c10 vs n D) (hb : Below w.heap.size w w') : EnM G b w1 w' out cs A9 c9 A10 c10 vs n D :=
  ⟨h.le, h.ents.below hb, h.rows.below hb, h.byts.below hb, ownsMap_chg (R := fun _ => False) h.map ⟨hb.os, hb.tape, hb.output, hb.size, fun k hl _ => hb.block k hl⟩ (fun h => h), h.bel.trans (hb.mono (Nat.le_of_lt h.map.lt))⟩
theorem OwE.row (h : OwE w b A9 c9 out) {g : Nat} (hg : blk A9 = some g) : ∃ cur, w.heap[g]? = some (.cells cur 36 (0, 0)) := by
  obtain ⟨xs, h, _⟩ := h
  rcases h.2 with ⟨hv, _⟩ | ⟨g', cap, cur, hv, _, hh, _⟩
  · injection hv with h1
    rw [h1] at hg
    simp [blk] at hg
  · injection hv with h1
    rw [h1] at hg
    have : g' = g := by simpa [blk] using hg
    subst this
    exact ⟨cur, hh⟩
theorem cells_ty {w : World} {k : Nat} {c1 c2 : Array Value} {t1 t2 : TypeId} (h1 : w.heap[k]? = some (.cells c1 t1 (0, 0))) (h2 : w.heap[k]? = some (.cells c2 t2 (0, 0))) : t1 = t2 := by
  rw [h1] at h2
  injection h2 with h2
  injection h2
theorem EnM.addRow (h : EnM G b w1 w out cs A9 c9 A10 c10 vs n D) {A' : Option Addr} {c' : Nat} {s : Sl} {p : List UInt8} (hr : OwR w' (b + 1) 22 1 A' (vs.length + 1) c' ((vs.map fun s => [Sl.val s]) ++ [[Sl.val s]])) (hc : Chg (fun k => blk A10 = some k) w w') (hs : Byt w G s p) :
    EnM G b w1 w' out (cs ++ [p]) A9 c9 A' c' (vs ++ [s]) n D := by
  have hlow : ∀ k, blk A10 = some k → b + 1 ≤ k := fun k hk => (h.rows.blk_lt k hk).1
  have hty : ∀ k cur, w.heap[k]? = some (.cells cur 5 (0, 0)) → ¬ blk A10 = some k := by
    intro k cur hk hA
    obtain ⟨c2, h2⟩ := h.rows.row hA
    have := cells_ty hk h2
    cases this
  refine ⟨h.le, h.ents.chg hc ?_, ?_, (h.byts.snoc s p hs).chg hc (fun k hk => by have := hlow k hk; have := h.le; omega) hty, ownsMap_chg h.map hc (fun hk => by have := hlow b hk; omega), h.bel.trans (hc.to_below (Nat.le_of_lt h.map.lt) (fun k hk => by have := hlow k hk; omega))⟩
  · intro g hg hA
    obtain ⟨c1, h1⟩ := h.ents.row hg
    obtain ⟨c2, h2⟩ := h.rows.row hA
    have := cells_ty h1 h2
    cases this
  · rw [List.length_append, List.map_append]
    exact hr
theorem EnM.setEnts (h : EnM G b w1 w out cs A9 c9 A10 c10 vs n D) {A' : Option Addr} {c' : Nat} {out' : List Ent} (hr : OwE w' (b + 1) A' c' out') (hc : Chg (fun k => blk A9 = some k) w w') : EnM G b w1 w' out' cs A' c' A10 c10 vs n D := by
  have hlow : ∀ k, blk A9 = some k → b + 1 ≤ k := fun k hk => (h.ents.blk_lt k hk).1
  refine ⟨h.le, hr, h.rows.chg hc ?_, h.byts.chg hc (fun k hk => by have := hlow k hk; have := h.le; omega) ?_, ownsMap_chg h.map hc (fun hk => by have := hlow b hk; omega), h.bel.trans (hc.to_below (Nat.le_of_lt h.map.lt) (fun k hk => by have := hlow k hk; omega))⟩
  · intro g hg hA
    obtain ⟨c1, h1⟩ := h.rows.row hg
    obtain ⟨c2, h2⟩ := h.ents.row hA
    have := cells_ty h1 h2
    cases this
  · intro k cur hk hA
    obtain ⟨c2, h2⟩ := h.ents.row hA
    have := cells_ty hk h2
    cases this
theorem EnM.setMap (h : EnM G b w1 w out cs A9 c9 A10 c10 vs n D) {n' : Nat} {D' : DataW Unit} (hm : w'.ownsMap Tryz.prog 9 entR b n' D') (hc : Chg (fun k => k = b) w w') : EnM G b w1 w' out cs A9 c9 A10 c10 vs n' D' := by
  refine ⟨h.le, h.ents.chg hc ?_, h.rows.chg hc ?_, h.byts.chg hc (fun k hk => by have := h.le; omega) ?_, hm, h.bel.trans (hc.to_below (Nat.le_of_lt h.map.lt) (fun k hk => by omega))⟩
  · intro g hg hA
    have := (h.ents.blk_lt g hg).1
    omega
  · intro g hg hA
    have := (h.rows.blk_lt g hg).1
    omega
  · intro k cur hk hA
    subst hA
    exact ownsMap_not_cells h.map hk
theorem EnM.setBox (h : EnM G b w1 w out cs A9 c9 A10 c10 vs n D) {gd : Nat} {xs : Array Value} (hk : Blk w gd 36 xs) (h9 : blk A9 ≠ some gd) (hb : b < gd) (hc : Chg (fun k => k = gd) w w') : EnM G b w1 w' out cs A9 c9 A10 c10 vs n D := by
  refine ⟨h.le, h.ents.chg hc ?_, h.rows.chg hc ?_, h.byts.chg hc (fun k hk => by have := h.le; omega) ?_, ownsMap_chg h.map hc (fun hk => by omega), h.bel.trans (hc.to_below (Nat.le_of_lt h.map.lt) (fun k hk => by omega))⟩
  · intro g hg hA
    subst hA
    exact h9 hg
  · intro g hg hA
    subst hA
    obtain ⟨c1, h1⟩ := h.rows.row hg
    have := cells_ty h1 hk.eq
    cases this
  · intro k cur hk2 hA
    subst hA
    have := cells_ty hk2 hk.eq
    cases this
theorem EnM.more (h : EnM G b w1 w out cs A9 c9 A10 c10 vs n D) {n' : Nat} (hn : n ≤ n') : EnM G b w1 w out cs A9 c9 A10 c10 vs n' D := { h with map := h.map.mono hn }
end
theorem OwE.low {w : World} {base b' c : Nat} {A : Option Addr} {es : List Ent} (h : OwE w base A c es) (hb : b' ≤ base) : OwE w b' A c es := by
  obtain ⟨xs, h, hx⟩ := h
  refine ⟨xs, ⟨h.1, ?_⟩, hx⟩
  rcases h.2 with h | ⟨g, cap, cur, hv, hg, r⟩
  · exact .inl h
  · exact .inr ⟨g, cap, cur, hv, by omega, r⟩
theorem OwR.low {W : World} {base b' n c s : Nat} {e : TypeId} {A : Option Addr} {rows : List (List Value)} (h : OwR W base e s A n c rows) (hb : b' ≤ base) : OwR W b' e s A n c rows := by
  refine ⟨h.1, h.2.1, h.2.2.1, ?_⟩
  rcases h.2.2.2 with h | ⟨g, cap, cur, hv, hg, r⟩
  · exact .inl h
  · exact .inr ⟨g, cap, cur, hv, by omega, r⟩
theorem pinfo_ent (a b c d : Value) : (Tryz.prog.info? 36).map (·.size) = some (#[a, b, c, d] : Array Value).size := by kernel_rfl
theorem pent_one (a b c d : Int) : (#[Value.int .u64 a, .int .u64 b, .int .u64 c, .int .u64 d] : Array Value).all (·.oneCell') = true := by simp [Value.oneCell']
theorem sorted_ok {l : List Im} {er : Nat} (h : SortE l er) (h0 : er = 0) : ∀ m ∈ l, m.ok := by
  intro m hm
  apply Classical.byContradiction
  intro hn
  have := h.bad ⟨m, hm, hn⟩
  omega
def EntP (pk : List UInt8 → List UInt8) (G : Nat) (w : World) (l : List Im) (d : Im) (er : Nat) (e : Ending) (w' : World) : Prop :=
  Below G w w' ∧ ((er ≠ 0 ∧ e = .returned (.tuple #[.slice none 0 0, .slice none 0 0, .int .i64 (er : Int)])) ∨
    (er = 0 ∧ ∃ X A9 c9 A10 c10 vs, St.Rch 0 l.length (itf l d) X ∧ St.Srt It.id 0 l.length X ∧ e = .returned (.tuple #[.slice A9 (EnS.upto pk X l.length).out.length c9, .slice A10 vs.length c10, .int .i64 0]) ∧
      OwE w' G A9 c9 (EnS.upto pk X l.length).out ∧ OwR w' G 22 1 A10 vs.length c10 (vs.map fun s => [Sl.val s]) ∧ Byts w' G vs ((EnS.upto pk X l.length).texts.map pk)))
theorem EntP.bad {pk : List UInt8 → List UInt8} {G : Nat} {w w' : World} {l : List Im} {d : Im} {er : Nat} (h : Below G w w') (he : er ≠ 0) : EntP pk G w l d er (.returned (.tuple #[.slice none 0 0, .slice none 0 0, .int .i64 (er : Int)])) w' := ⟨h, .inl ⟨he, rfl⟩⟩
set_option maxRecDepth 100000 in
set_option maxHeartbeats 8000000 in
theorem entries_any (A : Option Addr) (c : Nat) (l : List Im) (gz : Bool) (w : World) (hr : RdIm w w.heap.size A l) (hn : l.length ≤ 40) (d : Im) (er : Nat) (hE : SortE l er) (hby : er = 0 → ImBy w w.heap.size l) (her : er ≤ 8) :
    Calls Tryz.prog 39 #[.slice A l.length c, .bool gz] w (EntP (pkd gz) w.heap.size w l d er) := by
  obtain ⟨G, hG⟩ : ∃ G, w.heap.size = G := ⟨_, rfl⟩
  have hst := hide (sorted_any A c l w hr hn d er hE)
  have hmm := @run_makeMap Tryz.prog
  rw [hG] at hst hby ⊢
  have hok := hide (fun (h0 : er = 0) (m : Im) (hm : m ∈ l) => show m.ok from sorted_ok hE h0 m hm)
  replace hE := hide hE
  obtain ⟨n, hl⟩ : ∃ n, l.length = n := ⟨_, rfl⟩
  have hnI : (n : Int) ≤ 40 := by omega
  rw [hl] at hst
  replace hby := hide hby
  rw [hl]
  clear hr hn
  go_enter Tryz.func39, Tryz.ntmps39
  rcases Nat.eq_zero_or_pos er with rfl | hep
  · replace hby := hide (hby.out (by first | rfl | trivial))
    go_upto_region 2 with (go_at_call 76; (with_reducible refine hst.out.mono ?_); rintro e w1 ⟨b1, ⟨he, _⟩ | ⟨_, g, c1, X, rfl, hg, hA, hR, hS⟩⟩; (exact absurd rfl he); replace hA := hide hA; replace hR := hide hR; replace hS := hide hS; replace b1 := hide b1)
    obtain ⟨b, hb⟩ : ∃ b, w1.heap.size = b := ⟨_, rfl⟩
    obtain ⟨w2, hw2⟩ : ∃ W, w1.alloc (.map #[] 0) = W := ⟨_, rfl⟩
    have hown := hide (show w2.ownsMap Tryz.prog 9 entR b 0 (.map []) from by rw [← hw2, ← hb]; exact World.ownsMap_made _ _ _ _)
    have hs2 := hide (show w2.heap.size = b + 1 from by rw [← hw2, ← hb]; simp)
    have b2 := hide (show Below b w1 w2 from by rw [← hw2, ← hb]; exact (Below.refl _ w1).alloc (Nat.le_refl _) _)
    have hGb := hide (show G ≤ b from by rw [← hb, ← hG]; exact b1.out.size)
    replace hg := hide hg
    go_wp2
    go_loopw [9, 10, 12, 13, 32] (fun s9 s10 s12 s13 s32 wr => ∃ (k : Nat) (S : EnS) (A9 : Option Addr) (c9 : Nat) (A10 : Option Addr) (c10 : Nat) (vs : List Sl) (tot : Nat) (D : DataW Unit), k ≤ n ∧ s32 = .int .i64 (k : Int) ∧ s9 = .slice A9 S.out.length c9 ∧ s10 = .slice A10 vs.length c10 ∧ s12 = .int .u64 (tot : Int) ∧ s13 = .string ⟨S.last.toArray⟩ ∧
      Hid (S = EnS.upto (pkd gz) X k) ∧ Hid (EnM G b w1 wr S.out (S.texts.map (pkd gz)) A9 c9 A10 c10 vs k D) ∧ Hid (tot = EnS.tot (pkd gz) S.texts) ∧ Hid (MapOk (pkd gz) S.texts D) ∧ Hid (∀ t ∈ S.texts, t.length ≤ 1048576)) (fun _ _ _ _ s32 _ => n - (intOf s32).toNat)
    case atStart => exact ⟨0, ⟨[], [], []⟩, none, 0, none, 0, [], 0, .map [], Nat.zero_le _, rfl, rfl, rfl, rfl, rfl, hide rfl, hide ⟨hGb.out, OwE.nil _ _, OwR.nil _ _ _ _, Byts.nil _ _, hown.out, b2.out⟩, hide rfl, hide (MapOk.nil _), hide (fun _ h => absurd h (by simp))⟩
    case round =>
      obtain ⟨k, S, A9, c9, A10, c10, vs, tot, D, hk, rfl, rfl, rfl, rfl, rfl, hS0, hM, htot, hmok, htx⟩ := hrel
      clear hown b2 hs2
      by_cases hlt : k < n
      · have hkI : (k : Int) < (n : Int) := by omega
        obtain ⟨q, hq, hXk⟩ := sort_mem hR.out (k := k) (by omega)
        obtain ⟨hrd0, hqc, hqn⟩ := hby.out q hq
        obtain ⟨e0, e1, _, _⟩ := hA.out k (by omega)
        have hgb : g < b := by rw [← hb]; exact cell_lt' e0
        have c0 := (hM.out.bel.cell (p := ⟨g, k * 2, none⟩) hgb).trans e0
        have c1' := (hM.out.bel.cell (p := ⟨g, k * 2 + 1, none⟩) hgb).trans e1
        rw [hXk] at c0 c1'
        have hXk' := hide hXk
        have hbw := hide (show Below G w wr from b1.out.trans (hM.out.bel.mono hGb.out))
        have hrd := hide (hrd0.below hbw.out)
        obtain ⟨mz, mx, my, mA, mn, mc, mb⟩ := q
        obtain ⟨N, hN⟩ : ∃ N, (Im.mk mz mx my mA mn mc mb).num = N := ⟨_, rfl⟩
        simp only [Im.it, hN] at c0 c1' hrd hqc hqn
        have hidk := hide (show (X k).id = N ∧ (X k).bs = mb from by rw [hXk'.out]; exact ⟨hN, rfl⟩)
        have hbl := hide (show mb.length = mn from hrd.out.len)
        have hmnI : (mn : Int) ≤ 1048576 := by omega
        have hmnc := hide hqc
        have hmn4 := hide hqn
        obtain ⟨g1, hg1⟩ : ∃ x, wr.heap.size = x := ⟨_, rfl⟩
        obtain ⟨wa, hwa⟩ : ∃ W, wr.alloc (.cells #[.int .u64 (N : Int), .slice mA mn mc] 129) = W := ⟨_, rfl⟩
        have ka := hide (show Blk wa g1 129 #[.int .u64 (N : Int), .slice mA mn mc] from by rw [← hwa, ← hg1]; exact Blk.new wr _ _)
        have bra := hide (show Below g1 wr wa from by rw [← hwa, ← hg1]; exact (Below.refl _ wr).alloc (Nat.le_refl _) _)
        have d0 : wa.cell? ⟨g1, 0, none⟩ = some (.int .u64 (N : Int)) := ka.out.cell 0
        have d1 : wa.cell? ⟨g1, 1, none⟩ = some (.slice mA mn mc) := ka.out.cell 1
        have hGg1 := hide (show G ≤ g1 from by have := hbw.out.size; rw [← hG, ← hg1]; exact this)
        have hrda := hide (hrd.out.below (bra.out.mono hGg1.out))
        have hcv := str_pk hrda.out mc
        clear hXk hrd0 e0 e1 hqc hqn hXk' hrd
        have hXid := hide (fun j (hj : j < n) => show (X j).id ≤ 1537228672809129301 from by
          obtain ⟨m, hm, he⟩ := sort_mem hR.out (k := j) (by omega)
          rw [he]
          exact num_le m (hok.out (by first | rfl | trivial) m hm))
        have hfit := hide (show S.Fits k 1537228672809129301 from by rw [hS0.out]; exact EnS.fits _ _ _ k (fun j hj => hXid.out j (by omega)))
        have hNle := hide (show N ≤ 1537228672809129301 from by rw [← hidk.out.1]; exact hXid.out k hlt)
        clear hXid
        have hol : S.out.length ≤ 40 := Nat.le_trans hfit.out.outs (by omega)
        obtain ⟨L, hL⟩ : ∃ L : Int, (S.out.length : Int) - 1 = L := ⟨_, rfl⟩
        have hLw : IntKind.i64.wrap ((S.out.length : Int) - 1) = L := by rw [IntKind.wrap_i64]; omega
        have hLb : -1 ≤ L ∧ L ≤ 39 := by omega
        obtain ⟨jb, hj⟩ : ∃ jb : Bool, (jb = true ↔ S.joins N mb) := by
          by_cases h : S.joins N mb
          · exact ⟨true, by simp [h]⟩
          · exact ⟨false, by simp [h]⟩
        replace hj := hide hj
        have hMa := hide (hM.out.below (bra.out.mono (by rw [hg1]; exact Nat.le_refl _)))
        have hlast := hide (show ∀ q, S.out.length = q + 1 → ∃ e gg, S.out.getLast? = some e ∧ S.out[q]? = some e ∧ e.id ≤ 1537228672809129301 ∧ 1 ≤ e.run ∧ e.run ≤ 40 ∧ A9 = some ⟨gg, 0, none⟩ ∧ (S.joins N mb ↔ S.last = mb ∧ e.id + e.run = N) ∧ wa.cell? ⟨gg, q * 4, none⟩ = some (.int .u64 (e.id : Int)) ∧ wa.cell? ⟨gg, q * 4 + 3, none⟩ = some (.int .u64 (e.run : Int)) from by
          intro q hq
          have hq' : q < S.out.length := by omega
          have hl : S.out.getLast? = some S.out[q] := by rw [List.getLast?_eq_getElem?, show S.out.length - 1 = q from by omega, List.getElem?_eq_getElem hq']
          have hm := List.getElem_mem hq'
          obtain ⟨gg, hA9, _, _⟩ := hMa.out.ents.pos (by omega)
          obtain ⟨b', o', hA', _, x0, _, _, x3⟩ := hMa.out.ents.rd q hq'
          have hzero : b' = gg ∧ o' = 0 := by rw [hA9] at hA'; injection hA' with h; injection h with h1 h2; exact ⟨h1.symm, h2.symm⟩
          obtain ⟨rfl, rfl⟩ := hzero
          rw [Nat.zero_add] at x0 x3
          have hr := hfit.out.runs _ hm
          refine ⟨S.out[q], b', hl, List.getElem?_eq_getElem hq', hfit.out.ids _ hm, hr.1, by omega, hA9, ?_, x0, x3⟩
          unfold EnS.joins
          rw [hl]
          constructor
          · rintro ⟨h1, e, h2, h3⟩
            cases h2
            exact ⟨h1, h3⟩
          · rintro ⟨h1, h3⟩
            exact ⟨h1, _, rfl, h3⟩)
        go_upto_region 14 with fail
        go_cut [64] from 42 to 63 (fun s64 wx => s64 = .bool jb ∧ ∃ nq, wx = wa.drewN nq)
        case first =>
          rcases Nat.eq_zero_or_pos S.out.length with h0 | h0
          · obtain rfl : jb = false := by
              have h1 : ¬ S.joins N mb := by rintro ⟨_, e, he, _⟩; rw [List.eq_nil_of_length_eq_zero h0] at he; cases he
              cases jb
              · rfl
              · exact absurd (hj.out.1 rfl) h1
            have hg0 : decide (0 ≤ L) = false := by simp; omega
            go_quiet (fail)
            go_wp2
            go_meet
            exact ⟨rfl, _, rfl⟩
          · obtain ⟨q, hq⟩ : ∃ q, S.out.length = q + 1 := ⟨S.out.length - 1, by omega⟩
            obtain rfl : L = (q : Int) := by omega
            obtain ⟨e, gg, hl, hqe, hid, hr1, hr2, rfl, hji, x0, x3⟩ := hlast.out q hq
            have hg0 : decide (0 ≤ (q : Int)) = true := by simp
            obtain ⟨sb, hstr⟩ : ∃ sb, (S.last == mb) = sb := ⟨_, rfl⟩
            have hsb : sb = true ↔ S.last = mb := by rw [← hstr]; exact beq_iff_eq
            replace hsb := hide hsb
            cases sb with
            | false =>
              obtain rfl : jb = false := by
                have h1 : ¬ S.joins N mb := fun h => by have := hsb.out.2 (hji.1 h).1; cases this
                cases jb
                · rfl
                · exact absurd (hj.out.1 rfl) h1
              clear x0 x3 hid hr1 hr2 hji hl hqe hlast hsb
              go_quiet (fail)
              go_wp2
              go_meet
              exact ⟨rfl, _, rfl⟩
            | true =>
              have hsw : IntKind.u64.wrap ((e.id : Int) + (e.run : Int)) = ((e.id + e.run : Nat) : Int) := by rw [IntKind.wrap_u64]; omega
              have hjq : (((e.id + e.run : Nat) : Int) == (N : Int)) = jb := by
                have h1 : jb = true ↔ e.id + e.run = N := by rw [hj.out, hji]; exact ⟨fun h => h.2, fun h => ⟨hsb.out.1 rfl, h⟩⟩
                cases jb
                · have : ¬ (e.id + e.run = N) := fun h => by have := h1.2 h; cases this
                  simp
                  omega
                · have := h1.1 rfl
                  simp
                  omega
              obtain ⟨sm, hsm⟩ : ∃ s, e.id + e.run = s := ⟨_, rfl⟩
              rw [hsm] at hsw hjq
              have hqlt : (q : Int) < (S.out.length : Int) := by omega
              clear hid hr1 hr2 hji hl hqe hlast hsb hL hLb hsm hol
              go_quiet (fail)
              go_wp2
              go_meet
              exact ⟨rfl, _, rfl⟩
        case rest =>
          obtain ⟨rfl, nq, rfl⟩ := hcut
          obtain ⟨wx, hwx⟩ : ∃ W, W = wa.drewN nq := ⟨_, rfl⟩
          rw [← hwx]
          have bax := hide (show Below wa.heap.size wa wx from by rw [hwx]; exact ⟨rfl, rfl, rfl, Nat.le_refl _, fun _ _ => rfl⟩)
          have hMx := hide (hMa.out.below bax.out)
          have kx := hide (ka.out.below bax.out ka.out.lt)
          have f0 : wx.cell? ⟨g1, 0, none⟩ = some (.int .u64 (N : Int)) := kx.out.cell 0
          have f1 : wx.cell? ⟨g1, 1, none⟩ = some (.slice mA mn mc) := kx.out.cell 1
          have hrdx := hide (hrda.out.below (bax.out.mono (by have := ka.out.lt; have := hGg1.out; omega)))
          clear d0 d1 hcv hwx hwa c0 c1' hrda ka hLw
          cases jb with
          | true =>
            obtain ⟨q, hq⟩ : ∃ q, S.out.length = q + 1 := by
              obtain ⟨_, e, he, _⟩ := hj.out.1 rfl
              cases ho : S.out with
              | nil => rw [ho] at he; cases he
              | cons x t => exact ⟨t.length, rfl⟩
            obtain rfl : L = (q : Int) := by omega
            obtain ⟨e, gg, hl, hqe, hid, hr1, hr2, rfl, hji, _, x3⟩ := hlast.out q hq
            have hgl : gg < wa.heap.size := (hMa.out.ents.blk_lt gg rfl).2
            have y3 := (bax.out.cell (p := ⟨gg, q * 4 + 3, none⟩) hgl).trans x3
            have hfr : wx.frozen? ⟨gg, q * 4 + 3, none⟩ = false := hMx.out.ents.free _
            have hrw : IntKind.u64.wrap ((e.run : Int) + 1) = ((e.run + 1 : Nat) : Int) := by rw [IntKind.wrap_u64]; omega
            have hput : OwE (wx.setCell ⟨gg, q * 4 + 3, none⟩ (.int .u64 ((e.run + 1 : Nat) : Int))) (b + 1) (some ⟨gg, 0, none⟩) c9 (S.out.set q { e with run := e.run + 1 }) :=
              hMx.out.ents.put q (by omega) 3 (by omega) (e.run + 1) _ (.inr (.inr (.inr ⟨rfl, by have h := hqe; rw [List.getElem?_eq_getElem (by omega)] at h; injection h with h; rw [h]⟩)))
            obtain ⟨r1, hr1'⟩ : ∃ r, e.run + 1 = r := ⟨_, rfl⟩
            rw [hr1'] at hrw hput
            obtain ⟨wy, hwy⟩ : ∃ W, wx.setCell ⟨gg, q * 4 + 3, none⟩ (.int .u64 (r1 : Int)) = W := ⟨_, rfl⟩
            have hMy := hide (show EnM G b w1 wy (S.out.set q { e with run := r1 }) (S.texts.map (pkd gz)) (some ⟨gg, 0, none⟩) c9 A10 c10 vs k D from by
              rw [← hwy]
              exact hMx.out.setEnts hput ((Chg.refl (fun k => blk (some ⟨gg, 0, none⟩) = some k) wx).setCell (p := ⟨gg, q * 4 + 3, none⟩) (.inr rfl) _))
            have hjS := hide (show S.join.out = S.out.set q { e with run := r1 } from by rw [EnS.join_out S e hl, hr1', show S.out.length - 1 = q from by omega])
            have hjl := hide (show S.join.out.length = S.out.length from by rw [hjS.out, List.length_set])
            have hSk := hide (show S.join = EnS.upto (pkd gz) X (k + 1) from by
              rw [EnS.upto, ← hS0.out, EnS.step_join (by rw [hidk.out.1, hidk.out.2]; exact hj.out.1 rfl)])
            have hqlt : (q : Int) < (S.out.length : Int) := by omega
            have hkw : IntKind.i64.wrap ((k : Int) + 1) = ((k + 1 : Nat) : Int) := by rw [IntKind.wrap_i64]; omega
            clear hput hid hr1 hr2 hji hl hqe hlast hL hLb hol x3 hgl
            go_wp2
            go_roundw
            case rel => exact ⟨k + 1, S.join, _, c9, A10, c10, vs, tot, D, by omega, by go_num, by rw [hjl.out], rfl, rfl, rfl, hSk, hide (by rw [hjS.out]; exact hMy.out.more (Nat.le_succ k)), htot, hmok, htx⟩
            case measure => simp [intOf] <;> omega
          | false =>
            have hnj : ¬ S.joins N mb := fun h => by have := hj.out.2 h; cases this
            replace hnj := hide hnj
            obtain ⟨gd, hgd⟩ : ∃ x, wx.heap.size = x := ⟨_, rfl⟩
            obtain ⟨p, hp⟩ : ∃ p, pkd gz mb = p := ⟨_, rfl⟩
            obtain ⟨P, hP⟩ : ∃ P, p.length = P := ⟨_, rfl⟩
            have hPb : P ≤ 20000000 := by rw [← hP, ← hp]; exact pkd_big gz mb (by have := hbl.out; have := hmn4.out; omega)
            have htotb : tot ≤ 800000000 := by
              have h1 := EnS.tot_le (pkd gz) 20000000 S.texts (fun t ht => pkd_big gz t (htx.out t ht))
              have h2 := hfit.out.txt
              have h3 := htot.out
              have : 20000000 * S.texts.length ≤ 20000000 * 40 := Nat.mul_le_mul (Nat.le_refl _) (by omega)
              omega
            obtain ⟨F, Ln, hs, hat, hhas, hcase⟩ : ∃ F Ln hs, D.atKey (.string mb) (entD 0 0) = entD F Ln ∧ Maps.has D (.string mb) = hs ∧ Hid ((hs = true ∧ mb ∈ S.texts ∧ F = EnS.off (pkd gz) S.texts (EnS.at S.texts mb) ∧ Ln = P) ∨ (hs = false ∧ mb ∉ S.texts)) := by
              by_cases hm : mb ∈ S.texts
              · have h := (hmok.out.2 mb).1 hm
                exact ⟨_, _, true, h.2 _, h.1, hide (.inl ⟨rfl, hm, rfl, by rw [hp, hP]⟩)⟩
              · have h := (hmok.out.2 mb).2 hm
                exact ⟨0, 0, false, Maps.atKey_of_not_has h _, h, hide (.inr ⟨rfl, hm⟩)⟩
            replace hat := hide hat
            replace hhas := hide hhas
            have hmbm := hide (show mb.length ≤ maxLen from by have := hbl.out; have := hmn4.out; simp only [maxLen]; omega)
            obtain ⟨wy, hwy⟩ : ∃ W, wx.alloc (.cells #[.int .u64 0, .int .u64 0, .int .u64 0, .int .u64 0] 36) = W := ⟨_, rfl⟩
            have ky := hide (show Blk wy gd 36 #[.int .u64 0, .int .u64 0, .int .u64 0, .int .u64 0] from by rw [← hwy, ← hgd]; exact Blk.new wx _ _)
            obtain ⟨wz, hwz⟩ : ∃ W, wy.setRow gd #[.int .u64 0, .int .u64 (F : Int), .int .u64 (Ln : Int), .int .u64 0] = W := ⟨_, rfl⟩
            have kz := hide (show Blk wz gd 36 #[.int .u64 0, .int .u64 (F : Int), .int .u64 (Ln : Int), .int .u64 0] from by rw [← hwz]; exact ky.out.row _)
            have bxz := hide (show Below gd wx wz from by rw [← hwz]; exact below_row (by rw [← hwy, ← hgd]; exact (Below.refl _ wx).alloc (Nat.le_refl _) _) (Nat.le_refl _) _)
            have hMz := hide (hMx.out.below (by rw [hgd]; exact bxz.out))
            have hg1d := hide (show g1 < gd from by rw [← hgd]; exact kx.out.lt)
            have hbg1 := hide (show b < g1 from by rw [← hg1]; exact hM.out.map.lt)
            have k1z := hide (kx.out.below bxz.out hg1d.out)
            have h9d := hide (show blk A9 ≠ some gd from fun h => by have := (hMx.out.ents.blk_lt gd h).2; omega)
            have hadd := hide (show (S.add (pkd gz) N mb).out = S.out ++ [⟨N, EnS.off (pkd gz) S.texts (EnS.at S.texts mb), P, 1⟩] ∧ (S.add (pkd gz) N mb).texts = EnS.more S.texts mb ∧ (S.add (pkd gz) N mb).last = mb from by
              unfold EnS.add
              rw [hp, hP]
              exact ⟨rfl, rfl, rfl⟩)
            have hSk := hide (show S.add (pkd gz) N mb = EnS.upto (pkd gz) X (k + 1) from by
              rw [EnS.upto, ← hS0.out, EnS.step_add (by rw [hidk.out.1, hidk.out.2]; exact hnj.out), hidk.out.1, hidk.out.2])
            have hpk := hide (ppacked_any mA mn mc mb gz wz ((hrdx.out.below (bxz.out.mono (by have := hg1d.out; have := hGg1.out; omega))).mono (by have := hg1d.out; have := hGg1.out; have := kz.out.lt; omega)) hmnc.out hmn4.out)
            rw [hp, hP] at hpk
            clear hlast hL hLb hnj hj
            go_upto_region 17 with (first
              | (at_lookup; refine wpList_lookup_ent wx rfl (.tmp 74) (.tmp 75) rfl b k D rfl hMx.out.map mb hmbm.out rfl F Ln hat.out hs hhas.out ?_)
              | ((with_reducible refine wpList_store_row (o := ⟨none, .store 36 (.tmp 18) (.tmp 77), _, _, _, _⟩) rfl 36 (.tmp 18) (.tmp 77) rfl gd #[.int .u64 0, .int .u64 (F : Int), .int .u64 (Ln : Int), .int .u64 0] rfl rfl 36 _ ky.out.eq (pinfo_ent _ _ _ _) rfl (pent_one _ _ _ _) ?_); rw [hwz]))
            have hkw : IntKind.i64.wrap ((k : Int) + 1) = ((k + 1 : Nat) : Int) := by rw [IntKind.wrap_i64]; omega
            cases hs with
            | true =>
              clear hpk
              have hc3 := hide (show mb ∈ S.texts ∧ F = EnS.off (pkd gz) S.texts (EnS.at S.texts mb) ∧ Ln = P from by
                rcases hcase.out with ⟨_, h1, h2, h3⟩ | ⟨h1, _⟩
                · exact ⟨h1, h2, h3⟩
                · cases h1)
              have z0 : wz.cell? ⟨g1, 0, none⟩ = some (.int .u64 (N : Int)) := k1z.out.cell 0
              have z1 : wz.cell? ⟨gd, 1, none⟩ = some (.int .u64 (F : Int)) := kz.out.cell 1
              have z2 : wz.cell? ⟨gd, 2, none⟩ = some (.int .u64 (Ln : Int)) := kz.out.cell 2
              go_wp2_with (at_builtin; refine wpList_append_ent wz rfl (.tmp 101) (.tmp 109) rfl rfl hMz.out.ents ⟨N, F, Ln, 1⟩ _ rfl (by omega) (by have := hMz.out.map.lt; omega) ?_; intro A9' c9' wq ho hcq _; have hMq := hide (hMz.out.setEnts ho hcq); clear ho hcq z0 z1 z2)
              go_roundw
              case rel =>
                have hmore : EnS.more S.texts mb = S.texts := if_pos hc3.out.1
                exact ⟨k + 1, S.add (pkd gz) N mb, A9', c9', A10, c10, vs, tot, D, by omega, by go_num, by rw [hadd.out.1]; simp, rfl, rfl, by rw [hadd.out.2.2], hSk,
                  hide (by rw [hadd.out.1, hadd.out.2.1, hmore, ← hc3.out.2.1, ← hc3.out.2.2]; exact hMq.out.more (Nat.le_succ k)), hide (by rw [hadd.out.2.1, hmore]; exact htot.out), hide (by rw [hadd.out.2.1, hmore]; exact hmok.out), hide (by rw [hadd.out.2.1, hmore]; exact htx.out)⟩
              case measure => simp [intOf] <;> omega
            | false =>
              have hnew := hide (show mb ∉ S.texts from by
                rcases hcase.out with ⟨h1, _⟩ | ⟨_, h1⟩
                · cases h1
                · exact h1)
              have z1 : wz.cell? ⟨g1, 1, none⟩ = some (.slice mA mn mc) := k1z.out.cell 1
              have hPw : IntKind.u64.wrap (P : Int) = (P : Int) := by rw [IntKind.wrap_u64]; omega
              have htw : IntKind.u64.wrap ((tot : Int) + (P : Int)) = ((tot + P : Nat) : Int) := by rw [IntKind.wrap_u64]; omega
              have hvl : vs.length ≤ 40 := by
                have h1 := hMz.out.byts.1
                rw [List.length_map] at h1
                have h2 := hfit.out.txt
                omega
              obtain ⟨gz1, hgz1⟩ : ∃ x, wz.heap.size = x := ⟨_, rfl⟩
              rw [hgz1] at hpk
              go_wp2_with (first
                | (go_at_call 42; (with_reducible refine hpk.out.mono ?_); rintro e wf ⟨Af, cf, rfl, hof, hbf⟩; replace hof := hide hof; replace hbf := hide hbf; have hMf := hide (hMz.out.below (by rw [hgz1]; exact hbf.out)); have kf := hide (kz.out.below hbf.out (by rw [← hgz1]; exact kz.out.lt)); have k1f := hide (k1z.out.below hbf.out (by rw [← hgz1]; exact k1z.out.lt)); have hbyt := hide (show Byt wf G ⟨Af, P, cf⟩ p from ⟨hP.symm, .inr (hof.out.base_le (fun g hg => by have := (hof.out.blk_lt g hg).1; have := kz.out.lt; have := hg1d.out; have := hGg1.out; omega))⟩); clear z1)
                | (at_builtin; refine wpList_append_row wf rfl (.tmp 85) (.tmp 87) rfl elem_cont rfl hMf.out.rows [Sl.val ⟨Af, P, cf⟩] rfl (by intro u hu; rw [List.mem_singleton.1 hu]; rfl) _ _ rfl (by omega) (by omega) (by have := hMf.out.map.lt; omega) ?_; intro A10' c10' wg hor hcg _; have hMg := hide (hMf.out.addRow hor hcg hbyt.out); have kg := hide (kf.out.chg hcg (hMf.out.rows.ne kf.out (by decide))); have k1g := hide (k1f.out.chg hcg (hMf.out.rows.ne k1f.out (by decide))); obtain ⟨wh, hwh⟩ : ∃ W, wg.setRow gd #[.int .u64 0, .int .u64 (tot : Int), .int .u64 (P : Int), .int .u64 0] = W := ⟨_, rfl⟩; have kh := hide (show Blk wh gd 36 #[.int .u64 0, .int .u64 (tot : Int), .int .u64 (P : Int), .int .u64 0] from by rw [← hwh]; exact kg.out.row _); have hcgh := hide (show Chg (fun k => k = gd) wg wh from by rw [← hwh]; exact (Chg.refl (fun k => k = gd) wg).setRow (.inr rfl) _); have hMh := hide (hMg.out.setBox kg.out h9d.out (by have := hg1d.out; have := hbg1.out; omega) hcgh.out); have k1h := hide (k1g.out.chg hcgh.out (by have := hg1d.out; omega)); have h2 : wh.cell? ⟨gd, 2, none⟩ = some (.int .u64 (P : Int)) := kh.out.cell 2)
                | ((with_reducible refine wpList_store_row (o := ⟨none, .store 36 (.tmp 18) (.tmp 93), _, _, _, _⟩) rfl 36 (.tmp 18) (.tmp 93) rfl gd #[.int .u64 0, .int .u64 (tot : Int), .int .u64 (P : Int), .int .u64 0] rfl rfl 36 _ kg.out.eq (pinfo_ent _ _ _ _) rfl (pent_one _ _ _ _) ?_); rw [hwh])
                | (with_reducible refine wpList_load_row (o := ⟨some 100, .load 36 (.tmp 18), _, _, _, _⟩) rfl 36 (.tmp 18) rfl gd rfl 36 #[.int .u64 0, .int .u64 (tot : Int), .int .u64 (P : Int), .int .u64 0] (0, 0) _ kh.out.eq Tryz.underlying36 rfl (pinfo_ent _ _ _ _) ?_)
                | (at_mapUpdate; refine wpList_update_ent wh rfl (.tmp 98) (.tmp 99) (.tmp 100) rfl b k D rfl hMh.out.map (by simp only [maxLen]; omega) mb hmbm.out rfl tot P rfl ?_; intro wi hmi hci; have hMi := hide (hMh.out.setMap hmi hci); have ki := hide (kh.out.chg hci (by have := hg1d.out; have := hbg1.out; omega)); have k1i := hide (k1h.out.chg hci (by have := hbg1.out; omega)); clear h2; have i0 : wi.cell? ⟨g1, 0, none⟩ = some (.int .u64 (N : Int)) := k1i.out.cell 0; have i1 : wi.cell? ⟨gd, 1, none⟩ = some (.int .u64 (tot : Int)) := ki.out.cell 1; have i2 : wi.cell? ⟨gd, 2, none⟩ = some (.int .u64 (P : Int)) := ki.out.cell 2)
                | (at_builtin; refine wpList_append_ent wi rfl (.tmp 101) (.tmp 109) rfl rfl hMi.out.ents ⟨N, tot, P, 1⟩ _ rfl (by omega) (by have := hMi.out.map.lt; omega) ?_; intro A9' c9' wq ho hcq _; have hMq := hide (hMi.out.setEnts ho hcq); clear ho hcq i0 i1 i2))
              go_roundw
              case rel =>
                have hmore : EnS.more S.texts mb = S.texts ++ [mb] := if_neg hnew.out
                have hatl : EnS.off (pkd gz) S.texts (EnS.at S.texts mb) = tot := by
                  rw [show EnS.at S.texts mb = S.texts.length from List.idxOf_eq_length hnew.out, EnS.off_all]
                  exact htot.out.symm
                exact ⟨k + 1, S.add (pkd gz) N mb, A9', c9', A10', c10', vs ++ [⟨Af, P, cf⟩], tot + P, D.put (.string mb) (entD tot P), by omega, by go_num, by rw [hadd.out.1]; simp, by simp, by go_num, by rw [hadd.out.2.2], hSk,
                  hide (by rw [hadd.out.1, hadd.out.2.1, hmore, hatl, List.map_append, List.map_cons, List.map_nil, hp]; exact hMq.out), hide (by rw [hadd.out.2.1, hmore, EnS.tot_snoc, hp, hP, ← htot.out]), hide (by rw [hadd.out.2.1, hmore]; have h := hmok.out.add mb hnew.out; rw [← htot.out, hp, hP] at h; exact h), hide (by rw [hadd.out.2.1, hmore]; exact fun t ht => (List.mem_append.1 ht).elim (fun h => htx.out t h) (fun h => by rw [List.mem_singleton.1 h]; have := hbl.out; have := hmn4.out; omega))⟩
              case measure => simp [intOf] <;> omega
      · obtain rfl : k = n := by omega
        have hbw := hide (show Below G w wr from b1.out.trans (hM.out.bel.mono hGb.out))
        have hfin := hide (show EntP (pkd gz) G w l d 0 (.returned (.tuple #[.slice A9 S.out.length c9, .slice A10 vs.length c10, .int .i64 0])) wr from by
          refine ⟨hbw.out, .inr ⟨rfl, X, A9, c9, A10, c10, vs, hR.out, hS.out, ?_, ?_, ?_, ?_⟩⟩
          · rw [hl, ← hS0.out]
          · rw [hl, ← hS0.out]
            exact hM.out.ents.low (by have := hGb.out; omega)
          · exact hM.out.rows.low (by have := hGb.out; omega)
          · rw [hl, ← hS0.out]
            exact hM.out.byts)
        go_wp2
        go_ret3
        exact hfin.out
  · have hez : ((er : Int) == 0) = false := by simp; omega
    have hez2 : ((er : Int) != 0) = true := by simp; omega
    go_wp2_with (go_at_call 76; (with_reducible refine hst.out.mono ?_); rintro e w1 ⟨b1, ⟨he, rfl⟩ | ⟨he, _⟩⟩; (all_goals try (exact absurd he (by omega))); replace b1 := hide b1)
    go_ret3
    exact EntP.bad b1.out (by omega)
end Go.Proofs.YtaapjampmnanmaaGreat
