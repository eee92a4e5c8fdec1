/- Layer 14 (pack): the map from texts to entries at the operations. There is no condition. -/
import Derived.Test.YtaapjampmnanmaaGreatPkEnd
import Derived.Test.YtaapjampmnanmaaGreatDirX
import Derived.StringKeys
import Derived.Maps.Keyed
namespace Go.Proofs.YtaapjampmnanmaaGreat
open Go.RowKit Go.Maps Go.WideMaps
set_option linter.unusedVariables false
set_option linter.unusedSimpArgs false

theorem zero_ent (w : World) : (zeroValue 36).run Tryz.prog w = .ok (entV 0 0) w := by
  obtain ⟨i, hi, hz, hs, hb⟩ := info_parts info_entry
  unfold zeroValue typeInfo
  simp [hi, hz, entV]
theorem key_str (bs : List UInt8) (h : bs.length ≤ maxLen) : keyOf Tryz.prog 9 (.string ⟨bs.toArray⟩) = some (.string bs) := by
  have := keyOf_string_mk (P := Tryz.prog) (k := 9) Tryz.underlying9 (s := ⟨bs.toArray⟩) (by simpa [ByteArray.size] using h)
  simpa using this
theorem wpList_lookup_ent {ops : Array Oper} {rest : List Oper} {o : Oper} {a : Act} {Q : Exit → Act → World → Prop} (w : World) (hg : o.guard = none) (m x : Operand) (hop : o.op = Op.lookup 127 m x true) (b n : Nat) (D : DataW Unit)
    (hm : a.eval m = .map (some b)) (hown : w.ownsMap Tryz.prog 9 entR b n D) (bs : List UInt8) (hbs : bs.length ≤ maxLen) (hx : a.eval x = .string ⟨bs.toArray⟩) (f l : Nat) (hat : D.atKey (.string bs) (entD 0 0) = entD f l) (hs : Bool) (hhas : Maps.has D (.string bs) = hs)
    (hK : wpList Tryz.prog ops Q rest (a.put o.dst (.tuple #[.agg #[.int .u64 0, .int .u64 (f : Int), .int .u64 (l : Int), .int .u64 0], .bool hs])) w) :
    wpList Tryz.prog ops Q (o :: rest) a w := by
  refine wpList_lookup_own_ok w hg m x 127 hop 9 36 (string_keyed Tryz.underlying9) Tryz.underlying127 entR (zero_ent w) (entD 0 0) [] (entR_mk 0 0) b n D hm hown _ (.string bs) hx (key_str bs hbs) ?_
  intro v ps hv
  rw [hat] at hv
  rw [entR_inv hv, hhas]
  exact hK
theorem wpList_update_ent {ops : Array Oper} {rest : List Oper} {o : Oper} {a : Act} {Q : Exit → Act → World → Prop} (w : World) (hg : o.guard = none) (m x v : Operand) (hop : o.op = Op.mapUpdate 127 m x v) (b n : Nat) (D : DataW Unit)
    (hm : a.eval m = .map (some b)) (hown : w.ownsMap Tryz.prog 9 entR b n D) (hn : n < maxLen) (bs : List UInt8) (hbs : bs.length ≤ maxLen) (hx : a.eval x = .string ⟨bs.toArray⟩) (f l : Nat) (hv : a.eval v = .agg #[.int .u64 0, .int .u64 (f : Int), .int .u64 (l : Int), .int .u64 0])
    (hK : ∀ w', w'.ownsMap Tryz.prog 9 entR b (n + 1) (D.put (.string bs) (entD f l)) → Chg (fun k => k = b) w w' → wpList Tryz.prog ops Q rest (a.put o.dst undef) w') :
    wpList Tryz.prog ops Q (o :: rest) a w :=
  wpList_mapUpdate_own w hg m x v 127 hop 9 36 (string_keyed Tryz.underlying9) Tryz.underlying127 entR b n D hm hown hn _ _ (.string bs) hx hv (key_str bs hbs) (entD f l) [] (entR_mk f l)
    (fun w' h1 h2 => hK w' h1 ((chg_of_grown h2).mono (fun i _ h => by injection h with h; exact h.symm)))

end Go.Proofs.YtaapjampmnanmaaGreat
