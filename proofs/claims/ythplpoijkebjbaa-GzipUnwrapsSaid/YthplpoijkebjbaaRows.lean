/-
  No cell of these rows narrows 'for every input' (looked for: loops, veiled, ifaces, maps, wideKeys, modest, calm, conditions, laid).
  DERIVED. THE GIVEN ROWS OF THIS SEAT. 12 by the template 'for every input the law returns true; each argument reads behind the call as it read before'; 0 by the template 'total and deterministic' (their statements: YthplpoijkebjbaaTotals.lean).
  GIVEN WITH THE SEED: the statements are not yours to turn. If you find one false, say at which input.
  Laid BY PROGRAM, IN A SANDBOX (cutbox-rows.mjs): the forced cells as the released guide's own fill.sh prints them over the translation aba28c9ae19b3a1f… (all of the seat's roots in one cut). By AI agents, Wed Nov 11 2026. No macro, syntax, notation, axiom, sorry.
-/
import Derived.Test.YthplpoijkebjbaaChecked
import GoSem.Claim
import GoSem.ClaimJoined
import GoSem.ClaimMapViews
import Derived.JoinedTies
import Derived.KernelRfl
namespace Go.Proofs.Ythplpoijkebjbaa
/- THE CELL 'sum', in the pinned program and in every row, IS THE sha256 OF THE DUMP (.gsa) THAT YthplpoijkebjbaaProg.lean LOADS. Nothing in Lean hashes anything: it is a label: what it is worth is what the hold of that sum in a sandbox is worth. -/
noncomputable def Try.pinned : Pinned := { name := "ythplpoijkebjbaa", sum := "aba28c9ae19b3a1f50087785308f17566c6f277b5d2a2bc80d239a7f58b4b537", checked := Try.checked }
namespace Rows
def none {H : Type} : Left H := { results := [], args := [] }

/-- 'portolanlaw05.DeflateData': WHATEVER THE INPUT: true; the input reads as it did. -/
def deflateDataSpec : ChangeSpec := { name := "deflateData", fn := fun _ => fun
  | [d1, d2] => { results := [.lit (.bool true)], args := [d1, d2] }
  | _ => none }
def deflateDataRow : OpenClaim := { program := "ythplpoijkebjbaa", sum := "aba28c9ae19b3a1f50087785308f17566c6f277b5d2a2bc80d239a7f58b4b537", func := "portolan/portolanlaw05.DeflateData", spec := "deflateData", unfollowed := true, recurses := true, apart := false }
def DeflateDataSaid : Prop := deflateDataRow.holds Try.pinned (OpenSpec.ofChange deflateDataSpec)

/-- ITS FALSE NEIGHBOUR: 'it returns false'. Refute it at one input. -/
def deflateDataWrong : ChangeSpec := { name := "deflateData", fn := fun _ => fun
  | [d1, d2] => { results := [.lit (.bool false)], args := [d1, d2] }
  | _ => none }
def DeflateDataWrongFalsely : Prop := deflateDataRow.holds Try.pinned (OpenSpec.ofChange deflateDataWrong)

/-- 'portolanlaw05.DeflateSyms': WHATEVER THE INPUT: true; the input reads as it did. -/
def deflateSymsSpec : ChangeSpec := { name := "deflateSyms", fn := fun _ => fun
  | [d] => { results := [.lit (.bool true)], args := [d] }
  | _ => none }
def deflateSymsRow : OpenClaim := { program := "ythplpoijkebjbaa", sum := "aba28c9ae19b3a1f50087785308f17566c6f277b5d2a2bc80d239a7f58b4b537", func := "portolan/portolanlaw05.DeflateSyms", spec := "deflateSyms", unfollowed := true, recurses := true, apart := false }
def DeflateSymsSaid : Prop := deflateSymsRow.holds Try.pinned (OpenSpec.ofChange deflateSymsSpec)

/-- ITS FALSE NEIGHBOUR: 'it returns false'. Refute it at one input. -/
def deflateSymsWrong : ChangeSpec := { name := "deflateSyms", fn := fun _ => fun
  | [d] => { results := [.lit (.bool false)], args := [d] }
  | _ => none }
def DeflateSymsWrongFalsely : Prop := deflateSymsRow.holds Try.pinned (OpenSpec.ofChange deflateSymsWrong)

/-- 'portolanlaw05.DeflateLong': WHATEVER THE INPUT: true; the input reads as it did. -/
def deflateLongSpec : ChangeSpec := { name := "deflateLong", fn := fun _ => fun
  | [d] => { results := [.lit (.bool true)], args := [d] }
  | _ => none }
def deflateLongRow : OpenClaim := { program := "ythplpoijkebjbaa", sum := "aba28c9ae19b3a1f50087785308f17566c6f277b5d2a2bc80d239a7f58b4b537", func := "portolan/portolanlaw05.DeflateLong", spec := "deflateLong", unfollowed := true, recurses := true, apart := false }
def DeflateLongSaid : Prop := deflateLongRow.holds Try.pinned (OpenSpec.ofChange deflateLongSpec)

/-- ITS FALSE NEIGHBOUR: 'it returns false'. Refute it at one input. -/
def deflateLongWrong : ChangeSpec := { name := "deflateLong", fn := fun _ => fun
  | [d] => { results := [.lit (.bool false)], args := [d] }
  | _ => none }
def DeflateLongWrongFalsely : Prop := deflateLongRow.holds Try.pinned (OpenSpec.ofChange deflateLongWrong)

/-- 'portolanlaw05.DeflateBest': WHATEVER THE INPUT: true; the input reads as it did. -/
def deflateBestSpec : ChangeSpec := { name := "deflateBest", fn := fun _ => fun
  | [d1, d2, d3] => { results := [.lit (.bool true)], args := [d1, d2, d3] }
  | _ => none }
def deflateBestRow : OpenClaim := { program := "ythplpoijkebjbaa", sum := "aba28c9ae19b3a1f50087785308f17566c6f277b5d2a2bc80d239a7f58b4b537", func := "portolan/portolanlaw05.DeflateBest", spec := "deflateBest", unfollowed := true, recurses := true, apart := false }
def DeflateBestSaid : Prop := deflateBestRow.holds Try.pinned (OpenSpec.ofChange deflateBestSpec)

/-- ITS FALSE NEIGHBOUR: 'it returns false'. Refute it at one input. -/
def deflateBestWrong : ChangeSpec := { name := "deflateBest", fn := fun _ => fun
  | [d1, d2, d3] => { results := [.lit (.bool false)], args := [d1, d2, d3] }
  | _ => none }
def DeflateBestWrongFalsely : Prop := deflateBestRow.holds Try.pinned (OpenSpec.ofChange deflateBestWrong)

/-- 'portolanlaw05.DeflateParses': WHATEVER THE INPUT: true; the input reads as it did. -/
def deflateParsesSpec : ChangeSpec := { name := "deflateParses", fn := fun _ => fun
  | [d1, d2] => { results := [.lit (.bool true)], args := [d1, d2] }
  | _ => none }
def deflateParsesRow : OpenClaim := { program := "ythplpoijkebjbaa", sum := "aba28c9ae19b3a1f50087785308f17566c6f277b5d2a2bc80d239a7f58b4b537", func := "portolan/portolanlaw05.DeflateParses", spec := "deflateParses", unfollowed := true, recurses := true, apart := false }
def DeflateParsesSaid : Prop := deflateParsesRow.holds Try.pinned (OpenSpec.ofChange deflateParsesSpec)

/-- ITS FALSE NEIGHBOUR: 'it returns false'. Refute it at one input. -/
def deflateParsesWrong : ChangeSpec := { name := "deflateParses", fn := fun _ => fun
  | [d1, d2] => { results := [.lit (.bool false)], args := [d1, d2] }
  | _ => none }
def DeflateParsesWrongFalsely : Prop := deflateParsesRow.holds Try.pinned (OpenSpec.ofChange deflateParsesWrong)

/-- 'portolanlaw04.InflateBehind': WHATEVER THE INPUT: true; the input reads as it did. -/
def inflateBehindSpec : ChangeSpec := { name := "inflateBehind", fn := fun _ => fun
  | [d1, d2] => { results := [.lit (.bool true)], args := [d1, d2] }
  | _ => none }
def inflateBehindRow : OpenClaim := { program := "ythplpoijkebjbaa", sum := "aba28c9ae19b3a1f50087785308f17566c6f277b5d2a2bc80d239a7f58b4b537", func := "portolan/portolanlaw04.InflateBehind", spec := "inflateBehind", unfollowed := true, recurses := true, apart := false }
def InflateBehindSaid : Prop := inflateBehindRow.holds Try.pinned (OpenSpec.ofChange inflateBehindSpec)

/-- ITS FALSE NEIGHBOUR: 'it returns false'. Refute it at one input. -/
def inflateBehindWrong : ChangeSpec := { name := "inflateBehind", fn := fun _ => fun
  | [d1, d2] => { results := [.lit (.bool false)], args := [d1, d2] }
  | _ => none }
def InflateBehindWrongFalsely : Prop := inflateBehindRow.holds Try.pinned (OpenSpec.ofChange inflateBehindWrong)

/-- 'portolanlaw04.InflateTables': WHATEVER THE INPUT: true; the input reads as it did. -/
def inflateTablesSpec : ChangeSpec := { name := "inflateTables", fn := fun _ => fun
  | [d] => { results := [.lit (.bool true)], args := [d] }
  | _ => none }
def inflateTablesRow : OpenClaim := { program := "ythplpoijkebjbaa", sum := "aba28c9ae19b3a1f50087785308f17566c6f277b5d2a2bc80d239a7f58b4b537", func := "portolan/portolanlaw04.InflateTables", spec := "inflateTables", unfollowed := true, recurses := true, apart := false }
def InflateTablesSaid : Prop := inflateTablesRow.holds Try.pinned (OpenSpec.ofChange inflateTablesSpec)

/-- ITS FALSE NEIGHBOUR: 'it returns false'. Refute it at one input. -/
def inflateTablesWrong : ChangeSpec := { name := "inflateTables", fn := fun _ => fun
  | [d] => { results := [.lit (.bool false)], args := [d] }
  | _ => none }
def InflateTablesWrongFalsely : Prop := inflateTablesRow.holds Try.pinned (OpenSpec.ofChange inflateTablesWrong)

/-- 'portolanlaw04.InflateShort': WHATEVER THE INPUT: true; the input reads as it did. -/
def inflateShortSpec : ChangeSpec := { name := "inflateShort", fn := fun _ => fun
  | [d1, d2] => { results := [.lit (.bool true)], args := [d1, d2] }
  | _ => none }
def inflateShortRow : OpenClaim := { program := "ythplpoijkebjbaa", sum := "aba28c9ae19b3a1f50087785308f17566c6f277b5d2a2bc80d239a7f58b4b537", func := "portolan/portolanlaw04.InflateShort", spec := "inflateShort", unfollowed := true, recurses := true, apart := false }
def InflateShortSaid : Prop := inflateShortRow.holds Try.pinned (OpenSpec.ofChange inflateShortSpec)

/-- ITS FALSE NEIGHBOUR: 'it returns false'. Refute it at one input. -/
def inflateShortWrong : ChangeSpec := { name := "inflateShort", fn := fun _ => fun
  | [d1, d2] => { results := [.lit (.bool false)], args := [d1, d2] }
  | _ => none }
def InflateShortWrongFalsely : Prop := inflateShortRow.holds Try.pinned (OpenSpec.ofChange inflateShortWrong)

/-- 'portolanlaw05.DeflateBack': WHATEVER THE INPUT: true; the input reads as it did. -/
def deflateBackSpec : ChangeSpec := { name := "deflateBack", fn := fun _ => fun
  | [d1, d2, d3] => { results := [.lit (.bool true)], args := [d1, d2, d3] }
  | _ => none }
def deflateBackRow : OpenClaim := { program := "ythplpoijkebjbaa", sum := "aba28c9ae19b3a1f50087785308f17566c6f277b5d2a2bc80d239a7f58b4b537", func := "portolan/portolanlaw05.DeflateBack", spec := "deflateBack", unfollowed := true, recurses := true, apart := false }
def DeflateBackSaid : Prop := deflateBackRow.holds Try.pinned (OpenSpec.ofChange deflateBackSpec)

/-- ITS FALSE NEIGHBOUR: 'it returns false'. Refute it at one input. -/
def deflateBackWrong : ChangeSpec := { name := "deflateBack", fn := fun _ => fun
  | [d1, d2, d3] => { results := [.lit (.bool false)], args := [d1, d2, d3] }
  | _ => none }
def DeflateBackWrongFalsely : Prop := deflateBackRow.holds Try.pinned (OpenSpec.ofChange deflateBackWrong)

/-- 'portolanlaw06.GzipWraps': WHATEVER THE INPUT: true; the input reads as it did. -/
def gzipWrapsSpec : ChangeSpec := { name := "gzipWraps", fn := fun _ => fun
  | [d1, d2] => { results := [.lit (.bool true)], args := [d1, d2] }
  | _ => none }
def gzipWrapsRow : OpenClaim := { program := "ythplpoijkebjbaa", sum := "aba28c9ae19b3a1f50087785308f17566c6f277b5d2a2bc80d239a7f58b4b537", func := "portolan/portolanlaw06.GzipWraps", spec := "gzipWraps", inPlace := ["internal/bytealg.IndexByte"], unfollowed := true, recurses := true, apart := false }
def GzipWrapsSaid : Prop := gzipWrapsRow.holds Try.pinned (OpenSpec.ofChange gzipWrapsSpec)

/-- ITS FALSE NEIGHBOUR: 'it returns false'. Refute it at one input. -/
def gzipWrapsWrong : ChangeSpec := { name := "gzipWraps", fn := fun _ => fun
  | [d1, d2] => { results := [.lit (.bool false)], args := [d1, d2] }
  | _ => none }
def GzipWrapsWrongFalsely : Prop := gzipWrapsRow.holds Try.pinned (OpenSpec.ofChange gzipWrapsWrong)

/-- 'portolanlaw06.GzipUnwraps': WHATEVER THE INPUT: true; the input reads as it did. -/
def gzipUnwrapsSpec : ChangeSpec := { name := "gzipUnwraps", fn := fun _ => fun
  | [d1, d2] => { results := [.lit (.bool true)], args := [d1, d2] }
  | _ => none }
def gzipUnwrapsRow : OpenClaim := { program := "ythplpoijkebjbaa", sum := "aba28c9ae19b3a1f50087785308f17566c6f277b5d2a2bc80d239a7f58b4b537", func := "portolan/portolanlaw06.GzipUnwraps", spec := "gzipUnwraps", inPlace := ["internal/bytealg.IndexByte"], unfollowed := true, recurses := true, apart := false }
def GzipUnwrapsSaid : Prop := gzipUnwrapsRow.holds Try.pinned (OpenSpec.ofChange gzipUnwrapsSpec)

/-- ITS FALSE NEIGHBOUR: 'it returns false'. Refute it at one input. -/
def gzipUnwrapsWrong : ChangeSpec := { name := "gzipUnwraps", fn := fun _ => fun
  | [d1, d2] => { results := [.lit (.bool false)], args := [d1, d2] }
  | _ => none }
def GzipUnwrapsWrongFalsely : Prop := gzipUnwrapsRow.holds Try.pinned (OpenSpec.ofChange gzipUnwrapsWrong)

/-- 'portolanlaw06.GzipShort': WHATEVER THE INPUT: true; the input reads as it did. -/
def gzipShortSpec : ChangeSpec := { name := "gzipShort", fn := fun _ => fun
  | [d1, d2] => { results := [.lit (.bool true)], args := [d1, d2] }
  | _ => none }
def gzipShortRow : OpenClaim := { program := "ythplpoijkebjbaa", sum := "aba28c9ae19b3a1f50087785308f17566c6f277b5d2a2bc80d239a7f58b4b537", func := "portolan/portolanlaw06.GzipShort", spec := "gzipShort", inPlace := ["internal/bytealg.IndexByte"], unfollowed := true, recurses := true, apart := false }
def GzipShortSaid : Prop := gzipShortRow.holds Try.pinned (OpenSpec.ofChange gzipShortSpec)

/-- ITS FALSE NEIGHBOUR: 'it returns false'. Refute it at one input. -/
def gzipShortWrong : ChangeSpec := { name := "gzipShort", fn := fun _ => fun
  | [d1, d2] => { results := [.lit (.bool false)], args := [d1, d2] }
  | _ => none }
def GzipShortWrongFalsely : Prop := gzipShortRow.holds Try.pinned (OpenSpec.ofChange gzipShortWrong)

/- THE SECOND FORM. 'bulk': how many values and letters a reading holds, each counted each time it is reached (what is shared counts as often as it is met; a slice's spare places count too). A statement '..UptoSaid' is the law's where the arguments, and the package variables that the reading takes, are together of bulk at most 1048576: NARROWER than '..Said'. Prove '..Said' where nothing that the law and all that it calls make is longer than what came in: it says more and counts as full. Else prove '..UptoSaid'. A law counts once. -/
mutual
def uptoBulk {H : Type} : DataW H → Nat
  | .lit (.string bytes) => bytes.length + 1
  | .lit _ => 1
  | .nil => 1
  | .ptr d => uptoBulk d + 1
  | .slice elems spare => uptoBulkAll elems + uptoBulkAll spare + 1
  | .agg parts => uptoBulkAll parts + 1
  | .iface _ d => uptoBulk d + 1
  | .map entries => uptoBulkEntries entries + 1
  | .held _ => 1
def uptoBulkAll {H : Type} : List (DataW H) → Nat
  | [] => 0
  | d :: r => uptoBulk d + uptoBulkAll r
def uptoBulkEntries {H : Type} : List (Lit × DataW H) → Nat
  | [] => 0
  | x :: r => uptoBulkEntry x + uptoBulkEntries r
def uptoBulkEntry {H : Type} : Lit × DataW H → Nat
  | (.string bytes, d) => bytes.length + uptoBulk d + 1
  | (_, d) => uptoBulk d + 1
 end
def uptoSmall : (H : Type) → List (DataW H) → Bool := fun _ ds => decide (uptoBulkAll ds ≤ 1048576)
def OpenSpec.upto (s : _root_.Go.ChangeSpec) : _root_.Go.OpenSpec := { _root_.Go.OpenSpec.ofChange s with cond := some uptoSmall }

/-- 'portolanlaw05.DeflateData', WHERE WHAT IT READS IS OF BULK AT MOST 1048576: true; the input reads as it did. -/
def deflateDataUptoRow : OpenClaim := { program := "ythplpoijkebjbaa", sum := "aba28c9ae19b3a1f50087785308f17566c6f277b5d2a2bc80d239a7f58b4b537", func := "portolan/portolanlaw05.DeflateData", spec := "deflateData", unfollowed := true, recurses := true, apart := false, narrowed := true }
def DeflateDataUptoSaid : Prop := deflateDataUptoRow.holds Try.pinned (OpenSpec.upto deflateDataSpec)

/-- 'portolanlaw05.DeflateSyms', WHERE WHAT IT READS IS OF BULK AT MOST 1048576: true; the input reads as it did. -/
def deflateSymsUptoRow : OpenClaim := { program := "ythplpoijkebjbaa", sum := "aba28c9ae19b3a1f50087785308f17566c6f277b5d2a2bc80d239a7f58b4b537", func := "portolan/portolanlaw05.DeflateSyms", spec := "deflateSyms", unfollowed := true, recurses := true, apart := false, narrowed := true }
def DeflateSymsUptoSaid : Prop := deflateSymsUptoRow.holds Try.pinned (OpenSpec.upto deflateSymsSpec)

/-- 'portolanlaw05.DeflateLong', WHERE WHAT IT READS IS OF BULK AT MOST 1048576: true; the input reads as it did. -/
def deflateLongUptoRow : OpenClaim := { program := "ythplpoijkebjbaa", sum := "aba28c9ae19b3a1f50087785308f17566c6f277b5d2a2bc80d239a7f58b4b537", func := "portolan/portolanlaw05.DeflateLong", spec := "deflateLong", unfollowed := true, recurses := true, apart := false, narrowed := true }
def DeflateLongUptoSaid : Prop := deflateLongUptoRow.holds Try.pinned (OpenSpec.upto deflateLongSpec)

/-- 'portolanlaw05.DeflateBest', WHERE WHAT IT READS IS OF BULK AT MOST 1048576: true; the input reads as it did. -/
def deflateBestUptoRow : OpenClaim := { program := "ythplpoijkebjbaa", sum := "aba28c9ae19b3a1f50087785308f17566c6f277b5d2a2bc80d239a7f58b4b537", func := "portolan/portolanlaw05.DeflateBest", spec := "deflateBest", unfollowed := true, recurses := true, apart := false, narrowed := true }
def DeflateBestUptoSaid : Prop := deflateBestUptoRow.holds Try.pinned (OpenSpec.upto deflateBestSpec)

/-- 'portolanlaw05.DeflateParses', WHERE WHAT IT READS IS OF BULK AT MOST 1048576: true; the input reads as it did. -/
def deflateParsesUptoRow : OpenClaim := { program := "ythplpoijkebjbaa", sum := "aba28c9ae19b3a1f50087785308f17566c6f277b5d2a2bc80d239a7f58b4b537", func := "portolan/portolanlaw05.DeflateParses", spec := "deflateParses", unfollowed := true, recurses := true, apart := false, narrowed := true }
def DeflateParsesUptoSaid : Prop := deflateParsesUptoRow.holds Try.pinned (OpenSpec.upto deflateParsesSpec)

/-- 'portolanlaw04.InflateBehind', WHERE WHAT IT READS IS OF BULK AT MOST 1048576: true; the input reads as it did. -/
def inflateBehindUptoRow : OpenClaim := { program := "ythplpoijkebjbaa", sum := "aba28c9ae19b3a1f50087785308f17566c6f277b5d2a2bc80d239a7f58b4b537", func := "portolan/portolanlaw04.InflateBehind", spec := "inflateBehind", unfollowed := true, recurses := true, apart := false, narrowed := true }
def InflateBehindUptoSaid : Prop := inflateBehindUptoRow.holds Try.pinned (OpenSpec.upto inflateBehindSpec)

/-- 'portolanlaw04.InflateTables', WHERE WHAT IT READS IS OF BULK AT MOST 1048576: true; the input reads as it did. -/
def inflateTablesUptoRow : OpenClaim := { program := "ythplpoijkebjbaa", sum := "aba28c9ae19b3a1f50087785308f17566c6f277b5d2a2bc80d239a7f58b4b537", func := "portolan/portolanlaw04.InflateTables", spec := "inflateTables", unfollowed := true, recurses := true, apart := false, narrowed := true }
def InflateTablesUptoSaid : Prop := inflateTablesUptoRow.holds Try.pinned (OpenSpec.upto inflateTablesSpec)

/-- 'portolanlaw04.InflateShort', WHERE WHAT IT READS IS OF BULK AT MOST 1048576: true; the input reads as it did. -/
def inflateShortUptoRow : OpenClaim := { program := "ythplpoijkebjbaa", sum := "aba28c9ae19b3a1f50087785308f17566c6f277b5d2a2bc80d239a7f58b4b537", func := "portolan/portolanlaw04.InflateShort", spec := "inflateShort", unfollowed := true, recurses := true, apart := false, narrowed := true }
def InflateShortUptoSaid : Prop := inflateShortUptoRow.holds Try.pinned (OpenSpec.upto inflateShortSpec)

/-- 'portolanlaw05.DeflateBack', WHERE WHAT IT READS IS OF BULK AT MOST 1048576: true; the input reads as it did. -/
def deflateBackUptoRow : OpenClaim := { program := "ythplpoijkebjbaa", sum := "aba28c9ae19b3a1f50087785308f17566c6f277b5d2a2bc80d239a7f58b4b537", func := "portolan/portolanlaw05.DeflateBack", spec := "deflateBack", unfollowed := true, recurses := true, apart := false, narrowed := true }
def DeflateBackUptoSaid : Prop := deflateBackUptoRow.holds Try.pinned (OpenSpec.upto deflateBackSpec)

/-- 'portolanlaw06.GzipWraps', WHERE WHAT IT READS IS OF BULK AT MOST 1048576: true; the input reads as it did. -/
def gzipWrapsUptoRow : OpenClaim := { program := "ythplpoijkebjbaa", sum := "aba28c9ae19b3a1f50087785308f17566c6f277b5d2a2bc80d239a7f58b4b537", func := "portolan/portolanlaw06.GzipWraps", spec := "gzipWraps", inPlace := ["internal/bytealg.IndexByte"], unfollowed := true, recurses := true, apart := false, narrowed := true }
def GzipWrapsUptoSaid : Prop := gzipWrapsUptoRow.holds Try.pinned (OpenSpec.upto gzipWrapsSpec)

/-- 'portolanlaw06.GzipUnwraps', WHERE WHAT IT READS IS OF BULK AT MOST 1048576: true; the input reads as it did. -/
def gzipUnwrapsUptoRow : OpenClaim := { program := "ythplpoijkebjbaa", sum := "aba28c9ae19b3a1f50087785308f17566c6f277b5d2a2bc80d239a7f58b4b537", func := "portolan/portolanlaw06.GzipUnwraps", spec := "gzipUnwraps", inPlace := ["internal/bytealg.IndexByte"], unfollowed := true, recurses := true, apart := false, narrowed := true }
def GzipUnwrapsUptoSaid : Prop := gzipUnwrapsUptoRow.holds Try.pinned (OpenSpec.upto gzipUnwrapsSpec)

/-- 'portolanlaw06.GzipShort', WHERE WHAT IT READS IS OF BULK AT MOST 1048576: true; the input reads as it did. -/
def gzipShortUptoRow : OpenClaim := { program := "ythplpoijkebjbaa", sum := "aba28c9ae19b3a1f50087785308f17566c6f277b5d2a2bc80d239a7f58b4b537", func := "portolan/portolanlaw06.GzipShort", spec := "gzipShort", inPlace := ["internal/bytealg.IndexByte"], unfollowed := true, recurses := true, apart := false, narrowed := true }
def GzipShortUptoSaid : Prop := gzipShortUptoRow.holds Try.pinned (OpenSpec.upto gzipShortSpec)

end Rows
end Go.Proofs.Ythplpoijkebjbaa
