/-
  No cell of these rows narrows 'for every input' (looked for: loops, veiled, ifaces, maps, wideKeys, modest, calm, conditions, laid).
  DERIVED. THE GIVEN ROWS OF THIS SEAT. 9 by the template 'for every input the law returns true; each argument reads behind the call as it read before'; 0 by the template 'total and deterministic' (their statements: YtmgajnllclodfaaTotals.lean).
  GIVEN WITH THE SEED: the statements are not yours to turn. If you find one false, say at which input.
  Laid BY PROGRAM, IN A SANDBOX (cutbox-rows.mjs): the forced cells as the released guide's own fill.sh prints them over the translation 6191666e19dd738e… (all of the seat's roots in one cut). By AI agents, Wed Nov 11 2026. No macro, syntax, notation, axiom, sorry.
-/
import Derived.Test.YtmgajnllclodfaaChecked
import GoSem.Claim
import GoSem.ClaimJoined
import GoSem.ClaimMapViews
import Derived.JoinedTies
import Derived.KernelRfl
namespace Go.Proofs.Ytmgajnllclodfaa
/- THE CELL 'sum', in the pinned program and in every row, IS THE sha256 OF THE DUMP (.gsa) THAT YtmgajnllclodfaaProg.lean LOADS. Nothing in Lean hashes anything: it is a label: what it is worth is what the hold of that sum in a sandbox is worth. -/
noncomputable def Try.pinned : Pinned := { name := "ytmgajnllclodfaa", sum := "6191666e19dd738e0aed443e86157c6144069c0012015240d47fdf64c1a62d1d", checked := Try.checked }
namespace Rows
def none {H : Type} : Left H := { results := [], args := [] }

/-- 'portolanlaw02.CrcSums': WHATEVER THE INPUT: true; the input reads as it did. -/
def crcSumsSpec : ChangeSpec := { name := "crcSums", fn := fun _ => fun
  | [d1, d2, d3] => { results := [.lit (.bool true)], args := [d1, d2, d3] }
  | _ => none }
def crcSumsRow : OpenClaim := { program := "ytmgajnllclodfaa", sum := "6191666e19dd738e0aed443e86157c6144069c0012015240d47fdf64c1a62d1d", func := "portolan/portolanlaw02.CrcSums", spec := "crcSums", apart := false }
def CrcSumsSaid : Prop := crcSumsRow.holds Try.pinned (OpenSpec.ofChange crcSumsSpec)

/-- ITS FALSE NEIGHBOUR: 'it returns false'. Refute it at one input. -/
def crcSumsWrong : ChangeSpec := { name := "crcSums", fn := fun _ => fun
  | [d1, d2, d3] => { results := [.lit (.bool false)], args := [d1, d2, d3] }
  | _ => none }
def CrcSumsWrongFalsely : Prop := crcSumsRow.holds Try.pinned (OpenSpec.ofChange crcSumsWrong)

/-- 'portolanlaw02.CrcJoins': WHATEVER THE INPUT: true; the input reads as it did. -/
def crcJoinsSpec : ChangeSpec := { name := "crcJoins", fn := fun _ => fun
  | [d1, d2, d3] => { results := [.lit (.bool true)], args := [d1, d2, d3] }
  | _ => none }
def crcJoinsRow : OpenClaim := { program := "ytmgajnllclodfaa", sum := "6191666e19dd738e0aed443e86157c6144069c0012015240d47fdf64c1a62d1d", func := "portolan/portolanlaw02.CrcJoins", spec := "crcJoins", apart := false }
def CrcJoinsSaid : Prop := crcJoinsRow.holds Try.pinned (OpenSpec.ofChange crcJoinsSpec)

/-- ITS FALSE NEIGHBOUR: 'it returns false'. Refute it at one input. -/
def crcJoinsWrong : ChangeSpec := { name := "crcJoins", fn := fun _ => fun
  | [d1, d2, d3] => { results := [.lit (.bool false)], args := [d1, d2, d3] }
  | _ => none }
def CrcJoinsWrongFalsely : Prop := crcJoinsRow.holds Try.pinned (OpenSpec.ofChange crcJoinsWrong)

/-- 'portolanlaw11.HilbAbove': WHATEVER THE INPUT: true; the input reads as it did. -/
def hilbAboveSpec : ChangeSpec := { name := "hilbAbove", fn := fun _ => fun
  | [d1, d2, d3] => { results := [.lit (.bool true)], args := [d1, d2, d3] }
  | _ => none }
def hilbAboveRow : OpenClaim := { program := "ytmgajnllclodfaa", sum := "6191666e19dd738e0aed443e86157c6144069c0012015240d47fdf64c1a62d1d", func := "portolan/portolanlaw11.HilbAbove", spec := "hilbAbove", apart := false }
def HilbAboveSaid : Prop := hilbAboveRow.holds Try.pinned (OpenSpec.ofChange hilbAboveSpec)

/-- ITS FALSE NEIGHBOUR: 'it returns false'. Refute it at one input. -/
def hilbAboveWrong : ChangeSpec := { name := "hilbAbove", fn := fun _ => fun
  | [d1, d2, d3] => { results := [.lit (.bool false)], args := [d1, d2, d3] }
  | _ => none }
def HilbAboveWrongFalsely : Prop := hilbAboveRow.holds Try.pinned (OpenSpec.ofChange hilbAboveWrong)

/-- 'portolanlaw11.HilbOf': WHATEVER THE INPUT: true; the input reads as it did. -/
def hilbOfSpec : ChangeSpec := { name := "hilbOf", fn := fun _ => fun
  | [d] => { results := [.lit (.bool true)], args := [d] }
  | _ => none }
def hilbOfRow : OpenClaim := { program := "ytmgajnllclodfaa", sum := "6191666e19dd738e0aed443e86157c6144069c0012015240d47fdf64c1a62d1d", func := "portolan/portolanlaw11.HilbOf", spec := "hilbOf", apart := false }
def HilbOfSaid : Prop := hilbOfRow.holds Try.pinned (OpenSpec.ofChange hilbOfSpec)

/-- ITS FALSE NEIGHBOUR: 'it returns false'. Refute it at one input. -/
def hilbOfWrong : ChangeSpec := { name := "hilbOf", fn := fun _ => fun
  | [d] => { results := [.lit (.bool false)], args := [d] }
  | _ => none }
def HilbOfWrongFalsely : Prop := hilbOfRow.holds Try.pinned (OpenSpec.ofChange hilbOfWrong)

/-- 'portolanlaw03.HuffCodes': WHATEVER THE INPUT: true; the input reads as it did. -/
def huffCodesSpec : ChangeSpec := { name := "huffCodes", fn := fun _ => fun
  | [d1, d2, d3] => { results := [.lit (.bool true)], args := [d1, d2, d3] }
  | _ => none }
def huffCodesRow : OpenClaim := { program := "ytmgajnllclodfaa", sum := "6191666e19dd738e0aed443e86157c6144069c0012015240d47fdf64c1a62d1d", func := "portolan/portolanlaw03.HuffCodes", spec := "huffCodes", apart := false }
def HuffCodesSaid : Prop := huffCodesRow.holds Try.pinned (OpenSpec.ofChange huffCodesSpec)

/-- ITS FALSE NEIGHBOUR: 'it returns false'. Refute it at one input. -/
def huffCodesWrong : ChangeSpec := { name := "huffCodes", fn := fun _ => fun
  | [d1, d2, d3] => { results := [.lit (.bool false)], args := [d1, d2, d3] }
  | _ => none }
def HuffCodesWrongFalsely : Prop := huffCodesRow.holds Try.pinned (OpenSpec.ofChange huffCodesWrong)

/-- 'portolanlaw11.HilbIDs': WHATEVER THE INPUT: true; the input reads as it did. -/
def hilbIDsSpec : ChangeSpec := { name := "hilbIDs", fn := fun _ => fun
  | [d1, d2] => { results := [.lit (.bool true)], args := [d1, d2] }
  | _ => none }
def hilbIDsRow : OpenClaim := { program := "ytmgajnllclodfaa", sum := "6191666e19dd738e0aed443e86157c6144069c0012015240d47fdf64c1a62d1d", func := "portolan/portolanlaw11.HilbIDs", spec := "hilbIDs", apart := false }
def HilbIDsSaid : Prop := hilbIDsRow.holds Try.pinned (OpenSpec.ofChange hilbIDsSpec)

/-- ITS FALSE NEIGHBOUR: 'it returns false'. Refute it at one input. -/
def hilbIDsWrong : ChangeSpec := { name := "hilbIDs", fn := fun _ => fun
  | [d1, d2] => { results := [.lit (.bool false)], args := [d1, d2] }
  | _ => none }
def HilbIDsWrongFalsely : Prop := hilbIDsRow.holds Try.pinned (OpenSpec.ofChange hilbIDsWrong)

/-- 'portolanlaw11.HilbNear': WHATEVER THE INPUT: true; the input reads as it did. -/
def hilbNearSpec : ChangeSpec := { name := "hilbNear", fn := fun _ => fun
  | [d] => { results := [.lit (.bool true)], args := [d] }
  | _ => none }
def hilbNearRow : OpenClaim := { program := "ytmgajnllclodfaa", sum := "6191666e19dd738e0aed443e86157c6144069c0012015240d47fdf64c1a62d1d", func := "portolan/portolanlaw11.HilbNear", spec := "hilbNear", apart := false }
def HilbNearSaid : Prop := hilbNearRow.holds Try.pinned (OpenSpec.ofChange hilbNearSpec)

/-- ITS FALSE NEIGHBOUR: 'it returns false'. Refute it at one input. -/
def hilbNearWrong : ChangeSpec := { name := "hilbNear", fn := fun _ => fun
  | [d] => { results := [.lit (.bool false)], args := [d] }
  | _ => none }
def HilbNearWrongFalsely : Prop := hilbNearRow.holds Try.pinned (OpenSpec.ofChange hilbNearWrong)

/-- 'portolanlaw01.BitioWrites': WHATEVER THE INPUT: true; the input reads as it did. -/
def bitioWritesSpec : ChangeSpec := { name := "bitioWrites", fn := fun _ => fun
  | [d] => { results := [.lit (.bool true)], args := [d] }
  | _ => none }
def bitioWritesRow : OpenClaim := { program := "ytmgajnllclodfaa", sum := "6191666e19dd738e0aed443e86157c6144069c0012015240d47fdf64c1a62d1d", func := "portolan/portolanlaw01.BitioWrites", spec := "bitioWrites", apart := false }
def BitioWritesSaid : Prop := bitioWritesRow.holds Try.pinned (OpenSpec.ofChange bitioWritesSpec)

/-- ITS FALSE NEIGHBOUR: 'it returns false'. Refute it at one input. -/
def bitioWritesWrong : ChangeSpec := { name := "bitioWrites", fn := fun _ => fun
  | [d] => { results := [.lit (.bool false)], args := [d] }
  | _ => none }
def BitioWritesWrongFalsely : Prop := bitioWritesRow.holds Try.pinned (OpenSpec.ofChange bitioWritesWrong)

/-- 'portolanlaw01.BitioBack': WHATEVER THE INPUT: true; the input reads as it did. -/
def bitioBackSpec : ChangeSpec := { name := "bitioBack", fn := fun _ => fun
  | [d] => { results := [.lit (.bool true)], args := [d] }
  | _ => none }
def bitioBackRow : OpenClaim := { program := "ytmgajnllclodfaa", sum := "6191666e19dd738e0aed443e86157c6144069c0012015240d47fdf64c1a62d1d", func := "portolan/portolanlaw01.BitioBack", spec := "bitioBack", apart := false }
def BitioBackSaid : Prop := bitioBackRow.holds Try.pinned (OpenSpec.ofChange bitioBackSpec)

/-- ITS FALSE NEIGHBOUR: 'it returns false'. Refute it at one input. -/
def bitioBackWrong : ChangeSpec := { name := "bitioBack", fn := fun _ => fun
  | [d] => { results := [.lit (.bool false)], args := [d] }
  | _ => none }
def BitioBackWrongFalsely : Prop := bitioBackRow.holds Try.pinned (OpenSpec.ofChange bitioBackWrong)

/- THE SECOND FORM. 'bulk': how many values and letters a reading holds, each counted each time it is reached (what is shared counts as often as it is met; a slice's spare places count too). A statement '..UptoSaid' is the law's where the arguments, and the package variables that the reading takes, are together of bulk at most 1048576: NARROWER than '..Said'. Prove '..Said' where nothing that the law and all that it calls make is longer than what came in: it says more and counts as full. Else prove '..UptoSaid'. A law counts once. -/
mutual
def uptoBulk {H : Type} : DataW H → Nat
  | .lit (.string bytes) => bytes.length + 1
  | .lit _ => 1
  | .nil => 1
  | .ptr d => uptoBulk d + 1
  | .slice elems spare => uptoBulkAll elems + uptoBulkAll spare + 1
  | .agg parts => uptoBulkAll parts + 1
  | .iface _ d => uptoBulk d + 1
  | .map entries => uptoBulkEntries entries + 1
  | .held _ => 1
def uptoBulkAll {H : Type} : List (DataW H) → Nat
  | [] => 0
  | d :: r => uptoBulk d + uptoBulkAll r
def uptoBulkEntries {H : Type} : List (Lit × DataW H) → Nat
  | [] => 0
  | x :: r => uptoBulkEntry x + uptoBulkEntries r
def uptoBulkEntry {H : Type} : Lit × DataW H → Nat
  | (.string bytes, d) => bytes.length + uptoBulk d + 1
  | (_, d) => uptoBulk d + 1
 end
def uptoSmall : (H : Type) → List (DataW H) → Bool := fun _ ds => decide (uptoBulkAll ds ≤ 1048576)
def OpenSpec.upto (s : _root_.Go.ChangeSpec) : _root_.Go.OpenSpec := { _root_.Go.OpenSpec.ofChange s with cond := some uptoSmall }

/-- 'portolanlaw02.CrcSums', WHERE WHAT IT READS IS OF BULK AT MOST 1048576: true; the input reads as it did. -/
def crcSumsUptoRow : OpenClaim := { program := "ytmgajnllclodfaa", sum := "6191666e19dd738e0aed443e86157c6144069c0012015240d47fdf64c1a62d1d", func := "portolan/portolanlaw02.CrcSums", spec := "crcSums", apart := false, narrowed := true }
def CrcSumsUptoSaid : Prop := crcSumsUptoRow.holds Try.pinned (OpenSpec.upto crcSumsSpec)

/-- 'portolanlaw02.CrcJoins', WHERE WHAT IT READS IS OF BULK AT MOST 1048576: true; the input reads as it did. -/
def crcJoinsUptoRow : OpenClaim := { program := "ytmgajnllclodfaa", sum := "6191666e19dd738e0aed443e86157c6144069c0012015240d47fdf64c1a62d1d", func := "portolan/portolanlaw02.CrcJoins", spec := "crcJoins", apart := false, narrowed := true }
def CrcJoinsUptoSaid : Prop := crcJoinsUptoRow.holds Try.pinned (OpenSpec.upto crcJoinsSpec)

/-- 'portolanlaw11.HilbAbove', WHERE WHAT IT READS IS OF BULK AT MOST 1048576: true; the input reads as it did. -/
def hilbAboveUptoRow : OpenClaim := { program := "ytmgajnllclodfaa", sum := "6191666e19dd738e0aed443e86157c6144069c0012015240d47fdf64c1a62d1d", func := "portolan/portolanlaw11.HilbAbove", spec := "hilbAbove", apart := false, narrowed := true }
def HilbAboveUptoSaid : Prop := hilbAboveUptoRow.holds Try.pinned (OpenSpec.upto hilbAboveSpec)

/-- 'portolanlaw11.HilbOf', WHERE WHAT IT READS IS OF BULK AT MOST 1048576: true; the input reads as it did. -/
def hilbOfUptoRow : OpenClaim := { program := "ytmgajnllclodfaa", sum := "6191666e19dd738e0aed443e86157c6144069c0012015240d47fdf64c1a62d1d", func := "portolan/portolanlaw11.HilbOf", spec := "hilbOf", apart := false, narrowed := true }
def HilbOfUptoSaid : Prop := hilbOfUptoRow.holds Try.pinned (OpenSpec.upto hilbOfSpec)

/-- 'portolanlaw03.HuffCodes', WHERE WHAT IT READS IS OF BULK AT MOST 1048576: true; the input reads as it did. -/
def huffCodesUptoRow : OpenClaim := { program := "ytmgajnllclodfaa", sum := "6191666e19dd738e0aed443e86157c6144069c0012015240d47fdf64c1a62d1d", func := "portolan/portolanlaw03.HuffCodes", spec := "huffCodes", apart := false, narrowed := true }
def HuffCodesUptoSaid : Prop := huffCodesUptoRow.holds Try.pinned (OpenSpec.upto huffCodesSpec)

/-- 'portolanlaw11.HilbIDs', WHERE WHAT IT READS IS OF BULK AT MOST 1048576: true; the input reads as it did. -/
def hilbIDsUptoRow : OpenClaim := { program := "ytmgajnllclodfaa", sum := "6191666e19dd738e0aed443e86157c6144069c0012015240d47fdf64c1a62d1d", func := "portolan/portolanlaw11.HilbIDs", spec := "hilbIDs", apart := false, narrowed := true }
def HilbIDsUptoSaid : Prop := hilbIDsUptoRow.holds Try.pinned (OpenSpec.upto hilbIDsSpec)

/-- 'portolanlaw11.HilbNear', WHERE WHAT IT READS IS OF BULK AT MOST 1048576: true; the input reads as it did. -/
def hilbNearUptoRow : OpenClaim := { program := "ytmgajnllclodfaa", sum := "6191666e19dd738e0aed443e86157c6144069c0012015240d47fdf64c1a62d1d", func := "portolan/portolanlaw11.HilbNear", spec := "hilbNear", apart := false, narrowed := true }
def HilbNearUptoSaid : Prop := hilbNearUptoRow.holds Try.pinned (OpenSpec.upto hilbNearSpec)

/-- 'portolanlaw01.BitioWrites', WHERE WHAT IT READS IS OF BULK AT MOST 1048576: true; the input reads as it did. -/
def bitioWritesUptoRow : OpenClaim := { program := "ytmgajnllclodfaa", sum := "6191666e19dd738e0aed443e86157c6144069c0012015240d47fdf64c1a62d1d", func := "portolan/portolanlaw01.BitioWrites", spec := "bitioWrites", apart := false, narrowed := true }
def BitioWritesUptoSaid : Prop := bitioWritesUptoRow.holds Try.pinned (OpenSpec.upto bitioWritesSpec)

/-- 'portolanlaw01.BitioBack', WHERE WHAT IT READS IS OF BULK AT MOST 1048576: true; the input reads as it did. -/
def bitioBackUptoRow : OpenClaim := { program := "ytmgajnllclodfaa", sum := "6191666e19dd738e0aed443e86157c6144069c0012015240d47fdf64c1a62d1d", func := "portolan/portolanlaw01.BitioBack", spec := "bitioBack", apart := false, narrowed := true }
def BitioBackUptoSaid : Prop := bitioBackUptoRow.holds Try.pinned (OpenSpec.upto bitioBackSpec)

end Rows
end Go.Proofs.Ytmgajnllclodfaa
