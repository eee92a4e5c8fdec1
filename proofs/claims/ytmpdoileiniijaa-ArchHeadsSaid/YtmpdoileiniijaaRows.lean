/-
  No cell of these rows narrows 'for every input' (looked for: loops, veiled, ifaces, maps, wideKeys, modest, calm, conditions, laid).
  DERIVED. THE GIVEN ROWS OF THIS SEAT. 4 by the template 'for every input the law returns true; each argument reads behind the call as it read before'; 0 by the template 'total and deterministic' (their statements: YtmpdoileiniijaaTotals.lean).
  GIVEN WITH THE SEED: the statements are not yours to turn. If you find one false, say at which input.
  Laid BY PROGRAM, IN A SANDBOX (cutbox-rows.mjs): the forced cells as the released guide's own fill.sh prints them over the translation dea69bc793096971… (all of the seat's roots in one cut). By AI agents, Wed Nov 11 2026. No macro, syntax, notation, axiom, sorry.
-/
import Derived.Test.YtmpdoileiniijaaChecked
import GoSem.Claim
import GoSem.ClaimJoined
import GoSem.ClaimMapViews
import Derived.JoinedTies
import Derived.KernelRfl
namespace Go.Proofs.Ytmpdoileiniijaa
/- THE CELL 'sum', in the pinned program and in every row, IS THE sha256 OF THE DUMP (.gsa) THAT YtmpdoileiniijaaProg.lean LOADS. Nothing in Lean hashes anything: it is a label: what it is worth is what the hold of that sum in a sandbox is worth. -/
noncomputable def Try.pinned : Pinned := { name := "ytmpdoileiniijaa", sum := "dea69bc793096971994c42b8155eb9e4d2d27c2ddc74ccf620d219d5bd5a5c46", checked := Try.checked }
namespace Rows
def none {H : Type} : Left H := { results := [], args := [] }

/-- 'portolanlaw13.ArchHeads': WHATEVER THE INPUT: true; the input reads as it did. -/
def archHeadsSpec : ChangeSpec := { name := "archHeads", fn := fun _ => fun
  | [d1, d2, d3] => { results := [.lit (.bool true)], args := [d1, d2, d3] }
  | _ => none }
def archHeadsRow : OpenClaim := { program := "ytmpdoileiniijaa", sum := "dea69bc793096971994c42b8155eb9e4d2d27c2ddc74ccf620d219d5bd5a5c46", func := "portolan/portolanlaw13.ArchHeads", spec := "archHeads", unfollowed := true, recurses := true, apart := false }
def ArchHeadsSaid : Prop := archHeadsRow.holds Try.pinned (OpenSpec.ofChange archHeadsSpec)

/-- ITS FALSE NEIGHBOUR: 'it returns false'. Refute it at one input. -/
def archHeadsWrong : ChangeSpec := { name := "archHeads", fn := fun _ => fun
  | [d1, d2, d3] => { results := [.lit (.bool false)], args := [d1, d2, d3] }
  | _ => none }
def ArchHeadsWrongFalsely : Prop := archHeadsRow.holds Try.pinned (OpenSpec.ofChange archHeadsWrong)

/-- 'portolanlaw12.DirFinds': WHATEVER THE INPUT: true; the input reads as it did. -/
def dirFindsSpec : ChangeSpec := { name := "dirFinds", fn := fun _ => fun
  | [d1, d2] => { results := [.lit (.bool true)], args := [d1, d2] }
  | _ => none }
def dirFindsRow : OpenClaim := { program := "ytmpdoileiniijaa", sum := "dea69bc793096971994c42b8155eb9e4d2d27c2ddc74ccf620d219d5bd5a5c46", func := "portolan/portolanlaw12.DirFinds", spec := "dirFinds", unfollowed := true, recurses := true, apart := false }
def DirFindsSaid : Prop := dirFindsRow.holds Try.pinned (OpenSpec.ofChange dirFindsSpec)

/-- ITS FALSE NEIGHBOUR: 'it returns false'. Refute it at one input. -/
def dirFindsWrong : ChangeSpec := { name := "dirFinds", fn := fun _ => fun
  | [d1, d2] => { results := [.lit (.bool false)], args := [d1, d2] }
  | _ => none }
def DirFindsWrongFalsely : Prop := dirFindsRow.holds Try.pinned (OpenSpec.ofChange dirFindsWrong)

/-- 'portolanlaw12.DirGets': WHATEVER THE INPUT: true; the input reads as it did. -/
def dirGetsSpec : ChangeSpec := { name := "dirGets", fn := fun _ => fun
  | [d] => { results := [.lit (.bool true)], args := [d] }
  | _ => none }
def dirGetsRow : OpenClaim := { program := "ytmpdoileiniijaa", sum := "dea69bc793096971994c42b8155eb9e4d2d27c2ddc74ccf620d219d5bd5a5c46", func := "portolan/portolanlaw12.DirGets", spec := "dirGets", unfollowed := true, recurses := true, apart := false }
def DirGetsSaid : Prop := dirGetsRow.holds Try.pinned (OpenSpec.ofChange dirGetsSpec)

/-- ITS FALSE NEIGHBOUR: 'it returns false'. Refute it at one input. -/
def dirGetsWrong : ChangeSpec := { name := "dirGets", fn := fun _ => fun
  | [d] => { results := [.lit (.bool false)], args := [d] }
  | _ => none }
def DirGetsWrongFalsely : Prop := dirGetsRow.holds Try.pinned (OpenSpec.ofChange dirGetsWrong)

/-- 'portolanlaw12.DirPuts': WHATEVER THE INPUT: true; the input reads as it did. -/
def dirPutsSpec : ChangeSpec := { name := "dirPuts", fn := fun _ => fun
  | [d1, d2] => { results := [.lit (.bool true)], args := [d1, d2] }
  | _ => none }
def dirPutsRow : OpenClaim := { program := "ytmpdoileiniijaa", sum := "dea69bc793096971994c42b8155eb9e4d2d27c2ddc74ccf620d219d5bd5a5c46", func := "portolan/portolanlaw12.DirPuts", spec := "dirPuts", unfollowed := true, recurses := true, apart := false }
def DirPutsSaid : Prop := dirPutsRow.holds Try.pinned (OpenSpec.ofChange dirPutsSpec)

/-- ITS FALSE NEIGHBOUR: 'it returns false'. Refute it at one input. -/
def dirPutsWrong : ChangeSpec := { name := "dirPuts", fn := fun _ => fun
  | [d1, d2] => { results := [.lit (.bool false)], args := [d1, d2] }
  | _ => none }
def DirPutsWrongFalsely : Prop := dirPutsRow.holds Try.pinned (OpenSpec.ofChange dirPutsWrong)

/- THE SECOND FORM. 'bulk': how many values and letters a reading holds, each counted each time it is reached (what is shared counts as often as it is met; a slice's spare places count too). A statement '..UptoSaid' is the law's where the arguments, and the package variables that the reading takes, are together of bulk at most 1048576: NARROWER than '..Said'. Prove '..Said' where nothing that the law and all that it calls make is longer than what came in: it says more and counts as full. Else prove '..UptoSaid'. A law counts once. -/
mutual
def uptoBulk {H : Type} : DataW H → Nat
  | .lit (.string bytes) => bytes.length + 1
  | .lit _ => 1
  | .nil => 1
  | .ptr d => uptoBulk d + 1
  | .slice elems spare => uptoBulkAll elems + uptoBulkAll spare + 1
  | .agg parts => uptoBulkAll parts + 1
  | .iface _ d => uptoBulk d + 1
  | .map entries => uptoBulkEntries entries + 1
  | .held _ => 1
def uptoBulkAll {H : Type} : List (DataW H) → Nat
  | [] => 0
  | d :: r => uptoBulk d + uptoBulkAll r
def uptoBulkEntries {H : Type} : List (Lit × DataW H) → Nat
  | [] => 0
  | x :: r => uptoBulkEntry x + uptoBulkEntries r
def uptoBulkEntry {H : Type} : Lit × DataW H → Nat
  | (.string bytes, d) => bytes.length + uptoBulk d + 1
  | (_, d) => uptoBulk d + 1
 end
def uptoSmall : (H : Type) → List (DataW H) → Bool := fun _ ds => decide (uptoBulkAll ds ≤ 1048576)
def OpenSpec.upto (s : _root_.Go.ChangeSpec) : _root_.Go.OpenSpec := { _root_.Go.OpenSpec.ofChange s with cond := some uptoSmall }

/-- 'portolanlaw13.ArchHeads', WHERE WHAT IT READS IS OF BULK AT MOST 1048576: true; the input reads as it did. -/
def archHeadsUptoRow : OpenClaim := { program := "ytmpdoileiniijaa", sum := "dea69bc793096971994c42b8155eb9e4d2d27c2ddc74ccf620d219d5bd5a5c46", func := "portolan/portolanlaw13.ArchHeads", spec := "archHeads", unfollowed := true, recurses := true, apart := false, narrowed := true }
def ArchHeadsUptoSaid : Prop := archHeadsUptoRow.holds Try.pinned (OpenSpec.upto archHeadsSpec)

/-- 'portolanlaw12.DirFinds', WHERE WHAT IT READS IS OF BULK AT MOST 1048576: true; the input reads as it did. -/
def dirFindsUptoRow : OpenClaim := { program := "ytmpdoileiniijaa", sum := "dea69bc793096971994c42b8155eb9e4d2d27c2ddc74ccf620d219d5bd5a5c46", func := "portolan/portolanlaw12.DirFinds", spec := "dirFinds", unfollowed := true, recurses := true, apart := false, narrowed := true }
def DirFindsUptoSaid : Prop := dirFindsUptoRow.holds Try.pinned (OpenSpec.upto dirFindsSpec)

/-- 'portolanlaw12.DirGets', WHERE WHAT IT READS IS OF BULK AT MOST 1048576: true; the input reads as it did. -/
def dirGetsUptoRow : OpenClaim := { program := "ytmpdoileiniijaa", sum := "dea69bc793096971994c42b8155eb9e4d2d27c2ddc74ccf620d219d5bd5a5c46", func := "portolan/portolanlaw12.DirGets", spec := "dirGets", unfollowed := true, recurses := true, apart := false, narrowed := true }
def DirGetsUptoSaid : Prop := dirGetsUptoRow.holds Try.pinned (OpenSpec.upto dirGetsSpec)

/-- 'portolanlaw12.DirPuts', WHERE WHAT IT READS IS OF BULK AT MOST 1048576: true; the input reads as it did. -/
def dirPutsUptoRow : OpenClaim := { program := "ytmpdoileiniijaa", sum := "dea69bc793096971994c42b8155eb9e4d2d27c2ddc74ccf620d219d5bd5a5c46", func := "portolan/portolanlaw12.DirPuts", spec := "dirPuts", unfollowed := true, recurses := true, apart := false, narrowed := true }
def DirPutsUptoSaid : Prop := dirPutsUptoRow.holds Try.pinned (OpenSpec.upto dirPutsSpec)

end Rows
end Go.Proofs.Ytmpdoileiniijaa
