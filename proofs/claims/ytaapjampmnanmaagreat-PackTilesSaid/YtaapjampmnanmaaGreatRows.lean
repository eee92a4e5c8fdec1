/-
  No cell of these rows narrows 'for every input' (looked for: loops, veiled, ifaces, maps, wideKeys, modest, calm, conditions, laid).
  DERIVED. THE GIVEN ROWS OF THIS SEAT. 4 by the template 'for every input the law returns true; each argument reads behind the call as it read before'; 0 by the template 'total and deterministic' (their statements: YtaapjampmnanmaaGreatTotals.lean).
  GIVEN WITH THE SEED: the statements are not yours to turn. If you find one false, say at which input.
  Laid BY PROGRAM, IN A SANDBOX (cutbox-rows.mjs): the forced cells as the released guide's own fill.sh prints them over the translation eb05866ecf772216… (all of the seat's roots in one cut). By AI agents, Wed Nov 11 2026. No macro, syntax, notation, axiom, sorry.
-/
import Derived.Test.YtaapjampmnanmaaGreatChecked
import GoSem.Claim
import GoSem.ClaimJoined
import GoSem.ClaimMapViews
import Derived.JoinedTies
import Derived.KernelRfl
namespace Go.Proofs.YtaapjampmnanmaaGreat
/- THE CELL 'sum', in the pinned program and in every row, IS THE sha256 OF THE DUMP (.gsa) THAT YtaapjampmnanmaaGreatProg.lean LOADS. Nothing in Lean hashes anything: it is a label: what it is worth is what the hold of that sum in a sandbox is worth. -/
noncomputable def Tryz.pinned : Pinned := { name := "ytaapjampmnanmaagreat", sum := "eb05866ecf77221639c9f12ed6accec6b694403897f106c7c3079124b76fd32d", checked := Tryz.checked }
namespace Rows
def none {H : Type} : Left H := { results := [], args := [] }

/-- 'portolanlaw13.ArchFinds': WHATEVER THE INPUT: true; the input reads as it did. -/
def archFindsSpec : ChangeSpec := { name := "archFinds", fn := fun _ => fun
  | [d1, d2] => { results := [.lit (.bool true)], args := [d1, d2] }
  | _ => none }
def archFindsRow : OpenClaim := { program := "ytaapjampmnanmaagreat", sum := "eb05866ecf77221639c9f12ed6accec6b694403897f106c7c3079124b76fd32d", func := "portolan/portolanlaw13.ArchFinds", spec := "archFinds", inPlace := ["internal/bytealg.IndexByte"], unfollowed := true, recurses := true, apart := false }
def ArchFindsSaid : Prop := archFindsRow.holds Tryz.pinned (OpenSpec.ofChange archFindsSpec)

/-- ITS FALSE NEIGHBOUR: 'it returns false'. Refute it at one input. -/
def archFindsWrong : ChangeSpec := { name := "archFinds", fn := fun _ => fun
  | [d1, d2] => { results := [.lit (.bool false)], args := [d1, d2] }
  | _ => none }
def ArchFindsWrongFalsely : Prop := archFindsRow.holds Tryz.pinned (OpenSpec.ofChange archFindsWrong)

/-- 'portolanlaw13.ArchTiles': WHATEVER THE INPUT: true; the input reads as it did. -/
def archTilesSpec : ChangeSpec := { name := "archTiles", fn := fun _ => fun
  | [d1, d2, d3, d4, d5] => { results := [.lit (.bool true)], args := [d1, d2, d3, d4, d5] }
  | _ => none }
def archTilesRow : OpenClaim := { program := "ytaapjampmnanmaagreat", sum := "eb05866ecf77221639c9f12ed6accec6b694403897f106c7c3079124b76fd32d", func := "portolan/portolanlaw13.ArchTiles", spec := "archTiles", inPlace := ["internal/bytealg.IndexByte"], unfollowed := true, recurses := true, apart := false }
def ArchTilesSaid : Prop := archTilesRow.holds Tryz.pinned (OpenSpec.ofChange archTilesSpec)

/-- ITS FALSE NEIGHBOUR: 'it returns false'. Refute it at one input. -/
def archTilesWrong : ChangeSpec := { name := "archTiles", fn := fun _ => fun
  | [d1, d2, d3, d4, d5] => { results := [.lit (.bool false)], args := [d1, d2, d3, d4, d5] }
  | _ => none }
def ArchTilesWrongFalsely : Prop := archTilesRow.holds Tryz.pinned (OpenSpec.ofChange archTilesWrong)

/-- 'portolanlaw14.PackBuilds': WHATEVER THE INPUT: true; the input reads as it did. -/
def packBuildsSpec : ChangeSpec := { name := "packBuilds", fn := fun _ => fun
  | [d1, d2] => { results := [.lit (.bool true)], args := [d1, d2] }
  | _ => none }
def packBuildsRow : OpenClaim := { program := "ytaapjampmnanmaagreat", sum := "eb05866ecf77221639c9f12ed6accec6b694403897f106c7c3079124b76fd32d", func := "portolan/portolanlaw14.PackBuilds", spec := "packBuilds", unfollowed := true, recurses := true, apart := false }
def PackBuildsSaid : Prop := packBuildsRow.holds Tryz.pinned (OpenSpec.ofChange packBuildsSpec)

/-- ITS FALSE NEIGHBOUR: 'it returns false'. Refute it at one input. -/
def packBuildsWrong : ChangeSpec := { name := "packBuilds", fn := fun _ => fun
  | [d1, d2] => { results := [.lit (.bool false)], args := [d1, d2] }
  | _ => none }
def PackBuildsWrongFalsely : Prop := packBuildsRow.holds Tryz.pinned (OpenSpec.ofChange packBuildsWrong)

/-- 'portolanlaw14.PackTiles': WHATEVER THE INPUT: true; the input reads as it did. -/
def packTilesSpec : ChangeSpec := { name := "packTiles", fn := fun _ => fun
  | [d1, d2, d3] => { results := [.lit (.bool true)], args := [d1, d2, d3] }
  | _ => none }
def packTilesRow : OpenClaim := { program := "ytaapjampmnanmaagreat", sum := "eb05866ecf77221639c9f12ed6accec6b694403897f106c7c3079124b76fd32d", func := "portolan/portolanlaw14.PackTiles", spec := "packTiles", inPlace := ["internal/bytealg.IndexByte"], unfollowed := true, recurses := true, apart := false }
def PackTilesSaid : Prop := packTilesRow.holds Tryz.pinned (OpenSpec.ofChange packTilesSpec)

/-- ITS FALSE NEIGHBOUR: 'it returns false'. Refute it at one input. -/
def packTilesWrong : ChangeSpec := { name := "packTiles", fn := fun _ => fun
  | [d1, d2, d3] => { results := [.lit (.bool false)], args := [d1, d2, d3] }
  | _ => none }
def PackTilesWrongFalsely : Prop := packTilesRow.holds Tryz.pinned (OpenSpec.ofChange packTilesWrong)

/- THE SECOND FORM. 'bulk': how many values and letters a reading holds, each counted each time it is reached (what is shared counts as often as it is met; a slice's spare places count too). A statement '..UptoSaid' is the law's where the arguments, and the package variables that the reading takes, are together of bulk at most 1048576: NARROWER than '..Said'. Prove '..Said' where nothing that the law and all that it calls make is longer than what came in: it says more and counts as full. Else prove '..UptoSaid'. A law counts once. -/
mutual
def uptoBulk {H : Type} : DataW H → Nat
  | .lit (.string bytes) => bytes.length + 1
  | .lit _ => 1
  | .nil => 1
  | .ptr d => uptoBulk d + 1
  | .slice elems spare => uptoBulkAll elems + uptoBulkAll spare + 1
  | .agg parts => uptoBulkAll parts + 1
  | .iface _ d => uptoBulk d + 1
  | .map entries => uptoBulkEntries entries + 1
  | .held _ => 1
def uptoBulkAll {H : Type} : List (DataW H) → Nat
  | [] => 0
  | d :: r => uptoBulk d + uptoBulkAll r
def uptoBulkEntries {H : Type} : List (Lit × DataW H) → Nat
  | [] => 0
  | x :: r => uptoBulkEntry x + uptoBulkEntries r
def uptoBulkEntry {H : Type} : Lit × DataW H → Nat
  | (.string bytes, d) => bytes.length + uptoBulk d + 1
  | (_, d) => uptoBulk d + 1
 end
def uptoSmall : (H : Type) → List (DataW H) → Bool := fun _ ds => decide (uptoBulkAll ds ≤ 1048576)
def OpenSpec.upto (s : _root_.Go.ChangeSpec) : _root_.Go.OpenSpec := { _root_.Go.OpenSpec.ofChange s with cond := some uptoSmall }

/-- 'portolanlaw13.ArchFinds', WHERE WHAT IT READS IS OF BULK AT MOST 1048576: true; the input reads as it did. -/
def archFindsUptoRow : OpenClaim := { program := "ytaapjampmnanmaagreat", sum := "eb05866ecf77221639c9f12ed6accec6b694403897f106c7c3079124b76fd32d", func := "portolan/portolanlaw13.ArchFinds", spec := "archFinds", inPlace := ["internal/bytealg.IndexByte"], unfollowed := true, recurses := true, apart := false, narrowed := true }
def ArchFindsUptoSaid : Prop := archFindsUptoRow.holds Tryz.pinned (OpenSpec.upto archFindsSpec)

/-- 'portolanlaw13.ArchTiles', WHERE WHAT IT READS IS OF BULK AT MOST 1048576: true; the input reads as it did. -/
def archTilesUptoRow : OpenClaim := { program := "ytaapjampmnanmaagreat", sum := "eb05866ecf77221639c9f12ed6accec6b694403897f106c7c3079124b76fd32d", func := "portolan/portolanlaw13.ArchTiles", spec := "archTiles", inPlace := ["internal/bytealg.IndexByte"], unfollowed := true, recurses := true, apart := false, narrowed := true }
def ArchTilesUptoSaid : Prop := archTilesUptoRow.holds Tryz.pinned (OpenSpec.upto archTilesSpec)

/-- 'portolanlaw14.PackBuilds', WHERE WHAT IT READS IS OF BULK AT MOST 1048576: true; the input reads as it did. -/
def packBuildsUptoRow : OpenClaim := { program := "ytaapjampmnanmaagreat", sum := "eb05866ecf77221639c9f12ed6accec6b694403897f106c7c3079124b76fd32d", func := "portolan/portolanlaw14.PackBuilds", spec := "packBuilds", unfollowed := true, recurses := true, apart := false, narrowed := true }
def PackBuildsUptoSaid : Prop := packBuildsUptoRow.holds Tryz.pinned (OpenSpec.upto packBuildsSpec)

/-- 'portolanlaw14.PackTiles', WHERE WHAT IT READS IS OF BULK AT MOST 1048576: true; the input reads as it did. -/
def packTilesUptoRow : OpenClaim := { program := "ytaapjampmnanmaagreat", sum := "eb05866ecf77221639c9f12ed6accec6b694403897f106c7c3079124b76fd32d", func := "portolan/portolanlaw14.PackTiles", spec := "packTiles", inPlace := ["internal/bytealg.IndexByte"], unfollowed := true, recurses := true, apart := false, narrowed := true }
def PackTilesUptoSaid : Prop := packTilesUptoRow.holds Tryz.pinned (OpenSpec.upto packTilesSpec)

end Rows
end Go.Proofs.YtaapjampmnanmaaGreat
