/-
  No cell of these rows narrows 'for every input' (looked for: loops, veiled, ifaces, maps, wideKeys, modest, calm, conditions, laid).
  DERIVED. THE GIVEN ROWS OF THIS SEAT. 2 by the template 'for every input the law returns true; each argument reads behind the call as it read before'; 0 by the template 'total and deterministic' (their statements: YtaapjampmnanmaaTotals.lean).
  GIVEN WITH THE SEED: the statements are not yours to turn. If you find one false, say at which input.
  Laid BY PROGRAM, IN A SANDBOX (cutbox-rows.mjs): the forced cells as the released guide's own fill.sh prints them over the translation a6411bb2f21e5c08… (all of the seat's roots in one cut). By AI agents, Wed Nov 11 2026. No macro, syntax, notation, axiom, sorry.
-/
import Derived.Test.YtaapjampmnanmaaChecked
import GoSem.Claim
import GoSem.ClaimJoined
import GoSem.ClaimMapViews
import Derived.JoinedTies
import Derived.KernelRfl
namespace Go.Proofs.Ytaapjampmnanmaa
/- THE CELL 'sum', in the pinned program and in every row, IS THE sha256 OF THE DUMP (.gsa) THAT YtaapjampmnanmaaProg.lean LOADS. Nothing in Lean hashes anything: it is a label: what it is worth is what the hold of that sum in a sandbox is worth. -/
noncomputable def Try.pinned : Pinned := { name := "ytaapjampmnanmaa", sum := "a6411bb2f21e5c080f1a6bf18652183773e75e975fef475a661cf9ec916daf4d", checked := Try.checked }
namespace Rows
def none {H : Type} : Left H := { results := [], args := [] }

/-- 'portolanlaw14.PackEntries': WHATEVER THE INPUT: true; the input reads as it did. -/
def packEntriesSpec : ChangeSpec := { name := "packEntries", fn := fun _ => fun
  | [d1, d2, d3, d4] => { results := [.lit (.bool true)], args := [d1, d2, d3, d4] }
  | _ => none }
def packEntriesRow : OpenClaim := { program := "ytaapjampmnanmaa", sum := "a6411bb2f21e5c080f1a6bf18652183773e75e975fef475a661cf9ec916daf4d", func := "portolan/portolanlaw14.PackEntries", spec := "packEntries", unfollowed := true, recurses := true, apart := false }
def PackEntriesSaid : Prop := packEntriesRow.holds Try.pinned (OpenSpec.ofChange packEntriesSpec)

/-- ITS FALSE NEIGHBOUR: 'it returns false'. Refute it at one input. -/
def packEntriesWrong : ChangeSpec := { name := "packEntries", fn := fun _ => fun
  | [d1, d2, d3, d4] => { results := [.lit (.bool false)], args := [d1, d2, d3, d4] }
  | _ => none }
def PackEntriesWrongFalsely : Prop := packEntriesRow.holds Try.pinned (OpenSpec.ofChange packEntriesWrong)

/-- 'portolanlaw13.ArchOthers': WHATEVER THE INPUT: true; the input reads as it did. -/
def archOthersSpec : ChangeSpec := { name := "archOthers", fn := fun _ => fun
  | [d1, d2, d3, d4] => { results := [.lit (.bool true)], args := [d1, d2, d3, d4] }
  | _ => none }
def archOthersRow : OpenClaim := { program := "ytaapjampmnanmaa", sum := "a6411bb2f21e5c080f1a6bf18652183773e75e975fef475a661cf9ec916daf4d", func := "portolan/portolanlaw13.ArchOthers", spec := "archOthers", inPlace := ["internal/bytealg.IndexByte"], unfollowed := true, recurses := true, apart := false }
def ArchOthersSaid : Prop := archOthersRow.holds Try.pinned (OpenSpec.ofChange archOthersSpec)

/-- ITS FALSE NEIGHBOUR: 'it returns false'. Refute it at one input. -/
def archOthersWrong : ChangeSpec := { name := "archOthers", fn := fun _ => fun
  | [d1, d2, d3, d4] => { results := [.lit (.bool false)], args := [d1, d2, d3, d4] }
  | _ => none }
def ArchOthersWrongFalsely : Prop := archOthersRow.holds Try.pinned (OpenSpec.ofChange archOthersWrong)

/- THE SECOND FORM. 'bulk': how many values and letters a reading holds, each counted each time it is reached (what is shared counts as often as it is met; a slice's spare places count too). A statement '..UptoSaid' is the law's where the arguments, and the package variables that the reading takes, are together of bulk at most 1048576: NARROWER than '..Said'. Prove '..Said' where nothing that the law and all that it calls make is longer than what came in: it says more and counts as full. Else prove '..UptoSaid'. A law counts once. -/
mutual
def uptoBulk {H : Type} : DataW H → Nat
  | .lit (.string bytes) => bytes.length + 1
  | .lit _ => 1
  | .nil => 1
  | .ptr d => uptoBulk d + 1
  | .slice elems spare => uptoBulkAll elems + uptoBulkAll spare + 1
  | .agg parts => uptoBulkAll parts + 1
  | .iface _ d => uptoBulk d + 1
  | .map entries => uptoBulkEntries entries + 1
  | .held _ => 1
def uptoBulkAll {H : Type} : List (DataW H) → Nat
  | [] => 0
  | d :: r => uptoBulk d + uptoBulkAll r
def uptoBulkEntries {H : Type} : List (Lit × DataW H) → Nat
  | [] => 0
  | x :: r => uptoBulkEntry x + uptoBulkEntries r
def uptoBulkEntry {H : Type} : Lit × DataW H → Nat
  | (.string bytes, d) => bytes.length + uptoBulk d + 1
  | (_, d) => uptoBulk d + 1
 end
def uptoSmall : (H : Type) → List (DataW H) → Bool := fun _ ds => decide (uptoBulkAll ds ≤ 1048576)
def OpenSpec.upto (s : _root_.Go.ChangeSpec) : _root_.Go.OpenSpec := { _root_.Go.OpenSpec.ofChange s with cond := some uptoSmall }

/-- 'portolanlaw14.PackEntries', WHERE WHAT IT READS IS OF BULK AT MOST 1048576: true; the input reads as it did. -/
def packEntriesUptoRow : OpenClaim := { program := "ytaapjampmnanmaa", sum := "a6411bb2f21e5c080f1a6bf18652183773e75e975fef475a661cf9ec916daf4d", func := "portolan/portolanlaw14.PackEntries", spec := "packEntries", unfollowed := true, recurses := true, apart := false, narrowed := true }
def PackEntriesUptoSaid : Prop := packEntriesUptoRow.holds Try.pinned (OpenSpec.upto packEntriesSpec)

/-- 'portolanlaw13.ArchOthers', WHERE WHAT IT READS IS OF BULK AT MOST 1048576: true; the input reads as it did. -/
def archOthersUptoRow : OpenClaim := { program := "ytaapjampmnanmaa", sum := "a6411bb2f21e5c080f1a6bf18652183773e75e975fef475a661cf9ec916daf4d", func := "portolan/portolanlaw13.ArchOthers", spec := "archOthers", inPlace := ["internal/bytealg.IndexByte"], unfollowed := true, recurses := true, apart := false, narrowed := true }
def ArchOthersUptoSaid : Prop := archOthersUptoRow.holds Try.pinned (OpenSpec.upto archOthersSpec)

end Rows
end Go.Proofs.Ytaapjampmnanmaa
