/-
  No cell of these rows narrows 'for every input' (looked for: loops, veiled, ifaces, maps, wideKeys, modest, calm, conditions, laid).
  DERIVED. THE GIVEN ROWS OF THIS SEAT. 10 by the template 'for every input the law returns true; each argument reads behind the call as it read before'; 0 by the template 'total and deterministic' (their statements: YtdjkoddnnogejaaGreatTotals.lean).
  GIVEN WITH THE SEED: the statements are not yours to turn. If you find one false, say at which input.
  Laid BY PROGRAM, IN A SANDBOX (cutbox-rows.mjs): the forced cells as the released guide's own fill.sh prints them over the translation 53df9fc21151a948… (all of the seat's roots in one cut). By AI agents, Wed Nov 11 2026. No macro, syntax, notation, axiom, sorry.
-/
import Derived.Test.YtdjkoddnnogejaaGreatChecked
import GoSem.Claim
import GoSem.ClaimJoined
import GoSem.ClaimMapViews
import Derived.JoinedTies
import Derived.KernelRfl
namespace Go.Proofs.YtdjkoddnnogejaaGreat
/- THE CELL 'sum', in the pinned program and in every row, IS THE sha256 OF THE DUMP (.gsa) THAT YtdjkoddnnogejaaGreatProg.lean LOADS. Nothing in Lean hashes anything: it is a label: what it is worth is what the hold of that sum in a sandbox is worth. -/
noncomputable def Tryz.pinned : Pinned := { name := "ytdjkoddnnogejaagreat", sum := "53df9fc21151a9482b50bbc34a00dce68818c16f9b954699cc30632a1beff5ec", checked := Tryz.checked }
namespace Rows
def none {H : Type} : Left H := { results := [], args := [] }

/-- 'patinalaw16.CheckTrees': WHATEVER THE INPUT: true; the input reads as it did. -/
def checkTreesSpec : ChangeSpec := { name := "checkTrees", fn := fun _ => fun
  | [d] => { results := [.lit (.bool true)], args := [d] }
  | _ => none }
def checkTreesRow : OpenClaim := { program := "ytdjkoddnnogejaagreat", sum := "53df9fc21151a9482b50bbc34a00dce68818c16f9b954699cc30632a1beff5ec", func := "patina/patinalaw16.CheckTrees", spec := "checkTrees", inPlace := ["internal/bytealg.IndexByteString", "internal/bytealg.IndexString"], unfollowed := true, recurses := true, named := ["internal/bytealg.MaxLen"], apart := false }
def CheckTreesSaid : Prop := checkTreesRow.holds Tryz.pinned (OpenSpec.ofChange checkTreesSpec)

/-- ITS FALSE NEIGHBOUR: 'it returns false'. Refute it at one input. -/
def checkTreesWrong : ChangeSpec := { name := "checkTrees", fn := fun _ => fun
  | [d] => { results := [.lit (.bool false)], args := [d] }
  | _ => none }
def CheckTreesWrongFalsely : Prop := checkTreesRow.holds Tryz.pinned (OpenSpec.ofChange checkTreesWrong)

/-- 'patinalaw16.CheckSources': WHATEVER THE INPUT: true; the input reads as it did. -/
def checkSourcesSpec : ChangeSpec := { name := "checkSources", fn := fun _ => fun
  | [d] => { results := [.lit (.bool true)], args := [d] }
  | _ => none }
def checkSourcesRow : OpenClaim := { program := "ytdjkoddnnogejaagreat", sum := "53df9fc21151a9482b50bbc34a00dce68818c16f9b954699cc30632a1beff5ec", func := "patina/patinalaw16.CheckSources", spec := "checkSources", inPlace := ["internal/bytealg.IndexByteString", "internal/bytealg.IndexString"], unfollowed := true, recurses := true, named := ["internal/bytealg.MaxLen"], apart := false }
def CheckSourcesSaid : Prop := checkSourcesRow.holds Tryz.pinned (OpenSpec.ofChange checkSourcesSpec)

/-- ITS FALSE NEIGHBOUR: 'it returns false'. Refute it at one input. -/
def checkSourcesWrong : ChangeSpec := { name := "checkSources", fn := fun _ => fun
  | [d] => { results := [.lit (.bool false)], args := [d] }
  | _ => none }
def CheckSourcesWrongFalsely : Prop := checkSourcesRow.holds Tryz.pinned (OpenSpec.ofChange checkSourcesWrong)

/-- 'patinalaw16.CheckNames': WHATEVER THE INPUT: true; the input reads as it did. -/
def checkNamesSpec : ChangeSpec := { name := "checkNames", fn := fun _ => fun
  | [d] => { results := [.lit (.bool true)], args := [d] }
  | _ => none }
def checkNamesRow : OpenClaim := { program := "ytdjkoddnnogejaagreat", sum := "53df9fc21151a9482b50bbc34a00dce68818c16f9b954699cc30632a1beff5ec", func := "patina/patinalaw16.CheckNames", spec := "checkNames", inPlace := ["internal/bytealg.IndexByteString", "internal/bytealg.IndexString"], unfollowed := true, recurses := true, named := ["internal/bytealg.MaxLen"], apart := false }
def CheckNamesSaid : Prop := checkNamesRow.holds Tryz.pinned (OpenSpec.ofChange checkNamesSpec)

/-- ITS FALSE NEIGHBOUR: 'it returns false'. Refute it at one input. -/
def checkNamesWrong : ChangeSpec := { name := "checkNames", fn := fun _ => fun
  | [d] => { results := [.lit (.bool false)], args := [d] }
  | _ => none }
def CheckNamesWrongFalsely : Prop := checkNamesRow.holds Tryz.pinned (OpenSpec.ofChange checkNamesWrong)

/-- 'patinalaw16.CheckRight': WHATEVER THE INPUT: true; the input reads as it did. -/
def checkRightSpec : ChangeSpec := { name := "checkRight", fn := fun _ => fun
  | [d] => { results := [.lit (.bool true)], args := [d] }
  | _ => none }
def checkRightRow : OpenClaim := { program := "ytdjkoddnnogejaagreat", sum := "53df9fc21151a9482b50bbc34a00dce68818c16f9b954699cc30632a1beff5ec", func := "patina/patinalaw16.CheckRight", spec := "checkRight", inPlace := ["internal/bytealg.IndexByteString", "internal/bytealg.IndexString"], unfollowed := true, recurses := true, named := ["internal/bytealg.MaxLen"], apart := false }
def CheckRightSaid : Prop := checkRightRow.holds Tryz.pinned (OpenSpec.ofChange checkRightSpec)

/-- ITS FALSE NEIGHBOUR: 'it returns false'. Refute it at one input. -/
def checkRightWrong : ChangeSpec := { name := "checkRight", fn := fun _ => fun
  | [d] => { results := [.lit (.bool false)], args := [d] }
  | _ => none }
def CheckRightWrongFalsely : Prop := checkRightRow.holds Tryz.pinned (OpenSpec.ofChange checkRightWrong)

/-- 'patinalaw16.CheckTyped': WHATEVER THE INPUT: true; the input reads as it did. -/
def checkTypedSpec : ChangeSpec := { name := "checkTyped", fn := fun _ => fun
  | [d1, d2] => { results := [.lit (.bool true)], args := [d1, d2] }
  | _ => none }
def checkTypedRow : OpenClaim := { program := "ytdjkoddnnogejaagreat", sum := "53df9fc21151a9482b50bbc34a00dce68818c16f9b954699cc30632a1beff5ec", func := "patina/patinalaw16.CheckTyped", spec := "checkTyped", inPlace := ["internal/bytealg.IndexByteString", "internal/bytealg.IndexString"], unfollowed := true, recurses := true, named := ["internal/bytealg.MaxLen"], apart := false }
def CheckTypedSaid : Prop := checkTypedRow.holds Tryz.pinned (OpenSpec.ofChange checkTypedSpec)

/-- ITS FALSE NEIGHBOUR: 'it returns false'. Refute it at one input. -/
def checkTypedWrong : ChangeSpec := { name := "checkTyped", fn := fun _ => fun
  | [d1, d2] => { results := [.lit (.bool false)], args := [d1, d2] }
  | _ => none }
def CheckTypedWrongFalsely : Prop := checkTypedRow.holds Tryz.pinned (OpenSpec.ofChange checkTypedWrong)

/-- 'patinalaw16.CheckPlaces': WHATEVER THE INPUT: true; the input reads as it did. -/
def checkPlacesSpec : ChangeSpec := { name := "checkPlaces", fn := fun _ => fun
  | [d1, d2] => { results := [.lit (.bool true)], args := [d1, d2] }
  | _ => none }
def checkPlacesRow : OpenClaim := { program := "ytdjkoddnnogejaagreat", sum := "53df9fc21151a9482b50bbc34a00dce68818c16f9b954699cc30632a1beff5ec", func := "patina/patinalaw16.CheckPlaces", spec := "checkPlaces", inPlace := ["internal/bytealg.IndexByteString", "internal/bytealg.IndexString"], unfollowed := true, recurses := true, named := ["internal/bytealg.MaxLen"], apart := false }
def CheckPlacesSaid : Prop := checkPlacesRow.holds Tryz.pinned (OpenSpec.ofChange checkPlacesSpec)

/-- ITS FALSE NEIGHBOUR: 'it returns false'. Refute it at one input. -/
def checkPlacesWrong : ChangeSpec := { name := "checkPlaces", fn := fun _ => fun
  | [d1, d2] => { results := [.lit (.bool false)], args := [d1, d2] }
  | _ => none }
def CheckPlacesWrongFalsely : Prop := checkPlacesRow.holds Tryz.pinned (OpenSpec.ofChange checkPlacesWrong)

/-- 'patinalaw17.CoverChecks': WHATEVER THE INPUT: true; the input reads as it did. -/
def coverChecksSpec : ChangeSpec := { name := "coverChecks", fn := fun _ => fun
  | [d] => { results := [.lit (.bool true)], args := [d] }
  | _ => none }
def coverChecksRow : OpenClaim := { program := "ytdjkoddnnogejaagreat", sum := "53df9fc21151a9482b50bbc34a00dce68818c16f9b954699cc30632a1beff5ec", func := "patina/patinalaw17.CoverChecks", spec := "coverChecks", inPlace := ["internal/bytealg.IndexByteString", "internal/bytealg.IndexString"], unfollowed := true, recurses := true, named := ["internal/bytealg.MaxLen"], apart := false }
def CoverChecksSaid : Prop := coverChecksRow.holds Tryz.pinned (OpenSpec.ofChange coverChecksSpec)

/-- ITS FALSE NEIGHBOUR: 'it returns false'. Refute it at one input. -/
def coverChecksWrong : ChangeSpec := { name := "coverChecks", fn := fun _ => fun
  | [d] => { results := [.lit (.bool false)], args := [d] }
  | _ => none }
def CoverChecksWrongFalsely : Prop := coverChecksRow.holds Tryz.pinned (OpenSpec.ofChange coverChecksWrong)

/-- 'patinalaw17.CoverAll': WHATEVER THE INPUT: true; the input reads as it did. -/
def coverAllSpec : ChangeSpec := { name := "coverAll", fn := fun _ => fun
  | [d1, d2, d3] => { results := [.lit (.bool true)], args := [d1, d2, d3] }
  | _ => none }
def coverAllRow : OpenClaim := { program := "ytdjkoddnnogejaagreat", sum := "53df9fc21151a9482b50bbc34a00dce68818c16f9b954699cc30632a1beff5ec", func := "patina/patinalaw17.CoverAll", spec := "coverAll", inPlace := ["internal/bytealg.IndexByteString", "internal/bytealg.IndexString"], unfollowed := true, recurses := true, named := ["internal/bytealg.MaxLen"], apart := false }
def CoverAllSaid : Prop := coverAllRow.holds Tryz.pinned (OpenSpec.ofChange coverAllSpec)

/-- ITS FALSE NEIGHBOUR: 'it returns false'. Refute it at one input. -/
def coverAllWrong : ChangeSpec := { name := "coverAll", fn := fun _ => fun
  | [d1, d2, d3] => { results := [.lit (.bool false)], args := [d1, d2, d3] }
  | _ => none }
def CoverAllWrongFalsely : Prop := coverAllRow.holds Tryz.pinned (OpenSpec.ofChange coverAllWrong)

/-- 'patinalaw17.CoverLast': WHATEVER THE INPUT: true; the input reads as it did. -/
def coverLastSpec : ChangeSpec := { name := "coverLast", fn := fun _ => fun
  | [d1, d2] => { results := [.lit (.bool true)], args := [d1, d2] }
  | _ => none }
def coverLastRow : OpenClaim := { program := "ytdjkoddnnogejaagreat", sum := "53df9fc21151a9482b50bbc34a00dce68818c16f9b954699cc30632a1beff5ec", func := "patina/patinalaw17.CoverLast", spec := "coverLast", inPlace := ["internal/bytealg.IndexByteString", "internal/bytealg.IndexString"], unfollowed := true, recurses := true, named := ["internal/bytealg.MaxLen"], apart := false }
def CoverLastSaid : Prop := coverLastRow.holds Tryz.pinned (OpenSpec.ofChange coverLastSpec)

/-- ITS FALSE NEIGHBOUR: 'it returns false'. Refute it at one input. -/
def coverLastWrong : ChangeSpec := { name := "coverLast", fn := fun _ => fun
  | [d1, d2] => { results := [.lit (.bool false)], args := [d1, d2] }
  | _ => none }
def CoverLastWrongFalsely : Prop := coverLastRow.holds Tryz.pinned (OpenSpec.ofChange coverLastWrong)

/-- 'patinalaw17.CoverMisses': WHATEVER THE INPUT: true; the input reads as it did. -/
def coverMissesSpec : ChangeSpec := { name := "coverMisses", fn := fun _ => fun
  | [d1, d2] => { results := [.lit (.bool true)], args := [d1, d2] }
  | _ => none }
def coverMissesRow : OpenClaim := { program := "ytdjkoddnnogejaagreat", sum := "53df9fc21151a9482b50bbc34a00dce68818c16f9b954699cc30632a1beff5ec", func := "patina/patinalaw17.CoverMisses", spec := "coverMisses", inPlace := ["internal/bytealg.IndexByteString", "internal/bytealg.IndexString"], unfollowed := true, recurses := true, named := ["internal/bytealg.MaxLen"], apart := false }
def CoverMissesSaid : Prop := coverMissesRow.holds Tryz.pinned (OpenSpec.ofChange coverMissesSpec)

/-- ITS FALSE NEIGHBOUR: 'it returns false'. Refute it at one input. -/
def coverMissesWrong : ChangeSpec := { name := "coverMisses", fn := fun _ => fun
  | [d1, d2] => { results := [.lit (.bool false)], args := [d1, d2] }
  | _ => none }
def CoverMissesWrongFalsely : Prop := coverMissesRow.holds Tryz.pinned (OpenSpec.ofChange coverMissesWrong)

/- THE SECOND FORM. 'bulk': how many values and letters a reading holds, each counted each time it is reached (what is shared counts as often as it is met; a slice's spare places count too). A statement '..UptoSaid' is the law's where the arguments, and the package variables that the reading takes, are together of bulk at most 1048576: NARROWER than '..Said'. Prove '..Said' where nothing that the law and all that it calls make is longer than what came in: it says more and counts as full. Else prove '..UptoSaid'. A law counts once. -/
mutual
def uptoBulk {H : Type} : DataW H → Nat
  | .lit (.string bytes) => bytes.length + 1
  | .lit _ => 1
  | .nil => 1
  | .ptr d => uptoBulk d + 1
  | .slice elems spare => uptoBulkAll elems + uptoBulkAll spare + 1
  | .agg parts => uptoBulkAll parts + 1
  | .iface _ d => uptoBulk d + 1
  | .map entries => uptoBulkEntries entries + 1
  | .held _ => 1
def uptoBulkAll {H : Type} : List (DataW H) → Nat
  | [] => 0
  | d :: r => uptoBulk d + uptoBulkAll r
def uptoBulkEntries {H : Type} : List (Lit × DataW H) → Nat
  | [] => 0
  | x :: r => uptoBulkEntry x + uptoBulkEntries r
def uptoBulkEntry {H : Type} : Lit × DataW H → Nat
  | (.string bytes, d) => bytes.length + uptoBulk d + 1
  | (_, d) => uptoBulk d + 1
 end
def uptoSmall : (H : Type) → List (DataW H) → Bool := fun _ ds => decide (uptoBulkAll ds ≤ 1048576)
def OpenSpec.upto (s : _root_.Go.ChangeSpec) : _root_.Go.OpenSpec := { _root_.Go.OpenSpec.ofChange s with cond := some uptoSmall }

/-- 'patinalaw16.CheckTrees', WHERE WHAT IT READS IS OF BULK AT MOST 1048576: true; the input reads as it did. -/
def checkTreesUptoRow : OpenClaim := { program := "ytdjkoddnnogejaagreat", sum := "53df9fc21151a9482b50bbc34a00dce68818c16f9b954699cc30632a1beff5ec", func := "patina/patinalaw16.CheckTrees", spec := "checkTrees", inPlace := ["internal/bytealg.IndexByteString", "internal/bytealg.IndexString"], unfollowed := true, recurses := true, named := ["internal/bytealg.MaxLen"], apart := false, narrowed := true }
def CheckTreesUptoSaid : Prop := checkTreesUptoRow.holds Tryz.pinned (OpenSpec.upto checkTreesSpec)

/-- 'patinalaw16.CheckSources', WHERE WHAT IT READS IS OF BULK AT MOST 1048576: true; the input reads as it did. -/
def checkSourcesUptoRow : OpenClaim := { program := "ytdjkoddnnogejaagreat", sum := "53df9fc21151a9482b50bbc34a00dce68818c16f9b954699cc30632a1beff5ec", func := "patina/patinalaw16.CheckSources", spec := "checkSources", inPlace := ["internal/bytealg.IndexByteString", "internal/bytealg.IndexString"], unfollowed := true, recurses := true, named := ["internal/bytealg.MaxLen"], apart := false, narrowed := true }
def CheckSourcesUptoSaid : Prop := checkSourcesUptoRow.holds Tryz.pinned (OpenSpec.upto checkSourcesSpec)

/-- 'patinalaw16.CheckNames', WHERE WHAT IT READS IS OF BULK AT MOST 1048576: true; the input reads as it did. -/
def checkNamesUptoRow : OpenClaim := { program := "ytdjkoddnnogejaagreat", sum := "53df9fc21151a9482b50bbc34a00dce68818c16f9b954699cc30632a1beff5ec", func := "patina/patinalaw16.CheckNames", spec := "checkNames", inPlace := ["internal/bytealg.IndexByteString", "internal/bytealg.IndexString"], unfollowed := true, recurses := true, named := ["internal/bytealg.MaxLen"], apart := false, narrowed := true }
def CheckNamesUptoSaid : Prop := checkNamesUptoRow.holds Tryz.pinned (OpenSpec.upto checkNamesSpec)

/-- 'patinalaw16.CheckRight', WHERE WHAT IT READS IS OF BULK AT MOST 1048576: true; the input reads as it did. -/
def checkRightUptoRow : OpenClaim := { program := "ytdjkoddnnogejaagreat", sum := "53df9fc21151a9482b50bbc34a00dce68818c16f9b954699cc30632a1beff5ec", func := "patina/patinalaw16.CheckRight", spec := "checkRight", inPlace := ["internal/bytealg.IndexByteString", "internal/bytealg.IndexString"], unfollowed := true, recurses := true, named := ["internal/bytealg.MaxLen"], apart := false, narrowed := true }
def CheckRightUptoSaid : Prop := checkRightUptoRow.holds Tryz.pinned (OpenSpec.upto checkRightSpec)

/-- 'patinalaw16.CheckTyped', WHERE WHAT IT READS IS OF BULK AT MOST 1048576: true; the input reads as it did. -/
def checkTypedUptoRow : OpenClaim := { program := "ytdjkoddnnogejaagreat", sum := "53df9fc21151a9482b50bbc34a00dce68818c16f9b954699cc30632a1beff5ec", func := "patina/patinalaw16.CheckTyped", spec := "checkTyped", inPlace := ["internal/bytealg.IndexByteString", "internal/bytealg.IndexString"], unfollowed := true, recurses := true, named := ["internal/bytealg.MaxLen"], apart := false, narrowed := true }
def CheckTypedUptoSaid : Prop := checkTypedUptoRow.holds Tryz.pinned (OpenSpec.upto checkTypedSpec)

/-- 'patinalaw16.CheckPlaces', WHERE WHAT IT READS IS OF BULK AT MOST 1048576: true; the input reads as it did. -/
def checkPlacesUptoRow : OpenClaim := { program := "ytdjkoddnnogejaagreat", sum := "53df9fc21151a9482b50bbc34a00dce68818c16f9b954699cc30632a1beff5ec", func := "patina/patinalaw16.CheckPlaces", spec := "checkPlaces", inPlace := ["internal/bytealg.IndexByteString", "internal/bytealg.IndexString"], unfollowed := true, recurses := true, named := ["internal/bytealg.MaxLen"], apart := false, narrowed := true }
def CheckPlacesUptoSaid : Prop := checkPlacesUptoRow.holds Tryz.pinned (OpenSpec.upto checkPlacesSpec)

/-- 'patinalaw17.CoverChecks', WHERE WHAT IT READS IS OF BULK AT MOST 1048576: true; the input reads as it did. -/
def coverChecksUptoRow : OpenClaim := { program := "ytdjkoddnnogejaagreat", sum := "53df9fc21151a9482b50bbc34a00dce68818c16f9b954699cc30632a1beff5ec", func := "patina/patinalaw17.CoverChecks", spec := "coverChecks", inPlace := ["internal/bytealg.IndexByteString", "internal/bytealg.IndexString"], unfollowed := true, recurses := true, named := ["internal/bytealg.MaxLen"], apart := false, narrowed := true }
def CoverChecksUptoSaid : Prop := coverChecksUptoRow.holds Tryz.pinned (OpenSpec.upto coverChecksSpec)

/-- 'patinalaw17.CoverAll', WHERE WHAT IT READS IS OF BULK AT MOST 1048576: true; the input reads as it did. -/
def coverAllUptoRow : OpenClaim := { program := "ytdjkoddnnogejaagreat", sum := "53df9fc21151a9482b50bbc34a00dce68818c16f9b954699cc30632a1beff5ec", func := "patina/patinalaw17.CoverAll", spec := "coverAll", inPlace := ["internal/bytealg.IndexByteString", "internal/bytealg.IndexString"], unfollowed := true, recurses := true, named := ["internal/bytealg.MaxLen"], apart := false, narrowed := true }
def CoverAllUptoSaid : Prop := coverAllUptoRow.holds Tryz.pinned (OpenSpec.upto coverAllSpec)

/-- 'patinalaw17.CoverLast', WHERE WHAT IT READS IS OF BULK AT MOST 1048576: true; the input reads as it did. -/
def coverLastUptoRow : OpenClaim := { program := "ytdjkoddnnogejaagreat", sum := "53df9fc21151a9482b50bbc34a00dce68818c16f9b954699cc30632a1beff5ec", func := "patina/patinalaw17.CoverLast", spec := "coverLast", inPlace := ["internal/bytealg.IndexByteString", "internal/bytealg.IndexString"], unfollowed := true, recurses := true, named := ["internal/bytealg.MaxLen"], apart := false, narrowed := true }
def CoverLastUptoSaid : Prop := coverLastUptoRow.holds Tryz.pinned (OpenSpec.upto coverLastSpec)

/-- 'patinalaw17.CoverMisses', WHERE WHAT IT READS IS OF BULK AT MOST 1048576: true; the input reads as it did. -/
def coverMissesUptoRow : OpenClaim := { program := "ytdjkoddnnogejaagreat", sum := "53df9fc21151a9482b50bbc34a00dce68818c16f9b954699cc30632a1beff5ec", func := "patina/patinalaw17.CoverMisses", spec := "coverMisses", inPlace := ["internal/bytealg.IndexByteString", "internal/bytealg.IndexString"], unfollowed := true, recurses := true, named := ["internal/bytealg.MaxLen"], apart := false, narrowed := true }
def CoverMissesUptoSaid : Prop := coverMissesUptoRow.holds Tryz.pinned (OpenSpec.upto coverMissesSpec)

end Rows
end Go.Proofs.YtdjkoddnnogejaaGreat
