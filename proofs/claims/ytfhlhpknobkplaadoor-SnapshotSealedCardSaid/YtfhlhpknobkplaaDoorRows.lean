/-
  NARROWER THAN 'FOR EVERY INPUT', by the rows' own cells (each row's printed sentence says how): SnapshotSums: laid · SnapshotReads: laid · SnapshotSealed: laid · SnapshotBack: laid · SnapshotOnly: laid · SnapshotSpoilt: laid · SnapshotBytes: laid.
  DERIVED. THE GIVEN ROWS OF THIS SEAT. 7 by the template 'for every input the law returns true; each argument reads behind the call as it read before'; 0 by the template 'total and deterministic' (their statements: YtfhlhpknobkplaaDoorTotals.lean).
  GIVEN WITH THE SEED: the statements are not yours to turn. If you find one false, say at which input.
  Laid BY PROGRAM, IN A SANDBOX (cutbox-rows.mjs): the forced cells as the released guide's own fill.sh prints them over the translation 84e9f4f460b06cfc… (all of the seat's roots in one cut). By AI agents, Wed Nov 11 2026. No macro, syntax, notation, axiom, sorry.
-/
import Derived.Test.YtfhlhpknobkplaaDoorChecked
import GoSem.Claim
import GoSem.ClaimJoined
import GoSem.ClaimMapViews
import Derived.JoinedTies
import Derived.KernelRfl
namespace Go.Proofs.YtfhlhpknobkplaaDoor
/- THE CELL 'sum', in the pinned program and in every row, IS THE sha256 OF THE DUMP (.gsa) THAT YtfhlhpknobkplaaDoorProg.lean LOADS. Nothing in Lean hashes anything: it is a label: what it is worth is what the hold of that sum in a sandbox is worth. -/
noncomputable def Tryd.pinned : Pinned := { name := "ytfhlhpknobkplaadoor", sum := "84e9f4f460b06cfc266e94f224a0b00e9e2b7bdce01e4b5f581a4c0367b92916", checked := Tryd.checked }
namespace Rows
def none {H : Type} : Left H := { results := [], args := [] }

/- WHAT THE LISTED PACKAGE-LEVEL VARIABLES READ AS WHEN THE CALL BEGINS. Each datum BY PROGRAM (the guide's laid-datum.mjs) off the statement by which the dump's own 'gosem.cut.vars' lays the variable. In a bare row this is a premise. The card (YtfhlhpknobkplaaDoorCards.lean) ties it to the program's text. -/
def laid_millpond_snapshot_half {H : Type} : DataW H := .agg [.lit (.int .u32 0), .lit (.int .u32 498536548), .lit (.int .u32 997073096), .lit (.int .u32 651767980), .lit (.int .u32 1994146192), .lit (.int .u32 1802195444), .lit (.int .u32 1303535960), .lit (.int .u32 1342533948), .lit (.int .u32 3988292384), .lit (.int .u32 4027552580), .lit (.int .u32 3604390888), .lit (.int .u32 3412177804), .lit (.int .u32 2607071920), .lit (.int .u32 2262029012), .lit (.int .u32 2685067896), .lit (.int .u32 3183342108)]

/-- 'millpondlaw20.SnapshotSums': WHATEVER THE INPUT: true; the input reads as it did. -/
def snapshotSumsSpec : ChangeSpec := { name := "snapshotSums", fn := fun _ => fun
  | [d1, d2] => { results := [.lit (.bool true)], args := [d1, d2] }
  | _ => none }
def snapshotSumsRow : OpenClaim := { program := "ytfhlhpknobkplaadoor", sum := "84e9f4f460b06cfc266e94f224a0b00e9e2b7bdce01e4b5f581a4c0367b92916", func := "millpond/millpondlaw20.SnapshotSums", spec := "snapshotSums", inPlace := ["internal/bytealg.abigen_runtime_cmpstring"], unfollowed := true, recurses := true, named := ["millpond/snapshot.half"], apart := false, laid := [("millpond/snapshot.half", laid_millpond_snapshot_half)] }
def SnapshotSumsSaid : Prop := snapshotSumsRow.holds Tryd.pinned (OpenSpec.ofChange snapshotSumsSpec)

/-- ITS FALSE NEIGHBOUR: 'it returns false'. Refute it at one input. -/
def snapshotSumsWrong : ChangeSpec := { name := "snapshotSums", fn := fun _ => fun
  | [d1, d2] => { results := [.lit (.bool false)], args := [d1, d2] }
  | _ => none }
def SnapshotSumsWrongFalsely : Prop := snapshotSumsRow.holds Tryd.pinned (OpenSpec.ofChange snapshotSumsWrong)

/-- 'millpondlaw20.SnapshotReads': WHATEVER THE INPUT: true; the input reads as it did. -/
def snapshotReadsSpec : ChangeSpec := { name := "snapshotReads", fn := fun _ => fun
  | [d] => { results := [.lit (.bool true)], args := [d] }
  | _ => none }
def snapshotReadsRow : OpenClaim := { program := "ytfhlhpknobkplaadoor", sum := "84e9f4f460b06cfc266e94f224a0b00e9e2b7bdce01e4b5f581a4c0367b92916", func := "millpond/millpondlaw20.SnapshotReads", spec := "snapshotReads", inPlace := ["internal/bytealg.abigen_runtime_cmpstring"], unfollowed := true, recurses := true, named := ["millpond/snapshot.half"], apart := false, laid := [("millpond/snapshot.half", laid_millpond_snapshot_half)] }
def SnapshotReadsSaid : Prop := snapshotReadsRow.holds Tryd.pinned (OpenSpec.ofChange snapshotReadsSpec)

/-- ITS FALSE NEIGHBOUR: 'it returns false'. Refute it at one input. -/
def snapshotReadsWrong : ChangeSpec := { name := "snapshotReads", fn := fun _ => fun
  | [d] => { results := [.lit (.bool false)], args := [d] }
  | _ => none }
def SnapshotReadsWrongFalsely : Prop := snapshotReadsRow.holds Tryd.pinned (OpenSpec.ofChange snapshotReadsWrong)

/-- 'millpondlaw20.SnapshotSealed': WHATEVER THE INPUT: true; the input reads as it did. -/
def snapshotSealedSpec : ChangeSpec := { name := "snapshotSealed", fn := fun _ => fun
  | [d] => { results := [.lit (.bool true)], args := [d] }
  | _ => none }
def snapshotSealedRow : OpenClaim := { program := "ytfhlhpknobkplaadoor", sum := "84e9f4f460b06cfc266e94f224a0b00e9e2b7bdce01e4b5f581a4c0367b92916", func := "millpond/millpondlaw20.SnapshotSealed", spec := "snapshotSealed", inPlace := ["internal/bytealg.abigen_runtime_cmpstring"], unfollowed := true, recurses := true, named := ["millpond/snapshot.half"], apart := false, laid := [("millpond/snapshot.half", laid_millpond_snapshot_half)] }
def SnapshotSealedSaid : Prop := snapshotSealedRow.holds Tryd.pinned (OpenSpec.ofChange snapshotSealedSpec)

/-- ITS FALSE NEIGHBOUR: 'it returns false'. Refute it at one input. -/
def snapshotSealedWrong : ChangeSpec := { name := "snapshotSealed", fn := fun _ => fun
  | [d] => { results := [.lit (.bool false)], args := [d] }
  | _ => none }
def SnapshotSealedWrongFalsely : Prop := snapshotSealedRow.holds Tryd.pinned (OpenSpec.ofChange snapshotSealedWrong)

/-- 'millpondlaw20.SnapshotBack': WHATEVER THE INPUT: true; the input reads as it did. -/
def snapshotBackSpec : ChangeSpec := { name := "snapshotBack", fn := fun _ => fun
  | [d1, d2] => { results := [.lit (.bool true)], args := [d1, d2] }
  | _ => none }
def snapshotBackRow : OpenClaim := { program := "ytfhlhpknobkplaadoor", sum := "84e9f4f460b06cfc266e94f224a0b00e9e2b7bdce01e4b5f581a4c0367b92916", func := "millpond/millpondlaw20.SnapshotBack", spec := "snapshotBack", inPlace := ["internal/bytealg.abigen_runtime_cmpstring"], unfollowed := true, recurses := true, named := ["millpond/snapshot.half"], apart := false, laid := [("millpond/snapshot.half", laid_millpond_snapshot_half)] }
def SnapshotBackSaid : Prop := snapshotBackRow.holds Tryd.pinned (OpenSpec.ofChange snapshotBackSpec)

/-- ITS FALSE NEIGHBOUR: 'it returns false'. Refute it at one input. -/
def snapshotBackWrong : ChangeSpec := { name := "snapshotBack", fn := fun _ => fun
  | [d1, d2] => { results := [.lit (.bool false)], args := [d1, d2] }
  | _ => none }
def SnapshotBackWrongFalsely : Prop := snapshotBackRow.holds Tryd.pinned (OpenSpec.ofChange snapshotBackWrong)

/-- 'millpondlaw20.SnapshotOnly': WHATEVER THE INPUT: true; the input reads as it did. -/
def snapshotOnlySpec : ChangeSpec := { name := "snapshotOnly", fn := fun _ => fun
  | [d] => { results := [.lit (.bool true)], args := [d] }
  | _ => none }
def snapshotOnlyRow : OpenClaim := { program := "ytfhlhpknobkplaadoor", sum := "84e9f4f460b06cfc266e94f224a0b00e9e2b7bdce01e4b5f581a4c0367b92916", func := "millpond/millpondlaw20.SnapshotOnly", spec := "snapshotOnly", inPlace := ["internal/bytealg.abigen_runtime_cmpstring"], unfollowed := true, recurses := true, named := ["millpond/snapshot.half"], apart := false, laid := [("millpond/snapshot.half", laid_millpond_snapshot_half)] }
def SnapshotOnlySaid : Prop := snapshotOnlyRow.holds Tryd.pinned (OpenSpec.ofChange snapshotOnlySpec)

/-- ITS FALSE NEIGHBOUR: 'it returns false'. Refute it at one input. -/
def snapshotOnlyWrong : ChangeSpec := { name := "snapshotOnly", fn := fun _ => fun
  | [d] => { results := [.lit (.bool false)], args := [d] }
  | _ => none }
def SnapshotOnlyWrongFalsely : Prop := snapshotOnlyRow.holds Tryd.pinned (OpenSpec.ofChange snapshotOnlyWrong)

/-- 'millpondlaw20.SnapshotSpoilt': WHATEVER THE INPUT: true; the input reads as it did. -/
def snapshotSpoiltSpec : ChangeSpec := { name := "snapshotSpoilt", fn := fun _ => fun
  | [d1, d2, d3, d4] => { results := [.lit (.bool true)], args := [d1, d2, d3, d4] }
  | _ => none }
def snapshotSpoiltRow : OpenClaim := { program := "ytfhlhpknobkplaadoor", sum := "84e9f4f460b06cfc266e94f224a0b00e9e2b7bdce01e4b5f581a4c0367b92916", func := "millpond/millpondlaw20.SnapshotSpoilt", spec := "snapshotSpoilt", inPlace := ["internal/bytealg.abigen_runtime_cmpstring"], unfollowed := true, recurses := true, named := ["millpond/snapshot.half"], apart := false, laid := [("millpond/snapshot.half", laid_millpond_snapshot_half)] }
def SnapshotSpoiltSaid : Prop := snapshotSpoiltRow.holds Tryd.pinned (OpenSpec.ofChange snapshotSpoiltSpec)

/-- ITS FALSE NEIGHBOUR: 'it returns false'. Refute it at one input. -/
def snapshotSpoiltWrong : ChangeSpec := { name := "snapshotSpoilt", fn := fun _ => fun
  | [d1, d2, d3, d4] => { results := [.lit (.bool false)], args := [d1, d2, d3, d4] }
  | _ => none }
def SnapshotSpoiltWrongFalsely : Prop := snapshotSpoiltRow.holds Tryd.pinned (OpenSpec.ofChange snapshotSpoiltWrong)

/-- 'millpondlaw20.SnapshotBytes': WHATEVER THE INPUT: true; the input reads as it did. -/
def snapshotBytesSpec : ChangeSpec := { name := "snapshotBytes", fn := fun _ => fun
  | [d1, d2] => { results := [.lit (.bool true)], args := [d1, d2] }
  | _ => none }
def snapshotBytesRow : OpenClaim := { program := "ytfhlhpknobkplaadoor", sum := "84e9f4f460b06cfc266e94f224a0b00e9e2b7bdce01e4b5f581a4c0367b92916", func := "millpond/millpondlaw20.SnapshotBytes", spec := "snapshotBytes", inPlace := ["internal/bytealg.abigen_runtime_cmpstring"], unfollowed := true, recurses := true, named := ["millpond/snapshot.half"], apart := false, laid := [("millpond/snapshot.half", laid_millpond_snapshot_half)] }
def SnapshotBytesSaid : Prop := snapshotBytesRow.holds Tryd.pinned (OpenSpec.ofChange snapshotBytesSpec)

/-- ITS FALSE NEIGHBOUR: 'it returns false'. Refute it at one input. -/
def snapshotBytesWrong : ChangeSpec := { name := "snapshotBytes", fn := fun _ => fun
  | [d1, d2] => { results := [.lit (.bool false)], args := [d1, d2] }
  | _ => none }
def SnapshotBytesWrongFalsely : Prop := snapshotBytesRow.holds Tryd.pinned (OpenSpec.ofChange snapshotBytesWrong)

/- THE SECOND FORM. 'bulk': how many values and letters a reading holds, each counted each time it is reached (what is shared counts as often as it is met; a slice's spare places count too). A statement '..UptoSaid' is the law's where the arguments, and the package variables that the reading takes, are together of bulk at most 1048576: NARROWER than '..Said'. Prove '..Said' where nothing that the law and all that it calls make is longer than what came in: it says more and counts as full. Else prove '..UptoSaid'. A law counts once. -/
mutual
def uptoBulk {H : Type} : DataW H → Nat
  | .lit (.string bytes) => bytes.length + 1
  | .lit _ => 1
  | .nil => 1
  | .ptr d => uptoBulk d + 1
  | .slice elems spare => uptoBulkAll elems + uptoBulkAll spare + 1
  | .agg parts => uptoBulkAll parts + 1
  | .iface _ d => uptoBulk d + 1
  | .map entries => uptoBulkEntries entries + 1
  | .held _ => 1
def uptoBulkAll {H : Type} : List (DataW H) → Nat
  | [] => 0
  | d :: r => uptoBulk d + uptoBulkAll r
def uptoBulkEntries {H : Type} : List (Lit × DataW H) → Nat
  | [] => 0
  | x :: r => uptoBulkEntry x + uptoBulkEntries r
def uptoBulkEntry {H : Type} : Lit × DataW H → Nat
  | (.string bytes, d) => bytes.length + uptoBulk d + 1
  | (_, d) => uptoBulk d + 1
 end
def uptoSmall : (H : Type) → List (DataW H) → Bool := fun _ ds => decide (uptoBulkAll ds ≤ 1048576)
def OpenSpec.upto (s : _root_.Go.ChangeSpec) : _root_.Go.OpenSpec := { _root_.Go.OpenSpec.ofChange s with cond := some uptoSmall }

/-- 'millpondlaw20.SnapshotSums', WHERE WHAT IT READS IS OF BULK AT MOST 1048576: true; the input reads as it did. -/
def snapshotSumsUptoRow : OpenClaim := { program := "ytfhlhpknobkplaadoor", sum := "84e9f4f460b06cfc266e94f224a0b00e9e2b7bdce01e4b5f581a4c0367b92916", func := "millpond/millpondlaw20.SnapshotSums", spec := "snapshotSums", inPlace := ["internal/bytealg.abigen_runtime_cmpstring"], unfollowed := true, recurses := true, named := ["millpond/snapshot.half"], apart := false, laid := [("millpond/snapshot.half", laid_millpond_snapshot_half)], narrowed := true }
def SnapshotSumsUptoSaid : Prop := snapshotSumsUptoRow.holds Tryd.pinned (OpenSpec.upto snapshotSumsSpec)

/-- 'millpondlaw20.SnapshotReads', WHERE WHAT IT READS IS OF BULK AT MOST 1048576: true; the input reads as it did. -/
def snapshotReadsUptoRow : OpenClaim := { program := "ytfhlhpknobkplaadoor", sum := "84e9f4f460b06cfc266e94f224a0b00e9e2b7bdce01e4b5f581a4c0367b92916", func := "millpond/millpondlaw20.SnapshotReads", spec := "snapshotReads", inPlace := ["internal/bytealg.abigen_runtime_cmpstring"], unfollowed := true, recurses := true, named := ["millpond/snapshot.half"], apart := false, laid := [("millpond/snapshot.half", laid_millpond_snapshot_half)], narrowed := true }
def SnapshotReadsUptoSaid : Prop := snapshotReadsUptoRow.holds Tryd.pinned (OpenSpec.upto snapshotReadsSpec)

/-- 'millpondlaw20.SnapshotSealed', WHERE WHAT IT READS IS OF BULK AT MOST 1048576: true; the input reads as it did. -/
def snapshotSealedUptoRow : OpenClaim := { program := "ytfhlhpknobkplaadoor", sum := "84e9f4f460b06cfc266e94f224a0b00e9e2b7bdce01e4b5f581a4c0367b92916", func := "millpond/millpondlaw20.SnapshotSealed", spec := "snapshotSealed", inPlace := ["internal/bytealg.abigen_runtime_cmpstring"], unfollowed := true, recurses := true, named := ["millpond/snapshot.half"], apart := false, laid := [("millpond/snapshot.half", laid_millpond_snapshot_half)], narrowed := true }
def SnapshotSealedUptoSaid : Prop := snapshotSealedUptoRow.holds Tryd.pinned (OpenSpec.upto snapshotSealedSpec)

/-- 'millpondlaw20.SnapshotBack', WHERE WHAT IT READS IS OF BULK AT MOST 1048576: true; the input reads as it did. -/
def snapshotBackUptoRow : OpenClaim := { program := "ytfhlhpknobkplaadoor", sum := "84e9f4f460b06cfc266e94f224a0b00e9e2b7bdce01e4b5f581a4c0367b92916", func := "millpond/millpondlaw20.SnapshotBack", spec := "snapshotBack", inPlace := ["internal/bytealg.abigen_runtime_cmpstring"], unfollowed := true, recurses := true, named := ["millpond/snapshot.half"], apart := false, laid := [("millpond/snapshot.half", laid_millpond_snapshot_half)], narrowed := true }
def SnapshotBackUptoSaid : Prop := snapshotBackUptoRow.holds Tryd.pinned (OpenSpec.upto snapshotBackSpec)

/-- 'millpondlaw20.SnapshotOnly', WHERE WHAT IT READS IS OF BULK AT MOST 1048576: true; the input reads as it did. -/
def snapshotOnlyUptoRow : OpenClaim := { program := "ytfhlhpknobkplaadoor", sum := "84e9f4f460b06cfc266e94f224a0b00e9e2b7bdce01e4b5f581a4c0367b92916", func := "millpond/millpondlaw20.SnapshotOnly", spec := "snapshotOnly", inPlace := ["internal/bytealg.abigen_runtime_cmpstring"], unfollowed := true, recurses := true, named := ["millpond/snapshot.half"], apart := false, laid := [("millpond/snapshot.half", laid_millpond_snapshot_half)], narrowed := true }
def SnapshotOnlyUptoSaid : Prop := snapshotOnlyUptoRow.holds Tryd.pinned (OpenSpec.upto snapshotOnlySpec)

/-- 'millpondlaw20.SnapshotSpoilt', WHERE WHAT IT READS IS OF BULK AT MOST 1048576: true; the input reads as it did. -/
def snapshotSpoiltUptoRow : OpenClaim := { program := "ytfhlhpknobkplaadoor", sum := "84e9f4f460b06cfc266e94f224a0b00e9e2b7bdce01e4b5f581a4c0367b92916", func := "millpond/millpondlaw20.SnapshotSpoilt", spec := "snapshotSpoilt", inPlace := ["internal/bytealg.abigen_runtime_cmpstring"], unfollowed := true, recurses := true, named := ["millpond/snapshot.half"], apart := false, laid := [("millpond/snapshot.half", laid_millpond_snapshot_half)], narrowed := true }
def SnapshotSpoiltUptoSaid : Prop := snapshotSpoiltUptoRow.holds Tryd.pinned (OpenSpec.upto snapshotSpoiltSpec)

/-- 'millpondlaw20.SnapshotBytes', WHERE WHAT IT READS IS OF BULK AT MOST 1048576: true; the input reads as it did. -/
def snapshotBytesUptoRow : OpenClaim := { program := "ytfhlhpknobkplaadoor", sum := "84e9f4f460b06cfc266e94f224a0b00e9e2b7bdce01e4b5f581a4c0367b92916", func := "millpond/millpondlaw20.SnapshotBytes", spec := "snapshotBytes", inPlace := ["internal/bytealg.abigen_runtime_cmpstring"], unfollowed := true, recurses := true, named := ["millpond/snapshot.half"], apart := false, laid := [("millpond/snapshot.half", laid_millpond_snapshot_half)], narrowed := true }
def SnapshotBytesUptoSaid : Prop := snapshotBytesUptoRow.holds Tryd.pinned (OpenSpec.upto snapshotBytesSpec)

end Rows
end Go.Proofs.YtfhlhpknobkplaaDoor
