/-
  No cell of these rows narrows 'for every input' (looked for: loops, veiled, ifaces, maps, wideKeys, modest, calm, conditions, laid).
  DERIVED. THE GIVEN ROWS OF THIS SEAT. 6 by the template 'for every input the law returns true; each argument reads behind the call as it read before'; 0 by the template 'total and deterministic' (their statements: YtlaahdjdlekopaaTotals.lean).
  GIVEN WITH THE SEED: the statements are not yours to turn. If you find one false, say at which input.
  Laid BY PROGRAM, IN A SANDBOX (cutbox-rows.mjs): the forced cells as the released guide's own fill.sh prints them over the translation 88e24113f465d3f2… (all of the seat's roots in one cut). By AI agents, Wed Nov 11 2026. No macro, syntax, notation, axiom, sorry.
-/
import Derived.Test.YtlaahdjdlekopaaChecked
import GoSem.Claim
import GoSem.ClaimJoined
import GoSem.ClaimMapViews
import Derived.JoinedTies
import Derived.KernelRfl
namespace Go.Proofs.Ytlaahdjdlekopaa
/- THE CELL 'sum', in the pinned program and in every row, IS THE sha256 OF THE DUMP (.gsa) THAT YtlaahdjdlekopaaProg.lean LOADS. Nothing in Lean hashes anything: it is a label: what it is worth is what the hold of that sum in a sandbox is worth. -/
noncomputable def Try.pinned : Pinned := { name := "ytlaahdjdlekopaa", sum := "88e24113f465d3f2f47618cdc3bb79bdbc9b4d121b8770c4c71479d5f0f40844", checked := Try.checked }
namespace Rows
def none {H : Type} : Left H := { results := [], args := [] }

/-- 'millpondlaw19.RingGoesOn': WHATEVER THE INPUT: true; the input reads as it did. -/
def ringGoesOnSpec : ChangeSpec := { name := "ringGoesOn", fn := fun _ => fun
  | [d1, d2, d3, d4, d5, d6] => { results := [.lit (.bool true)], args := [d1, d2, d3, d4, d5, d6] }
  | _ => none }
def ringGoesOnRow : OpenClaim := { program := "ytlaahdjdlekopaa", sum := "88e24113f465d3f2f47618cdc3bb79bdbc9b4d121b8770c4c71479d5f0f40844", func := "millpond/millpondlaw19.RingGoesOn", spec := "ringGoesOn", apart := false }
def RingGoesOnSaid : Prop := ringGoesOnRow.holds Try.pinned (OpenSpec.ofChange ringGoesOnSpec)

/-- ITS FALSE NEIGHBOUR: 'it returns false'. Refute it at one input. -/
def ringGoesOnWrong : ChangeSpec := { name := "ringGoesOn", fn := fun _ => fun
  | [d1, d2, d3, d4, d5, d6] => { results := [.lit (.bool false)], args := [d1, d2, d3, d4, d5, d6] }
  | _ => none }
def RingGoesOnWrongFalsely : Prop := ringGoesOnRow.holds Try.pinned (OpenSpec.ofChange ringGoesOnWrong)

/-- 'millpondlaw19.RingStream': WHATEVER THE INPUT: true; the input reads as it did. -/
def ringStreamSpec : ChangeSpec := { name := "ringStream", fn := fun _ => fun
  | [d1, d2, d3, d4] => { results := [.lit (.bool true)], args := [d1, d2, d3, d4] }
  | _ => none }
def ringStreamRow : OpenClaim := { program := "ytlaahdjdlekopaa", sum := "88e24113f465d3f2f47618cdc3bb79bdbc9b4d121b8770c4c71479d5f0f40844", func := "millpond/millpondlaw19.RingStream", spec := "ringStream", apart := false }
def RingStreamSaid : Prop := ringStreamRow.holds Try.pinned (OpenSpec.ofChange ringStreamSpec)

/-- ITS FALSE NEIGHBOUR: 'it returns false'. Refute it at one input. -/
def ringStreamWrong : ChangeSpec := { name := "ringStream", fn := fun _ => fun
  | [d1, d2, d3, d4] => { results := [.lit (.bool false)], args := [d1, d2, d3, d4] }
  | _ => none }
def RingStreamWrongFalsely : Prop := ringStreamRow.holds Try.pinned (OpenSpec.ofChange ringStreamWrong)

/-- 'millpondlaw19.RingRuns': WHATEVER THE INPUT: true; the input reads as it did. -/
def ringRunsSpec : ChangeSpec := { name := "ringRuns", fn := fun _ => fun
  | [d1, d2, d3, d4, d5] => { results := [.lit (.bool true)], args := [d1, d2, d3, d4, d5] }
  | _ => none }
def ringRunsRow : OpenClaim := { program := "ytlaahdjdlekopaa", sum := "88e24113f465d3f2f47618cdc3bb79bdbc9b4d121b8770c4c71479d5f0f40844", func := "millpond/millpondlaw19.RingRuns", spec := "ringRuns", apart := false }
def RingRunsSaid : Prop := ringRunsRow.holds Try.pinned (OpenSpec.ofChange ringRunsSpec)

/-- ITS FALSE NEIGHBOUR: 'it returns false'. Refute it at one input. -/
def ringRunsWrong : ChangeSpec := { name := "ringRuns", fn := fun _ => fun
  | [d1, d2, d3, d4, d5] => { results := [.lit (.bool false)], args := [d1, d2, d3, d4, d5] }
  | _ => none }
def RingRunsWrongFalsely : Prop := ringRunsRow.holds Try.pinned (OpenSpec.ofChange ringRunsWrong)

/-- 'millpondlaw19.RingIDs': WHATEVER THE INPUT: true; the input reads as it did. -/
def ringIDsSpec : ChangeSpec := { name := "ringIDs", fn := fun _ => fun
  | [d1, d2] => { results := [.lit (.bool true)], args := [d1, d2] }
  | _ => none }
def ringIDsRow : OpenClaim := { program := "ytlaahdjdlekopaa", sum := "88e24113f465d3f2f47618cdc3bb79bdbc9b4d121b8770c4c71479d5f0f40844", func := "millpond/millpondlaw19.RingIDs", spec := "ringIDs", inPlace := ["internal/bytealg.IndexByteString"], apart := false }
def RingIDsSaid : Prop := ringIDsRow.holds Try.pinned (OpenSpec.ofChange ringIDsSpec)

/-- ITS FALSE NEIGHBOUR: 'it returns false'. Refute it at one input. -/
def ringIDsWrong : ChangeSpec := { name := "ringIDs", fn := fun _ => fun
  | [d1, d2] => { results := [.lit (.bool false)], args := [d1, d2] }
  | _ => none }
def RingIDsWrongFalsely : Prop := ringIDsRow.holds Try.pinned (OpenSpec.ofChange ringIDsWrong)

/-- 'millpondlaw19.RingPieces': WHATEVER THE INPUT: true; the input reads as it did. -/
def ringPiecesSpec : ChangeSpec := { name := "ringPieces", fn := fun _ => fun
  | [d1, d2, d3, d4] => { results := [.lit (.bool true)], args := [d1, d2, d3, d4] }
  | _ => none }
def ringPiecesRow : OpenClaim := { program := "ytlaahdjdlekopaa", sum := "88e24113f465d3f2f47618cdc3bb79bdbc9b4d121b8770c4c71479d5f0f40844", func := "millpond/millpondlaw19.RingPieces", spec := "ringPieces", unfollowed := true, recurses := true, apart := false }
def RingPiecesSaid : Prop := ringPiecesRow.holds Try.pinned (OpenSpec.ofChange ringPiecesSpec)

/-- ITS FALSE NEIGHBOUR: 'it returns false'. Refute it at one input. -/
def ringPiecesWrong : ChangeSpec := { name := "ringPieces", fn := fun _ => fun
  | [d1, d2, d3, d4] => { results := [.lit (.bool false)], args := [d1, d2, d3, d4] }
  | _ => none }
def RingPiecesWrongFalsely : Prop := ringPiecesRow.holds Try.pinned (OpenSpec.ofChange ringPiecesWrong)

/-- 'millpondlaw19.RingNobody': WHATEVER THE INPUT: true; the input reads as it did. -/
def ringNobodySpec : ChangeSpec := { name := "ringNobody", fn := fun _ => fun
  | [d1, d2, d3] => { results := [.lit (.bool true)], args := [d1, d2, d3] }
  | _ => none }
def ringNobodyRow : OpenClaim := { program := "ytlaahdjdlekopaa", sum := "88e24113f465d3f2f47618cdc3bb79bdbc9b4d121b8770c4c71479d5f0f40844", func := "millpond/millpondlaw19.RingNobody", spec := "ringNobody", unfollowed := true, recurses := true, apart := false }
def RingNobodySaid : Prop := ringNobodyRow.holds Try.pinned (OpenSpec.ofChange ringNobodySpec)

/-- ITS FALSE NEIGHBOUR: 'it returns false'. Refute it at one input. -/
def ringNobodyWrong : ChangeSpec := { name := "ringNobody", fn := fun _ => fun
  | [d1, d2, d3] => { results := [.lit (.bool false)], args := [d1, d2, d3] }
  | _ => none }
def RingNobodyWrongFalsely : Prop := ringNobodyRow.holds Try.pinned (OpenSpec.ofChange ringNobodyWrong)

/- THE SECOND FORM. 'bulk': how many values and letters a reading holds, each counted each time it is reached (what is shared counts as often as it is met; a slice's spare places count too). A statement '..UptoSaid' is the law's where the arguments, and the package variables that the reading takes, are together of bulk at most 1048576: NARROWER than '..Said'. Prove '..Said' where nothing that the law and all that it calls make is longer than what came in: it says more and counts as full. Else prove '..UptoSaid'. A law counts once. -/
mutual
def uptoBulk {H : Type} : DataW H → Nat
  | .lit (.string bytes) => bytes.length + 1
  | .lit _ => 1
  | .nil => 1
  | .ptr d => uptoBulk d + 1
  | .slice elems spare => uptoBulkAll elems + uptoBulkAll spare + 1
  | .agg parts => uptoBulkAll parts + 1
  | .iface _ d => uptoBulk d + 1
  | .map entries => uptoBulkEntries entries + 1
  | .held _ => 1
def uptoBulkAll {H : Type} : List (DataW H) → Nat
  | [] => 0
  | d :: r => uptoBulk d + uptoBulkAll r
def uptoBulkEntries {H : Type} : List (Lit × DataW H) → Nat
  | [] => 0
  | x :: r => uptoBulkEntry x + uptoBulkEntries r
def uptoBulkEntry {H : Type} : Lit × DataW H → Nat
  | (.string bytes, d) => bytes.length + uptoBulk d + 1
  | (_, d) => uptoBulk d + 1
 end
def uptoSmall : (H : Type) → List (DataW H) → Bool := fun _ ds => decide (uptoBulkAll ds ≤ 1048576)
def OpenSpec.upto (s : _root_.Go.ChangeSpec) : _root_.Go.OpenSpec := { _root_.Go.OpenSpec.ofChange s with cond := some uptoSmall }

/-- 'millpondlaw19.RingGoesOn', WHERE WHAT IT READS IS OF BULK AT MOST 1048576: true; the input reads as it did. -/
def ringGoesOnUptoRow : OpenClaim := { program := "ytlaahdjdlekopaa", sum := "88e24113f465d3f2f47618cdc3bb79bdbc9b4d121b8770c4c71479d5f0f40844", func := "millpond/millpondlaw19.RingGoesOn", spec := "ringGoesOn", apart := false, narrowed := true }
def RingGoesOnUptoSaid : Prop := ringGoesOnUptoRow.holds Try.pinned (OpenSpec.upto ringGoesOnSpec)

/-- 'millpondlaw19.RingStream', WHERE WHAT IT READS IS OF BULK AT MOST 1048576: true; the input reads as it did. -/
def ringStreamUptoRow : OpenClaim := { program := "ytlaahdjdlekopaa", sum := "88e24113f465d3f2f47618cdc3bb79bdbc9b4d121b8770c4c71479d5f0f40844", func := "millpond/millpondlaw19.RingStream", spec := "ringStream", apart := false, narrowed := true }
def RingStreamUptoSaid : Prop := ringStreamUptoRow.holds Try.pinned (OpenSpec.upto ringStreamSpec)

/-- 'millpondlaw19.RingRuns', WHERE WHAT IT READS IS OF BULK AT MOST 1048576: true; the input reads as it did. -/
def ringRunsUptoRow : OpenClaim := { program := "ytlaahdjdlekopaa", sum := "88e24113f465d3f2f47618cdc3bb79bdbc9b4d121b8770c4c71479d5f0f40844", func := "millpond/millpondlaw19.RingRuns", spec := "ringRuns", apart := false, narrowed := true }
def RingRunsUptoSaid : Prop := ringRunsUptoRow.holds Try.pinned (OpenSpec.upto ringRunsSpec)

/-- 'millpondlaw19.RingIDs', WHERE WHAT IT READS IS OF BULK AT MOST 1048576: true; the input reads as it did. -/
def ringIDsUptoRow : OpenClaim := { program := "ytlaahdjdlekopaa", sum := "88e24113f465d3f2f47618cdc3bb79bdbc9b4d121b8770c4c71479d5f0f40844", func := "millpond/millpondlaw19.RingIDs", spec := "ringIDs", inPlace := ["internal/bytealg.IndexByteString"], apart := false, narrowed := true }
def RingIDsUptoSaid : Prop := ringIDsUptoRow.holds Try.pinned (OpenSpec.upto ringIDsSpec)

/-- 'millpondlaw19.RingPieces', WHERE WHAT IT READS IS OF BULK AT MOST 1048576: true; the input reads as it did. -/
def ringPiecesUptoRow : OpenClaim := { program := "ytlaahdjdlekopaa", sum := "88e24113f465d3f2f47618cdc3bb79bdbc9b4d121b8770c4c71479d5f0f40844", func := "millpond/millpondlaw19.RingPieces", spec := "ringPieces", unfollowed := true, recurses := true, apart := false, narrowed := true }
def RingPiecesUptoSaid : Prop := ringPiecesUptoRow.holds Try.pinned (OpenSpec.upto ringPiecesSpec)

/-- 'millpondlaw19.RingNobody', WHERE WHAT IT READS IS OF BULK AT MOST 1048576: true; the input reads as it did. -/
def ringNobodyUptoRow : OpenClaim := { program := "ytlaahdjdlekopaa", sum := "88e24113f465d3f2f47618cdc3bb79bdbc9b4d121b8770c4c71479d5f0f40844", func := "millpond/millpondlaw19.RingNobody", spec := "ringNobody", unfollowed := true, recurses := true, apart := false, narrowed := true }
def RingNobodyUptoSaid : Prop := ringNobodyUptoRow.holds Try.pinned (OpenSpec.upto ringNobodySpec)

end Rows
end Go.Proofs.Ytlaahdjdlekopaa
