/-
  No cell of these rows narrows 'for every input' (looked for: loops, veiled, ifaces, maps, wideKeys, modest, calm, conditions, laid).
  DERIVED. THE GIVEN ROWS OF THIS SEAT. 5 by the template 'for every input the law returns true; each argument reads behind the call as it read before'; 0 by the template 'total and deterministic' (their statements: YtnleffjheimmbaaTotals.lean).
  GIVEN WITH THE SEED: the statements are not yours to turn. If you find one false, say at which input.
  Laid BY PROGRAM, IN A SANDBOX (cutbox-rows.mjs): the forced cells as the released guide's own fill.sh prints them over the translation a01aeb5b17e1bc56… (all of the seat's roots in one cut). By AI agents, Wed Nov 11 2026. No macro, syntax, notation, axiom, sorry.
-/
import Derived.Test.YtnleffjheimmbaaChecked
import GoSem.Claim
import GoSem.ClaimJoined
import GoSem.ClaimMapViews
import Derived.JoinedTies
import Derived.KernelRfl
namespace Go.Proofs.Ytnleffjheimmbaa
/- THE CELL 'sum', in the pinned program and in every row, IS THE sha256 OF THE DUMP (.gsa) THAT YtnleffjheimmbaaProg.lean LOADS. Nothing in Lean hashes anything: it is a label: what it is worth is what the hold of that sum in a sandbox is worth. -/
noncomputable def Try.pinned : Pinned := { name := "ytnleffjheimmbaa", sum := "a01aeb5b17e1bc56126bbf104e64ea882687bae6e8282db5d3ec2f04a17c1a88", checked := Try.checked }
namespace Rows
def none {H : Type} : Left H := { results := [], args := [] }

/-- 'millpondlaw06.DequeStops': WHATEVER THE INPUT: true; the input reads as it did. -/
def dequeStopsSpec : ChangeSpec := { name := "dequeStops", fn := fun _ => fun
  | [d1, d2] => { results := [.lit (.bool true)], args := [d1, d2] }
  | _ => none }
def dequeStopsRow : OpenClaim := { program := "ytnleffjheimmbaa", sum := "a01aeb5b17e1bc56126bbf104e64ea882687bae6e8282db5d3ec2f04a17c1a88", func := "millpond/millpondlaw06.DequeStops", spec := "dequeStops", unfollowed := true, recurses := true, apart := false }
def DequeStopsSaid : Prop := dequeStopsRow.holds Try.pinned (OpenSpec.ofChange dequeStopsSpec)

/-- ITS FALSE NEIGHBOUR: 'it returns false'. Refute it at one input. -/
def dequeStopsWrong : ChangeSpec := { name := "dequeStops", fn := fun _ => fun
  | [d1, d2] => { results := [.lit (.bool false)], args := [d1, d2] }
  | _ => none }
def DequeStopsWrongFalsely : Prop := dequeStopsRow.holds Try.pinned (OpenSpec.ofChange dequeStopsWrong)

/-- 'millpondlaw06.DequeOwn': WHATEVER THE INPUT: true; the input reads as it did. -/
def dequeOwnSpec : ChangeSpec := { name := "dequeOwn", fn := fun _ => fun
  | [d] => { results := [.lit (.bool true)], args := [d] }
  | _ => none }
def dequeOwnRow : OpenClaim := { program := "ytnleffjheimmbaa", sum := "a01aeb5b17e1bc56126bbf104e64ea882687bae6e8282db5d3ec2f04a17c1a88", func := "millpond/millpondlaw06.DequeOwn", spec := "dequeOwn", unfollowed := true, recurses := true, apart := false }
def DequeOwnSaid : Prop := dequeOwnRow.holds Try.pinned (OpenSpec.ofChange dequeOwnSpec)

/-- ITS FALSE NEIGHBOUR: 'it returns false'. Refute it at one input. -/
def dequeOwnWrong : ChangeSpec := { name := "dequeOwn", fn := fun _ => fun
  | [d] => { results := [.lit (.bool false)], args := [d] }
  | _ => none }
def DequeOwnWrongFalsely : Prop := dequeOwnRow.holds Try.pinned (OpenSpec.ofChange dequeOwnWrong)

/-- 'millpondlaw06.DequeEnds': WHATEVER THE INPUT: true; the input reads as it did. -/
def dequeEndsSpec : ChangeSpec := { name := "dequeEnds", fn := fun _ => fun
  | [d] => { results := [.lit (.bool true)], args := [d] }
  | _ => none }
def dequeEndsRow : OpenClaim := { program := "ytnleffjheimmbaa", sum := "a01aeb5b17e1bc56126bbf104e64ea882687bae6e8282db5d3ec2f04a17c1a88", func := "millpond/millpondlaw06.DequeEnds", spec := "dequeEnds", unfollowed := true, recurses := true, apart := false }
def DequeEndsSaid : Prop := dequeEndsRow.holds Try.pinned (OpenSpec.ofChange dequeEndsSpec)

/-- ITS FALSE NEIGHBOUR: 'it returns false'. Refute it at one input. -/
def dequeEndsWrong : ChangeSpec := { name := "dequeEnds", fn := fun _ => fun
  | [d] => { results := [.lit (.bool false)], args := [d] }
  | _ => none }
def DequeEndsWrongFalsely : Prop := dequeEndsRow.holds Try.pinned (OpenSpec.ofChange dequeEndsWrong)

/-- 'millpondlaw06.DequeRuns': WHATEVER THE INPUT: true; the input reads as it did. -/
def dequeRunsSpec : ChangeSpec := { name := "dequeRuns", fn := fun _ => fun
  | [d1, d2] => { results := [.lit (.bool true)], args := [d1, d2] }
  | _ => none }
def dequeRunsRow : OpenClaim := { program := "ytnleffjheimmbaa", sum := "a01aeb5b17e1bc56126bbf104e64ea882687bae6e8282db5d3ec2f04a17c1a88", func := "millpond/millpondlaw06.DequeRuns", spec := "dequeRuns", unfollowed := true, recurses := true, apart := false }
def DequeRunsSaid : Prop := dequeRunsRow.holds Try.pinned (OpenSpec.ofChange dequeRunsSpec)

/-- ITS FALSE NEIGHBOUR: 'it returns false'. Refute it at one input. -/
def dequeRunsWrong : ChangeSpec := { name := "dequeRuns", fn := fun _ => fun
  | [d1, d2] => { results := [.lit (.bool false)], args := [d1, d2] }
  | _ => none }
def DequeRunsWrongFalsely : Prop := dequeRunsRow.holds Try.pinned (OpenSpec.ofChange dequeRunsWrong)

/-- 'millpondlaw06.DequeNobody': WHATEVER THE INPUT: true; the input reads as it did. -/
def dequeNobodySpec : ChangeSpec := { name := "dequeNobody", fn := fun _ => fun
  | [d1, d2, d3] => { results := [.lit (.bool true)], args := [d1, d2, d3] }
  | _ => none }
def dequeNobodyRow : OpenClaim := { program := "ytnleffjheimmbaa", sum := "a01aeb5b17e1bc56126bbf104e64ea882687bae6e8282db5d3ec2f04a17c1a88", func := "millpond/millpondlaw06.DequeNobody", spec := "dequeNobody", unfollowed := true, recurses := true, apart := false }
def DequeNobodySaid : Prop := dequeNobodyRow.holds Try.pinned (OpenSpec.ofChange dequeNobodySpec)

/-- ITS FALSE NEIGHBOUR: 'it returns false'. Refute it at one input. -/
def dequeNobodyWrong : ChangeSpec := { name := "dequeNobody", fn := fun _ => fun
  | [d1, d2, d3] => { results := [.lit (.bool false)], args := [d1, d2, d3] }
  | _ => none }
def DequeNobodyWrongFalsely : Prop := dequeNobodyRow.holds Try.pinned (OpenSpec.ofChange dequeNobodyWrong)

/- THE SECOND FORM. 'bulk': how many values and letters a reading holds, each counted each time it is reached (what is shared counts as often as it is met; a slice's spare places count too). A statement '..UptoSaid' is the law's where the arguments, and the package variables that the reading takes, are together of bulk at most 1048576: NARROWER than '..Said'. Prove '..Said' where nothing that the law and all that it calls make is longer than what came in: it says more and counts as full. Else prove '..UptoSaid'. A law counts once. -/
mutual
def uptoBulk {H : Type} : DataW H → Nat
  | .lit (.string bytes) => bytes.length + 1
  | .lit _ => 1
  | .nil => 1
  | .ptr d => uptoBulk d + 1
  | .slice elems spare => uptoBulkAll elems + uptoBulkAll spare + 1
  | .agg parts => uptoBulkAll parts + 1
  | .iface _ d => uptoBulk d + 1
  | .map entries => uptoBulkEntries entries + 1
  | .held _ => 1
def uptoBulkAll {H : Type} : List (DataW H) → Nat
  | [] => 0
  | d :: r => uptoBulk d + uptoBulkAll r
def uptoBulkEntries {H : Type} : List (Lit × DataW H) → Nat
  | [] => 0
  | x :: r => uptoBulkEntry x + uptoBulkEntries r
def uptoBulkEntry {H : Type} : Lit × DataW H → Nat
  | (.string bytes, d) => bytes.length + uptoBulk d + 1
  | (_, d) => uptoBulk d + 1
 end
def uptoSmall : (H : Type) → List (DataW H) → Bool := fun _ ds => decide (uptoBulkAll ds ≤ 1048576)
def OpenSpec.upto (s : _root_.Go.ChangeSpec) : _root_.Go.OpenSpec := { _root_.Go.OpenSpec.ofChange s with cond := some uptoSmall }

/-- 'millpondlaw06.DequeStops', WHERE WHAT IT READS IS OF BULK AT MOST 1048576: true; the input reads as it did. -/
def dequeStopsUptoRow : OpenClaim := { program := "ytnleffjheimmbaa", sum := "a01aeb5b17e1bc56126bbf104e64ea882687bae6e8282db5d3ec2f04a17c1a88", func := "millpond/millpondlaw06.DequeStops", spec := "dequeStops", unfollowed := true, recurses := true, apart := false, narrowed := true }
def DequeStopsUptoSaid : Prop := dequeStopsUptoRow.holds Try.pinned (OpenSpec.upto dequeStopsSpec)

/-- 'millpondlaw06.DequeOwn', WHERE WHAT IT READS IS OF BULK AT MOST 1048576: true; the input reads as it did. -/
def dequeOwnUptoRow : OpenClaim := { program := "ytnleffjheimmbaa", sum := "a01aeb5b17e1bc56126bbf104e64ea882687bae6e8282db5d3ec2f04a17c1a88", func := "millpond/millpondlaw06.DequeOwn", spec := "dequeOwn", unfollowed := true, recurses := true, apart := false, narrowed := true }
def DequeOwnUptoSaid : Prop := dequeOwnUptoRow.holds Try.pinned (OpenSpec.upto dequeOwnSpec)

/-- 'millpondlaw06.DequeEnds', WHERE WHAT IT READS IS OF BULK AT MOST 1048576: true; the input reads as it did. -/
def dequeEndsUptoRow : OpenClaim := { program := "ytnleffjheimmbaa", sum := "a01aeb5b17e1bc56126bbf104e64ea882687bae6e8282db5d3ec2f04a17c1a88", func := "millpond/millpondlaw06.DequeEnds", spec := "dequeEnds", unfollowed := true, recurses := true, apart := false, narrowed := true }
def DequeEndsUptoSaid : Prop := dequeEndsUptoRow.holds Try.pinned (OpenSpec.upto dequeEndsSpec)

/-- 'millpondlaw06.DequeRuns', WHERE WHAT IT READS IS OF BULK AT MOST 1048576: true; the input reads as it did. -/
def dequeRunsUptoRow : OpenClaim := { program := "ytnleffjheimmbaa", sum := "a01aeb5b17e1bc56126bbf104e64ea882687bae6e8282db5d3ec2f04a17c1a88", func := "millpond/millpondlaw06.DequeRuns", spec := "dequeRuns", unfollowed := true, recurses := true, apart := false, narrowed := true }
def DequeRunsUptoSaid : Prop := dequeRunsUptoRow.holds Try.pinned (OpenSpec.upto dequeRunsSpec)

/-- 'millpondlaw06.DequeNobody', WHERE WHAT IT READS IS OF BULK AT MOST 1048576: true; the input reads as it did. -/
def dequeNobodyUptoRow : OpenClaim := { program := "ytnleffjheimmbaa", sum := "a01aeb5b17e1bc56126bbf104e64ea882687bae6e8282db5d3ec2f04a17c1a88", func := "millpond/millpondlaw06.DequeNobody", spec := "dequeNobody", unfollowed := true, recurses := true, apart := false, narrowed := true }
def DequeNobodyUptoSaid : Prop := dequeNobodyUptoRow.holds Try.pinned (OpenSpec.upto dequeNobodySpec)

end Rows
end Go.Proofs.Ytnleffjheimmbaa
