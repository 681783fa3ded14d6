/-
  DERIVED. GIVEN WITH THE SEED: THE CARDS: each row of YtfhlhpknobkplaaDoorRows.lean that lists a variable, with what it lists TIED to the program's text (the seventh form; the later family's looks); each row that meets fmt, with fmt's text TOLD by the authors' own Lean function (tested against real Go, not proved from fmt's source: count such statements apart). THE CARD IS WHAT COUNTS. Prove the row's statement (the work); the ties are given (YtfhlhpknobkplaaDoorTie.lean); close each card by the builder's one call (the guide's Derived/Test/ToyasCard.lean, 'card_holds'). Laid BY PROGRAM, IN A SANDBOX (cutbox-door.mjs). By AI agents, Wed Nov 11 2026. No macro, syntax, notation, axiom, sorry.
-/
import Derived.Test.YtfhlhpknobkplaaDoorRows
import GoSem.ClaimSeven
namespace Go.Proofs.YtfhlhpknobkplaaDoor
namespace Rows

/-- THE TIED CARD OF 'millpondlaw20.SnapshotSums'. -/
def snapshotSumsCard : Claim7 := { stood := { row := snapshotSumsRow, standIns := [], harness := (true, "2d2d773f675e91e201d9dcc52cbaf8d2f3a71a43cc0ad20cd6f0d23eaed3d3c1"), looks := true }, kinds := [], alts := [], laidByText := true, laidKinds := [.data], laidTests := true, laidLooks := .later }
def SnapshotSumsCardSaid : Prop := Claim7.holds Tryd.pinned (.plain (OpenSpec.ofChange snapshotSumsSpec)) snapshotSumsCard

/-- THE TIED CARD OF 'millpondlaw20.SnapshotReads'. -/
def snapshotReadsCard : Claim7 := { stood := { row := snapshotReadsRow, standIns := [], harness := (true, "2d2d773f675e91e201d9dcc52cbaf8d2f3a71a43cc0ad20cd6f0d23eaed3d3c1"), looks := true }, kinds := [], alts := [], laidByText := true, laidKinds := [.data], laidTests := true, laidLooks := .later }
def SnapshotReadsCardSaid : Prop := Claim7.holds Tryd.pinned (.plain (OpenSpec.ofChange snapshotReadsSpec)) snapshotReadsCard

/-- THE TIED CARD OF 'millpondlaw20.SnapshotSealed'. -/
def snapshotSealedCard : Claim7 := { stood := { row := snapshotSealedRow, standIns := [], harness := (true, "2d2d773f675e91e201d9dcc52cbaf8d2f3a71a43cc0ad20cd6f0d23eaed3d3c1"), looks := true }, kinds := [], alts := [], laidByText := true, laidKinds := [.data], laidTests := true, laidLooks := .later }
def SnapshotSealedCardSaid : Prop := Claim7.holds Tryd.pinned (.plain (OpenSpec.ofChange snapshotSealedSpec)) snapshotSealedCard

/-- THE TIED CARD OF 'millpondlaw20.SnapshotBack'. -/
def snapshotBackCard : Claim7 := { stood := { row := snapshotBackRow, standIns := [], harness := (true, "2d2d773f675e91e201d9dcc52cbaf8d2f3a71a43cc0ad20cd6f0d23eaed3d3c1"), looks := true }, kinds := [], alts := [], laidByText := true, laidKinds := [.data], laidTests := true, laidLooks := .later }
def SnapshotBackCardSaid : Prop := Claim7.holds Tryd.pinned (.plain (OpenSpec.ofChange snapshotBackSpec)) snapshotBackCard

/-- THE TIED CARD OF 'millpondlaw20.SnapshotOnly'. -/
def snapshotOnlyCard : Claim7 := { stood := { row := snapshotOnlyRow, standIns := [], harness := (true, "2d2d773f675e91e201d9dcc52cbaf8d2f3a71a43cc0ad20cd6f0d23eaed3d3c1"), looks := true }, kinds := [], alts := [], laidByText := true, laidKinds := [.data], laidTests := true, laidLooks := .later }
def SnapshotOnlyCardSaid : Prop := Claim7.holds Tryd.pinned (.plain (OpenSpec.ofChange snapshotOnlySpec)) snapshotOnlyCard

/-- THE TIED CARD OF 'millpondlaw20.SnapshotSpoilt'. -/
def snapshotSpoiltCard : Claim7 := { stood := { row := snapshotSpoiltRow, standIns := [], harness := (true, "2d2d773f675e91e201d9dcc52cbaf8d2f3a71a43cc0ad20cd6f0d23eaed3d3c1"), looks := true }, kinds := [], alts := [], laidByText := true, laidKinds := [.data], laidTests := true, laidLooks := .later }
def SnapshotSpoiltCardSaid : Prop := Claim7.holds Tryd.pinned (.plain (OpenSpec.ofChange snapshotSpoiltSpec)) snapshotSpoiltCard

/-- THE TIED CARD OF 'millpondlaw20.SnapshotBytes'. -/
def snapshotBytesCard : Claim7 := { stood := { row := snapshotBytesRow, standIns := [], harness := (true, "2d2d773f675e91e201d9dcc52cbaf8d2f3a71a43cc0ad20cd6f0d23eaed3d3c1"), looks := true }, kinds := [], alts := [], laidByText := true, laidKinds := [.data], laidTests := true, laidLooks := .later }
def SnapshotBytesCardSaid : Prop := Claim7.holds Tryd.pinned (.plain (OpenSpec.ofChange snapshotBytesSpec)) snapshotBytesCard

/-- THE SECOND FORM's CARD OF 'millpondlaw20.SnapshotSums'. -/
def snapshotSumsUptoCard : Claim7 := { stood := { row := snapshotSumsUptoRow, standIns := [], harness := (true, "2d2d773f675e91e201d9dcc52cbaf8d2f3a71a43cc0ad20cd6f0d23eaed3d3c1"), looks := true }, kinds := [], alts := [], laidByText := true, laidKinds := [.data], laidTests := true, laidLooks := .later }
def SnapshotSumsUptoCardSaid : Prop := Claim7.holds Tryd.pinned (.plain (OpenSpec.upto snapshotSumsSpec)) snapshotSumsUptoCard

/-- THE SECOND FORM's CARD OF 'millpondlaw20.SnapshotReads'. -/
def snapshotReadsUptoCard : Claim7 := { stood := { row := snapshotReadsUptoRow, standIns := [], harness := (true, "2d2d773f675e91e201d9dcc52cbaf8d2f3a71a43cc0ad20cd6f0d23eaed3d3c1"), looks := true }, kinds := [], alts := [], laidByText := true, laidKinds := [.data], laidTests := true, laidLooks := .later }
def SnapshotReadsUptoCardSaid : Prop := Claim7.holds Tryd.pinned (.plain (OpenSpec.upto snapshotReadsSpec)) snapshotReadsUptoCard

/-- THE SECOND FORM's CARD OF 'millpondlaw20.SnapshotSealed'. -/
def snapshotSealedUptoCard : Claim7 := { stood := { row := snapshotSealedUptoRow, standIns := [], harness := (true, "2d2d773f675e91e201d9dcc52cbaf8d2f3a71a43cc0ad20cd6f0d23eaed3d3c1"), looks := true }, kinds := [], alts := [], laidByText := true, laidKinds := [.data], laidTests := true, laidLooks := .later }
def SnapshotSealedUptoCardSaid : Prop := Claim7.holds Tryd.pinned (.plain (OpenSpec.upto snapshotSealedSpec)) snapshotSealedUptoCard

/-- THE SECOND FORM's CARD OF 'millpondlaw20.SnapshotBack'. -/
def snapshotBackUptoCard : Claim7 := { stood := { row := snapshotBackUptoRow, standIns := [], harness := (true, "2d2d773f675e91e201d9dcc52cbaf8d2f3a71a43cc0ad20cd6f0d23eaed3d3c1"), looks := true }, kinds := [], alts := [], laidByText := true, laidKinds := [.data], laidTests := true, laidLooks := .later }
def SnapshotBackUptoCardSaid : Prop := Claim7.holds Tryd.pinned (.plain (OpenSpec.upto snapshotBackSpec)) snapshotBackUptoCard

/-- THE SECOND FORM's CARD OF 'millpondlaw20.SnapshotOnly'. -/
def snapshotOnlyUptoCard : Claim7 := { stood := { row := snapshotOnlyUptoRow, standIns := [], harness := (true, "2d2d773f675e91e201d9dcc52cbaf8d2f3a71a43cc0ad20cd6f0d23eaed3d3c1"), looks := true }, kinds := [], alts := [], laidByText := true, laidKinds := [.data], laidTests := true, laidLooks := .later }
def SnapshotOnlyUptoCardSaid : Prop := Claim7.holds Tryd.pinned (.plain (OpenSpec.upto snapshotOnlySpec)) snapshotOnlyUptoCard

/-- THE SECOND FORM's CARD OF 'millpondlaw20.SnapshotSpoilt'. -/
def snapshotSpoiltUptoCard : Claim7 := { stood := { row := snapshotSpoiltUptoRow, standIns := [], harness := (true, "2d2d773f675e91e201d9dcc52cbaf8d2f3a71a43cc0ad20cd6f0d23eaed3d3c1"), looks := true }, kinds := [], alts := [], laidByText := true, laidKinds := [.data], laidTests := true, laidLooks := .later }
def SnapshotSpoiltUptoCardSaid : Prop := Claim7.holds Tryd.pinned (.plain (OpenSpec.upto snapshotSpoiltSpec)) snapshotSpoiltUptoCard

/-- THE SECOND FORM's CARD OF 'millpondlaw20.SnapshotBytes'. -/
def snapshotBytesUptoCard : Claim7 := { stood := { row := snapshotBytesUptoRow, standIns := [], harness := (true, "2d2d773f675e91e201d9dcc52cbaf8d2f3a71a43cc0ad20cd6f0d23eaed3d3c1"), looks := true }, kinds := [], alts := [], laidByText := true, laidKinds := [.data], laidTests := true, laidLooks := .later }
def SnapshotBytesUptoCardSaid : Prop := Claim7.holds Tryd.pinned (.plain (OpenSpec.upto snapshotBytesSpec)) snapshotBytesUptoCard
end Rows
end Go.Proofs.YtfhlhpknobkplaaDoor
