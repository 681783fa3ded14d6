/-
  DERIVED. GIVEN WITH THE SEED: THE CARDS: each row of YtakfheljiobpkaaDoorRows.lean that lists a variable, with what it lists TIED to the program's text (the seventh form; the later family's looks); each row that meets fmt, with fmt's text TOLD by the authors' own Lean function (tested against real Go, not proved from fmt's source: count such statements apart). THE CARD IS WHAT COUNTS. Prove the row's statement (the work); the ties are given (YtakfheljiobpkaaDoorTie.lean); close each card by the builder's one call (the guide's Derived/Test/ToyasCard.lean, 'card_holds'). Laid BY PROGRAM, IN A SANDBOX (cutbox-door.mjs). By AI agents, Wed Nov 11 2026. No macro, syntax, notation, axiom, sorry.
-/
import Derived.Test.YtakfheljiobpkaaDoorRows
import GoSem.ClaimSeven
namespace Go.Proofs.YtakfheljiobpkaaDoor
namespace Rows

/-- THE TIED CARD OF 'millpondlaw01.NumberTexts'. -/
def numberTextsCard : Claim7 := { stood := { row := numberTextsRow, standIns := [], harness := (true, "fe870722e060edd2fc90a9d8df3283e9bbfa3c1f92c6ad583a0bc9e06ccfa491"), looks := true }, kinds := [], alts := [], laidByText := true, laidKinds := [.data, .data, .data, .sentinel, .sentinel], laidTests := true, laidLooks := .later }
def NumberTextsCardSaid : Prop := Claim7.holds Tryd.pinned (.plain (OpenSpec.ofChange numberTextsSpec)) numberTextsCard

/-- THE TIED CARD OF 'millpondlaw01.NumberBack'. -/
def numberBackCard : Claim7 := { stood := { row := numberBackRow, standIns := [], harness := (true, "fe870722e060edd2fc90a9d8df3283e9bbfa3c1f92c6ad583a0bc9e06ccfa491"), looks := true }, kinds := [], alts := [], laidByText := true, laidKinds := [.data, .data, .data, .sentinel, .sentinel], laidTests := true, laidLooks := .later }
def NumberBackCardSaid : Prop := Claim7.holds Tryd.pinned (.plain (OpenSpec.ofChange numberBackSpec)) numberBackCard

/-- THE TIED CARD OF 'millpondlaw01.NumberSums'. -/
def numberSumsCard : Claim7 := { stood := { row := numberSumsRow, standIns := [], harness := (true, "fe870722e060edd2fc90a9d8df3283e9bbfa3c1f92c6ad583a0bc9e06ccfa491"), looks := true }, kinds := [], alts := [], laidByText := true, laidKinds := [.data, .data, .data, .sentinel, .sentinel], laidTests := true, laidLooks := .later }
def NumberSumsCardSaid : Prop := Claim7.holds Tryd.pinned (.plain (OpenSpec.ofChange numberSumsSpec)) numberSumsCard

/-- THE TIED CARD OF 'millpondlaw01.NumberTimes'. -/
def numberTimesCard : Claim7 := { stood := { row := numberTimesRow, standIns := [], harness := (true, "fe870722e060edd2fc90a9d8df3283e9bbfa3c1f92c6ad583a0bc9e06ccfa491"), looks := true }, kinds := [], alts := [], laidByText := true, laidKinds := [.data, .data, .data, .sentinel, .sentinel], laidTests := true, laidLooks := .later }
def NumberTimesCardSaid : Prop := Claim7.holds Tryd.pinned (.plain (OpenSpec.ofChange numberTimesSpec)) numberTimesCard

/-- THE TIED CARD OF 'millpondlaw01.NumberTimesOf'. -/
def numberTimesOfCard : Claim7 := { stood := { row := numberTimesOfRow, standIns := [], harness := (true, "fe870722e060edd2fc90a9d8df3283e9bbfa3c1f92c6ad583a0bc9e06ccfa491"), looks := true }, kinds := [], alts := [], laidByText := true, laidKinds := [.data, .data, .data, .sentinel, .sentinel], laidTests := true, laidLooks := .later }
def NumberTimesOfCardSaid : Prop := Claim7.holds Tryd.pinned (.plain (OpenSpec.ofChange numberTimesOfSpec)) numberTimesOfCard

/-- THE TIED CARD OF 'millpondlaw01.NumberPlaces'. -/
def numberPlacesCard : Claim7 := { stood := { row := numberPlacesRow, standIns := [], harness := (true, "fe870722e060edd2fc90a9d8df3283e9bbfa3c1f92c6ad583a0bc9e06ccfa491"), looks := true }, kinds := [], alts := [], laidByText := true, laidKinds := [.data, .data, .data, .sentinel, .sentinel], laidTests := true, laidLooks := .later }
def NumberPlacesCardSaid : Prop := Claim7.holds Tryd.pinned (.plain (OpenSpec.ofChange numberPlacesSpec)) numberPlacesCard

/-- THE TIED CARD OF 'millpondlaw01.NumberEnds'. -/
def numberEndsCard : Claim7 := { stood := { row := numberEndsRow, standIns := [], harness := (true, "fe870722e060edd2fc90a9d8df3283e9bbfa3c1f92c6ad583a0bc9e06ccfa491"), looks := true }, kinds := [], alts := [], laidByText := true, laidKinds := [.data, .data, .data, .sentinel, .sentinel], laidTests := true, laidLooks := .later }
def NumberEndsCardSaid : Prop := Claim7.holds Tryd.pinned (.plain (OpenSpec.ofChange numberEndsSpec)) numberEndsCard

/-- THE SECOND FORM's CARD OF 'millpondlaw01.NumberTexts'. -/
def numberTextsUptoCard : Claim7 := { stood := { row := numberTextsUptoRow, standIns := [], harness := (true, "fe870722e060edd2fc90a9d8df3283e9bbfa3c1f92c6ad583a0bc9e06ccfa491"), looks := true }, kinds := [], alts := [], laidByText := true, laidKinds := [.data, .data, .data, .sentinel, .sentinel], laidTests := true, laidLooks := .later }
def NumberTextsUptoCardSaid : Prop := Claim7.holds Tryd.pinned (.plain (OpenSpec.upto numberTextsSpec)) numberTextsUptoCard

/-- THE SECOND FORM's CARD OF 'millpondlaw01.NumberBack'. -/
def numberBackUptoCard : Claim7 := { stood := { row := numberBackUptoRow, standIns := [], harness := (true, "fe870722e060edd2fc90a9d8df3283e9bbfa3c1f92c6ad583a0bc9e06ccfa491"), looks := true }, kinds := [], alts := [], laidByText := true, laidKinds := [.data, .data, .data, .sentinel, .sentinel], laidTests := true, laidLooks := .later }
def NumberBackUptoCardSaid : Prop := Claim7.holds Tryd.pinned (.plain (OpenSpec.upto numberBackSpec)) numberBackUptoCard

/-- THE SECOND FORM's CARD OF 'millpondlaw01.NumberSums'. -/
def numberSumsUptoCard : Claim7 := { stood := { row := numberSumsUptoRow, standIns := [], harness := (true, "fe870722e060edd2fc90a9d8df3283e9bbfa3c1f92c6ad583a0bc9e06ccfa491"), looks := true }, kinds := [], alts := [], laidByText := true, laidKinds := [.data, .data, .data, .sentinel, .sentinel], laidTests := true, laidLooks := .later }
def NumberSumsUptoCardSaid : Prop := Claim7.holds Tryd.pinned (.plain (OpenSpec.upto numberSumsSpec)) numberSumsUptoCard

/-- THE SECOND FORM's CARD OF 'millpondlaw01.NumberTimes'. -/
def numberTimesUptoCard : Claim7 := { stood := { row := numberTimesUptoRow, standIns := [], harness := (true, "fe870722e060edd2fc90a9d8df3283e9bbfa3c1f92c6ad583a0bc9e06ccfa491"), looks := true }, kinds := [], alts := [], laidByText := true, laidKinds := [.data, .data, .data, .sentinel, .sentinel], laidTests := true, laidLooks := .later }
def NumberTimesUptoCardSaid : Prop := Claim7.holds Tryd.pinned (.plain (OpenSpec.upto numberTimesSpec)) numberTimesUptoCard

/-- THE SECOND FORM's CARD OF 'millpondlaw01.NumberTimesOf'. -/
def numberTimesOfUptoCard : Claim7 := { stood := { row := numberTimesOfUptoRow, standIns := [], harness := (true, "fe870722e060edd2fc90a9d8df3283e9bbfa3c1f92c6ad583a0bc9e06ccfa491"), looks := true }, kinds := [], alts := [], laidByText := true, laidKinds := [.data, .data, .data, .sentinel, .sentinel], laidTests := true, laidLooks := .later }
def NumberTimesOfUptoCardSaid : Prop := Claim7.holds Tryd.pinned (.plain (OpenSpec.upto numberTimesOfSpec)) numberTimesOfUptoCard

/-- THE SECOND FORM's CARD OF 'millpondlaw01.NumberPlaces'. -/
def numberPlacesUptoCard : Claim7 := { stood := { row := numberPlacesUptoRow, standIns := [], harness := (true, "fe870722e060edd2fc90a9d8df3283e9bbfa3c1f92c6ad583a0bc9e06ccfa491"), looks := true }, kinds := [], alts := [], laidByText := true, laidKinds := [.data, .data, .data, .sentinel, .sentinel], laidTests := true, laidLooks := .later }
def NumberPlacesUptoCardSaid : Prop := Claim7.holds Tryd.pinned (.plain (OpenSpec.upto numberPlacesSpec)) numberPlacesUptoCard

/-- THE SECOND FORM's CARD OF 'millpondlaw01.NumberEnds'. -/
def numberEndsUptoCard : Claim7 := { stood := { row := numberEndsUptoRow, standIns := [], harness := (true, "fe870722e060edd2fc90a9d8df3283e9bbfa3c1f92c6ad583a0bc9e06ccfa491"), looks := true }, kinds := [], alts := [], laidByText := true, laidKinds := [.data, .data, .data, .sentinel, .sentinel], laidTests := true, laidLooks := .later }
def NumberEndsUptoCardSaid : Prop := Claim7.holds Tryd.pinned (.plain (OpenSpec.upto numberEndsSpec)) numberEndsUptoCard
end Rows
end Go.Proofs.YtakfheljiobpkaaDoor
