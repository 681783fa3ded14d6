/-
  DERIVED. GIVEN WITH THE SEED: THE CARDS: each row of YtdfkdbdhaaiadaaDoorRows.lean that lists a variable, with what it lists TIED to the program's text (the seventh form; the later family's looks); each row that meets fmt, with fmt's text TOLD by the authors' own Lean function (tested against real Go, not proved from fmt's source: count such statements apart). THE CARD IS WHAT COUNTS. Prove the row's statement (the work); the ties are given (YtdfkdbdhaaiadaaDoorTie.lean); close each card by the builder's one call (the guide's Derived/Test/ToyasCard.lean, 'card_holds'). Laid BY PROGRAM, IN A SANDBOX (cutbox-door.mjs). By AI agents, Wed Nov 11 2026. No macro, syntax, notation, axiom, sorry.
-/
import Derived.Test.YtdfkdbdhaaiadaaDoorRows
import GoSem.ClaimSeven
namespace Go.Proofs.YtdfkdbdhaaiadaaDoor
namespace Rows

/-- THE TIED CARD OF 'millpondlaw02.RespSplits'. -/
def respSplitsCard : Claim7 := { stood := { row := respSplitsRow, standIns := [], harness := (true, "7456b99a640693e0bed5e21b70d38d8245f5b7757e284f61e7fa89d4030cd677"), looks := true }, kinds := [], alts := [], laidByText := true, laidKinds := [.data, .data, .data, .sentinel, .sentinel], laidTests := true, laidLooks := .later }
def RespSplitsCardSaid : Prop := Claim7.holds Tryd.pinned (.plain (OpenSpec.ofChange respSplitsSpec)) respSplitsCard

/-- THE TIED CARD OF 'millpondlaw02.RespPieces'. -/
def respPiecesCard : Claim7 := { stood := { row := respPiecesRow, standIns := [], harness := (true, "7456b99a640693e0bed5e21b70d38d8245f5b7757e284f61e7fa89d4030cd677"), looks := true }, kinds := [], alts := [], laidByText := true, laidKinds := [.data, .data, .data, .sentinel, .sentinel], laidTests := true, laidLooks := .later }
def RespPiecesCardSaid : Prop := Claim7.holds Tryd.pinned (.plain (OpenSpec.ofChange respPiecesSpec)) respPiecesCard

/-- THE TIED CARD OF 'millpondlaw02.RespBegins'. -/
def respBeginsCard : Claim7 := { stood := { row := respBeginsRow, standIns := [], harness := (true, "7456b99a640693e0bed5e21b70d38d8245f5b7757e284f61e7fa89d4030cd677"), looks := true }, kinds := [], alts := [], laidByText := true, laidKinds := [.data, .data, .data, .sentinel, .sentinel], laidTests := true, laidLooks := .later }
def RespBeginsCardSaid : Prop := Claim7.holds Tryd.pinned (.plain (OpenSpec.ofChange respBeginsSpec)) respBeginsCard

/-- THE TIED CARD OF 'millpondlaw02.RespWords'. -/
def respWordsCard : Claim7 := { stood := { row := respWordsRow, standIns := [], harness := (true, "7456b99a640693e0bed5e21b70d38d8245f5b7757e284f61e7fa89d4030cd677"), looks := true }, kinds := [], alts := [], laidByText := true, laidKinds := [.data, .data, .data, .sentinel, .sentinel], laidTests := true, laidLooks := .later }
def RespWordsCardSaid : Prop := Claim7.holds Tryd.pinned (.plain (OpenSpec.ofChange respWordsSpec)) respWordsCard

/-- THE TIED CARD OF 'millpondlaw02.RespFeeds'. -/
def respFeedsCard : Claim7 := { stood := { row := respFeedsRow, standIns := [], harness := (true, "7456b99a640693e0bed5e21b70d38d8245f5b7757e284f61e7fa89d4030cd677"), looks := true }, kinds := [], alts := [], laidByText := true, laidKinds := [.data, .data, .data, .sentinel, .sentinel], laidTests := true, laidLooks := .later }
def RespFeedsCardSaid : Prop := Claim7.holds Tryd.pinned (.plain (OpenSpec.ofChange respFeedsSpec)) respFeedsCard

/-- THE TIED CARD OF 'millpondlaw02.RespNobody'. -/
def respNobodyCard : Claim7 := { stood := { row := respNobodyRow, standIns := [], harness := (true, "7456b99a640693e0bed5e21b70d38d8245f5b7757e284f61e7fa89d4030cd677"), looks := true }, kinds := [], alts := [], laidByText := true, laidKinds := [.data, .data, .data, .sentinel, .sentinel], laidTests := true, laidLooks := .later }
def RespNobodyCardSaid : Prop := Claim7.holds Tryd.pinned (.plain (OpenSpec.ofChange respNobodySpec)) respNobodyCard

/-- THE TIED CARD OF 'millpondlaw02.RespBack'. -/
def respBackCard : Claim7 := { stood := { row := respBackRow, standIns := [], harness := (true, "7456b99a640693e0bed5e21b70d38d8245f5b7757e284f61e7fa89d4030cd677"), looks := true }, kinds := [], alts := [], laidByText := true, laidKinds := [.data, .data, .data, .sentinel, .sentinel], laidTests := true, laidLooks := .later }
def RespBackCardSaid : Prop := Claim7.holds Tryd.pinned (.plain (OpenSpec.ofChange respBackSpec)) respBackCard

/-- THE SECOND FORM's CARD OF 'millpondlaw02.RespSplits'. -/
def respSplitsUptoCard : Claim7 := { stood := { row := respSplitsUptoRow, standIns := [], harness := (true, "7456b99a640693e0bed5e21b70d38d8245f5b7757e284f61e7fa89d4030cd677"), looks := true }, kinds := [], alts := [], laidByText := true, laidKinds := [.data, .data, .data, .sentinel, .sentinel], laidTests := true, laidLooks := .later }
def RespSplitsUptoCardSaid : Prop := Claim7.holds Tryd.pinned (.plain (OpenSpec.upto respSplitsSpec)) respSplitsUptoCard

/-- THE SECOND FORM's CARD OF 'millpondlaw02.RespPieces'. -/
def respPiecesUptoCard : Claim7 := { stood := { row := respPiecesUptoRow, standIns := [], harness := (true, "7456b99a640693e0bed5e21b70d38d8245f5b7757e284f61e7fa89d4030cd677"), looks := true }, kinds := [], alts := [], laidByText := true, laidKinds := [.data, .data, .data, .sentinel, .sentinel], laidTests := true, laidLooks := .later }
def RespPiecesUptoCardSaid : Prop := Claim7.holds Tryd.pinned (.plain (OpenSpec.upto respPiecesSpec)) respPiecesUptoCard

/-- THE SECOND FORM's CARD OF 'millpondlaw02.RespBegins'. -/
def respBeginsUptoCard : Claim7 := { stood := { row := respBeginsUptoRow, standIns := [], harness := (true, "7456b99a640693e0bed5e21b70d38d8245f5b7757e284f61e7fa89d4030cd677"), looks := true }, kinds := [], alts := [], laidByText := true, laidKinds := [.data, .data, .data, .sentinel, .sentinel], laidTests := true, laidLooks := .later }
def RespBeginsUptoCardSaid : Prop := Claim7.holds Tryd.pinned (.plain (OpenSpec.upto respBeginsSpec)) respBeginsUptoCard

/-- THE SECOND FORM's CARD OF 'millpondlaw02.RespWords'. -/
def respWordsUptoCard : Claim7 := { stood := { row := respWordsUptoRow, standIns := [], harness := (true, "7456b99a640693e0bed5e21b70d38d8245f5b7757e284f61e7fa89d4030cd677"), looks := true }, kinds := [], alts := [], laidByText := true, laidKinds := [.data, .data, .data, .sentinel, .sentinel], laidTests := true, laidLooks := .later }
def RespWordsUptoCardSaid : Prop := Claim7.holds Tryd.pinned (.plain (OpenSpec.upto respWordsSpec)) respWordsUptoCard

/-- THE SECOND FORM's CARD OF 'millpondlaw02.RespFeeds'. -/
def respFeedsUptoCard : Claim7 := { stood := { row := respFeedsUptoRow, standIns := [], harness := (true, "7456b99a640693e0bed5e21b70d38d8245f5b7757e284f61e7fa89d4030cd677"), looks := true }, kinds := [], alts := [], laidByText := true, laidKinds := [.data, .data, .data, .sentinel, .sentinel], laidTests := true, laidLooks := .later }
def RespFeedsUptoCardSaid : Prop := Claim7.holds Tryd.pinned (.plain (OpenSpec.upto respFeedsSpec)) respFeedsUptoCard

/-- THE SECOND FORM's CARD OF 'millpondlaw02.RespNobody'. -/
def respNobodyUptoCard : Claim7 := { stood := { row := respNobodyUptoRow, standIns := [], harness := (true, "7456b99a640693e0bed5e21b70d38d8245f5b7757e284f61e7fa89d4030cd677"), looks := true }, kinds := [], alts := [], laidByText := true, laidKinds := [.data, .data, .data, .sentinel, .sentinel], laidTests := true, laidLooks := .later }
def RespNobodyUptoCardSaid : Prop := Claim7.holds Tryd.pinned (.plain (OpenSpec.upto respNobodySpec)) respNobodyUptoCard

/-- THE SECOND FORM's CARD OF 'millpondlaw02.RespBack'. -/
def respBackUptoCard : Claim7 := { stood := { row := respBackUptoRow, standIns := [], harness := (true, "7456b99a640693e0bed5e21b70d38d8245f5b7757e284f61e7fa89d4030cd677"), looks := true }, kinds := [], alts := [], laidByText := true, laidKinds := [.data, .data, .data, .sentinel, .sentinel], laidTests := true, laidLooks := .later }
def RespBackUptoCardSaid : Prop := Claim7.holds Tryd.pinned (.plain (OpenSpec.upto respBackSpec)) respBackUptoCard
end Rows
end Go.Proofs.YtdfkdbdhaaiadaaDoor
