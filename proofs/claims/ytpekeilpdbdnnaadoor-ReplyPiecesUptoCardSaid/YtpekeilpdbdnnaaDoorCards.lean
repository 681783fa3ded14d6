/-
  DERIVED. GIVEN WITH THE SEED: THE CARDS: each row of YtpekeilpdbdnnaaDoorRows.lean that lists a variable, with what it lists TIED to the program's text (the seventh form; the later family's looks); each row that meets fmt, with fmt's text TOLD by the authors' own Lean function (tested against real Go, not proved from fmt's source: count such statements apart). THE CARD IS WHAT COUNTS. Prove the row's statement (the work); the ties are given (YtpekeilpdbdnnaaDoorTie.lean); close each card by the builder's one call (the guide's Derived/Test/ToyasCard.lean, 'card_holds'). Laid BY PROGRAM, IN A SANDBOX (cutbox-door.mjs). By AI agents, Wed Nov 11 2026. No macro, syntax, notation, axiom, sorry.
-/
import Derived.Test.YtpekeilpdbdnnaaDoorRows
import GoSem.ClaimSeven
namespace Go.Proofs.YtpekeilpdbdnnaaDoor
namespace Rows

/-- THE TIED CARD OF 'millpondlaw03.ReplyDecodes'. -/
def replyDecodesCard : Claim7 := { stood := { row := replyDecodesRow, standIns := [], harness := (true, "e338ef33ae7b9130371b1da19b779e5649e054483f6d952b9888aa2bc97bbbc7"), looks := true }, kinds := [], alts := [], laidByText := true, laidKinds := [.data, .data, .data], laidTests := true, laidLooks := .later }
def ReplyDecodesCardSaid : Prop := Claim7.holds Tryd.pinned (.plain (OpenSpec.ofChange replyDecodesSpec)) replyDecodesCard

/-- THE TIED CARD OF 'millpondlaw03.ReplyBack'. -/
def replyBackCard : Claim7 := { stood := { row := replyBackRow, standIns := [], harness := (true, "e338ef33ae7b9130371b1da19b779e5649e054483f6d952b9888aa2bc97bbbc7"), looks := true }, kinds := [], alts := [], laidByText := true, laidKinds := [.data, .data, .data], laidTests := true, laidLooks := .later }
def ReplyBackCardSaid : Prop := Claim7.holds Tryd.pinned (.plain (OpenSpec.ofChange replyBackSpec)) replyBackCard

/-- THE TIED CARD OF 'millpondlaw03.ReplyCommands'. -/
def replyCommandsCard : Claim7 := { stood := { row := replyCommandsRow, standIns := [], harness := (true, "e338ef33ae7b9130371b1da19b779e5649e054483f6d952b9888aa2bc97bbbc7"), looks := true }, kinds := [], alts := [], laidByText := true, laidKinds := [.data, .data, .data], laidTests := true, laidLooks := .later }
def ReplyCommandsCardSaid : Prop := Claim7.holds Tryd.pinned (.plain (OpenSpec.ofChange replyCommandsSpec)) replyCommandsCard

/-- THE TIED CARD OF 'millpondlaw03.ReplyForms'. -/
def replyFormsCard : Claim7 := { stood := { row := replyFormsRow, standIns := [], harness := (true, "e338ef33ae7b9130371b1da19b779e5649e054483f6d952b9888aa2bc97bbbc7"), looks := true }, kinds := [], alts := [], laidByText := true, laidKinds := [.data, .data, .data], laidTests := true, laidLooks := .later }
def ReplyFormsCardSaid : Prop := Claim7.holds Tryd.pinned (.plain (OpenSpec.ofChange replyFormsSpec)) replyFormsCard

/-- THE TIED CARD OF 'millpondlaw03.ReplyAll'. -/
def replyAllCard : Claim7 := { stood := { row := replyAllRow, standIns := [], harness := (true, "e338ef33ae7b9130371b1da19b779e5649e054483f6d952b9888aa2bc97bbbc7"), looks := true }, kinds := [], alts := [], laidByText := true, laidKinds := [.data, .data, .data], laidTests := true, laidLooks := .later }
def ReplyAllCardSaid : Prop := Claim7.holds Tryd.pinned (.plain (OpenSpec.ofChange replyAllSpec)) replyAllCard

/-- THE TIED CARD OF 'millpondlaw03.ReplyPieces'. -/
def replyPiecesCard : Claim7 := { stood := { row := replyPiecesRow, standIns := [], harness := (true, "e338ef33ae7b9130371b1da19b779e5649e054483f6d952b9888aa2bc97bbbc7"), looks := true }, kinds := [], alts := [], laidByText := true, laidKinds := [.data, .data, .data], laidTests := true, laidLooks := .later }
def ReplyPiecesCardSaid : Prop := Claim7.holds Tryd.pinned (.plain (OpenSpec.ofChange replyPiecesSpec)) replyPiecesCard

/-- THE SECOND FORM's CARD OF 'millpondlaw03.ReplyDecodes'. -/
def replyDecodesUptoCard : Claim7 := { stood := { row := replyDecodesUptoRow, standIns := [], harness := (true, "e338ef33ae7b9130371b1da19b779e5649e054483f6d952b9888aa2bc97bbbc7"), looks := true }, kinds := [], alts := [], laidByText := true, laidKinds := [.data, .data, .data], laidTests := true, laidLooks := .later }
def ReplyDecodesUptoCardSaid : Prop := Claim7.holds Tryd.pinned (.plain (OpenSpec.upto replyDecodesSpec)) replyDecodesUptoCard

/-- THE SECOND FORM's CARD OF 'millpondlaw03.ReplyBack'. -/
def replyBackUptoCard : Claim7 := { stood := { row := replyBackUptoRow, standIns := [], harness := (true, "e338ef33ae7b9130371b1da19b779e5649e054483f6d952b9888aa2bc97bbbc7"), looks := true }, kinds := [], alts := [], laidByText := true, laidKinds := [.data, .data, .data], laidTests := true, laidLooks := .later }
def ReplyBackUptoCardSaid : Prop := Claim7.holds Tryd.pinned (.plain (OpenSpec.upto replyBackSpec)) replyBackUptoCard

/-- THE SECOND FORM's CARD OF 'millpondlaw03.ReplyCommands'. -/
def replyCommandsUptoCard : Claim7 := { stood := { row := replyCommandsUptoRow, standIns := [], harness := (true, "e338ef33ae7b9130371b1da19b779e5649e054483f6d952b9888aa2bc97bbbc7"), looks := true }, kinds := [], alts := [], laidByText := true, laidKinds := [.data, .data, .data], laidTests := true, laidLooks := .later }
def ReplyCommandsUptoCardSaid : Prop := Claim7.holds Tryd.pinned (.plain (OpenSpec.upto replyCommandsSpec)) replyCommandsUptoCard

/-- THE SECOND FORM's CARD OF 'millpondlaw03.ReplyForms'. -/
def replyFormsUptoCard : Claim7 := { stood := { row := replyFormsUptoRow, standIns := [], harness := (true, "e338ef33ae7b9130371b1da19b779e5649e054483f6d952b9888aa2bc97bbbc7"), looks := true }, kinds := [], alts := [], laidByText := true, laidKinds := [.data, .data, .data], laidTests := true, laidLooks := .later }
def ReplyFormsUptoCardSaid : Prop := Claim7.holds Tryd.pinned (.plain (OpenSpec.upto replyFormsSpec)) replyFormsUptoCard

/-- THE SECOND FORM's CARD OF 'millpondlaw03.ReplyAll'. -/
def replyAllUptoCard : Claim7 := { stood := { row := replyAllUptoRow, standIns := [], harness := (true, "e338ef33ae7b9130371b1da19b779e5649e054483f6d952b9888aa2bc97bbbc7"), looks := true }, kinds := [], alts := [], laidByText := true, laidKinds := [.data, .data, .data], laidTests := true, laidLooks := .later }
def ReplyAllUptoCardSaid : Prop := Claim7.holds Tryd.pinned (.plain (OpenSpec.upto replyAllSpec)) replyAllUptoCard

/-- THE SECOND FORM's CARD OF 'millpondlaw03.ReplyPieces'. -/
def replyPiecesUptoCard : Claim7 := { stood := { row := replyPiecesUptoRow, standIns := [], harness := (true, "e338ef33ae7b9130371b1da19b779e5649e054483f6d952b9888aa2bc97bbbc7"), looks := true }, kinds := [], alts := [], laidByText := true, laidKinds := [.data, .data, .data], laidTests := true, laidLooks := .later }
def ReplyPiecesUptoCardSaid : Prop := Claim7.holds Tryd.pinned (.plain (OpenSpec.upto replyPiecesSpec)) replyPiecesUptoCard
end Rows
end Go.Proofs.YtpekeilpdbdnnaaDoor
