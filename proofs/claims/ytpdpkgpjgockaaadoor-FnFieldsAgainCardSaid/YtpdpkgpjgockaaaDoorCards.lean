/-
  DERIVED. GIVEN WITH THE SEED: THE CARDS: each row of YtpdpkgpjgockaaaDoorRows.lean that lists a variable, with what it lists TIED to the program's text (the seventh form; the later family's looks); each row that meets fmt, with fmt's text TOLD by the authors' own Lean function (tested against real Go, not proved from fmt's source: count such statements apart). THE CARD IS WHAT COUNTS. Prove the row's statement (the work); the ties are given (YtpdpkgpjgockaaaDoorTie.lean); close each card by the builder's one call (the guide's Derived/Test/ToyasCard.lean, 'card_holds'). Laid BY PROGRAM, IN A SANDBOX (cutbox-door.mjs). By AI agents, Wed Nov 11 2026. No macro, syntax, notation, axiom, sorry.
-/
import Derived.Test.YtpdpkgpjgockaaaDoorRows
import GoSem.ClaimSeven
namespace Go.Proofs.YtpdpkgpjgockaaaDoor
namespace Rows

/-- THE TIED CARD OF 'laws.FnHexText'. -/
def fnHexTextCard : Claim7 := { stood := { row := fnHexTextRow, standIns := [], harness := (true, "1846f012eb7669877cbe461628ed6e4562bcb85406df29745a2befd730a7590f"), looks := false }, kinds := [], alts := [], laidByText := true, laidKinds := [.data, .data, .data], laidTests := true, laidLooks := .later }
def FnHexTextCardSaid : Prop := Claim7.holds Tryd.pinned (.plain (OpenSpec.ofChange fnHexTextSpec)) fnHexTextCard

/-- THE TIED CARD OF 'laws.FnFixedParsed'. -/
def fnFixedParsedCard : Claim7 := { stood := { row := fnFixedParsedRow, standIns := [], harness := (true, "1846f012eb7669877cbe461628ed6e4562bcb85406df29745a2befd730a7590f"), looks := false }, kinds := [], alts := [], laidByText := true, laidKinds := [.data, .data, .data], laidTests := true, laidLooks := .later }
def FnFixedParsedCardSaid : Prop := Claim7.holds Tryd.pinned (.plain (OpenSpec.ofChange fnFixedParsedSpec)) fnFixedParsedCard

/-- THE TIED CARD OF 'laws.FnFieldsAgain'. -/
def fnFieldsAgainCard : Claim7 := { stood := { row := fnFieldsAgainRow, standIns := [], harness := (true, "1846f012eb7669877cbe461628ed6e4562bcb85406df29745a2befd730a7590f"), looks := false }, kinds := [], alts := [], laidByText := true, laidKinds := [.data, .data, .data, .data, .pinned], laidTests := true, laidLooks := .later }
def FnFieldsAgainCardSaid : Prop := Claim7.holds Tryd.pinned (.plain (OpenSpec.ofChange fnFieldsAgainSpec)) fnFieldsAgainCard

/-- THE TIED CARD OF 'laws.FnExactFormatInt'. -/
def fnExactFormatIntCard : Claim7 := { stood := { row := fnExactFormatIntRow, standIns := [], harness := (true, "1846f012eb7669877cbe461628ed6e4562bcb85406df29745a2befd730a7590f"), looks := false }, kinds := [], alts := [], laidByText := true, laidKinds := [.data, .data, .data], laidTests := true, laidLooks := .later }
def FnExactFormatIntCardSaid : Prop := Claim7.holds Tryd.pinned (.plain (OpenSpec.ofChange fnExactFormatIntSpec)) fnExactFormatIntCard

/-- THE TIED CARD OF 'laws.FnExactFormatFixed'. -/
def fnExactFormatFixedCard : Claim7 := { stood := { row := fnExactFormatFixedRow, standIns := [], harness := (true, "1846f012eb7669877cbe461628ed6e4562bcb85406df29745a2befd730a7590f"), looks := false }, kinds := [], alts := [], laidByText := true, laidKinds := [.data, .data, .data], laidTests := true, laidLooks := .later }
def FnExactFormatFixedCardSaid : Prop := Claim7.holds Tryd.pinned (.plain (OpenSpec.ofChange fnExactFormatFixedSpec)) fnExactFormatFixedCard

/-- THE TIED CARD OF 'laws.FnExactParseUint'. -/
def fnExactParseUintCard : Claim7 := { stood := { row := fnExactParseUintRow, standIns := [], harness := (true, "1846f012eb7669877cbe461628ed6e4562bcb85406df29745a2befd730a7590f"), looks := false }, kinds := [], alts := [], laidByText := true, laidKinds := [.data, .data, .data], laidTests := true, laidLooks := .later }
def FnExactParseUintCardSaid : Prop := Claim7.holds Tryd.pinned (.plain (OpenSpec.ofChange fnExactParseUintSpec)) fnExactParseUintCard

/-- THE TIED CARD OF 'laws.FnNumbers'. -/
def fnNumbersCard : Claim7 := { stood := { row := fnNumbersRow, standIns := [], harness := (true, "1846f012eb7669877cbe461628ed6e4562bcb85406df29745a2befd730a7590f"), looks := false }, kinds := [], alts := [], laidByText := true, laidKinds := [.data, .data, .data], laidTests := true, laidLooks := .later }
def FnNumbersCardSaid : Prop := Claim7.holds Tryd.pinned (.plain (OpenSpec.ofChange fnNumbersSpec)) fnNumbersCard

/-- THE TIED CARD OF 'laws.FnFixedText'. -/
def fnFixedTextCard : Claim7 := { stood := { row := fnFixedTextRow, standIns := [], harness := (true, "1846f012eb7669877cbe461628ed6e4562bcb85406df29745a2befd730a7590f"), looks := false }, kinds := [], alts := [], laidByText := true, laidKinds := [.data, .data, .data], laidTests := true, laidLooks := .later }
def FnFixedTextCardSaid : Prop := Claim7.holds Tryd.pinned (.plain (OpenSpec.ofChange fnFixedTextSpec)) fnFixedTextCard

/-- THE TIED CARD OF 'laws.FnExactSplitFields'. -/
def fnExactSplitFieldsCard : Claim7 := { stood := { row := fnExactSplitFieldsRow, standIns := [], harness := (true, "1846f012eb7669877cbe461628ed6e4562bcb85406df29745a2befd730a7590f"), looks := false }, kinds := [], alts := [], laidByText := true, laidKinds := [.data, .pinned], laidTests := true, laidLooks := .later }
def FnExactSplitFieldsCardSaid : Prop := Claim7.holds Tryd.pinned (.plain (OpenSpec.ofChange fnExactSplitFieldsSpec)) fnExactSplitFieldsCard

/-- THE TIED CARD OF 'laws.FnExactParseFixed'. -/
def fnExactParseFixedCard : Claim7 := { stood := { row := fnExactParseFixedRow, standIns := [], harness := (true, "1846f012eb7669877cbe461628ed6e4562bcb85406df29745a2befd730a7590f"), looks := false }, kinds := [], alts := [], laidByText := true, laidKinds := [.data, .data, .data], laidTests := true, laidLooks := .later }
def FnExactParseFixedCardSaid : Prop := Claim7.holds Tryd.pinned (.plain (OpenSpec.ofChange fnExactParseFixedSpec)) fnExactParseFixedCard

/-- THE SECOND FORM's CARD OF 'laws.FnHexText'. -/
def fnHexTextUptoCard : Claim7 := { stood := { row := fnHexTextUptoRow, standIns := [], harness := (true, "1846f012eb7669877cbe461628ed6e4562bcb85406df29745a2befd730a7590f"), looks := false }, kinds := [], alts := [], laidByText := true, laidKinds := [.data, .data, .data], laidTests := true, laidLooks := .later }
def FnHexTextUptoCardSaid : Prop := Claim7.holds Tryd.pinned (.plain (OpenSpec.upto fnHexTextSpec)) fnHexTextUptoCard

/-- THE SECOND FORM's CARD OF 'laws.FnFixedParsed'. -/
def fnFixedParsedUptoCard : Claim7 := { stood := { row := fnFixedParsedUptoRow, standIns := [], harness := (true, "1846f012eb7669877cbe461628ed6e4562bcb85406df29745a2befd730a7590f"), looks := false }, kinds := [], alts := [], laidByText := true, laidKinds := [.data, .data, .data], laidTests := true, laidLooks := .later }
def FnFixedParsedUptoCardSaid : Prop := Claim7.holds Tryd.pinned (.plain (OpenSpec.upto fnFixedParsedSpec)) fnFixedParsedUptoCard

/-- THE SECOND FORM's CARD OF 'laws.FnFieldsAgain'. -/
def fnFieldsAgainUptoCard : Claim7 := { stood := { row := fnFieldsAgainUptoRow, standIns := [], harness := (true, "1846f012eb7669877cbe461628ed6e4562bcb85406df29745a2befd730a7590f"), looks := false }, kinds := [], alts := [], laidByText := true, laidKinds := [.data, .data, .data, .data, .pinned], laidTests := true, laidLooks := .later }
def FnFieldsAgainUptoCardSaid : Prop := Claim7.holds Tryd.pinned (.plain (OpenSpec.upto fnFieldsAgainSpec)) fnFieldsAgainUptoCard

/-- THE SECOND FORM's CARD OF 'laws.FnExactFormatInt'. -/
def fnExactFormatIntUptoCard : Claim7 := { stood := { row := fnExactFormatIntUptoRow, standIns := [], harness := (true, "1846f012eb7669877cbe461628ed6e4562bcb85406df29745a2befd730a7590f"), looks := false }, kinds := [], alts := [], laidByText := true, laidKinds := [.data, .data, .data], laidTests := true, laidLooks := .later }
def FnExactFormatIntUptoCardSaid : Prop := Claim7.holds Tryd.pinned (.plain (OpenSpec.upto fnExactFormatIntSpec)) fnExactFormatIntUptoCard

/-- THE SECOND FORM's CARD OF 'laws.FnExactFormatFixed'. -/
def fnExactFormatFixedUptoCard : Claim7 := { stood := { row := fnExactFormatFixedUptoRow, standIns := [], harness := (true, "1846f012eb7669877cbe461628ed6e4562bcb85406df29745a2befd730a7590f"), looks := false }, kinds := [], alts := [], laidByText := true, laidKinds := [.data, .data, .data], laidTests := true, laidLooks := .later }
def FnExactFormatFixedUptoCardSaid : Prop := Claim7.holds Tryd.pinned (.plain (OpenSpec.upto fnExactFormatFixedSpec)) fnExactFormatFixedUptoCard

/-- THE SECOND FORM's CARD OF 'laws.FnExactParseUint'. -/
def fnExactParseUintUptoCard : Claim7 := { stood := { row := fnExactParseUintUptoRow, standIns := [], harness := (true, "1846f012eb7669877cbe461628ed6e4562bcb85406df29745a2befd730a7590f"), looks := false }, kinds := [], alts := [], laidByText := true, laidKinds := [.data, .data, .data], laidTests := true, laidLooks := .later }
def FnExactParseUintUptoCardSaid : Prop := Claim7.holds Tryd.pinned (.plain (OpenSpec.upto fnExactParseUintSpec)) fnExactParseUintUptoCard

/-- THE SECOND FORM's CARD OF 'laws.FnNumbers'. -/
def fnNumbersUptoCard : Claim7 := { stood := { row := fnNumbersUptoRow, standIns := [], harness := (true, "1846f012eb7669877cbe461628ed6e4562bcb85406df29745a2befd730a7590f"), looks := false }, kinds := [], alts := [], laidByText := true, laidKinds := [.data, .data, .data], laidTests := true, laidLooks := .later }
def FnNumbersUptoCardSaid : Prop := Claim7.holds Tryd.pinned (.plain (OpenSpec.upto fnNumbersSpec)) fnNumbersUptoCard

/-- THE SECOND FORM's CARD OF 'laws.FnFixedText'. -/
def fnFixedTextUptoCard : Claim7 := { stood := { row := fnFixedTextUptoRow, standIns := [], harness := (true, "1846f012eb7669877cbe461628ed6e4562bcb85406df29745a2befd730a7590f"), looks := false }, kinds := [], alts := [], laidByText := true, laidKinds := [.data, .data, .data], laidTests := true, laidLooks := .later }
def FnFixedTextUptoCardSaid : Prop := Claim7.holds Tryd.pinned (.plain (OpenSpec.upto fnFixedTextSpec)) fnFixedTextUptoCard

/-- THE SECOND FORM's CARD OF 'laws.FnExactSplitFields'. -/
def fnExactSplitFieldsUptoCard : Claim7 := { stood := { row := fnExactSplitFieldsUptoRow, standIns := [], harness := (true, "1846f012eb7669877cbe461628ed6e4562bcb85406df29745a2befd730a7590f"), looks := false }, kinds := [], alts := [], laidByText := true, laidKinds := [.data, .pinned], laidTests := true, laidLooks := .later }
def FnExactSplitFieldsUptoCardSaid : Prop := Claim7.holds Tryd.pinned (.plain (OpenSpec.upto fnExactSplitFieldsSpec)) fnExactSplitFieldsUptoCard

/-- THE SECOND FORM's CARD OF 'laws.FnExactParseFixed'. -/
def fnExactParseFixedUptoCard : Claim7 := { stood := { row := fnExactParseFixedUptoRow, standIns := [], harness := (true, "1846f012eb7669877cbe461628ed6e4562bcb85406df29745a2befd730a7590f"), looks := false }, kinds := [], alts := [], laidByText := true, laidKinds := [.data, .data, .data], laidTests := true, laidLooks := .later }
def FnExactParseFixedUptoCardSaid : Prop := Claim7.holds Tryd.pinned (.plain (OpenSpec.upto fnExactParseFixedSpec)) fnExactParseFixedUptoCard
end Rows
end Go.Proofs.YtpdpkgpjgockaaaDoor
