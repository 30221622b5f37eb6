/-
  DERIVED. GIVEN WITH THE SEED: THE CARDS: each row of YtldninnfpindoaaDoorRows.lean that lists a variable, with what it lists TIED to the program's text (the seventh form; the later family's looks); each row that meets fmt, with fmt's text TOLD by the authors' own Lean function (tested against real Go, not proved from fmt's source: count such statements apart). THE CARD IS WHAT COUNTS. Prove the row's statement (the work); the ties are given (YtldninnfpindoaaDoorTie.lean); close each card by the builder's one call (the guide's Derived/Test/ToyasCard.lean, 'card_holds'). Laid BY PROGRAM, IN A SANDBOX (cutbox-door.mjs). By AI agents, Wed Nov 11 2026. No macro, syntax, notation, axiom, sorry.
-/
import Derived.Test.YtldninnfpindoaaDoorRows
import GoSem.ClaimSeven
namespace Go.Proofs.YtldninnfpindoaaDoor
namespace Rows

/-- THE TIED CARD OF 'bodkinlaw01.UtfEncodes'. -/
def utfEncodesCard : Claim7 := { stood := { row := utfEncodesRow, standIns := [], harness := (true, "34b72d46536e5c7a45bd4df041d1c0a8553e694aa7cc47199e6b7b5b65a1b497"), looks := false }, kinds := [], alts := [], laidByText := true, laidKinds := [.data], laidTests := true, laidLooks := .later }
def UtfEncodesCardSaid : Prop := Claim7.holds Tryd.pinned (.plain (OpenSpec.ofChange utfEncodesSpec)) utfEncodesCard

/-- THE TIED CARD OF 'bodkinlaw01.UtfBack'. -/
def utfBackCard : Claim7 := { stood := { row := utfBackRow, standIns := [], harness := (true, "34b72d46536e5c7a45bd4df041d1c0a8553e694aa7cc47199e6b7b5b65a1b497"), looks := false }, kinds := [], alts := [], laidByText := true, laidKinds := [.data], laidTests := true, laidLooks := .later }
def UtfBackCardSaid : Prop := Claim7.holds Tryd.pinned (.plain (OpenSpec.ofChange utfBackSpec)) utfBackCard

/-- THE TIED CARD OF 'bodkinlaw01.UtfClean'. -/
def utfCleanCard : Claim7 := { stood := { row := utfCleanRow, standIns := [], harness := (true, "34b72d46536e5c7a45bd4df041d1c0a8553e694aa7cc47199e6b7b5b65a1b497"), looks := false }, kinds := [], alts := [], laidByText := true, laidKinds := [.data], laidTests := true, laidLooks := .later }
def UtfCleanCardSaid : Prop := Claim7.holds Tryd.pinned (.plain (OpenSpec.ofChange utfCleanSpec)) utfCleanCard

/-- THE TIED CARD OF 'bodkinlaw01.UtfJoins'. -/
def utfJoinsCard : Claim7 := { stood := { row := utfJoinsRow, standIns := [], harness := (true, "34b72d46536e5c7a45bd4df041d1c0a8553e694aa7cc47199e6b7b5b65a1b497"), looks := false }, kinds := [], alts := [], laidByText := true, laidKinds := [.data], laidTests := true, laidLooks := .later }
def UtfJoinsCardSaid : Prop := Claim7.holds Tryd.pinned (.plain (OpenSpec.ofChange utfJoinsSpec)) utfJoinsCard

/-- THE TIED CARD OF 'bodkinlaw01.UtfDecodes'. -/
def utfDecodesCard : Claim7 := { stood := { row := utfDecodesRow, standIns := [], harness := (true, "34b72d46536e5c7a45bd4df041d1c0a8553e694aa7cc47199e6b7b5b65a1b497"), looks := false }, kinds := [], alts := [], laidByText := true, laidKinds := [.data], laidTests := true, laidLooks := .later }
def UtfDecodesCardSaid : Prop := Claim7.holds Tryd.pinned (.plain (OpenSpec.ofChange utfDecodesSpec)) utfDecodesCard

/-- THE TIED CARD OF 'bodkinlaw01.UtfSteps'. -/
def utfStepsCard : Claim7 := { stood := { row := utfStepsRow, standIns := [], harness := (true, "34b72d46536e5c7a45bd4df041d1c0a8553e694aa7cc47199e6b7b5b65a1b497"), looks := false }, kinds := [], alts := [], laidByText := true, laidKinds := [.data], laidTests := true, laidLooks := .later }
def UtfStepsCardSaid : Prop := Claim7.holds Tryd.pinned (.plain (OpenSpec.ofChange utfStepsSpec)) utfStepsCard

/-- THE SECOND FORM's CARD OF 'bodkinlaw01.UtfEncodes'. -/
def utfEncodesUptoCard : Claim7 := { stood := { row := utfEncodesUptoRow, standIns := [], harness := (true, "34b72d46536e5c7a45bd4df041d1c0a8553e694aa7cc47199e6b7b5b65a1b497"), looks := false }, kinds := [], alts := [], laidByText := true, laidKinds := [.data], laidTests := true, laidLooks := .later }
def UtfEncodesUptoCardSaid : Prop := Claim7.holds Tryd.pinned (.plain (OpenSpec.upto utfEncodesSpec)) utfEncodesUptoCard

/-- THE SECOND FORM's CARD OF 'bodkinlaw01.UtfBack'. -/
def utfBackUptoCard : Claim7 := { stood := { row := utfBackUptoRow, standIns := [], harness := (true, "34b72d46536e5c7a45bd4df041d1c0a8553e694aa7cc47199e6b7b5b65a1b497"), looks := false }, kinds := [], alts := [], laidByText := true, laidKinds := [.data], laidTests := true, laidLooks := .later }
def UtfBackUptoCardSaid : Prop := Claim7.holds Tryd.pinned (.plain (OpenSpec.upto utfBackSpec)) utfBackUptoCard

/-- THE SECOND FORM's CARD OF 'bodkinlaw01.UtfClean'. -/
def utfCleanUptoCard : Claim7 := { stood := { row := utfCleanUptoRow, standIns := [], harness := (true, "34b72d46536e5c7a45bd4df041d1c0a8553e694aa7cc47199e6b7b5b65a1b497"), looks := false }, kinds := [], alts := [], laidByText := true, laidKinds := [.data], laidTests := true, laidLooks := .later }
def UtfCleanUptoCardSaid : Prop := Claim7.holds Tryd.pinned (.plain (OpenSpec.upto utfCleanSpec)) utfCleanUptoCard

/-- THE SECOND FORM's CARD OF 'bodkinlaw01.UtfJoins'. -/
def utfJoinsUptoCard : Claim7 := { stood := { row := utfJoinsUptoRow, standIns := [], harness := (true, "34b72d46536e5c7a45bd4df041d1c0a8553e694aa7cc47199e6b7b5b65a1b497"), looks := false }, kinds := [], alts := [], laidByText := true, laidKinds := [.data], laidTests := true, laidLooks := .later }
def UtfJoinsUptoCardSaid : Prop := Claim7.holds Tryd.pinned (.plain (OpenSpec.upto utfJoinsSpec)) utfJoinsUptoCard

/-- THE SECOND FORM's CARD OF 'bodkinlaw01.UtfDecodes'. -/
def utfDecodesUptoCard : Claim7 := { stood := { row := utfDecodesUptoRow, standIns := [], harness := (true, "34b72d46536e5c7a45bd4df041d1c0a8553e694aa7cc47199e6b7b5b65a1b497"), looks := false }, kinds := [], alts := [], laidByText := true, laidKinds := [.data], laidTests := true, laidLooks := .later }
def UtfDecodesUptoCardSaid : Prop := Claim7.holds Tryd.pinned (.plain (OpenSpec.upto utfDecodesSpec)) utfDecodesUptoCard

/-- THE SECOND FORM's CARD OF 'bodkinlaw01.UtfSteps'. -/
def utfStepsUptoCard : Claim7 := { stood := { row := utfStepsUptoRow, standIns := [], harness := (true, "34b72d46536e5c7a45bd4df041d1c0a8553e694aa7cc47199e6b7b5b65a1b497"), looks := false }, kinds := [], alts := [], laidByText := true, laidKinds := [.data], laidTests := true, laidLooks := .later }
def UtfStepsUptoCardSaid : Prop := Claim7.holds Tryd.pinned (.plain (OpenSpec.upto utfStepsSpec)) utfStepsUptoCard
end Rows
end Go.Proofs.YtldninnfpindoaaDoor
