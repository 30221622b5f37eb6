/-
  DERIVED. GIVEN WITH THE SEED: THE CARDS: each row of YtgbadipbimclcaaDoorRows.lean that lists a variable, with what it lists TIED to the program's text (the seventh form; the later family's looks); each row that meets fmt, with fmt's text TOLD by the authors' own Lean function (tested against real Go, not proved from fmt's source: count such statements apart). THE CARD IS WHAT COUNTS. Prove the row's statement (the work); the ties are given (YtgbadipbimclcaaDoorTie.lean); close each card by the builder's one call (the guide's Derived/Test/ToyasCard.lean, 'card_holds'). Laid BY PROGRAM, IN A SANDBOX (cutbox-door.mjs). By AI agents, Wed Nov 11 2026. No macro, syntax, notation, axiom, sorry.
-/
import Derived.Test.YtgbadipbimclcaaDoorRows
import GoSem.ClaimSeven
namespace Go.Proofs.YtgbadipbimclcaaDoor
namespace Rows

/-- THE TIED CARD OF 'bodkinlaw03.SumsOf'. -/
def sumsOfCard : Claim7 := { stood := { row := sumsOfRow, standIns := [], harness := (true, "d428cea1c4425237079272eef70a6b5795c3c36b651dfb131356c1157abd4f59"), looks := false }, kinds := [], alts := [], laidByText := true, laidKinds := [.data], laidTests := true, laidLooks := .later }
def SumsOfCardSaid : Prop := Claim7.holds Tryd.pinned (.plain (OpenSpec.ofChange sumsOfSpec)) sumsOfCard

/-- THE TIED CARD OF 'bodkinlaw03.SumsAdds'. -/
def sumsAddsCard : Claim7 := { stood := { row := sumsAddsRow, standIns := [], harness := (true, "d428cea1c4425237079272eef70a6b5795c3c36b651dfb131356c1157abd4f59"), looks := false }, kinds := [], alts := [], laidByText := true, laidKinds := [.data], laidTests := true, laidLooks := .later }
def SumsAddsCardSaid : Prop := Claim7.holds Tryd.pinned (.plain (OpenSpec.ofChange sumsAddsSpec)) sumsAddsCard

/-- THE TIED CARD OF 'bodkinlaw03.SumsBrackets'. -/
def sumsBracketsCard : Claim7 := { stood := { row := sumsBracketsRow, standIns := [], harness := (true, "d428cea1c4425237079272eef70a6b5795c3c36b651dfb131356c1157abd4f59"), looks := false }, kinds := [], alts := [], laidByText := true, laidKinds := [.data], laidTests := true, laidLooks := .later }
def SumsBracketsCardSaid : Prop := Claim7.holds Tryd.pinned (.plain (OpenSpec.ofChange sumsBracketsSpec)) sumsBracketsCard

/-- THE TIED CARD OF 'bodkinlaw03.SumsPieces'. -/
def sumsPiecesCard : Claim7 := { stood := { row := sumsPiecesRow, standIns := [], harness := (true, "d428cea1c4425237079272eef70a6b5795c3c36b651dfb131356c1157abd4f59"), looks := false }, kinds := [], alts := [], laidByText := true, laidKinds := [.data], laidTests := true, laidLooks := .later }
def SumsPiecesCardSaid : Prop := Claim7.holds Tryd.pinned (.plain (OpenSpec.ofChange sumsPiecesSpec)) sumsPiecesCard

/-- THE SECOND FORM's CARD OF 'bodkinlaw03.SumsOf'. -/
def sumsOfUptoCard : Claim7 := { stood := { row := sumsOfUptoRow, standIns := [], harness := (true, "d428cea1c4425237079272eef70a6b5795c3c36b651dfb131356c1157abd4f59"), looks := false }, kinds := [], alts := [], laidByText := true, laidKinds := [.data], laidTests := true, laidLooks := .later }
def SumsOfUptoCardSaid : Prop := Claim7.holds Tryd.pinned (.plain (OpenSpec.upto sumsOfSpec)) sumsOfUptoCard

/-- THE SECOND FORM's CARD OF 'bodkinlaw03.SumsAdds'. -/
def sumsAddsUptoCard : Claim7 := { stood := { row := sumsAddsUptoRow, standIns := [], harness := (true, "d428cea1c4425237079272eef70a6b5795c3c36b651dfb131356c1157abd4f59"), looks := false }, kinds := [], alts := [], laidByText := true, laidKinds := [.data], laidTests := true, laidLooks := .later }
def SumsAddsUptoCardSaid : Prop := Claim7.holds Tryd.pinned (.plain (OpenSpec.upto sumsAddsSpec)) sumsAddsUptoCard

/-- THE SECOND FORM's CARD OF 'bodkinlaw03.SumsBrackets'. -/
def sumsBracketsUptoCard : Claim7 := { stood := { row := sumsBracketsUptoRow, standIns := [], harness := (true, "d428cea1c4425237079272eef70a6b5795c3c36b651dfb131356c1157abd4f59"), looks := false }, kinds := [], alts := [], laidByText := true, laidKinds := [.data], laidTests := true, laidLooks := .later }
def SumsBracketsUptoCardSaid : Prop := Claim7.holds Tryd.pinned (.plain (OpenSpec.upto sumsBracketsSpec)) sumsBracketsUptoCard

/-- THE SECOND FORM's CARD OF 'bodkinlaw03.SumsPieces'. -/
def sumsPiecesUptoCard : Claim7 := { stood := { row := sumsPiecesUptoRow, standIns := [], harness := (true, "d428cea1c4425237079272eef70a6b5795c3c36b651dfb131356c1157abd4f59"), looks := false }, kinds := [], alts := [], laidByText := true, laidKinds := [.data], laidTests := true, laidLooks := .later }
def SumsPiecesUptoCardSaid : Prop := Claim7.holds Tryd.pinned (.plain (OpenSpec.upto sumsPiecesSpec)) sumsPiecesUptoCard
end Rows
end Go.Proofs.YtgbadipbimclcaaDoor
