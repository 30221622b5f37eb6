/-
  DERIVED. GIVEN WITH THE SEED: THE CARDS: each row of YtepnpmaoodljkaaDoorRows.lean that lists a variable, with what it lists TIED to the program's text (the seventh form; the later family's looks); each row that meets fmt, with fmt's text TOLD by the authors' own Lean function (tested against real Go, not proved from fmt's source: count such statements apart). THE CARD IS WHAT COUNTS. Prove the row's statement (the work); the ties are given (YtepnpmaoodljkaaDoorTie.lean); close each card by the builder's one call (the guide's Derived/Test/ToyasCard.lean, 'card_holds'). Laid BY PROGRAM, IN A SANDBOX (cutbox-door.mjs). By AI agents, Wed Nov 11 2026. No macro, syntax, notation, axiom, sorry.
-/
import Derived.Test.YtepnpmaoodljkaaDoorRows
import GoSem.ClaimSeven
namespace Go.Proofs.YtepnpmaoodljkaaDoor
namespace Rows

/-- THE TIED CARD OF 'bodkinlaw13.InlaysNew'. -/
def inlaysNewCard : Claim7 := { stood := { row := inlaysNewRow, standIns := [], harness := (true, "7472c884c9f1d630a9276a5021447721dca1dcd254c47f1d4c904118fbe955d7"), looks := false }, kinds := [], alts := [], laidByText := true, laidKinds := [.data], laidTests := true, laidLooks := .later }
def InlaysNewCardSaid : Prop := Claim7.holds Tryd.pinned (.plain (OpenSpec.ofChange inlaysNewSpec)) inlaysNewCard

/-- THE TIED CARD OF 'bodkinlaw13.InlaysBack'. -/
def inlaysBackCard : Claim7 := { stood := { row := inlaysBackRow, standIns := [], harness := (true, "7472c884c9f1d630a9276a5021447721dca1dcd254c47f1d4c904118fbe955d7"), looks := false }, kinds := [], alts := [], laidByText := true, laidKinds := [.data], laidTests := true, laidLooks := .later }
def InlaysBackCardSaid : Prop := Claim7.holds Tryd.pinned (.plain (OpenSpec.ofChange inlaysBackSpec)) inlaysBackCard

/-- THE TIED CARD OF 'bodkinlaw13.InlaysTogether'. -/
def inlaysTogetherCard : Claim7 := { stood := { row := inlaysTogetherRow, standIns := [], harness := (true, "7472c884c9f1d630a9276a5021447721dca1dcd254c47f1d4c904118fbe955d7"), looks := false }, kinds := [], alts := [], laidByText := true, laidKinds := [.data], laidTests := true, laidLooks := .later }
def InlaysTogetherCardSaid : Prop := Claim7.holds Tryd.pinned (.plain (OpenSpec.ofChange inlaysTogetherSpec)) inlaysTogetherCard

/-- THE TIED CARD OF 'bodkinlaw13.InlaysSteps'. -/
def inlaysStepsCard : Claim7 := { stood := { row := inlaysStepsRow, standIns := [], harness := (true, "7472c884c9f1d630a9276a5021447721dca1dcd254c47f1d4c904118fbe955d7"), looks := false }, kinds := [], alts := [], laidByText := true, laidKinds := [.data], laidTests := true, laidLooks := .later }
def InlaysStepsCardSaid : Prop := Claim7.holds Tryd.pinned (.plain (OpenSpec.ofChange inlaysStepsSpec)) inlaysStepsCard

/-- THE TIED CARD OF 'bodkinlaw13.InlaysNil'. -/
def inlaysNilCard : Claim7 := { stood := { row := inlaysNilRow, standIns := [], harness := (true, "7472c884c9f1d630a9276a5021447721dca1dcd254c47f1d4c904118fbe955d7"), looks := false }, kinds := [], alts := [], laidByText := true, laidKinds := [.data], laidTests := true, laidLooks := .later }
def InlaysNilCardSaid : Prop := Claim7.holds Tryd.pinned (.plain (OpenSpec.ofChange inlaysNilSpec)) inlaysNilCard

/-- THE SECOND FORM's CARD OF 'bodkinlaw13.InlaysNew'. -/
def inlaysNewUptoCard : Claim7 := { stood := { row := inlaysNewUptoRow, standIns := [], harness := (true, "7472c884c9f1d630a9276a5021447721dca1dcd254c47f1d4c904118fbe955d7"), looks := false }, kinds := [], alts := [], laidByText := true, laidKinds := [.data], laidTests := true, laidLooks := .later }
def InlaysNewUptoCardSaid : Prop := Claim7.holds Tryd.pinned (.plain (OpenSpec.upto inlaysNewSpec)) inlaysNewUptoCard

/-- THE SECOND FORM's CARD OF 'bodkinlaw13.InlaysBack'. -/
def inlaysBackUptoCard : Claim7 := { stood := { row := inlaysBackUptoRow, standIns := [], harness := (true, "7472c884c9f1d630a9276a5021447721dca1dcd254c47f1d4c904118fbe955d7"), looks := false }, kinds := [], alts := [], laidByText := true, laidKinds := [.data], laidTests := true, laidLooks := .later }
def InlaysBackUptoCardSaid : Prop := Claim7.holds Tryd.pinned (.plain (OpenSpec.upto inlaysBackSpec)) inlaysBackUptoCard

/-- THE SECOND FORM's CARD OF 'bodkinlaw13.InlaysTogether'. -/
def inlaysTogetherUptoCard : Claim7 := { stood := { row := inlaysTogetherUptoRow, standIns := [], harness := (true, "7472c884c9f1d630a9276a5021447721dca1dcd254c47f1d4c904118fbe955d7"), looks := false }, kinds := [], alts := [], laidByText := true, laidKinds := [.data], laidTests := true, laidLooks := .later }
def InlaysTogetherUptoCardSaid : Prop := Claim7.holds Tryd.pinned (.plain (OpenSpec.upto inlaysTogetherSpec)) inlaysTogetherUptoCard

/-- THE SECOND FORM's CARD OF 'bodkinlaw13.InlaysSteps'. -/
def inlaysStepsUptoCard : Claim7 := { stood := { row := inlaysStepsUptoRow, standIns := [], harness := (true, "7472c884c9f1d630a9276a5021447721dca1dcd254c47f1d4c904118fbe955d7"), looks := false }, kinds := [], alts := [], laidByText := true, laidKinds := [.data], laidTests := true, laidLooks := .later }
def InlaysStepsUptoCardSaid : Prop := Claim7.holds Tryd.pinned (.plain (OpenSpec.upto inlaysStepsSpec)) inlaysStepsUptoCard

/-- THE SECOND FORM's CARD OF 'bodkinlaw13.InlaysNil'. -/
def inlaysNilUptoCard : Claim7 := { stood := { row := inlaysNilUptoRow, standIns := [], harness := (true, "7472c884c9f1d630a9276a5021447721dca1dcd254c47f1d4c904118fbe955d7"), looks := false }, kinds := [], alts := [], laidByText := true, laidKinds := [.data], laidTests := true, laidLooks := .later }
def InlaysNilUptoCardSaid : Prop := Claim7.holds Tryd.pinned (.plain (OpenSpec.upto inlaysNilSpec)) inlaysNilUptoCard
end Rows
end Go.Proofs.YtepnpmaoodljkaaDoor
