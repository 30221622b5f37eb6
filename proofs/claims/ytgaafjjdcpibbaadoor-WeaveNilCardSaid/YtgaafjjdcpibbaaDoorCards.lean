/-
  DERIVED. GIVEN WITH THE SEED: THE CARDS: each row of YtgaafjjdcpibbaaDoorRows.lean that lists a variable, with what it lists TIED to the program's text (the seventh form; the later family's looks); each row that meets fmt, with fmt's text TOLD by the authors' own Lean function (tested against real Go, not proved from fmt's source: count such statements apart). THE CARD IS WHAT COUNTS. Prove the row's statement (the work); the ties are given (YtgaafjjdcpibbaaDoorTie.lean); close each card by the builder's one call (the guide's Derived/Test/ToyasCard.lean, 'card_holds'). Laid BY PROGRAM, IN A SANDBOX (cutbox-door.mjs). By AI agents, Wed Nov 11 2026. No macro, syntax, notation, axiom, sorry.
-/
import Derived.Test.YtgaafjjdcpibbaaDoorRows
import GoSem.ClaimSeven
namespace Go.Proofs.YtgaafjjdcpibbaaDoor
namespace Rows

/-- THE TIED CARD OF 'bodkinlaw14.WeavePlaces'. -/
def weavePlacesCard : Claim7 := { stood := { row := weavePlacesRow, standIns := [], harness := (true, "d7bd3278ff9cc9fb20e19d488f669561d3a8046e90ab38a7c5e080bb24088551"), looks := true }, kinds := [], alts := [], laidByText := true, laidKinds := [.data], laidTests := true, laidLooks := .later }
def WeavePlacesCardSaid : Prop := Claim7.holds Tryd.pinned (.plain (OpenSpec.ofChange weavePlacesSpec)) weavePlacesCard

/-- THE TIED CARD OF 'bodkinlaw14.WeaveThere'. -/
def weaveThereCard : Claim7 := { stood := { row := weaveThereRow, standIns := [], harness := (true, "d7bd3278ff9cc9fb20e19d488f669561d3a8046e90ab38a7c5e080bb24088551"), looks := true }, kinds := [], alts := [], laidByText := true, laidKinds := [.data], laidTests := true, laidLooks := .later }
def WeaveThereCardSaid : Prop := Claim7.holds Tryd.pinned (.plain (OpenSpec.ofChange weaveThereSpec)) weaveThereCard

/-- THE TIED CARD OF 'bodkinlaw14.WeaveNew'. -/
def weaveNewCard : Claim7 := { stood := { row := weaveNewRow, standIns := [], harness := (true, "d7bd3278ff9cc9fb20e19d488f669561d3a8046e90ab38a7c5e080bb24088551"), looks := true }, kinds := [], alts := [], laidByText := true, laidKinds := [.data], laidTests := true, laidLooks := .later }
def WeaveNewCardSaid : Prop := Claim7.holds Tryd.pinned (.plain (OpenSpec.ofChange weaveNewSpec)) weaveNewCard

/-- THE TIED CARD OF 'bodkinlaw14.WeaveNil'. -/
def weaveNilCard : Claim7 := { stood := { row := weaveNilRow, standIns := [], harness := (true, "d7bd3278ff9cc9fb20e19d488f669561d3a8046e90ab38a7c5e080bb24088551"), looks := true }, kinds := [], alts := [], laidByText := true, laidKinds := [.data], laidTests := true, laidLooks := .later }
def WeaveNilCardSaid : Prop := Claim7.holds Tryd.pinned (.plain (OpenSpec.ofChange weaveNilSpec)) weaveNilCard

/-- THE SECOND FORM's CARD OF 'bodkinlaw14.WeavePlaces'. -/
def weavePlacesUptoCard : Claim7 := { stood := { row := weavePlacesUptoRow, standIns := [], harness := (true, "d7bd3278ff9cc9fb20e19d488f669561d3a8046e90ab38a7c5e080bb24088551"), looks := true }, kinds := [], alts := [], laidByText := true, laidKinds := [.data], laidTests := true, laidLooks := .later }
def WeavePlacesUptoCardSaid : Prop := Claim7.holds Tryd.pinned (.plain (OpenSpec.upto weavePlacesSpec)) weavePlacesUptoCard

/-- THE SECOND FORM's CARD OF 'bodkinlaw14.WeaveThere'. -/
def weaveThereUptoCard : Claim7 := { stood := { row := weaveThereUptoRow, standIns := [], harness := (true, "d7bd3278ff9cc9fb20e19d488f669561d3a8046e90ab38a7c5e080bb24088551"), looks := true }, kinds := [], alts := [], laidByText := true, laidKinds := [.data], laidTests := true, laidLooks := .later }
def WeaveThereUptoCardSaid : Prop := Claim7.holds Tryd.pinned (.plain (OpenSpec.upto weaveThereSpec)) weaveThereUptoCard

/-- THE SECOND FORM's CARD OF 'bodkinlaw14.WeaveNew'. -/
def weaveNewUptoCard : Claim7 := { stood := { row := weaveNewUptoRow, standIns := [], harness := (true, "d7bd3278ff9cc9fb20e19d488f669561d3a8046e90ab38a7c5e080bb24088551"), looks := true }, kinds := [], alts := [], laidByText := true, laidKinds := [.data], laidTests := true, laidLooks := .later }
def WeaveNewUptoCardSaid : Prop := Claim7.holds Tryd.pinned (.plain (OpenSpec.upto weaveNewSpec)) weaveNewUptoCard

/-- THE SECOND FORM's CARD OF 'bodkinlaw14.WeaveNil'. -/
def weaveNilUptoCard : Claim7 := { stood := { row := weaveNilUptoRow, standIns := [], harness := (true, "d7bd3278ff9cc9fb20e19d488f669561d3a8046e90ab38a7c5e080bb24088551"), looks := true }, kinds := [], alts := [], laidByText := true, laidKinds := [.data], laidTests := true, laidLooks := .later }
def WeaveNilUptoCardSaid : Prop := Claim7.holds Tryd.pinned (.plain (OpenSpec.upto weaveNilSpec)) weaveNilUptoCard
end Rows
end Go.Proofs.YtgaafjjdcpibbaaDoor
