/-
  DERIVED. GIVEN WITH THE SEED: THE CARDS: each row of YtckeadbpimhimaaGreatDoorRows.lean that lists a variable, with what it lists TIED to the program's text (the seventh form; the later family's looks); each row that meets fmt, with fmt's text TOLD by the authors' own Lean function (tested against real Go, not proved from fmt's source: count such statements apart). THE CARD IS WHAT COUNTS. Prove the row's statement (the work); the ties are given (YtckeadbpimhimaaGreatDoorTie.lean); close each card by the builder's one call (the guide's Derived/Test/ToyasCard.lean, 'card_holds'). Laid BY PROGRAM, IN A SANDBOX (cutbox-door.mjs). By AI agents, Wed Nov 11 2026. No macro, syntax, notation, axiom, sorry.
-/
import Derived.Test.YtckeadbpimhimaaGreatDoorRows
import GoSem.ClaimSeven
namespace Go.Proofs.YtckeadbpimhimaaGreatDoor
namespace Rows

/-- THE TIED CARD OF 'bodkinlaw16.CreasePlaces'. -/
def creasePlacesCard : Claim7 := { stood := { row := creasePlacesRow, standIns := [], harness := (true, "cc6b79c5cce5a2892a7a7aa127512a4ef5132bfdcf66d40106187863b159fed4"), looks := true }, kinds := [], alts := [], laidByText := true, laidKinds := [.data], laidTests := true, laidLooks := .later }
def CreasePlacesCardSaid : Prop := Claim7.holds Tryz.pinned (.plain (OpenSpec.ofChange creasePlacesSpec)) creasePlacesCard

/-- THE TIED CARD OF 'bodkinlaw16.CreaseThere'. -/
def creaseThereCard : Claim7 := { stood := { row := creaseThereRow, standIns := [], harness := (true, "cc6b79c5cce5a2892a7a7aa127512a4ef5132bfdcf66d40106187863b159fed4"), looks := true }, kinds := [], alts := [], laidByText := true, laidKinds := [.data], laidTests := true, laidLooks := .later }
def CreaseThereCardSaid : Prop := Claim7.holds Tryz.pinned (.plain (OpenSpec.ofChange creaseThereSpec)) creaseThereCard

/-- THE TIED CARD OF 'bodkinlaw16.CreaseNew'. -/
def creaseNewCard : Claim7 := { stood := { row := creaseNewRow, standIns := [], harness := (true, "cc6b79c5cce5a2892a7a7aa127512a4ef5132bfdcf66d40106187863b159fed4"), looks := true }, kinds := [], alts := [], laidByText := true, laidKinds := [.data], laidTests := true, laidLooks := .later }
def CreaseNewCardSaid : Prop := Claim7.holds Tryz.pinned (.plain (OpenSpec.ofChange creaseNewSpec)) creaseNewCard

/-- THE TIED CARD OF 'bodkinlaw16.CreaseFolds'. -/
def creaseFoldsCard : Claim7 := { stood := { row := creaseFoldsRow, standIns := [], harness := (true, "cc6b79c5cce5a2892a7a7aa127512a4ef5132bfdcf66d40106187863b159fed4"), looks := true }, kinds := [], alts := [], laidByText := true, laidKinds := [.data], laidTests := true, laidLooks := .later }
def CreaseFoldsCardSaid : Prop := Claim7.holds Tryz.pinned (.plain (OpenSpec.ofChange creaseFoldsSpec)) creaseFoldsCard

/-- THE TIED CARD OF 'bodkinlaw16.CreaseUpdates'. -/
def creaseUpdatesCard : Claim7 := { stood := { row := creaseUpdatesRow, standIns := [], harness := (true, "cc6b79c5cce5a2892a7a7aa127512a4ef5132bfdcf66d40106187863b159fed4"), looks := true }, kinds := [], alts := [], laidByText := true, laidKinds := [.data], laidTests := true, laidLooks := .later }
def CreaseUpdatesCardSaid : Prop := Claim7.holds Tryz.pinned (.plain (OpenSpec.ofChange creaseUpdatesSpec)) creaseUpdatesCard

/-- THE SECOND FORM's CARD OF 'bodkinlaw16.CreasePlaces'. -/
def creasePlacesUptoCard : Claim7 := { stood := { row := creasePlacesUptoRow, standIns := [], harness := (true, "cc6b79c5cce5a2892a7a7aa127512a4ef5132bfdcf66d40106187863b159fed4"), looks := true }, kinds := [], alts := [], laidByText := true, laidKinds := [.data], laidTests := true, laidLooks := .later }
def CreasePlacesUptoCardSaid : Prop := Claim7.holds Tryz.pinned (.plain (OpenSpec.upto creasePlacesSpec)) creasePlacesUptoCard

/-- THE SECOND FORM's CARD OF 'bodkinlaw16.CreaseThere'. -/
def creaseThereUptoCard : Claim7 := { stood := { row := creaseThereUptoRow, standIns := [], harness := (true, "cc6b79c5cce5a2892a7a7aa127512a4ef5132bfdcf66d40106187863b159fed4"), looks := true }, kinds := [], alts := [], laidByText := true, laidKinds := [.data], laidTests := true, laidLooks := .later }
def CreaseThereUptoCardSaid : Prop := Claim7.holds Tryz.pinned (.plain (OpenSpec.upto creaseThereSpec)) creaseThereUptoCard

/-- THE SECOND FORM's CARD OF 'bodkinlaw16.CreaseNew'. -/
def creaseNewUptoCard : Claim7 := { stood := { row := creaseNewUptoRow, standIns := [], harness := (true, "cc6b79c5cce5a2892a7a7aa127512a4ef5132bfdcf66d40106187863b159fed4"), looks := true }, kinds := [], alts := [], laidByText := true, laidKinds := [.data], laidTests := true, laidLooks := .later }
def CreaseNewUptoCardSaid : Prop := Claim7.holds Tryz.pinned (.plain (OpenSpec.upto creaseNewSpec)) creaseNewUptoCard

/-- THE SECOND FORM's CARD OF 'bodkinlaw16.CreaseFolds'. -/
def creaseFoldsUptoCard : Claim7 := { stood := { row := creaseFoldsUptoRow, standIns := [], harness := (true, "cc6b79c5cce5a2892a7a7aa127512a4ef5132bfdcf66d40106187863b159fed4"), looks := true }, kinds := [], alts := [], laidByText := true, laidKinds := [.data], laidTests := true, laidLooks := .later }
def CreaseFoldsUptoCardSaid : Prop := Claim7.holds Tryz.pinned (.plain (OpenSpec.upto creaseFoldsSpec)) creaseFoldsUptoCard

/-- THE SECOND FORM's CARD OF 'bodkinlaw16.CreaseUpdates'. -/
def creaseUpdatesUptoCard : Claim7 := { stood := { row := creaseUpdatesUptoRow, standIns := [], harness := (true, "cc6b79c5cce5a2892a7a7aa127512a4ef5132bfdcf66d40106187863b159fed4"), looks := true }, kinds := [], alts := [], laidByText := true, laidKinds := [.data], laidTests := true, laidLooks := .later }
def CreaseUpdatesUptoCardSaid : Prop := Claim7.holds Tryz.pinned (.plain (OpenSpec.upto creaseUpdatesSpec)) creaseUpdatesUptoCard
end Rows
end Go.Proofs.YtckeadbpimhimaaGreatDoor
