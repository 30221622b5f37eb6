/-
  DERIVED. GIVEN WITH THE SEED: THE CARDS: each row of YtgaafjjdcpibbaaGreatDoorRows.lean that lists a variable, with what it lists TIED to the program's text (the seventh form; the later family's looks); each row that meets fmt, with fmt's text TOLD by the authors' own Lean function (tested against real Go, not proved from fmt's source: count such statements apart). THE CARD IS WHAT COUNTS. Prove the row's statement (the work); the ties are given (YtgaafjjdcpibbaaGreatDoorTie.lean); close each card by the builder's one call (the guide's Derived/Test/ToyasCard.lean, 'card_holds'). Laid BY PROGRAM, IN A SANDBOX (cutbox-door.mjs). By AI agents, Wed Nov 11 2026. No macro, syntax, notation, axiom, sorry.
-/
import Derived.Test.YtgaafjjdcpibbaaGreatDoorRows
import GoSem.ClaimSeven
namespace Go.Proofs.YtgaafjjdcpibbaaGreatDoor
namespace Rows

/-- THE TIED CARD OF 'bodkinlaw14.WeaveSplices'. -/
def weaveSplicesCard : Claim7 := { stood := { row := weaveSplicesRow, standIns := [], harness := (true, "3ee184f724dfa3f0519b40d76d6fd737694a5419dfe34215ea84a18e2a30dded"), looks := true }, kinds := [], alts := [], laidByText := true, laidKinds := [.data], laidTests := true, laidLooks := .later }
def WeaveSplicesCardSaid : Prop := Claim7.holds Tryz.pinned (.plain (OpenSpec.ofChange weaveSplicesSpec)) weaveSplicesCard

/-- THE TIED CARD OF 'bodkinlaw14.WeaveEdits'. -/
def weaveEditsCard : Claim7 := { stood := { row := weaveEditsRow, standIns := [], harness := (true, "3ee184f724dfa3f0519b40d76d6fd737694a5419dfe34215ea84a18e2a30dded"), looks := true }, kinds := [], alts := [], laidByText := true, laidKinds := [.data], laidTests := true, laidLooks := .later }
def WeaveEditsCardSaid : Prop := Claim7.holds Tryz.pinned (.plain (OpenSpec.ofChange weaveEditsSpec)) weaveEditsCard

/-- THE SECOND FORM's CARD OF 'bodkinlaw14.WeaveSplices'. -/
def weaveSplicesUptoCard : Claim7 := { stood := { row := weaveSplicesUptoRow, standIns := [], harness := (true, "3ee184f724dfa3f0519b40d76d6fd737694a5419dfe34215ea84a18e2a30dded"), looks := true }, kinds := [], alts := [], laidByText := true, laidKinds := [.data], laidTests := true, laidLooks := .later }
def WeaveSplicesUptoCardSaid : Prop := Claim7.holds Tryz.pinned (.plain (OpenSpec.upto weaveSplicesSpec)) weaveSplicesUptoCard

/-- THE SECOND FORM's CARD OF 'bodkinlaw14.WeaveEdits'. -/
def weaveEditsUptoCard : Claim7 := { stood := { row := weaveEditsUptoRow, standIns := [], harness := (true, "3ee184f724dfa3f0519b40d76d6fd737694a5419dfe34215ea84a18e2a30dded"), looks := true }, kinds := [], alts := [], laidByText := true, laidKinds := [.data], laidTests := true, laidLooks := .later }
def WeaveEditsUptoCardSaid : Prop := Claim7.holds Tryz.pinned (.plain (OpenSpec.upto weaveEditsSpec)) weaveEditsUptoCard
end Rows
end Go.Proofs.YtgaafjjdcpibbaaGreatDoor
