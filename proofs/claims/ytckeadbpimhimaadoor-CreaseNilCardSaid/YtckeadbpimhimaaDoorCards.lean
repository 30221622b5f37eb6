/-
  DERIVED. GIVEN WITH THE SEED: THE CARDS: each row of YtckeadbpimhimaaDoorRows.lean that lists a variable, with what it lists TIED to the program's text (the seventh form; the later family's looks); each row that meets fmt, with fmt's text TOLD by the authors' own Lean function (tested against real Go, not proved from fmt's source: count such statements apart). THE CARD IS WHAT COUNTS. Prove the row's statement (the work); the ties are given (YtckeadbpimhimaaDoorTie.lean); close each card by the builder's one call (the guide's Derived/Test/ToyasCard.lean, 'card_holds'). Laid BY PROGRAM, IN A SANDBOX (cutbox-door.mjs). By AI agents, Wed Nov 11 2026. No macro, syntax, notation, axiom, sorry.
-/
import Derived.Test.YtckeadbpimhimaaDoorRows
import GoSem.ClaimSeven
namespace Go.Proofs.YtckeadbpimhimaaDoor
namespace Rows

/-- THE TIED CARD OF 'bodkinlaw16.CreaseNil'. -/
def creaseNilCard : Claim7 := { stood := { row := creaseNilRow, standIns := [], harness := (true, "ebebee321ddf574bad5e639f530570e9b01ea560c9d91bc298466590ee13bef7"), looks := true }, kinds := [], alts := [], laidByText := true, laidKinds := [.data], laidTests := true, laidLooks := .later }
def CreaseNilCardSaid : Prop := Claim7.holds Tryd.pinned (.plain (OpenSpec.ofChange creaseNilSpec)) creaseNilCard

/-- THE SECOND FORM's CARD OF 'bodkinlaw16.CreaseNil'. -/
def creaseNilUptoCard : Claim7 := { stood := { row := creaseNilUptoRow, standIns := [], harness := (true, "ebebee321ddf574bad5e639f530570e9b01ea560c9d91bc298466590ee13bef7"), looks := true }, kinds := [], alts := [], laidByText := true, laidKinds := [.data], laidTests := true, laidLooks := .later }
def CreaseNilUptoCardSaid : Prop := Claim7.holds Tryd.pinned (.plain (OpenSpec.upto creaseNilSpec)) creaseNilUptoCard
end Rows
end Go.Proofs.YtckeadbpimhimaaDoor
