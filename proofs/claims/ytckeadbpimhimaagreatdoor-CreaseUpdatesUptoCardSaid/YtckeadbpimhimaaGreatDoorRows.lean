/-
  NARROWER THAN 'FOR EVERY INPUT', by the rows' own cells (each row's printed sentence says how): CreasePlaces: laid · CreaseThere: laid · CreaseNew: laid · CreaseFolds: laid · CreaseUpdates: laid.
  DERIVED. THE GIVEN ROWS OF THIS SEAT. 5 by the template 'for every input the law returns true; each argument reads behind the call as it read before'; 0 by the template 'total and deterministic' (their statements: YtckeadbpimhimaaGreatDoorTotals.lean).
  GIVEN WITH THE SEED: the statements are not yours to turn. If you find one false, say at which input.
  Laid BY PROGRAM, IN A SANDBOX (cutbox-rows.mjs): the forced cells as the released guide's own fill.sh prints them over the translation 402c43f6cbc93b20… (all of the seat's roots in one cut). By AI agents, Wed Nov 11 2026. No macro, syntax, notation, axiom, sorry.
-/
import Derived.Test.YtckeadbpimhimaaGreatDoorChecked
import GoSem.Claim
import GoSem.ClaimJoined
import GoSem.ClaimMapViews
import Derived.JoinedTies
import Derived.KernelRfl
namespace Go.Proofs.YtckeadbpimhimaaGreatDoor
/- THE CELL 'sum', in the pinned program and in every row, IS THE sha256 OF THE DUMP (.gsa) THAT YtckeadbpimhimaaGreatDoorProg.lean LOADS. Nothing in Lean hashes anything: it is a label: what it is worth is what the hold of that sum in a sandbox is worth. -/
noncomputable def Tryz.pinned : Pinned := { name := "ytckeadbpimhimaagreatdoor", sum := "402c43f6cbc93b20ea647eed982d3fb64be8db94c67ba58f9c741aced744bd77", checked := Tryz.checked }
namespace Rows
def none {H : Type} : Left H := { results := [], args := [] }

/- WHAT THE LISTED PACKAGE-LEVEL VARIABLES READ AS WHEN THE CALL BEGINS. Each datum BY PROGRAM (the guide's laid-datum.mjs) off the statement by which the dump's own 'gosem.cut.vars' lays the variable. In a bare row this is a premise. The card (YtckeadbpimhimaaGreatDoorCards.lean) ties it to the program's text. -/
def laid_bodkin_utf_most {H : Type} : DataW H := .agg [.lit (.int .i32 127), .lit (.int .i32 2047), .lit (.int .i32 65535), .lit (.int .i32 1114111)]

/-- 'bodkinlaw16.CreasePlaces': WHATEVER THE INPUT: true; the input reads as it did. -/
def creasePlacesSpec : ChangeSpec := { name := "creasePlaces", fn := fun _ => fun
  | [d1, d2] => { results := [.lit (.bool true)], args := [d1, d2] }
  | _ => none }
def creasePlacesRow : OpenClaim := { program := "ytckeadbpimhimaagreatdoor", sum := "402c43f6cbc93b20ea647eed982d3fb64be8db94c67ba58f9c741aced744bd77", func := "bodkin/bodkinlaw16.CreasePlaces", spec := "creasePlaces", inPlace := ["internal/bytealg.IndexByteString", "internal/bytealg.IndexString"], unfollowed := true, recurses := true, named := ["internal/bytealg.MaxLen", "bodkin/utf.most"], apart := false, laid := [("bodkin/utf.most", laid_bodkin_utf_most)] }
def CreasePlacesSaid : Prop := creasePlacesRow.holds Tryz.pinned (OpenSpec.ofChange creasePlacesSpec)

/-- ITS FALSE NEIGHBOUR: 'it returns false'. Refute it at one input. -/
def creasePlacesWrong : ChangeSpec := { name := "creasePlaces", fn := fun _ => fun
  | [d1, d2] => { results := [.lit (.bool false)], args := [d1, d2] }
  | _ => none }
def CreasePlacesWrongFalsely : Prop := creasePlacesRow.holds Tryz.pinned (OpenSpec.ofChange creasePlacesWrong)

/-- 'bodkinlaw16.CreaseThere': WHATEVER THE INPUT: true; the input reads as it did. -/
def creaseThereSpec : ChangeSpec := { name := "creaseThere", fn := fun _ => fun
  | [d] => { results := [.lit (.bool true)], args := [d] }
  | _ => none }
def creaseThereRow : OpenClaim := { program := "ytckeadbpimhimaagreatdoor", sum := "402c43f6cbc93b20ea647eed982d3fb64be8db94c67ba58f9c741aced744bd77", func := "bodkin/bodkinlaw16.CreaseThere", spec := "creaseThere", inPlace := ["internal/bytealg.IndexByteString", "internal/bytealg.IndexString"], unfollowed := true, recurses := true, named := ["internal/bytealg.MaxLen", "bodkin/utf.most"], apart := false, laid := [("bodkin/utf.most", laid_bodkin_utf_most)] }
def CreaseThereSaid : Prop := creaseThereRow.holds Tryz.pinned (OpenSpec.ofChange creaseThereSpec)

/-- ITS FALSE NEIGHBOUR: 'it returns false'. Refute it at one input. -/
def creaseThereWrong : ChangeSpec := { name := "creaseThere", fn := fun _ => fun
  | [d] => { results := [.lit (.bool false)], args := [d] }
  | _ => none }
def CreaseThereWrongFalsely : Prop := creaseThereRow.holds Tryz.pinned (OpenSpec.ofChange creaseThereWrong)

/-- 'bodkinlaw16.CreaseNew': WHATEVER THE INPUT: true; the input reads as it did. -/
def creaseNewSpec : ChangeSpec := { name := "creaseNew", fn := fun _ => fun
  | [d] => { results := [.lit (.bool true)], args := [d] }
  | _ => none }
def creaseNewRow : OpenClaim := { program := "ytckeadbpimhimaagreatdoor", sum := "402c43f6cbc93b20ea647eed982d3fb64be8db94c67ba58f9c741aced744bd77", func := "bodkin/bodkinlaw16.CreaseNew", spec := "creaseNew", inPlace := ["internal/bytealg.IndexByteString", "internal/bytealg.IndexString"], unfollowed := true, recurses := true, named := ["internal/bytealg.MaxLen", "bodkin/utf.most"], apart := false, laid := [("bodkin/utf.most", laid_bodkin_utf_most)] }
def CreaseNewSaid : Prop := creaseNewRow.holds Tryz.pinned (OpenSpec.ofChange creaseNewSpec)

/-- ITS FALSE NEIGHBOUR: 'it returns false'. Refute it at one input. -/
def creaseNewWrong : ChangeSpec := { name := "creaseNew", fn := fun _ => fun
  | [d] => { results := [.lit (.bool false)], args := [d] }
  | _ => none }
def CreaseNewWrongFalsely : Prop := creaseNewRow.holds Tryz.pinned (OpenSpec.ofChange creaseNewWrong)

/-- 'bodkinlaw16.CreaseFolds': WHATEVER THE INPUT: true; the input reads as it did. -/
def creaseFoldsSpec : ChangeSpec := { name := "creaseFolds", fn := fun _ => fun
  | [d1, d2] => { results := [.lit (.bool true)], args := [d1, d2] }
  | _ => none }
def creaseFoldsRow : OpenClaim := { program := "ytckeadbpimhimaagreatdoor", sum := "402c43f6cbc93b20ea647eed982d3fb64be8db94c67ba58f9c741aced744bd77", func := "bodkin/bodkinlaw16.CreaseFolds", spec := "creaseFolds", inPlace := ["internal/bytealg.IndexByteString", "internal/bytealg.IndexString"], unfollowed := true, recurses := true, named := ["internal/bytealg.MaxLen", "bodkin/utf.most"], apart := false, laid := [("bodkin/utf.most", laid_bodkin_utf_most)] }
def CreaseFoldsSaid : Prop := creaseFoldsRow.holds Tryz.pinned (OpenSpec.ofChange creaseFoldsSpec)

/-- ITS FALSE NEIGHBOUR: 'it returns false'. Refute it at one input. -/
def creaseFoldsWrong : ChangeSpec := { name := "creaseFolds", fn := fun _ => fun
  | [d1, d2] => { results := [.lit (.bool false)], args := [d1, d2] }
  | _ => none }
def CreaseFoldsWrongFalsely : Prop := creaseFoldsRow.holds Tryz.pinned (OpenSpec.ofChange creaseFoldsWrong)

/-- 'bodkinlaw16.CreaseUpdates': WHATEVER THE INPUT: true; the input reads as it did. -/
def creaseUpdatesSpec : ChangeSpec := { name := "creaseUpdates", fn := fun _ => fun
  | [d1, d2] => { results := [.lit (.bool true)], args := [d1, d2] }
  | _ => none }
def creaseUpdatesRow : OpenClaim := { program := "ytckeadbpimhimaagreatdoor", sum := "402c43f6cbc93b20ea647eed982d3fb64be8db94c67ba58f9c741aced744bd77", func := "bodkin/bodkinlaw16.CreaseUpdates", spec := "creaseUpdates", inPlace := ["internal/bytealg.IndexByteString", "internal/bytealg.IndexString"], unfollowed := true, recurses := true, named := ["internal/bytealg.MaxLen", "bodkin/utf.most"], apart := false, laid := [("bodkin/utf.most", laid_bodkin_utf_most)] }
def CreaseUpdatesSaid : Prop := creaseUpdatesRow.holds Tryz.pinned (OpenSpec.ofChange creaseUpdatesSpec)

/-- ITS FALSE NEIGHBOUR: 'it returns false'. Refute it at one input. -/
def creaseUpdatesWrong : ChangeSpec := { name := "creaseUpdates", fn := fun _ => fun
  | [d1, d2] => { results := [.lit (.bool false)], args := [d1, d2] }
  | _ => none }
def CreaseUpdatesWrongFalsely : Prop := creaseUpdatesRow.holds Tryz.pinned (OpenSpec.ofChange creaseUpdatesWrong)

/- THE SECOND FORM. 'bulk': how many values and letters a reading holds, each counted each time it is reached (what is shared counts as often as it is met; a slice's spare places count too). A statement '..UptoSaid' is the law's where the arguments, and the package variables that the reading takes, are together of bulk at most 1048576: NARROWER than '..Said'. Prove '..Said' where nothing that the law and all that it calls make is longer than what came in: it says more and counts as full. Else prove '..UptoSaid'. A law counts once. -/
mutual
def uptoBulk {H : Type} : DataW H → Nat
  | .lit (.string bytes) => bytes.length + 1
  | .lit _ => 1
  | .nil => 1
  | .ptr d => uptoBulk d + 1
  | .slice elems spare => uptoBulkAll elems + uptoBulkAll spare + 1
  | .agg parts => uptoBulkAll parts + 1
  | .iface _ d => uptoBulk d + 1
  | .map entries => uptoBulkEntries entries + 1
  | .held _ => 1
def uptoBulkAll {H : Type} : List (DataW H) → Nat
  | [] => 0
  | d :: r => uptoBulk d + uptoBulkAll r
def uptoBulkEntries {H : Type} : List (Lit × DataW H) → Nat
  | [] => 0
  | x :: r => uptoBulkEntry x + uptoBulkEntries r
def uptoBulkEntry {H : Type} : Lit × DataW H → Nat
  | (.string bytes, d) => bytes.length + uptoBulk d + 1
  | (_, d) => uptoBulk d + 1
 end
def uptoSmall : (H : Type) → List (DataW H) → Bool := fun _ ds => decide (uptoBulkAll ds ≤ 1048576)
def OpenSpec.upto (s : _root_.Go.ChangeSpec) : _root_.Go.OpenSpec := { _root_.Go.OpenSpec.ofChange s with cond := some uptoSmall }

/-- 'bodkinlaw16.CreasePlaces', WHERE WHAT IT READS IS OF BULK AT MOST 1048576: true; the input reads as it did. -/
def creasePlacesUptoRow : OpenClaim := { program := "ytckeadbpimhimaagreatdoor", sum := "402c43f6cbc93b20ea647eed982d3fb64be8db94c67ba58f9c741aced744bd77", func := "bodkin/bodkinlaw16.CreasePlaces", spec := "creasePlaces", inPlace := ["internal/bytealg.IndexByteString", "internal/bytealg.IndexString"], unfollowed := true, recurses := true, named := ["internal/bytealg.MaxLen", "bodkin/utf.most"], apart := false, laid := [("bodkin/utf.most", laid_bodkin_utf_most)], narrowed := true }
def CreasePlacesUptoSaid : Prop := creasePlacesUptoRow.holds Tryz.pinned (OpenSpec.upto creasePlacesSpec)

/-- 'bodkinlaw16.CreaseThere', WHERE WHAT IT READS IS OF BULK AT MOST 1048576: true; the input reads as it did. -/
def creaseThereUptoRow : OpenClaim := { program := "ytckeadbpimhimaagreatdoor", sum := "402c43f6cbc93b20ea647eed982d3fb64be8db94c67ba58f9c741aced744bd77", func := "bodkin/bodkinlaw16.CreaseThere", spec := "creaseThere", inPlace := ["internal/bytealg.IndexByteString", "internal/bytealg.IndexString"], unfollowed := true, recurses := true, named := ["internal/bytealg.MaxLen", "bodkin/utf.most"], apart := false, laid := [("bodkin/utf.most", laid_bodkin_utf_most)], narrowed := true }
def CreaseThereUptoSaid : Prop := creaseThereUptoRow.holds Tryz.pinned (OpenSpec.upto creaseThereSpec)

/-- 'bodkinlaw16.CreaseNew', WHERE WHAT IT READS IS OF BULK AT MOST 1048576: true; the input reads as it did. -/
def creaseNewUptoRow : OpenClaim := { program := "ytckeadbpimhimaagreatdoor", sum := "402c43f6cbc93b20ea647eed982d3fb64be8db94c67ba58f9c741aced744bd77", func := "bodkin/bodkinlaw16.CreaseNew", spec := "creaseNew", inPlace := ["internal/bytealg.IndexByteString", "internal/bytealg.IndexString"], unfollowed := true, recurses := true, named := ["internal/bytealg.MaxLen", "bodkin/utf.most"], apart := false, laid := [("bodkin/utf.most", laid_bodkin_utf_most)], narrowed := true }
def CreaseNewUptoSaid : Prop := creaseNewUptoRow.holds Tryz.pinned (OpenSpec.upto creaseNewSpec)

/-- 'bodkinlaw16.CreaseFolds', WHERE WHAT IT READS IS OF BULK AT MOST 1048576: true; the input reads as it did. -/
def creaseFoldsUptoRow : OpenClaim := { program := "ytckeadbpimhimaagreatdoor", sum := "402c43f6cbc93b20ea647eed982d3fb64be8db94c67ba58f9c741aced744bd77", func := "bodkin/bodkinlaw16.CreaseFolds", spec := "creaseFolds", inPlace := ["internal/bytealg.IndexByteString", "internal/bytealg.IndexString"], unfollowed := true, recurses := true, named := ["internal/bytealg.MaxLen", "bodkin/utf.most"], apart := false, laid := [("bodkin/utf.most", laid_bodkin_utf_most)], narrowed := true }
def CreaseFoldsUptoSaid : Prop := creaseFoldsUptoRow.holds Tryz.pinned (OpenSpec.upto creaseFoldsSpec)

/-- 'bodkinlaw16.CreaseUpdates', WHERE WHAT IT READS IS OF BULK AT MOST 1048576: true; the input reads as it did. -/
def creaseUpdatesUptoRow : OpenClaim := { program := "ytckeadbpimhimaagreatdoor", sum := "402c43f6cbc93b20ea647eed982d3fb64be8db94c67ba58f9c741aced744bd77", func := "bodkin/bodkinlaw16.CreaseUpdates", spec := "creaseUpdates", inPlace := ["internal/bytealg.IndexByteString", "internal/bytealg.IndexString"], unfollowed := true, recurses := true, named := ["internal/bytealg.MaxLen", "bodkin/utf.most"], apart := false, laid := [("bodkin/utf.most", laid_bodkin_utf_most)], narrowed := true }
def CreaseUpdatesUptoSaid : Prop := creaseUpdatesUptoRow.holds Tryz.pinned (OpenSpec.upto creaseUpdatesSpec)

end Rows
end Go.Proofs.YtckeadbpimhimaaGreatDoor
