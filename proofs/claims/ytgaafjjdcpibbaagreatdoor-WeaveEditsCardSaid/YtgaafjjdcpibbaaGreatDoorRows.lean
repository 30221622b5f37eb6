/-
  NARROWER THAN 'FOR EVERY INPUT', by the rows' own cells (each row's printed sentence says how): WeaveSplices: laid · WeaveEdits: laid.
  DERIVED. THE GIVEN ROWS OF THIS SEAT. 2 by the template 'for every input the law returns true; each argument reads behind the call as it read before'; 0 by the template 'total and deterministic' (their statements: YtgaafjjdcpibbaaGreatDoorTotals.lean).
  GIVEN WITH THE SEED: the statements are not yours to turn. If you find one false, say at which input.
  Laid BY PROGRAM, IN A SANDBOX (cutbox-rows.mjs): the forced cells as the released guide's own fill.sh prints them over the translation 27966b226d1d7ad6… (all of the seat's roots in one cut). By AI agents, Wed Nov 11 2026. No macro, syntax, notation, axiom, sorry.
-/
import Derived.Test.YtgaafjjdcpibbaaGreatDoorChecked
import GoSem.Claim
import GoSem.ClaimJoined
import GoSem.ClaimMapViews
import Derived.JoinedTies
import Derived.KernelRfl
namespace Go.Proofs.YtgaafjjdcpibbaaGreatDoor
/- THE CELL 'sum', in the pinned program and in every row, IS THE sha256 OF THE DUMP (.gsa) THAT YtgaafjjdcpibbaaGreatDoorProg.lean LOADS. Nothing in Lean hashes anything: it is a label: what it is worth is what the hold of that sum in a sandbox is worth. -/
noncomputable def Tryz.pinned : Pinned := { name := "ytgaafjjdcpibbaagreatdoor", sum := "27966b226d1d7ad6ada0e086a356001eeaaa3be829fdec7d70a3329bd8e64f47", checked := Tryz.checked }
namespace Rows
def none {H : Type} : Left H := { results := [], args := [] }

/- WHAT THE LISTED PACKAGE-LEVEL VARIABLES READ AS WHEN THE CALL BEGINS. Each datum BY PROGRAM (the guide's laid-datum.mjs) off the statement by which the dump's own 'gosem.cut.vars' lays the variable. In a bare row this is a premise. The card (YtgaafjjdcpibbaaGreatDoorCards.lean) ties it to the program's text. -/
def laid_bodkin_utf_most {H : Type} : DataW H := .agg [.lit (.int .i32 127), .lit (.int .i32 2047), .lit (.int .i32 65535), .lit (.int .i32 1114111)]

/-- 'bodkinlaw14.WeaveSplices': WHATEVER THE INPUT: true; the input reads as it did. -/
def weaveSplicesSpec : ChangeSpec := { name := "weaveSplices", fn := fun _ => fun
  | [d1, d2, d3] => { results := [.lit (.bool true)], args := [d1, d2, d3] }
  | _ => none }
def weaveSplicesRow : OpenClaim := { program := "ytgaafjjdcpibbaagreatdoor", sum := "27966b226d1d7ad6ada0e086a356001eeaaa3be829fdec7d70a3329bd8e64f47", func := "bodkin/bodkinlaw14.WeaveSplices", spec := "weaveSplices", inPlace := ["internal/bytealg.IndexByteString", "internal/bytealg.IndexString"], unfollowed := true, recurses := true, named := ["internal/bytealg.MaxLen", "bodkin/utf.most"], apart := false, laid := [("bodkin/utf.most", laid_bodkin_utf_most)] }
def WeaveSplicesSaid : Prop := weaveSplicesRow.holds Tryz.pinned (OpenSpec.ofChange weaveSplicesSpec)

/-- ITS FALSE NEIGHBOUR: 'it returns false'. Refute it at one input. -/
def weaveSplicesWrong : ChangeSpec := { name := "weaveSplices", fn := fun _ => fun
  | [d1, d2, d3] => { results := [.lit (.bool false)], args := [d1, d2, d3] }
  | _ => none }
def WeaveSplicesWrongFalsely : Prop := weaveSplicesRow.holds Tryz.pinned (OpenSpec.ofChange weaveSplicesWrong)

/-- 'bodkinlaw14.WeaveEdits': WHATEVER THE INPUT: true; the input reads as it did. -/
def weaveEditsSpec : ChangeSpec := { name := "weaveEdits", fn := fun _ => fun
  | [d1, d2, d3] => { results := [.lit (.bool true)], args := [d1, d2, d3] }
  | _ => none }
def weaveEditsRow : OpenClaim := { program := "ytgaafjjdcpibbaagreatdoor", sum := "27966b226d1d7ad6ada0e086a356001eeaaa3be829fdec7d70a3329bd8e64f47", func := "bodkin/bodkinlaw14.WeaveEdits", spec := "weaveEdits", inPlace := ["internal/bytealg.IndexByteString", "internal/bytealg.IndexString"], unfollowed := true, recurses := true, named := ["internal/bytealg.MaxLen", "bodkin/utf.most"], apart := false, laid := [("bodkin/utf.most", laid_bodkin_utf_most)] }
def WeaveEditsSaid : Prop := weaveEditsRow.holds Tryz.pinned (OpenSpec.ofChange weaveEditsSpec)

/-- ITS FALSE NEIGHBOUR: 'it returns false'. Refute it at one input. -/
def weaveEditsWrong : ChangeSpec := { name := "weaveEdits", fn := fun _ => fun
  | [d1, d2, d3] => { results := [.lit (.bool false)], args := [d1, d2, d3] }
  | _ => none }
def WeaveEditsWrongFalsely : Prop := weaveEditsRow.holds Tryz.pinned (OpenSpec.ofChange weaveEditsWrong)

/- THE SECOND FORM. 'bulk': how many values and letters a reading holds, each counted each time it is reached (what is shared counts as often as it is met; a slice's spare places count too). A statement '..UptoSaid' is the law's where the arguments, and the package variables that the reading takes, are together of bulk at most 1048576: NARROWER than '..Said'. Prove '..Said' where nothing that the law and all that it calls make is longer than what came in: it says more and counts as full. Else prove '..UptoSaid'. A law counts once. -/
mutual
def uptoBulk {H : Type} : DataW H → Nat
  | .lit (.string bytes) => bytes.length + 1
  | .lit _ => 1
  | .nil => 1
  | .ptr d => uptoBulk d + 1
  | .slice elems spare => uptoBulkAll elems + uptoBulkAll spare + 1
  | .agg parts => uptoBulkAll parts + 1
  | .iface _ d => uptoBulk d + 1
  | .map entries => uptoBulkEntries entries + 1
  | .held _ => 1
def uptoBulkAll {H : Type} : List (DataW H) → Nat
  | [] => 0
  | d :: r => uptoBulk d + uptoBulkAll r
def uptoBulkEntries {H : Type} : List (Lit × DataW H) → Nat
  | [] => 0
  | x :: r => uptoBulkEntry x + uptoBulkEntries r
def uptoBulkEntry {H : Type} : Lit × DataW H → Nat
  | (.string bytes, d) => bytes.length + uptoBulk d + 1
  | (_, d) => uptoBulk d + 1
 end
def uptoSmall : (H : Type) → List (DataW H) → Bool := fun _ ds => decide (uptoBulkAll ds ≤ 1048576)
def OpenSpec.upto (s : _root_.Go.ChangeSpec) : _root_.Go.OpenSpec := { _root_.Go.OpenSpec.ofChange s with cond := some uptoSmall }

/-- 'bodkinlaw14.WeaveSplices', WHERE WHAT IT READS IS OF BULK AT MOST 1048576: true; the input reads as it did. -/
def weaveSplicesUptoRow : OpenClaim := { program := "ytgaafjjdcpibbaagreatdoor", sum := "27966b226d1d7ad6ada0e086a356001eeaaa3be829fdec7d70a3329bd8e64f47", func := "bodkin/bodkinlaw14.WeaveSplices", spec := "weaveSplices", inPlace := ["internal/bytealg.IndexByteString", "internal/bytealg.IndexString"], unfollowed := true, recurses := true, named := ["internal/bytealg.MaxLen", "bodkin/utf.most"], apart := false, laid := [("bodkin/utf.most", laid_bodkin_utf_most)], narrowed := true }
def WeaveSplicesUptoSaid : Prop := weaveSplicesUptoRow.holds Tryz.pinned (OpenSpec.upto weaveSplicesSpec)

/-- 'bodkinlaw14.WeaveEdits', WHERE WHAT IT READS IS OF BULK AT MOST 1048576: true; the input reads as it did. -/
def weaveEditsUptoRow : OpenClaim := { program := "ytgaafjjdcpibbaagreatdoor", sum := "27966b226d1d7ad6ada0e086a356001eeaaa3be829fdec7d70a3329bd8e64f47", func := "bodkin/bodkinlaw14.WeaveEdits", spec := "weaveEdits", inPlace := ["internal/bytealg.IndexByteString", "internal/bytealg.IndexString"], unfollowed := true, recurses := true, named := ["internal/bytealg.MaxLen", "bodkin/utf.most"], apart := false, laid := [("bodkin/utf.most", laid_bodkin_utf_most)], narrowed := true }
def WeaveEditsUptoSaid : Prop := weaveEditsUptoRow.holds Tryz.pinned (OpenSpec.upto weaveEditsSpec)

end Rows
end Go.Proofs.YtgaafjjdcpibbaaGreatDoor
