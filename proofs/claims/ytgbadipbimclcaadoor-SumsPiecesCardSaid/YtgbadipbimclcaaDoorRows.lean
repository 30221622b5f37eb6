/-
  NARROWER THAN 'FOR EVERY INPUT', by the rows' own cells (each row's printed sentence says how): SumsOf: laid · SumsAdds: laid · SumsBrackets: laid · SumsPieces: laid.
  DERIVED. THE GIVEN ROWS OF THIS SEAT. 4 by the template 'for every input the law returns true; each argument reads behind the call as it read before'; 0 by the template 'total and deterministic' (their statements: YtgbadipbimclcaaDoorTotals.lean).
  GIVEN WITH THE SEED: the statements are not yours to turn. If you find one false, say at which input.
  Laid BY PROGRAM, IN A SANDBOX (cutbox-rows.mjs): the forced cells as the released guide's own fill.sh prints them over the translation 5c95edfa23c5c985… (all of the seat's roots in one cut). By AI agents, Wed Nov 11 2026. No macro, syntax, notation, axiom, sorry.
-/
import Derived.Test.YtgbadipbimclcaaDoorChecked
import GoSem.Claim
import GoSem.ClaimJoined
import GoSem.ClaimMapViews
import Derived.JoinedTies
import Derived.KernelRfl
namespace Go.Proofs.YtgbadipbimclcaaDoor
/- THE CELL 'sum', in the pinned program and in every row, IS THE sha256 OF THE DUMP (.gsa) THAT YtgbadipbimclcaaDoorProg.lean LOADS. Nothing in Lean hashes anything: it is a label: what it is worth is what the hold of that sum in a sandbox is worth. -/
noncomputable def Tryd.pinned : Pinned := { name := "ytgbadipbimclcaadoor", sum := "5c95edfa23c5c985d3383040755c4a2a13e62f03bc759268b18d1d28aa5cbb5a", checked := Tryd.checked }
namespace Rows
def none {H : Type} : Left H := { results := [], args := [] }

/- WHAT THE LISTED PACKAGE-LEVEL VARIABLES READ AS WHEN THE CALL BEGINS. Each datum BY PROGRAM (the guide's laid-datum.mjs) off the statement by which the dump's own 'gosem.cut.vars' lays the variable. In a bare row this is a premise. The card (YtgbadipbimclcaaDoorCards.lean) ties it to the program's text. -/
def laid_bodkin_utf_most {H : Type} : DataW H := .agg [.lit (.int .i32 127), .lit (.int .i32 2047), .lit (.int .i32 65535), .lit (.int .i32 1114111)]

/-- 'bodkinlaw03.SumsOf': WHATEVER THE INPUT: true; the input reads as it did. -/
def sumsOfSpec : ChangeSpec := { name := "sumsOf", fn := fun _ => fun
  | [d] => { results := [.lit (.bool true)], args := [d] }
  | _ => none }
def sumsOfRow : OpenClaim := { program := "ytgbadipbimclcaadoor", sum := "5c95edfa23c5c985d3383040755c4a2a13e62f03bc759268b18d1d28aa5cbb5a", func := "bodkin/bodkinlaw03.SumsOf", spec := "sumsOf", unfollowed := true, recurses := true, named := ["bodkin/utf.most"], apart := false, laid := [("bodkin/utf.most", laid_bodkin_utf_most)] }
def SumsOfSaid : Prop := sumsOfRow.holds Tryd.pinned (OpenSpec.ofChange sumsOfSpec)

/-- ITS FALSE NEIGHBOUR: 'it returns false'. Refute it at one input. -/
def sumsOfWrong : ChangeSpec := { name := "sumsOf", fn := fun _ => fun
  | [d] => { results := [.lit (.bool false)], args := [d] }
  | _ => none }
def SumsOfWrongFalsely : Prop := sumsOfRow.holds Tryd.pinned (OpenSpec.ofChange sumsOfWrong)

/-- 'bodkinlaw03.SumsAdds': WHATEVER THE INPUT: true; the input reads as it did. -/
def sumsAddsSpec : ChangeSpec := { name := "sumsAdds", fn := fun _ => fun
  | [d1, d2] => { results := [.lit (.bool true)], args := [d1, d2] }
  | _ => none }
def sumsAddsRow : OpenClaim := { program := "ytgbadipbimclcaadoor", sum := "5c95edfa23c5c985d3383040755c4a2a13e62f03bc759268b18d1d28aa5cbb5a", func := "bodkin/bodkinlaw03.SumsAdds", spec := "sumsAdds", unfollowed := true, recurses := true, named := ["bodkin/utf.most"], apart := false, laid := [("bodkin/utf.most", laid_bodkin_utf_most)] }
def SumsAddsSaid : Prop := sumsAddsRow.holds Tryd.pinned (OpenSpec.ofChange sumsAddsSpec)

/-- ITS FALSE NEIGHBOUR: 'it returns false'. Refute it at one input. -/
def sumsAddsWrong : ChangeSpec := { name := "sumsAdds", fn := fun _ => fun
  | [d1, d2] => { results := [.lit (.bool false)], args := [d1, d2] }
  | _ => none }
def SumsAddsWrongFalsely : Prop := sumsAddsRow.holds Tryd.pinned (OpenSpec.ofChange sumsAddsWrong)

/-- 'bodkinlaw03.SumsBrackets': WHATEVER THE INPUT: true; the input reads as it did. -/
def sumsBracketsSpec : ChangeSpec := { name := "sumsBrackets", fn := fun _ => fun
  | [d1, d2, d3] => { results := [.lit (.bool true)], args := [d1, d2, d3] }
  | _ => none }
def sumsBracketsRow : OpenClaim := { program := "ytgbadipbimclcaadoor", sum := "5c95edfa23c5c985d3383040755c4a2a13e62f03bc759268b18d1d28aa5cbb5a", func := "bodkin/bodkinlaw03.SumsBrackets", spec := "sumsBrackets", unfollowed := true, recurses := true, named := ["bodkin/utf.most"], apart := false, laid := [("bodkin/utf.most", laid_bodkin_utf_most)] }
def SumsBracketsSaid : Prop := sumsBracketsRow.holds Tryd.pinned (OpenSpec.ofChange sumsBracketsSpec)

/-- ITS FALSE NEIGHBOUR: 'it returns false'. Refute it at one input. -/
def sumsBracketsWrong : ChangeSpec := { name := "sumsBrackets", fn := fun _ => fun
  | [d1, d2, d3] => { results := [.lit (.bool false)], args := [d1, d2, d3] }
  | _ => none }
def SumsBracketsWrongFalsely : Prop := sumsBracketsRow.holds Tryd.pinned (OpenSpec.ofChange sumsBracketsWrong)

/-- 'bodkinlaw03.SumsPieces': WHATEVER THE INPUT: true; the input reads as it did. -/
def sumsPiecesSpec : ChangeSpec := { name := "sumsPieces", fn := fun _ => fun
  | [d1, d2] => { results := [.lit (.bool true)], args := [d1, d2] }
  | _ => none }
def sumsPiecesRow : OpenClaim := { program := "ytgbadipbimclcaadoor", sum := "5c95edfa23c5c985d3383040755c4a2a13e62f03bc759268b18d1d28aa5cbb5a", func := "bodkin/bodkinlaw03.SumsPieces", spec := "sumsPieces", unfollowed := true, recurses := true, named := ["bodkin/utf.most"], apart := false, laid := [("bodkin/utf.most", laid_bodkin_utf_most)] }
def SumsPiecesSaid : Prop := sumsPiecesRow.holds Tryd.pinned (OpenSpec.ofChange sumsPiecesSpec)

/-- ITS FALSE NEIGHBOUR: 'it returns false'. Refute it at one input. -/
def sumsPiecesWrong : ChangeSpec := { name := "sumsPieces", fn := fun _ => fun
  | [d1, d2] => { results := [.lit (.bool false)], args := [d1, d2] }
  | _ => none }
def SumsPiecesWrongFalsely : Prop := sumsPiecesRow.holds Tryd.pinned (OpenSpec.ofChange sumsPiecesWrong)

/- THE SECOND FORM. 'bulk': how many values and letters a reading holds, each counted each time it is reached (what is shared counts as often as it is met; a slice's spare places count too). A statement '..UptoSaid' is the law's where the arguments, and the package variables that the reading takes, are together of bulk at most 1048576: NARROWER than '..Said'. Prove '..Said' where nothing that the law and all that it calls make is longer than what came in: it says more and counts as full. Else prove '..UptoSaid'. A law counts once. -/
mutual
def uptoBulk {H : Type} : DataW H → Nat
  | .lit (.string bytes) => bytes.length + 1
  | .lit _ => 1
  | .nil => 1
  | .ptr d => uptoBulk d + 1
  | .slice elems spare => uptoBulkAll elems + uptoBulkAll spare + 1
  | .agg parts => uptoBulkAll parts + 1
  | .iface _ d => uptoBulk d + 1
  | .map entries => uptoBulkEntries entries + 1
  | .held _ => 1
def uptoBulkAll {H : Type} : List (DataW H) → Nat
  | [] => 0
  | d :: r => uptoBulk d + uptoBulkAll r
def uptoBulkEntries {H : Type} : List (Lit × DataW H) → Nat
  | [] => 0
  | x :: r => uptoBulkEntry x + uptoBulkEntries r
def uptoBulkEntry {H : Type} : Lit × DataW H → Nat
  | (.string bytes, d) => bytes.length + uptoBulk d + 1
  | (_, d) => uptoBulk d + 1
 end
def uptoSmall : (H : Type) → List (DataW H) → Bool := fun _ ds => decide (uptoBulkAll ds ≤ 1048576)
def OpenSpec.upto (s : _root_.Go.ChangeSpec) : _root_.Go.OpenSpec := { _root_.Go.OpenSpec.ofChange s with cond := some uptoSmall }

/-- 'bodkinlaw03.SumsOf', WHERE WHAT IT READS IS OF BULK AT MOST 1048576: true; the input reads as it did. -/
def sumsOfUptoRow : OpenClaim := { program := "ytgbadipbimclcaadoor", sum := "5c95edfa23c5c985d3383040755c4a2a13e62f03bc759268b18d1d28aa5cbb5a", func := "bodkin/bodkinlaw03.SumsOf", spec := "sumsOf", unfollowed := true, recurses := true, named := ["bodkin/utf.most"], apart := false, laid := [("bodkin/utf.most", laid_bodkin_utf_most)], narrowed := true }
def SumsOfUptoSaid : Prop := sumsOfUptoRow.holds Tryd.pinned (OpenSpec.upto sumsOfSpec)

/-- 'bodkinlaw03.SumsAdds', WHERE WHAT IT READS IS OF BULK AT MOST 1048576: true; the input reads as it did. -/
def sumsAddsUptoRow : OpenClaim := { program := "ytgbadipbimclcaadoor", sum := "5c95edfa23c5c985d3383040755c4a2a13e62f03bc759268b18d1d28aa5cbb5a", func := "bodkin/bodkinlaw03.SumsAdds", spec := "sumsAdds", unfollowed := true, recurses := true, named := ["bodkin/utf.most"], apart := false, laid := [("bodkin/utf.most", laid_bodkin_utf_most)], narrowed := true }
def SumsAddsUptoSaid : Prop := sumsAddsUptoRow.holds Tryd.pinned (OpenSpec.upto sumsAddsSpec)

/-- 'bodkinlaw03.SumsBrackets', WHERE WHAT IT READS IS OF BULK AT MOST 1048576: true; the input reads as it did. -/
def sumsBracketsUptoRow : OpenClaim := { program := "ytgbadipbimclcaadoor", sum := "5c95edfa23c5c985d3383040755c4a2a13e62f03bc759268b18d1d28aa5cbb5a", func := "bodkin/bodkinlaw03.SumsBrackets", spec := "sumsBrackets", unfollowed := true, recurses := true, named := ["bodkin/utf.most"], apart := false, laid := [("bodkin/utf.most", laid_bodkin_utf_most)], narrowed := true }
def SumsBracketsUptoSaid : Prop := sumsBracketsUptoRow.holds Tryd.pinned (OpenSpec.upto sumsBracketsSpec)

/-- 'bodkinlaw03.SumsPieces', WHERE WHAT IT READS IS OF BULK AT MOST 1048576: true; the input reads as it did. -/
def sumsPiecesUptoRow : OpenClaim := { program := "ytgbadipbimclcaadoor", sum := "5c95edfa23c5c985d3383040755c4a2a13e62f03bc759268b18d1d28aa5cbb5a", func := "bodkin/bodkinlaw03.SumsPieces", spec := "sumsPieces", unfollowed := true, recurses := true, named := ["bodkin/utf.most"], apart := false, laid := [("bodkin/utf.most", laid_bodkin_utf_most)], narrowed := true }
def SumsPiecesUptoSaid : Prop := sumsPiecesUptoRow.holds Tryd.pinned (OpenSpec.upto sumsPiecesSpec)

end Rows
end Go.Proofs.YtgbadipbimclcaaDoor
