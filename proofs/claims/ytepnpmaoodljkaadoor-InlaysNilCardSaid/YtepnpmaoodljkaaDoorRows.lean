/-
  NARROWER THAN 'FOR EVERY INPUT', by the rows' own cells (each row's printed sentence says how): InlaysNew: laid · InlaysBack: laid · InlaysTogether: laid · InlaysSteps: laid · InlaysNil: laid.
  DERIVED. THE GIVEN ROWS OF THIS SEAT. 5 by the template 'for every input the law returns true; each argument reads behind the call as it read before'; 0 by the template 'total and deterministic' (their statements: YtepnpmaoodljkaaDoorTotals.lean).
  GIVEN WITH THE SEED: the statements are not yours to turn. If you find one false, say at which input.
  Laid BY PROGRAM, IN A SANDBOX (cutbox-rows.mjs): the forced cells as the released guide's own fill.sh prints them over the translation 9cec5dd7aaf9ec7d… (all of the seat's roots in one cut). By AI agents, Wed Nov 11 2026. No macro, syntax, notation, axiom, sorry.
-/
import Derived.Test.YtepnpmaoodljkaaDoorChecked
import GoSem.Claim
import GoSem.ClaimJoined
import GoSem.ClaimMapViews
import Derived.JoinedTies
import Derived.KernelRfl
namespace Go.Proofs.YtepnpmaoodljkaaDoor
/- THE CELL 'sum', in the pinned program and in every row, IS THE sha256 OF THE DUMP (.gsa) THAT YtepnpmaoodljkaaDoorProg.lean LOADS. Nothing in Lean hashes anything: it is a label: what it is worth is what the hold of that sum in a sandbox is worth. -/
noncomputable def Tryd.pinned : Pinned := { name := "ytepnpmaoodljkaadoor", sum := "9cec5dd7aaf9ec7d268f51db1d31913bb9bce21df4ff4f64cbb73b620c9cd14e", checked := Tryd.checked }
namespace Rows
def none {H : Type} : Left H := { results := [], args := [] }

/- WHAT THE LISTED PACKAGE-LEVEL VARIABLES READ AS WHEN THE CALL BEGINS. Each datum BY PROGRAM (the guide's laid-datum.mjs) off the statement by which the dump's own 'gosem.cut.vars' lays the variable. In a bare row this is a premise. The card (YtepnpmaoodljkaaDoorCards.lean) ties it to the program's text. -/
def laid_bodkin_utf_most {H : Type} : DataW H := .agg [.lit (.int .i32 127), .lit (.int .i32 2047), .lit (.int .i32 65535), .lit (.int .i32 1114111)]

/-- 'bodkinlaw13.InlaysNew': WHATEVER THE INPUT: true; the input reads as it did. -/
def inlaysNewSpec : ChangeSpec := { name := "inlaysNew", fn := fun _ => fun
  | [d1, d2, d3] => { results := [.lit (.bool true)], args := [d1, d2, d3] }
  | _ => none }
def inlaysNewRow : OpenClaim := { program := "ytepnpmaoodljkaadoor", sum := "9cec5dd7aaf9ec7d268f51db1d31913bb9bce21df4ff4f64cbb73b620c9cd14e", func := "bodkin/bodkinlaw13.InlaysNew", spec := "inlaysNew", inPlace := ["internal/bytealg.IndexByteString", "internal/bytealg.IndexString"], unfollowed := true, recurses := true, named := ["internal/bytealg.MaxLen", "bodkin/utf.most"], apart := false, laid := [("bodkin/utf.most", laid_bodkin_utf_most)] }
def InlaysNewSaid : Prop := inlaysNewRow.holds Tryd.pinned (OpenSpec.ofChange inlaysNewSpec)

/-- ITS FALSE NEIGHBOUR: 'it returns false'. Refute it at one input. -/
def inlaysNewWrong : ChangeSpec := { name := "inlaysNew", fn := fun _ => fun
  | [d1, d2, d3] => { results := [.lit (.bool false)], args := [d1, d2, d3] }
  | _ => none }
def InlaysNewWrongFalsely : Prop := inlaysNewRow.holds Tryd.pinned (OpenSpec.ofChange inlaysNewWrong)

/-- 'bodkinlaw13.InlaysBack': WHATEVER THE INPUT: true; the input reads as it did. -/
def inlaysBackSpec : ChangeSpec := { name := "inlaysBack", fn := fun _ => fun
  | [d1, d2, d3] => { results := [.lit (.bool true)], args := [d1, d2, d3] }
  | _ => none }
def inlaysBackRow : OpenClaim := { program := "ytepnpmaoodljkaadoor", sum := "9cec5dd7aaf9ec7d268f51db1d31913bb9bce21df4ff4f64cbb73b620c9cd14e", func := "bodkin/bodkinlaw13.InlaysBack", spec := "inlaysBack", inPlace := ["internal/bytealg.IndexByteString", "internal/bytealg.IndexString"], unfollowed := true, recurses := true, named := ["internal/bytealg.MaxLen", "bodkin/utf.most"], apart := false, laid := [("bodkin/utf.most", laid_bodkin_utf_most)] }
def InlaysBackSaid : Prop := inlaysBackRow.holds Tryd.pinned (OpenSpec.ofChange inlaysBackSpec)

/-- ITS FALSE NEIGHBOUR: 'it returns false'. Refute it at one input. -/
def inlaysBackWrong : ChangeSpec := { name := "inlaysBack", fn := fun _ => fun
  | [d1, d2, d3] => { results := [.lit (.bool false)], args := [d1, d2, d3] }
  | _ => none }
def InlaysBackWrongFalsely : Prop := inlaysBackRow.holds Tryd.pinned (OpenSpec.ofChange inlaysBackWrong)

/-- 'bodkinlaw13.InlaysTogether': WHATEVER THE INPUT: true; the input reads as it did. -/
def inlaysTogetherSpec : ChangeSpec := { name := "inlaysTogether", fn := fun _ => fun
  | [d1, d2, d3] => { results := [.lit (.bool true)], args := [d1, d2, d3] }
  | _ => none }
def inlaysTogetherRow : OpenClaim := { program := "ytepnpmaoodljkaadoor", sum := "9cec5dd7aaf9ec7d268f51db1d31913bb9bce21df4ff4f64cbb73b620c9cd14e", func := "bodkin/bodkinlaw13.InlaysTogether", spec := "inlaysTogether", inPlace := ["internal/bytealg.IndexByteString", "internal/bytealg.IndexString"], unfollowed := true, recurses := true, named := ["internal/bytealg.MaxLen", "bodkin/utf.most"], apart := false, laid := [("bodkin/utf.most", laid_bodkin_utf_most)] }
def InlaysTogetherSaid : Prop := inlaysTogetherRow.holds Tryd.pinned (OpenSpec.ofChange inlaysTogetherSpec)

/-- ITS FALSE NEIGHBOUR: 'it returns false'. Refute it at one input. -/
def inlaysTogetherWrong : ChangeSpec := { name := "inlaysTogether", fn := fun _ => fun
  | [d1, d2, d3] => { results := [.lit (.bool false)], args := [d1, d2, d3] }
  | _ => none }
def InlaysTogetherWrongFalsely : Prop := inlaysTogetherRow.holds Tryd.pinned (OpenSpec.ofChange inlaysTogetherWrong)

/-- 'bodkinlaw13.InlaysSteps': WHATEVER THE INPUT: true; the input reads as it did. -/
def inlaysStepsSpec : ChangeSpec := { name := "inlaysSteps", fn := fun _ => fun
  | [d1, d2, d3] => { results := [.lit (.bool true)], args := [d1, d2, d3] }
  | _ => none }
def inlaysStepsRow : OpenClaim := { program := "ytepnpmaoodljkaadoor", sum := "9cec5dd7aaf9ec7d268f51db1d31913bb9bce21df4ff4f64cbb73b620c9cd14e", func := "bodkin/bodkinlaw13.InlaysSteps", spec := "inlaysSteps", inPlace := ["internal/bytealg.IndexByteString", "internal/bytealg.IndexString"], unfollowed := true, recurses := true, named := ["internal/bytealg.MaxLen", "bodkin/utf.most"], apart := false, laid := [("bodkin/utf.most", laid_bodkin_utf_most)] }
def InlaysStepsSaid : Prop := inlaysStepsRow.holds Tryd.pinned (OpenSpec.ofChange inlaysStepsSpec)

/-- ITS FALSE NEIGHBOUR: 'it returns false'. Refute it at one input. -/
def inlaysStepsWrong : ChangeSpec := { name := "inlaysSteps", fn := fun _ => fun
  | [d1, d2, d3] => { results := [.lit (.bool false)], args := [d1, d2, d3] }
  | _ => none }
def InlaysStepsWrongFalsely : Prop := inlaysStepsRow.holds Tryd.pinned (OpenSpec.ofChange inlaysStepsWrong)

/-- 'bodkinlaw13.InlaysNil': WHATEVER THE INPUT: true; the input reads as it did. -/
def inlaysNilSpec : ChangeSpec := { name := "inlaysNil", fn := fun _ => fun
  | [d] => { results := [.lit (.bool true)], args := [d] }
  | _ => none }
def inlaysNilRow : OpenClaim := { program := "ytepnpmaoodljkaadoor", sum := "9cec5dd7aaf9ec7d268f51db1d31913bb9bce21df4ff4f64cbb73b620c9cd14e", func := "bodkin/bodkinlaw13.InlaysNil", spec := "inlaysNil", inPlace := ["internal/bytealg.IndexByteString", "internal/bytealg.IndexString"], unfollowed := true, recurses := true, named := ["internal/bytealg.MaxLen", "bodkin/utf.most"], apart := false, laid := [("bodkin/utf.most", laid_bodkin_utf_most)] }
def InlaysNilSaid : Prop := inlaysNilRow.holds Tryd.pinned (OpenSpec.ofChange inlaysNilSpec)

/-- ITS FALSE NEIGHBOUR: 'it returns false'. Refute it at one input. -/
def inlaysNilWrong : ChangeSpec := { name := "inlaysNil", fn := fun _ => fun
  | [d] => { results := [.lit (.bool false)], args := [d] }
  | _ => none }
def InlaysNilWrongFalsely : Prop := inlaysNilRow.holds Tryd.pinned (OpenSpec.ofChange inlaysNilWrong)

/- THE SECOND FORM. 'bulk': how many values and letters a reading holds, each counted each time it is reached (what is shared counts as often as it is met; a slice's spare places count too). A statement '..UptoSaid' is the law's where the arguments, and the package variables that the reading takes, are together of bulk at most 1048576: NARROWER than '..Said'. Prove '..Said' where nothing that the law and all that it calls make is longer than what came in: it says more and counts as full. Else prove '..UptoSaid'. A law counts once. -/
mutual
def uptoBulk {H : Type} : DataW H → Nat
  | .lit (.string bytes) => bytes.length + 1
  | .lit _ => 1
  | .nil => 1
  | .ptr d => uptoBulk d + 1
  | .slice elems spare => uptoBulkAll elems + uptoBulkAll spare + 1
  | .agg parts => uptoBulkAll parts + 1
  | .iface _ d => uptoBulk d + 1
  | .map entries => uptoBulkEntries entries + 1
  | .held _ => 1
def uptoBulkAll {H : Type} : List (DataW H) → Nat
  | [] => 0
  | d :: r => uptoBulk d + uptoBulkAll r
def uptoBulkEntries {H : Type} : List (Lit × DataW H) → Nat
  | [] => 0
  | x :: r => uptoBulkEntry x + uptoBulkEntries r
def uptoBulkEntry {H : Type} : Lit × DataW H → Nat
  | (.string bytes, d) => bytes.length + uptoBulk d + 1
  | (_, d) => uptoBulk d + 1
 end
def uptoSmall : (H : Type) → List (DataW H) → Bool := fun _ ds => decide (uptoBulkAll ds ≤ 1048576)
def OpenSpec.upto (s : _root_.Go.ChangeSpec) : _root_.Go.OpenSpec := { _root_.Go.OpenSpec.ofChange s with cond := some uptoSmall }

/-- 'bodkinlaw13.InlaysNew', WHERE WHAT IT READS IS OF BULK AT MOST 1048576: true; the input reads as it did. -/
def inlaysNewUptoRow : OpenClaim := { program := "ytepnpmaoodljkaadoor", sum := "9cec5dd7aaf9ec7d268f51db1d31913bb9bce21df4ff4f64cbb73b620c9cd14e", func := "bodkin/bodkinlaw13.InlaysNew", spec := "inlaysNew", inPlace := ["internal/bytealg.IndexByteString", "internal/bytealg.IndexString"], unfollowed := true, recurses := true, named := ["internal/bytealg.MaxLen", "bodkin/utf.most"], apart := false, laid := [("bodkin/utf.most", laid_bodkin_utf_most)], narrowed := true }
def InlaysNewUptoSaid : Prop := inlaysNewUptoRow.holds Tryd.pinned (OpenSpec.upto inlaysNewSpec)

/-- 'bodkinlaw13.InlaysBack', WHERE WHAT IT READS IS OF BULK AT MOST 1048576: true; the input reads as it did. -/
def inlaysBackUptoRow : OpenClaim := { program := "ytepnpmaoodljkaadoor", sum := "9cec5dd7aaf9ec7d268f51db1d31913bb9bce21df4ff4f64cbb73b620c9cd14e", func := "bodkin/bodkinlaw13.InlaysBack", spec := "inlaysBack", inPlace := ["internal/bytealg.IndexByteString", "internal/bytealg.IndexString"], unfollowed := true, recurses := true, named := ["internal/bytealg.MaxLen", "bodkin/utf.most"], apart := false, laid := [("bodkin/utf.most", laid_bodkin_utf_most)], narrowed := true }
def InlaysBackUptoSaid : Prop := inlaysBackUptoRow.holds Tryd.pinned (OpenSpec.upto inlaysBackSpec)

/-- 'bodkinlaw13.InlaysTogether', WHERE WHAT IT READS IS OF BULK AT MOST 1048576: true; the input reads as it did. -/
def inlaysTogetherUptoRow : OpenClaim := { program := "ytepnpmaoodljkaadoor", sum := "9cec5dd7aaf9ec7d268f51db1d31913bb9bce21df4ff4f64cbb73b620c9cd14e", func := "bodkin/bodkinlaw13.InlaysTogether", spec := "inlaysTogether", inPlace := ["internal/bytealg.IndexByteString", "internal/bytealg.IndexString"], unfollowed := true, recurses := true, named := ["internal/bytealg.MaxLen", "bodkin/utf.most"], apart := false, laid := [("bodkin/utf.most", laid_bodkin_utf_most)], narrowed := true }
def InlaysTogetherUptoSaid : Prop := inlaysTogetherUptoRow.holds Tryd.pinned (OpenSpec.upto inlaysTogetherSpec)

/-- 'bodkinlaw13.InlaysSteps', WHERE WHAT IT READS IS OF BULK AT MOST 1048576: true; the input reads as it did. -/
def inlaysStepsUptoRow : OpenClaim := { program := "ytepnpmaoodljkaadoor", sum := "9cec5dd7aaf9ec7d268f51db1d31913bb9bce21df4ff4f64cbb73b620c9cd14e", func := "bodkin/bodkinlaw13.InlaysSteps", spec := "inlaysSteps", inPlace := ["internal/bytealg.IndexByteString", "internal/bytealg.IndexString"], unfollowed := true, recurses := true, named := ["internal/bytealg.MaxLen", "bodkin/utf.most"], apart := false, laid := [("bodkin/utf.most", laid_bodkin_utf_most)], narrowed := true }
def InlaysStepsUptoSaid : Prop := inlaysStepsUptoRow.holds Tryd.pinned (OpenSpec.upto inlaysStepsSpec)

/-- 'bodkinlaw13.InlaysNil', WHERE WHAT IT READS IS OF BULK AT MOST 1048576: true; the input reads as it did. -/
def inlaysNilUptoRow : OpenClaim := { program := "ytepnpmaoodljkaadoor", sum := "9cec5dd7aaf9ec7d268f51db1d31913bb9bce21df4ff4f64cbb73b620c9cd14e", func := "bodkin/bodkinlaw13.InlaysNil", spec := "inlaysNil", inPlace := ["internal/bytealg.IndexByteString", "internal/bytealg.IndexString"], unfollowed := true, recurses := true, named := ["internal/bytealg.MaxLen", "bodkin/utf.most"], apart := false, laid := [("bodkin/utf.most", laid_bodkin_utf_most)], narrowed := true }
def InlaysNilUptoSaid : Prop := inlaysNilUptoRow.holds Tryd.pinned (OpenSpec.upto inlaysNilSpec)

end Rows
end Go.Proofs.YtepnpmaoodljkaaDoor
