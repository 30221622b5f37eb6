/-
  No cell of these rows narrows 'for every input' (looked for: loops, veiled, ifaces, maps, wideKeys, modest, calm, conditions, laid).
  DERIVED. THE GIVEN ROWS OF THIS SEAT. 5 by the template 'for every input the law returns true; each argument reads behind the call as it read before'; 0 by the template 'total and deterministic' (their statements: YtpkdccmpadkmjaaTotals.lean).
  GIVEN WITH THE SEED: the statements are not yours to turn. If you find one false, say at which input.
  Laid BY PROGRAM, IN A SANDBOX (cutbox-rows.mjs): the forced cells as the released guide's own fill.sh prints them over the translation 84321cc98d069a45… (all of the seat's roots in one cut). By AI agents, Wed Nov 11 2026. No macro, syntax, notation, axiom, sorry.
-/
import Derived.Test.YtpkdccmpadkmjaaChecked
import GoSem.Claim
import GoSem.ClaimJoined
import GoSem.ClaimMapViews
import Derived.JoinedTies
import Derived.KernelRfl
namespace Go.Proofs.Ytpkdccmpadkmjaa
/- THE CELL 'sum', in the pinned program and in every row, IS THE sha256 OF THE DUMP (.gsa) THAT YtpkdccmpadkmjaaProg.lean LOADS. Nothing in Lean hashes anything: it is a label: what it is worth is what the hold of that sum in a sandbox is worth. -/
noncomputable def Try.pinned : Pinned := { name := "ytpkdccmpadkmjaa", sum := "84321cc98d069a457820359447059e624cc476ae35801057ab018cfd6f4a2e96", checked := Try.checked }
namespace Rows
def none {H : Type} : Left H := { results := [], args := [] }

/-- 'bodkinlaw40.MarksNew': WHATEVER THE INPUT: true; the input reads as it did. -/
def marksNewSpec : ChangeSpec := { name := "marksNew", fn := fun _ => fun
  | [d1, d2, d3] => { results := [.lit (.bool true)], args := [d1, d2, d3] }
  | _ => none }
def marksNewRow : OpenClaim := { program := "ytpkdccmpadkmjaa", sum := "84321cc98d069a457820359447059e624cc476ae35801057ab018cfd6f4a2e96", func := "bodkin/bodkinlaw40.MarksNew", spec := "marksNew", recurses := true, apart := false }
def MarksNewSaid : Prop := marksNewRow.holds Try.pinned (OpenSpec.ofChange marksNewSpec)

/-- ITS FALSE NEIGHBOUR: 'it returns false'. Refute it at one input. -/
def marksNewWrong : ChangeSpec := { name := "marksNew", fn := fun _ => fun
  | [d1, d2, d3] => { results := [.lit (.bool false)], args := [d1, d2, d3] }
  | _ => none }
def MarksNewWrongFalsely : Prop := marksNewRow.holds Try.pinned (OpenSpec.ofChange marksNewWrong)

/-- 'bodkinlaw40.MarksEdges': WHATEVER THE INPUT: true; the input reads as it did. -/
def marksEdgesSpec : ChangeSpec := { name := "marksEdges", fn := fun _ => fun
  | [d1, d2] => { results := [.lit (.bool true)], args := [d1, d2] }
  | _ => none }
def marksEdgesRow : OpenClaim := { program := "ytpkdccmpadkmjaa", sum := "84321cc98d069a457820359447059e624cc476ae35801057ab018cfd6f4a2e96", func := "bodkin/bodkinlaw40.MarksEdges", spec := "marksEdges", recurses := true, apart := false }
def MarksEdgesSaid : Prop := marksEdgesRow.holds Try.pinned (OpenSpec.ofChange marksEdgesSpec)

/-- ITS FALSE NEIGHBOUR: 'it returns false'. Refute it at one input. -/
def marksEdgesWrong : ChangeSpec := { name := "marksEdges", fn := fun _ => fun
  | [d1, d2] => { results := [.lit (.bool false)], args := [d1, d2] }
  | _ => none }
def MarksEdgesWrongFalsely : Prop := marksEdgesRow.holds Try.pinned (OpenSpec.ofChange marksEdgesWrong)

/-- 'bodkinlaw40.MarksPaint': WHATEVER THE INPUT: true; the input reads as it did. -/
def marksPaintSpec : ChangeSpec := { name := "marksPaint", fn := fun _ => fun
  | [d1, d2, d3] => { results := [.lit (.bool true)], args := [d1, d2, d3] }
  | _ => none }
def marksPaintRow : OpenClaim := { program := "ytpkdccmpadkmjaa", sum := "84321cc98d069a457820359447059e624cc476ae35801057ab018cfd6f4a2e96", func := "bodkin/bodkinlaw40.MarksPaint", spec := "marksPaint", unfollowed := true, recurses := true, apart := false }
def MarksPaintSaid : Prop := marksPaintRow.holds Try.pinned (OpenSpec.ofChange marksPaintSpec)

/-- ITS FALSE NEIGHBOUR: 'it returns false'. Refute it at one input. -/
def marksPaintWrong : ChangeSpec := { name := "marksPaint", fn := fun _ => fun
  | [d1, d2, d3] => { results := [.lit (.bool false)], args := [d1, d2, d3] }
  | _ => none }
def MarksPaintWrongFalsely : Prop := marksPaintRow.holds Try.pinned (OpenSpec.ofChange marksPaintWrong)

/-- 'bodkinlaw40.MarksShift': WHATEVER THE INPUT: true; the input reads as it did. -/
def marksShiftSpec : ChangeSpec := { name := "marksShift", fn := fun _ => fun
  | [d1, d2, d3] => { results := [.lit (.bool true)], args := [d1, d2, d3] }
  | _ => none }
def marksShiftRow : OpenClaim := { program := "ytpkdccmpadkmjaa", sum := "84321cc98d069a457820359447059e624cc476ae35801057ab018cfd6f4a2e96", func := "bodkin/bodkinlaw40.MarksShift", spec := "marksShift", unfollowed := true, recurses := true, apart := false }
def MarksShiftSaid : Prop := marksShiftRow.holds Try.pinned (OpenSpec.ofChange marksShiftSpec)

/-- ITS FALSE NEIGHBOUR: 'it returns false'. Refute it at one input. -/
def marksShiftWrong : ChangeSpec := { name := "marksShift", fn := fun _ => fun
  | [d1, d2, d3] => { results := [.lit (.bool false)], args := [d1, d2, d3] }
  | _ => none }
def MarksShiftWrongFalsely : Prop := marksShiftRow.holds Try.pinned (OpenSpec.ofChange marksShiftWrong)

/-- 'bodkinlaw40.MarksNil': WHATEVER THE INPUT: true; the input reads as it did. -/
def marksNilSpec : ChangeSpec := { name := "marksNil", fn := fun _ => fun
  | [d1, d2] => { results := [.lit (.bool true)], args := [d1, d2] }
  | _ => none }
def marksNilRow : OpenClaim := { program := "ytpkdccmpadkmjaa", sum := "84321cc98d069a457820359447059e624cc476ae35801057ab018cfd6f4a2e96", func := "bodkin/bodkinlaw40.MarksNil", spec := "marksNil", unfollowed := true, recurses := true, apart := false }
def MarksNilSaid : Prop := marksNilRow.holds Try.pinned (OpenSpec.ofChange marksNilSpec)

/-- ITS FALSE NEIGHBOUR: 'it returns false'. Refute it at one input. -/
def marksNilWrong : ChangeSpec := { name := "marksNil", fn := fun _ => fun
  | [d1, d2] => { results := [.lit (.bool false)], args := [d1, d2] }
  | _ => none }
def MarksNilWrongFalsely : Prop := marksNilRow.holds Try.pinned (OpenSpec.ofChange marksNilWrong)

/- THE SECOND FORM. 'bulk': how many values and letters a reading holds, each counted each time it is reached (what is shared counts as often as it is met; a slice's spare places count too). A statement '..UptoSaid' is the law's where the arguments, and the package variables that the reading takes, are together of bulk at most 1048576: NARROWER than '..Said'. Prove '..Said' where nothing that the law and all that it calls make is longer than what came in: it says more and counts as full. Else prove '..UptoSaid'. A law counts once. -/
mutual
def uptoBulk {H : Type} : DataW H → Nat
  | .lit (.string bytes) => bytes.length + 1
  | .lit _ => 1
  | .nil => 1
  | .ptr d => uptoBulk d + 1
  | .slice elems spare => uptoBulkAll elems + uptoBulkAll spare + 1
  | .agg parts => uptoBulkAll parts + 1
  | .iface _ d => uptoBulk d + 1
  | .map entries => uptoBulkEntries entries + 1
  | .held _ => 1
def uptoBulkAll {H : Type} : List (DataW H) → Nat
  | [] => 0
  | d :: r => uptoBulk d + uptoBulkAll r
def uptoBulkEntries {H : Type} : List (Lit × DataW H) → Nat
  | [] => 0
  | x :: r => uptoBulkEntry x + uptoBulkEntries r
def uptoBulkEntry {H : Type} : Lit × DataW H → Nat
  | (.string bytes, d) => bytes.length + uptoBulk d + 1
  | (_, d) => uptoBulk d + 1
 end
def uptoSmall : (H : Type) → List (DataW H) → Bool := fun _ ds => decide (uptoBulkAll ds ≤ 1048576)
def OpenSpec.upto (s : _root_.Go.ChangeSpec) : _root_.Go.OpenSpec := { _root_.Go.OpenSpec.ofChange s with cond := some uptoSmall }

/-- 'bodkinlaw40.MarksNew', WHERE WHAT IT READS IS OF BULK AT MOST 1048576: true; the input reads as it did. -/
def marksNewUptoRow : OpenClaim := { program := "ytpkdccmpadkmjaa", sum := "84321cc98d069a457820359447059e624cc476ae35801057ab018cfd6f4a2e96", func := "bodkin/bodkinlaw40.MarksNew", spec := "marksNew", recurses := true, apart := false, narrowed := true }
def MarksNewUptoSaid : Prop := marksNewUptoRow.holds Try.pinned (OpenSpec.upto marksNewSpec)

/-- 'bodkinlaw40.MarksEdges', WHERE WHAT IT READS IS OF BULK AT MOST 1048576: true; the input reads as it did. -/
def marksEdgesUptoRow : OpenClaim := { program := "ytpkdccmpadkmjaa", sum := "84321cc98d069a457820359447059e624cc476ae35801057ab018cfd6f4a2e96", func := "bodkin/bodkinlaw40.MarksEdges", spec := "marksEdges", recurses := true, apart := false, narrowed := true }
def MarksEdgesUptoSaid : Prop := marksEdgesUptoRow.holds Try.pinned (OpenSpec.upto marksEdgesSpec)

/-- 'bodkinlaw40.MarksPaint', WHERE WHAT IT READS IS OF BULK AT MOST 1048576: true; the input reads as it did. -/
def marksPaintUptoRow : OpenClaim := { program := "ytpkdccmpadkmjaa", sum := "84321cc98d069a457820359447059e624cc476ae35801057ab018cfd6f4a2e96", func := "bodkin/bodkinlaw40.MarksPaint", spec := "marksPaint", unfollowed := true, recurses := true, apart := false, narrowed := true }
def MarksPaintUptoSaid : Prop := marksPaintUptoRow.holds Try.pinned (OpenSpec.upto marksPaintSpec)

/-- 'bodkinlaw40.MarksShift', WHERE WHAT IT READS IS OF BULK AT MOST 1048576: true; the input reads as it did. -/
def marksShiftUptoRow : OpenClaim := { program := "ytpkdccmpadkmjaa", sum := "84321cc98d069a457820359447059e624cc476ae35801057ab018cfd6f4a2e96", func := "bodkin/bodkinlaw40.MarksShift", spec := "marksShift", unfollowed := true, recurses := true, apart := false, narrowed := true }
def MarksShiftUptoSaid : Prop := marksShiftUptoRow.holds Try.pinned (OpenSpec.upto marksShiftSpec)

/-- 'bodkinlaw40.MarksNil', WHERE WHAT IT READS IS OF BULK AT MOST 1048576: true; the input reads as it did. -/
def marksNilUptoRow : OpenClaim := { program := "ytpkdccmpadkmjaa", sum := "84321cc98d069a457820359447059e624cc476ae35801057ab018cfd6f4a2e96", func := "bodkin/bodkinlaw40.MarksNil", spec := "marksNil", unfollowed := true, recurses := true, apart := false, narrowed := true }
def MarksNilUptoSaid : Prop := marksNilUptoRow.holds Try.pinned (OpenSpec.upto marksNilSpec)

end Rows
end Go.Proofs.Ytpkdccmpadkmjaa
