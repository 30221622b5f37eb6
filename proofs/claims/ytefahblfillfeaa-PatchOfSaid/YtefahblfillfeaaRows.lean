/-
  No cell of these rows narrows 'for every input' (looked for: loops, veiled, ifaces, maps, wideKeys, modest, calm, conditions, laid).
  DERIVED. THE GIVEN ROWS OF THIS SEAT. 6 by the template 'for every input the law returns true; each argument reads behind the call as it read before'; 0 by the template 'total and deterministic' (their statements: YtefahblfillfeaaTotals.lean).
  GIVEN WITH THE SEED: the statements are not yours to turn. If you find one false, say at which input.
  Laid BY PROGRAM, IN A SANDBOX (cutbox-rows.mjs): the forced cells as the released guide's own fill.sh prints them over the translation 8d3454c7c7c37bf2… (all of the seat's roots in one cut). By AI agents, Wed Nov 11 2026. No macro, syntax, notation, axiom, sorry.
-/
import Derived.Test.YtefahblfillfeaaChecked
import GoSem.Claim
import GoSem.ClaimJoined
import GoSem.ClaimMapViews
import Derived.JoinedTies
import Derived.KernelRfl
namespace Go.Proofs.Ytefahblfillfeaa
/- THE CELL 'sum', in the pinned program and in every row, IS THE sha256 OF THE DUMP (.gsa) THAT YtefahblfillfeaaProg.lean LOADS. Nothing in Lean hashes anything: it is a label: what it is worth is what the hold of that sum in a sandbox is worth. -/
noncomputable def Try.pinned : Pinned := { name := "ytefahblfillfeaa", sum := "8d3454c7c7c37bf237e35f79edc0d18b0dcae1ad4d3a3562f150a0cf63ac11da", checked := Try.checked }
namespace Rows
def none {H : Type} : Left H := { results := [], args := [] }

/-- 'bodkinlaw10.PatchNormal': WHATEVER THE INPUT: true; the input reads as it did. -/
def patchNormalSpec : ChangeSpec := { name := "patchNormal", fn := fun _ => fun
  | [d1, d2, d3] => { results := [.lit (.bool true)], args := [d1, d2, d3] }
  | _ => none }
def patchNormalRow : OpenClaim := { program := "ytefahblfillfeaa", sum := "8d3454c7c7c37bf237e35f79edc0d18b0dcae1ad4d3a3562f150a0cf63ac11da", func := "bodkin/bodkinlaw10.PatchNormal", spec := "patchNormal", apart := false }
def PatchNormalSaid : Prop := patchNormalRow.holds Try.pinned (OpenSpec.ofChange patchNormalSpec)

/-- ITS FALSE NEIGHBOUR: 'it returns false'. Refute it at one input. -/
def patchNormalWrong : ChangeSpec := { name := "patchNormal", fn := fun _ => fun
  | [d1, d2, d3] => { results := [.lit (.bool false)], args := [d1, d2, d3] }
  | _ => none }
def PatchNormalWrongFalsely : Prop := patchNormalRow.holds Try.pinned (OpenSpec.ofChange patchNormalWrong)

/-- 'bodkinlaw10.PatchOf': WHATEVER THE INPUT: true; the input reads as it did. -/
def patchOfSpec : ChangeSpec := { name := "patchOf", fn := fun _ => fun
  | [d1, d2] => { results := [.lit (.bool true)], args := [d1, d2] }
  | _ => none }
def patchOfRow : OpenClaim := { program := "ytefahblfillfeaa", sum := "8d3454c7c7c37bf237e35f79edc0d18b0dcae1ad4d3a3562f150a0cf63ac11da", func := "bodkin/bodkinlaw10.PatchOf", spec := "patchOf", apart := false }
def PatchOfSaid : Prop := patchOfRow.holds Try.pinned (OpenSpec.ofChange patchOfSpec)

/-- ITS FALSE NEIGHBOUR: 'it returns false'. Refute it at one input. -/
def patchOfWrong : ChangeSpec := { name := "patchOf", fn := fun _ => fun
  | [d1, d2] => { results := [.lit (.bool false)], args := [d1, d2] }
  | _ => none }
def PatchOfWrongFalsely : Prop := patchOfRow.holds Try.pinned (OpenSpec.ofChange patchOfWrong)

/-- 'bodkinlaw10.PatchComposes': WHATEVER THE INPUT: true; the input reads as it did. -/
def patchComposesSpec : ChangeSpec := { name := "patchComposes", fn := fun _ => fun
  | [d1, d2] => { results := [.lit (.bool true)], args := [d1, d2] }
  | _ => none }
def patchComposesRow : OpenClaim := { program := "ytefahblfillfeaa", sum := "8d3454c7c7c37bf237e35f79edc0d18b0dcae1ad4d3a3562f150a0cf63ac11da", func := "bodkin/bodkinlaw10.PatchComposes", spec := "patchComposes", unfollowed := true, recurses := true, apart := false }
def PatchComposesSaid : Prop := patchComposesRow.holds Try.pinned (OpenSpec.ofChange patchComposesSpec)

/-- ITS FALSE NEIGHBOUR: 'it returns false'. Refute it at one input. -/
def patchComposesWrong : ChangeSpec := { name := "patchComposes", fn := fun _ => fun
  | [d1, d2] => { results := [.lit (.bool false)], args := [d1, d2] }
  | _ => none }
def PatchComposesWrongFalsely : Prop := patchComposesRow.holds Try.pinned (OpenSpec.ofChange patchComposesWrong)

/-- 'bodkinlaw10.PatchBoth': WHATEVER THE INPUT: true; the input reads as it did. -/
def patchBothSpec : ChangeSpec := { name := "patchBoth", fn := fun _ => fun
  | [d1, d2, d3] => { results := [.lit (.bool true)], args := [d1, d2, d3] }
  | _ => none }
def patchBothRow : OpenClaim := { program := "ytefahblfillfeaa", sum := "8d3454c7c7c37bf237e35f79edc0d18b0dcae1ad4d3a3562f150a0cf63ac11da", func := "bodkin/bodkinlaw10.PatchBoth", spec := "patchBoth", unfollowed := true, recurses := true, apart := false }
def PatchBothSaid : Prop := patchBothRow.holds Try.pinned (OpenSpec.ofChange patchBothSpec)

/-- ITS FALSE NEIGHBOUR: 'it returns false'. Refute it at one input. -/
def patchBothWrong : ChangeSpec := { name := "patchBoth", fn := fun _ => fun
  | [d1, d2, d3] => { results := [.lit (.bool false)], args := [d1, d2, d3] }
  | _ => none }
def PatchBothWrongFalsely : Prop := patchBothRow.holds Try.pinned (OpenSpec.ofChange patchBothWrong)

/-- 'bodkinlaw10.PatchBrackets': WHATEVER THE INPUT: true; the input reads as it did. -/
def patchBracketsSpec : ChangeSpec := { name := "patchBrackets", fn := fun _ => fun
  | [d1, d2, d3] => { results := [.lit (.bool true)], args := [d1, d2, d3] }
  | _ => none }
def patchBracketsRow : OpenClaim := { program := "ytefahblfillfeaa", sum := "8d3454c7c7c37bf237e35f79edc0d18b0dcae1ad4d3a3562f150a0cf63ac11da", func := "bodkin/bodkinlaw10.PatchBrackets", spec := "patchBrackets", unfollowed := true, recurses := true, apart := false }
def PatchBracketsSaid : Prop := patchBracketsRow.holds Try.pinned (OpenSpec.ofChange patchBracketsSpec)

/-- ITS FALSE NEIGHBOUR: 'it returns false'. Refute it at one input. -/
def patchBracketsWrong : ChangeSpec := { name := "patchBrackets", fn := fun _ => fun
  | [d1, d2, d3] => { results := [.lit (.bool false)], args := [d1, d2, d3] }
  | _ => none }
def PatchBracketsWrongFalsely : Prop := patchBracketsRow.holds Try.pinned (OpenSpec.ofChange patchBracketsWrong)

/-- 'bodkinlaw10.PatchTurns': WHATEVER THE INPUT: true; the input reads as it did. -/
def patchTurnsSpec : ChangeSpec := { name := "patchTurns", fn := fun _ => fun
  | [d1, d2] => { results := [.lit (.bool true)], args := [d1, d2] }
  | _ => none }
def patchTurnsRow : OpenClaim := { program := "ytefahblfillfeaa", sum := "8d3454c7c7c37bf237e35f79edc0d18b0dcae1ad4d3a3562f150a0cf63ac11da", func := "bodkin/bodkinlaw10.PatchTurns", spec := "patchTurns", unfollowed := true, recurses := true, apart := false }
def PatchTurnsSaid : Prop := patchTurnsRow.holds Try.pinned (OpenSpec.ofChange patchTurnsSpec)

/-- ITS FALSE NEIGHBOUR: 'it returns false'. Refute it at one input. -/
def patchTurnsWrong : ChangeSpec := { name := "patchTurns", fn := fun _ => fun
  | [d1, d2] => { results := [.lit (.bool false)], args := [d1, d2] }
  | _ => none }
def PatchTurnsWrongFalsely : Prop := patchTurnsRow.holds Try.pinned (OpenSpec.ofChange patchTurnsWrong)

/- THE SECOND FORM. 'bulk': how many values and letters a reading holds, each counted each time it is reached (what is shared counts as often as it is met; a slice's spare places count too). A statement '..UptoSaid' is the law's where the arguments, and the package variables that the reading takes, are together of bulk at most 1048576: NARROWER than '..Said'. Prove '..Said' where nothing that the law and all that it calls make is longer than what came in: it says more and counts as full. Else prove '..UptoSaid'. A law counts once. -/
mutual
def uptoBulk {H : Type} : DataW H → Nat
  | .lit (.string bytes) => bytes.length + 1
  | .lit _ => 1
  | .nil => 1
  | .ptr d => uptoBulk d + 1
  | .slice elems spare => uptoBulkAll elems + uptoBulkAll spare + 1
  | .agg parts => uptoBulkAll parts + 1
  | .iface _ d => uptoBulk d + 1
  | .map entries => uptoBulkEntries entries + 1
  | .held _ => 1
def uptoBulkAll {H : Type} : List (DataW H) → Nat
  | [] => 0
  | d :: r => uptoBulk d + uptoBulkAll r
def uptoBulkEntries {H : Type} : List (Lit × DataW H) → Nat
  | [] => 0
  | x :: r => uptoBulkEntry x + uptoBulkEntries r
def uptoBulkEntry {H : Type} : Lit × DataW H → Nat
  | (.string bytes, d) => bytes.length + uptoBulk d + 1
  | (_, d) => uptoBulk d + 1
 end
def uptoSmall : (H : Type) → List (DataW H) → Bool := fun _ ds => decide (uptoBulkAll ds ≤ 1048576)
def OpenSpec.upto (s : _root_.Go.ChangeSpec) : _root_.Go.OpenSpec := { _root_.Go.OpenSpec.ofChange s with cond := some uptoSmall }

/-- 'bodkinlaw10.PatchNormal', WHERE WHAT IT READS IS OF BULK AT MOST 1048576: true; the input reads as it did. -/
def patchNormalUptoRow : OpenClaim := { program := "ytefahblfillfeaa", sum := "8d3454c7c7c37bf237e35f79edc0d18b0dcae1ad4d3a3562f150a0cf63ac11da", func := "bodkin/bodkinlaw10.PatchNormal", spec := "patchNormal", apart := false, narrowed := true }
def PatchNormalUptoSaid : Prop := patchNormalUptoRow.holds Try.pinned (OpenSpec.upto patchNormalSpec)

/-- 'bodkinlaw10.PatchOf', WHERE WHAT IT READS IS OF BULK AT MOST 1048576: true; the input reads as it did. -/
def patchOfUptoRow : OpenClaim := { program := "ytefahblfillfeaa", sum := "8d3454c7c7c37bf237e35f79edc0d18b0dcae1ad4d3a3562f150a0cf63ac11da", func := "bodkin/bodkinlaw10.PatchOf", spec := "patchOf", apart := false, narrowed := true }
def PatchOfUptoSaid : Prop := patchOfUptoRow.holds Try.pinned (OpenSpec.upto patchOfSpec)

/-- 'bodkinlaw10.PatchComposes', WHERE WHAT IT READS IS OF BULK AT MOST 1048576: true; the input reads as it did. -/
def patchComposesUptoRow : OpenClaim := { program := "ytefahblfillfeaa", sum := "8d3454c7c7c37bf237e35f79edc0d18b0dcae1ad4d3a3562f150a0cf63ac11da", func := "bodkin/bodkinlaw10.PatchComposes", spec := "patchComposes", unfollowed := true, recurses := true, apart := false, narrowed := true }
def PatchComposesUptoSaid : Prop := patchComposesUptoRow.holds Try.pinned (OpenSpec.upto patchComposesSpec)

/-- 'bodkinlaw10.PatchBoth', WHERE WHAT IT READS IS OF BULK AT MOST 1048576: true; the input reads as it did. -/
def patchBothUptoRow : OpenClaim := { program := "ytefahblfillfeaa", sum := "8d3454c7c7c37bf237e35f79edc0d18b0dcae1ad4d3a3562f150a0cf63ac11da", func := "bodkin/bodkinlaw10.PatchBoth", spec := "patchBoth", unfollowed := true, recurses := true, apart := false, narrowed := true }
def PatchBothUptoSaid : Prop := patchBothUptoRow.holds Try.pinned (OpenSpec.upto patchBothSpec)

/-- 'bodkinlaw10.PatchBrackets', WHERE WHAT IT READS IS OF BULK AT MOST 1048576: true; the input reads as it did. -/
def patchBracketsUptoRow : OpenClaim := { program := "ytefahblfillfeaa", sum := "8d3454c7c7c37bf237e35f79edc0d18b0dcae1ad4d3a3562f150a0cf63ac11da", func := "bodkin/bodkinlaw10.PatchBrackets", spec := "patchBrackets", unfollowed := true, recurses := true, apart := false, narrowed := true }
def PatchBracketsUptoSaid : Prop := patchBracketsUptoRow.holds Try.pinned (OpenSpec.upto patchBracketsSpec)

/-- 'bodkinlaw10.PatchTurns', WHERE WHAT IT READS IS OF BULK AT MOST 1048576: true; the input reads as it did. -/
def patchTurnsUptoRow : OpenClaim := { program := "ytefahblfillfeaa", sum := "8d3454c7c7c37bf237e35f79edc0d18b0dcae1ad4d3a3562f150a0cf63ac11da", func := "bodkin/bodkinlaw10.PatchTurns", spec := "patchTurns", unfollowed := true, recurses := true, apart := false, narrowed := true }
def PatchTurnsUptoSaid : Prop := patchTurnsUptoRow.holds Try.pinned (OpenSpec.upto patchTurnsSpec)

end Rows
end Go.Proofs.Ytefahblfillfeaa
