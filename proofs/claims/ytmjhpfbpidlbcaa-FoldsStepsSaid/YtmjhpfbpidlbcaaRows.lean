/-
  No cell of these rows narrows 'for every input' (looked for: loops, veiled, ifaces, maps, wideKeys, modest, calm, conditions, laid).
  DERIVED. THE GIVEN ROWS OF THIS SEAT. 5 by the template 'for every input the law returns true; each argument reads behind the call as it read before'; 0 by the template 'total and deterministic' (their statements: YtmjhpfbpidlbcaaTotals.lean).
  GIVEN WITH THE SEED: the statements are not yours to turn. If you find one false, say at which input.
  Laid BY PROGRAM, IN A SANDBOX (cutbox-rows.mjs): the forced cells as the released guide's own fill.sh prints them over the translation e925cdc71dadd962… (all of the seat's roots in one cut). By AI agents, Wed Nov 11 2026. No macro, syntax, notation, axiom, sorry.
-/
import Derived.Test.YtmjhpfbpidlbcaaChecked
import GoSem.Claim
import GoSem.ClaimJoined
import GoSem.ClaimMapViews
import Derived.JoinedTies
import Derived.KernelRfl
namespace Go.Proofs.Ytmjhpfbpidlbcaa
/- THE CELL 'sum', in the pinned program and in every row, IS THE sha256 OF THE DUMP (.gsa) THAT YtmjhpfbpidlbcaaProg.lean LOADS. Nothing in Lean hashes anything: it is a label: what it is worth is what the hold of that sum in a sandbox is worth. -/
noncomputable def Try.pinned : Pinned := { name := "ytmjhpfbpidlbcaa", sum := "e925cdc71dadd9624236fc2b1caf8fd338b99ceafe15d7b8e366812430f0b9d4", checked := Try.checked }
namespace Rows
def none {H : Type} : Left H := { results := [], args := [] }

/-- 'bodkinlaw15.FoldsHide': WHATEVER THE INPUT: true; the input reads as it did. -/
def foldsHideSpec : ChangeSpec := { name := "foldsHide", fn := fun _ => fun
  | [d1, d2] => { results := [.lit (.bool true)], args := [d1, d2] }
  | _ => none }
def foldsHideRow : OpenClaim := { program := "ytmjhpfbpidlbcaa", sum := "e925cdc71dadd9624236fc2b1caf8fd338b99ceafe15d7b8e366812430f0b9d4", func := "bodkin/bodkinlaw15.FoldsHide", spec := "foldsHide", unfollowed := true, recurses := true, plainKeys := false, apart := false }
def FoldsHideSaid : Prop := foldsHideRow.holds Try.pinned (OpenSpec.ofChange foldsHideSpec)

/-- ITS FALSE NEIGHBOUR: 'it returns false'. Refute it at one input. -/
def foldsHideWrong : ChangeSpec := { name := "foldsHide", fn := fun _ => fun
  | [d1, d2] => { results := [.lit (.bool false)], args := [d1, d2] }
  | _ => none }
def FoldsHideWrongFalsely : Prop := foldsHideRow.holds Try.pinned (OpenSpec.ofChange foldsHideWrong)

/-- 'bodkinlaw15.FoldsNew': WHATEVER THE INPUT: true; the input reads as it did. -/
def foldsNewSpec : ChangeSpec := { name := "foldsNew", fn := fun _ => fun
  | [d1, d2, d3] => { results := [.lit (.bool true)], args := [d1, d2, d3] }
  | _ => none }
def foldsNewRow : OpenClaim := { program := "ytmjhpfbpidlbcaa", sum := "e925cdc71dadd9624236fc2b1caf8fd338b99ceafe15d7b8e366812430f0b9d4", func := "bodkin/bodkinlaw15.FoldsNew", spec := "foldsNew", unfollowed := true, recurses := true, plainKeys := false, apart := false }
def FoldsNewSaid : Prop := foldsNewRow.holds Try.pinned (OpenSpec.ofChange foldsNewSpec)

/-- ITS FALSE NEIGHBOUR: 'it returns false'. Refute it at one input. -/
def foldsNewWrong : ChangeSpec := { name := "foldsNew", fn := fun _ => fun
  | [d1, d2, d3] => { results := [.lit (.bool false)], args := [d1, d2, d3] }
  | _ => none }
def FoldsNewWrongFalsely : Prop := foldsNewRow.holds Try.pinned (OpenSpec.ofChange foldsNewWrong)

/-- 'bodkinlaw15.FoldsGrow': WHATEVER THE INPUT: true; the input reads as it did. -/
def foldsGrowSpec : ChangeSpec := { name := "foldsGrow", fn := fun _ => fun
  | [d1, d2, d3] => { results := [.lit (.bool true)], args := [d1, d2, d3] }
  | _ => none }
def foldsGrowRow : OpenClaim := { program := "ytmjhpfbpidlbcaa", sum := "e925cdc71dadd9624236fc2b1caf8fd338b99ceafe15d7b8e366812430f0b9d4", func := "bodkin/bodkinlaw15.FoldsGrow", spec := "foldsGrow", unfollowed := true, recurses := true, plainKeys := false, apart := false }
def FoldsGrowSaid : Prop := foldsGrowRow.holds Try.pinned (OpenSpec.ofChange foldsGrowSpec)

/-- ITS FALSE NEIGHBOUR: 'it returns false'. Refute it at one input. -/
def foldsGrowWrong : ChangeSpec := { name := "foldsGrow", fn := fun _ => fun
  | [d1, d2, d3] => { results := [.lit (.bool false)], args := [d1, d2, d3] }
  | _ => none }
def FoldsGrowWrongFalsely : Prop := foldsGrowRow.holds Try.pinned (OpenSpec.ofChange foldsGrowWrong)

/-- 'bodkinlaw15.FoldsSteps': WHATEVER THE INPUT: true; the input reads as it did. -/
def foldsStepsSpec : ChangeSpec := { name := "foldsSteps", fn := fun _ => fun
  | [d1, d2, d3] => { results := [.lit (.bool true)], args := [d1, d2, d3] }
  | _ => none }
def foldsStepsRow : OpenClaim := { program := "ytmjhpfbpidlbcaa", sum := "e925cdc71dadd9624236fc2b1caf8fd338b99ceafe15d7b8e366812430f0b9d4", func := "bodkin/bodkinlaw15.FoldsSteps", spec := "foldsSteps", unfollowed := true, recurses := true, plainKeys := false, apart := false }
def FoldsStepsSaid : Prop := foldsStepsRow.holds Try.pinned (OpenSpec.ofChange foldsStepsSpec)

/-- ITS FALSE NEIGHBOUR: 'it returns false'. Refute it at one input. -/
def foldsStepsWrong : ChangeSpec := { name := "foldsSteps", fn := fun _ => fun
  | [d1, d2, d3] => { results := [.lit (.bool false)], args := [d1, d2, d3] }
  | _ => none }
def FoldsStepsWrongFalsely : Prop := foldsStepsRow.holds Try.pinned (OpenSpec.ofChange foldsStepsWrong)

/-- 'bodkinlaw15.FoldsNil': WHATEVER THE INPUT: true; the input reads as it did. -/
def foldsNilSpec : ChangeSpec := { name := "foldsNil", fn := fun _ => fun
  | [d] => { results := [.lit (.bool true)], args := [d] }
  | _ => none }
def foldsNilRow : OpenClaim := { program := "ytmjhpfbpidlbcaa", sum := "e925cdc71dadd9624236fc2b1caf8fd338b99ceafe15d7b8e366812430f0b9d4", func := "bodkin/bodkinlaw15.FoldsNil", spec := "foldsNil", unfollowed := true, recurses := true, plainKeys := false, apart := false }
def FoldsNilSaid : Prop := foldsNilRow.holds Try.pinned (OpenSpec.ofChange foldsNilSpec)

/-- ITS FALSE NEIGHBOUR: 'it returns false'. Refute it at one input. -/
def foldsNilWrong : ChangeSpec := { name := "foldsNil", fn := fun _ => fun
  | [d] => { results := [.lit (.bool false)], args := [d] }
  | _ => none }
def FoldsNilWrongFalsely : Prop := foldsNilRow.holds Try.pinned (OpenSpec.ofChange foldsNilWrong)

/- THE SECOND FORM. 'bulk': how many values and letters a reading holds, each counted each time it is reached (what is shared counts as often as it is met; a slice's spare places count too). A statement '..UptoSaid' is the law's where the arguments, and the package variables that the reading takes, are together of bulk at most 1048576: NARROWER than '..Said'. Prove '..Said' where nothing that the law and all that it calls make is longer than what came in: it says more and counts as full. Else prove '..UptoSaid'. A law counts once. -/
mutual
def uptoBulk {H : Type} : DataW H → Nat
  | .lit (.string bytes) => bytes.length + 1
  | .lit _ => 1
  | .nil => 1
  | .ptr d => uptoBulk d + 1
  | .slice elems spare => uptoBulkAll elems + uptoBulkAll spare + 1
  | .agg parts => uptoBulkAll parts + 1
  | .iface _ d => uptoBulk d + 1
  | .map entries => uptoBulkEntries entries + 1
  | .held _ => 1
def uptoBulkAll {H : Type} : List (DataW H) → Nat
  | [] => 0
  | d :: r => uptoBulk d + uptoBulkAll r
def uptoBulkEntries {H : Type} : List (Lit × DataW H) → Nat
  | [] => 0
  | x :: r => uptoBulkEntry x + uptoBulkEntries r
def uptoBulkEntry {H : Type} : Lit × DataW H → Nat
  | (.string bytes, d) => bytes.length + uptoBulk d + 1
  | (_, d) => uptoBulk d + 1
 end
def uptoSmall : (H : Type) → List (DataW H) → Bool := fun _ ds => decide (uptoBulkAll ds ≤ 1048576)
def OpenSpec.upto (s : _root_.Go.ChangeSpec) : _root_.Go.OpenSpec := { _root_.Go.OpenSpec.ofChange s with cond := some uptoSmall }

/-- 'bodkinlaw15.FoldsHide', WHERE WHAT IT READS IS OF BULK AT MOST 1048576: true; the input reads as it did. -/
def foldsHideUptoRow : OpenClaim := { program := "ytmjhpfbpidlbcaa", sum := "e925cdc71dadd9624236fc2b1caf8fd338b99ceafe15d7b8e366812430f0b9d4", func := "bodkin/bodkinlaw15.FoldsHide", spec := "foldsHide", unfollowed := true, recurses := true, plainKeys := false, apart := false, narrowed := true }
def FoldsHideUptoSaid : Prop := foldsHideUptoRow.holds Try.pinned (OpenSpec.upto foldsHideSpec)

/-- 'bodkinlaw15.FoldsNew', WHERE WHAT IT READS IS OF BULK AT MOST 1048576: true; the input reads as it did. -/
def foldsNewUptoRow : OpenClaim := { program := "ytmjhpfbpidlbcaa", sum := "e925cdc71dadd9624236fc2b1caf8fd338b99ceafe15d7b8e366812430f0b9d4", func := "bodkin/bodkinlaw15.FoldsNew", spec := "foldsNew", unfollowed := true, recurses := true, plainKeys := false, apart := false, narrowed := true }
def FoldsNewUptoSaid : Prop := foldsNewUptoRow.holds Try.pinned (OpenSpec.upto foldsNewSpec)

/-- 'bodkinlaw15.FoldsGrow', WHERE WHAT IT READS IS OF BULK AT MOST 1048576: true; the input reads as it did. -/
def foldsGrowUptoRow : OpenClaim := { program := "ytmjhpfbpidlbcaa", sum := "e925cdc71dadd9624236fc2b1caf8fd338b99ceafe15d7b8e366812430f0b9d4", func := "bodkin/bodkinlaw15.FoldsGrow", spec := "foldsGrow", unfollowed := true, recurses := true, plainKeys := false, apart := false, narrowed := true }
def FoldsGrowUptoSaid : Prop := foldsGrowUptoRow.holds Try.pinned (OpenSpec.upto foldsGrowSpec)

/-- 'bodkinlaw15.FoldsSteps', WHERE WHAT IT READS IS OF BULK AT MOST 1048576: true; the input reads as it did. -/
def foldsStepsUptoRow : OpenClaim := { program := "ytmjhpfbpidlbcaa", sum := "e925cdc71dadd9624236fc2b1caf8fd338b99ceafe15d7b8e366812430f0b9d4", func := "bodkin/bodkinlaw15.FoldsSteps", spec := "foldsSteps", unfollowed := true, recurses := true, plainKeys := false, apart := false, narrowed := true }
def FoldsStepsUptoSaid : Prop := foldsStepsUptoRow.holds Try.pinned (OpenSpec.upto foldsStepsSpec)

/-- 'bodkinlaw15.FoldsNil', WHERE WHAT IT READS IS OF BULK AT MOST 1048576: true; the input reads as it did. -/
def foldsNilUptoRow : OpenClaim := { program := "ytmjhpfbpidlbcaa", sum := "e925cdc71dadd9624236fc2b1caf8fd338b99ceafe15d7b8e366812430f0b9d4", func := "bodkin/bodkinlaw15.FoldsNil", spec := "foldsNil", unfollowed := true, recurses := true, plainKeys := false, apart := false, narrowed := true }
def FoldsNilUptoSaid : Prop := foldsNilUptoRow.holds Try.pinned (OpenSpec.upto foldsNilSpec)

end Rows
end Go.Proofs.Ytmjhpfbpidlbcaa
