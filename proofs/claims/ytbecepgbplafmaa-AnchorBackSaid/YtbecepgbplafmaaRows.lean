/-
  No cell of these rows narrows 'for every input' (looked for: loops, veiled, ifaces, maps, wideKeys, modest, calm, conditions, laid).
  DERIVED. THE GIVEN ROWS OF THIS SEAT. 5 by the template 'for every input the law returns true; each argument reads behind the call as it read before'; 0 by the template 'total and deterministic' (their statements: YtbecepgbplafmaaTotals.lean).
  GIVEN WITH THE SEED: the statements are not yours to turn. If you find one false, say at which input.
  Laid BY PROGRAM, IN A SANDBOX (cutbox-rows.mjs): the forced cells as the released guide's own fill.sh prints them over the translation 76b6926e6493303e… (all of the seat's roots in one cut). By AI agents, Wed Nov 11 2026. No macro, syntax, notation, axiom, sorry.
-/
import Derived.Test.YtbecepgbplafmaaChecked
import GoSem.Claim
import GoSem.ClaimJoined
import GoSem.ClaimMapViews
import Derived.JoinedTies
import Derived.KernelRfl
namespace Go.Proofs.Ytbecepgbplafmaa
/- THE CELL 'sum', in the pinned program and in every row, IS THE sha256 OF THE DUMP (.gsa) THAT YtbecepgbplafmaaProg.lean LOADS. Nothing in Lean hashes anything: it is a label: what it is worth is what the hold of that sum in a sandbox is worth. -/
noncomputable def Try.pinned : Pinned := { name := "ytbecepgbplafmaa", sum := "76b6926e6493303e10b20ead4ed9bca2c177f00fbe295f434d254aa0120d1e14", checked := Try.checked }
namespace Rows
def none {H : Type} : Left H := { results := [], args := [] }

/-- 'bodkinlaw11.AnchorSets': WHATEVER THE INPUT: true; the input reads as it did. -/
def anchorSetsSpec : ChangeSpec := { name := "anchorSets", fn := fun _ => fun
  | [d1, d2, d3] => { results := [.lit (.bool true)], args := [d1, d2, d3] }
  | _ => none }
def anchorSetsRow : OpenClaim := { program := "ytbecepgbplafmaa", sum := "76b6926e6493303e10b20ead4ed9bca2c177f00fbe295f434d254aa0120d1e14", func := "bodkin/bodkinlaw11.AnchorSets", spec := "anchorSets", unfollowed := true, recurses := true, apart := false }
def AnchorSetsSaid : Prop := anchorSetsRow.holds Try.pinned (OpenSpec.ofChange anchorSetsSpec)

/-- ITS FALSE NEIGHBOUR: 'it returns false'. Refute it at one input. -/
def anchorSetsWrong : ChangeSpec := { name := "anchorSets", fn := fun _ => fun
  | [d1, d2, d3] => { results := [.lit (.bool false)], args := [d1, d2, d3] }
  | _ => none }
def AnchorSetsWrongFalsely : Prop := anchorSetsRow.holds Try.pinned (OpenSpec.ofChange anchorSetsWrong)

/-- 'bodkinlaw11.AnchorShifts': WHATEVER THE INPUT: true; the input reads as it did. -/
def anchorShiftsSpec : ChangeSpec := { name := "anchorShifts", fn := fun _ => fun
  | [d1, d2, d3] => { results := [.lit (.bool true)], args := [d1, d2, d3] }
  | _ => none }
def anchorShiftsRow : OpenClaim := { program := "ytbecepgbplafmaa", sum := "76b6926e6493303e10b20ead4ed9bca2c177f00fbe295f434d254aa0120d1e14", func := "bodkin/bodkinlaw11.AnchorShifts", spec := "anchorShifts", unfollowed := true, recurses := true, apart := false }
def AnchorShiftsSaid : Prop := anchorShiftsRow.holds Try.pinned (OpenSpec.ofChange anchorShiftsSpec)

/-- ITS FALSE NEIGHBOUR: 'it returns false'. Refute it at one input. -/
def anchorShiftsWrong : ChangeSpec := { name := "anchorShifts", fn := fun _ => fun
  | [d1, d2, d3] => { results := [.lit (.bool false)], args := [d1, d2, d3] }
  | _ => none }
def AnchorShiftsWrongFalsely : Prop := anchorShiftsRow.holds Try.pinned (OpenSpec.ofChange anchorShiftsWrong)

/-- 'bodkinlaw11.AnchorStays': WHATEVER THE INPUT: true; the input reads as it did. -/
def anchorStaysSpec : ChangeSpec := { name := "anchorStays", fn := fun _ => fun
  | [d1, d2, d3] => { results := [.lit (.bool true)], args := [d1, d2, d3] }
  | _ => none }
def anchorStaysRow : OpenClaim := { program := "ytbecepgbplafmaa", sum := "76b6926e6493303e10b20ead4ed9bca2c177f00fbe295f434d254aa0120d1e14", func := "bodkin/bodkinlaw11.AnchorStays", spec := "anchorStays", unfollowed := true, recurses := true, apart := false }
def AnchorStaysSaid : Prop := anchorStaysRow.holds Try.pinned (OpenSpec.ofChange anchorStaysSpec)

/-- ITS FALSE NEIGHBOUR: 'it returns false'. Refute it at one input. -/
def anchorStaysWrong : ChangeSpec := { name := "anchorStays", fn := fun _ => fun
  | [d1, d2, d3] => { results := [.lit (.bool false)], args := [d1, d2, d3] }
  | _ => none }
def AnchorStaysWrongFalsely : Prop := anchorStaysRow.holds Try.pinned (OpenSpec.ofChange anchorStaysWrong)

/-- 'bodkinlaw11.AnchorNil': WHATEVER THE INPUT: true; the input reads as it did. -/
def anchorNilSpec : ChangeSpec := { name := "anchorNil", fn := fun _ => fun
  | [d1, d2] => { results := [.lit (.bool true)], args := [d1, d2] }
  | _ => none }
def anchorNilRow : OpenClaim := { program := "ytbecepgbplafmaa", sum := "76b6926e6493303e10b20ead4ed9bca2c177f00fbe295f434d254aa0120d1e14", func := "bodkin/bodkinlaw11.AnchorNil", spec := "anchorNil", unfollowed := true, recurses := true, apart := false }
def AnchorNilSaid : Prop := anchorNilRow.holds Try.pinned (OpenSpec.ofChange anchorNilSpec)

/-- ITS FALSE NEIGHBOUR: 'it returns false'. Refute it at one input. -/
def anchorNilWrong : ChangeSpec := { name := "anchorNil", fn := fun _ => fun
  | [d1, d2] => { results := [.lit (.bool false)], args := [d1, d2] }
  | _ => none }
def AnchorNilWrongFalsely : Prop := anchorNilRow.holds Try.pinned (OpenSpec.ofChange anchorNilWrong)

/-- 'bodkinlaw11.AnchorBack': WHATEVER THE INPUT: true; the input reads as it did. -/
def anchorBackSpec : ChangeSpec := { name := "anchorBack", fn := fun _ => fun
  | [d1, d2, d3] => { results := [.lit (.bool true)], args := [d1, d2, d3] }
  | _ => none }
def anchorBackRow : OpenClaim := { program := "ytbecepgbplafmaa", sum := "76b6926e6493303e10b20ead4ed9bca2c177f00fbe295f434d254aa0120d1e14", func := "bodkin/bodkinlaw11.AnchorBack", spec := "anchorBack", unfollowed := true, recurses := true, apart := false }
def AnchorBackSaid : Prop := anchorBackRow.holds Try.pinned (OpenSpec.ofChange anchorBackSpec)

/-- ITS FALSE NEIGHBOUR: 'it returns false'. Refute it at one input. -/
def anchorBackWrong : ChangeSpec := { name := "anchorBack", fn := fun _ => fun
  | [d1, d2, d3] => { results := [.lit (.bool false)], args := [d1, d2, d3] }
  | _ => none }
def AnchorBackWrongFalsely : Prop := anchorBackRow.holds Try.pinned (OpenSpec.ofChange anchorBackWrong)

/- THE SECOND FORM. 'bulk': how many values and letters a reading holds, each counted each time it is reached (what is shared counts as often as it is met; a slice's spare places count too). A statement '..UptoSaid' is the law's where the arguments, and the package variables that the reading takes, are together of bulk at most 1048576: NARROWER than '..Said'. Prove '..Said' where nothing that the law and all that it calls make is longer than what came in: it says more and counts as full. Else prove '..UptoSaid'. A law counts once. -/
mutual
def uptoBulk {H : Type} : DataW H → Nat
  | .lit (.string bytes) => bytes.length + 1
  | .lit _ => 1
  | .nil => 1
  | .ptr d => uptoBulk d + 1
  | .slice elems spare => uptoBulkAll elems + uptoBulkAll spare + 1
  | .agg parts => uptoBulkAll parts + 1
  | .iface _ d => uptoBulk d + 1
  | .map entries => uptoBulkEntries entries + 1
  | .held _ => 1
def uptoBulkAll {H : Type} : List (DataW H) → Nat
  | [] => 0
  | d :: r => uptoBulk d + uptoBulkAll r
def uptoBulkEntries {H : Type} : List (Lit × DataW H) → Nat
  | [] => 0
  | x :: r => uptoBulkEntry x + uptoBulkEntries r
def uptoBulkEntry {H : Type} : Lit × DataW H → Nat
  | (.string bytes, d) => bytes.length + uptoBulk d + 1
  | (_, d) => uptoBulk d + 1
 end
def uptoSmall : (H : Type) → List (DataW H) → Bool := fun _ ds => decide (uptoBulkAll ds ≤ 1048576)
def OpenSpec.upto (s : _root_.Go.ChangeSpec) : _root_.Go.OpenSpec := { _root_.Go.OpenSpec.ofChange s with cond := some uptoSmall }

/-- 'bodkinlaw11.AnchorSets', WHERE WHAT IT READS IS OF BULK AT MOST 1048576: true; the input reads as it did. -/
def anchorSetsUptoRow : OpenClaim := { program := "ytbecepgbplafmaa", sum := "76b6926e6493303e10b20ead4ed9bca2c177f00fbe295f434d254aa0120d1e14", func := "bodkin/bodkinlaw11.AnchorSets", spec := "anchorSets", unfollowed := true, recurses := true, apart := false, narrowed := true }
def AnchorSetsUptoSaid : Prop := anchorSetsUptoRow.holds Try.pinned (OpenSpec.upto anchorSetsSpec)

/-- 'bodkinlaw11.AnchorShifts', WHERE WHAT IT READS IS OF BULK AT MOST 1048576: true; the input reads as it did. -/
def anchorShiftsUptoRow : OpenClaim := { program := "ytbecepgbplafmaa", sum := "76b6926e6493303e10b20ead4ed9bca2c177f00fbe295f434d254aa0120d1e14", func := "bodkin/bodkinlaw11.AnchorShifts", spec := "anchorShifts", unfollowed := true, recurses := true, apart := false, narrowed := true }
def AnchorShiftsUptoSaid : Prop := anchorShiftsUptoRow.holds Try.pinned (OpenSpec.upto anchorShiftsSpec)

/-- 'bodkinlaw11.AnchorStays', WHERE WHAT IT READS IS OF BULK AT MOST 1048576: true; the input reads as it did. -/
def anchorStaysUptoRow : OpenClaim := { program := "ytbecepgbplafmaa", sum := "76b6926e6493303e10b20ead4ed9bca2c177f00fbe295f434d254aa0120d1e14", func := "bodkin/bodkinlaw11.AnchorStays", spec := "anchorStays", unfollowed := true, recurses := true, apart := false, narrowed := true }
def AnchorStaysUptoSaid : Prop := anchorStaysUptoRow.holds Try.pinned (OpenSpec.upto anchorStaysSpec)

/-- 'bodkinlaw11.AnchorNil', WHERE WHAT IT READS IS OF BULK AT MOST 1048576: true; the input reads as it did. -/
def anchorNilUptoRow : OpenClaim := { program := "ytbecepgbplafmaa", sum := "76b6926e6493303e10b20ead4ed9bca2c177f00fbe295f434d254aa0120d1e14", func := "bodkin/bodkinlaw11.AnchorNil", spec := "anchorNil", unfollowed := true, recurses := true, apart := false, narrowed := true }
def AnchorNilUptoSaid : Prop := anchorNilUptoRow.holds Try.pinned (OpenSpec.upto anchorNilSpec)

/-- 'bodkinlaw11.AnchorBack', WHERE WHAT IT READS IS OF BULK AT MOST 1048576: true; the input reads as it did. -/
def anchorBackUptoRow : OpenClaim := { program := "ytbecepgbplafmaa", sum := "76b6926e6493303e10b20ead4ed9bca2c177f00fbe295f434d254aa0120d1e14", func := "bodkin/bodkinlaw11.AnchorBack", spec := "anchorBack", unfollowed := true, recurses := true, apart := false, narrowed := true }
def AnchorBackUptoSaid : Prop := anchorBackUptoRow.holds Try.pinned (OpenSpec.upto anchorBackSpec)

end Rows
end Go.Proofs.Ytbecepgbplafmaa
