/-
  No cell of these rows narrows 'for every input' (looked for: loops, veiled, ifaces, maps, wideKeys, modest, calm, conditions, laid).
  DERIVED. THE GIVEN ROWS OF THIS SEAT. 6 by the template 'for every input the law returns true; each argument reads behind the call as it read before'; 0 by the template 'total and deterministic' (their statements: YtbcdgcpaojfknaaTotals.lean).
  GIVEN WITH THE SEED: the statements are not yours to turn. If you find one false, say at which input.
  Laid BY PROGRAM, IN A SANDBOX (cutbox-rows.mjs): the forced cells as the released guide's own fill.sh prints them over the translation 5e5c1241e8369437… (all of the seat's roots in one cut). By AI agents, Wed Nov 11 2026. No macro, syntax, notation, axiom, sorry.
-/
import Derived.Test.YtbcdgcpaojfknaaChecked
import GoSem.Claim
import GoSem.ClaimJoined
import GoSem.ClaimMapViews
import Derived.JoinedTies
import Derived.KernelRfl
namespace Go.Proofs.Ytbcdgcpaojfknaa
/- THE CELL 'sum', in the pinned program and in every row, IS THE sha256 OF THE DUMP (.gsa) THAT YtbcdgcpaojfknaaProg.lean LOADS. Nothing in Lean hashes anything: it is a label: what it is worth is what the hold of that sum in a sandbox is worth. -/
noncomputable def Try.pinned : Pinned := { name := "ytbcdgcpaojfknaa", sum := "5e5c1241e836943736b48effada253527a4fa142c66fae5306748242ad92efcc", checked := Try.checked }
namespace Rows
def none {H : Type} : Left H := { results := [], args := [] }

/-- 'bodkinlaw25.DiffSame': WHATEVER THE INPUT: true; the input reads as it did. -/
def diffSameSpec : ChangeSpec := { name := "diffSame", fn := fun _ => fun
  | [d1, d2] => { results := [.lit (.bool true)], args := [d1, d2] }
  | _ => none }
def diffSameRow : OpenClaim := { program := "ytbcdgcpaojfknaa", sum := "5e5c1241e836943736b48effada253527a4fa142c66fae5306748242ad92efcc", func := "bodkin/bodkinlaw25.DiffSame", spec := "diffSame", unfollowed := true, recurses := true, apart := false }
def DiffSameSaid : Prop := diffSameRow.holds Try.pinned (OpenSpec.ofChange diffSameSpec)

/-- ITS FALSE NEIGHBOUR: 'it returns false'. Refute it at one input. -/
def diffSameWrong : ChangeSpec := { name := "diffSame", fn := fun _ => fun
  | [d1, d2] => { results := [.lit (.bool false)], args := [d1, d2] }
  | _ => none }
def DiffSameWrongFalsely : Prop := diffSameRow.holds Try.pinned (OpenSpec.ofChange diffSameWrong)

/-- 'bodkinlaw25.DiffFits': WHATEVER THE INPUT: true; the input reads as it did. -/
def diffFitsSpec : ChangeSpec := { name := "diffFits", fn := fun _ => fun
  | [d1, d2, d3] => { results := [.lit (.bool true)], args := [d1, d2, d3] }
  | _ => none }
def diffFitsRow : OpenClaim := { program := "ytbcdgcpaojfknaa", sum := "5e5c1241e836943736b48effada253527a4fa142c66fae5306748242ad92efcc", func := "bodkin/bodkinlaw25.DiffFits", spec := "diffFits", unfollowed := true, recurses := true, apart := false }
def DiffFitsSaid : Prop := diffFitsRow.holds Try.pinned (OpenSpec.ofChange diffFitsSpec)

/-- ITS FALSE NEIGHBOUR: 'it returns false'. Refute it at one input. -/
def diffFitsWrong : ChangeSpec := { name := "diffFits", fn := fun _ => fun
  | [d1, d2, d3] => { results := [.lit (.bool false)], args := [d1, d2, d3] }
  | _ => none }
def DiffFitsWrongFalsely : Prop := diffFitsRow.holds Try.pinned (OpenSpec.ofChange diffFitsWrong)

/-- 'bodkinlaw25.DiffSound': WHATEVER THE INPUT: true; the input reads as it did. -/
def diffSoundSpec : ChangeSpec := { name := "diffSound", fn := fun _ => fun
  | [d1, d2, d3] => { results := [.lit (.bool true)], args := [d1, d2, d3] }
  | _ => none }
def diffSoundRow : OpenClaim := { program := "ytbcdgcpaojfknaa", sum := "5e5c1241e836943736b48effada253527a4fa142c66fae5306748242ad92efcc", func := "bodkin/bodkinlaw25.DiffSound", spec := "diffSound", unfollowed := true, recurses := true, apart := false }
def DiffSoundSaid : Prop := diffSoundRow.holds Try.pinned (OpenSpec.ofChange diffSoundSpec)

/-- ITS FALSE NEIGHBOUR: 'it returns false'. Refute it at one input. -/
def diffSoundWrong : ChangeSpec := { name := "diffSound", fn := fun _ => fun
  | [d1, d2, d3] => { results := [.lit (.bool false)], args := [d1, d2, d3] }
  | _ => none }
def DiffSoundWrongFalsely : Prop := diffSoundRow.holds Try.pinned (OpenSpec.ofChange diffSoundWrong)

/-- 'bodkinlaw25.DiffLeast': WHATEVER THE INPUT: true; the input reads as it did. -/
def diffLeastSpec : ChangeSpec := { name := "diffLeast", fn := fun _ => fun
  | [d1, d2] => { results := [.lit (.bool true)], args := [d1, d2] }
  | _ => none }
def diffLeastRow : OpenClaim := { program := "ytbcdgcpaojfknaa", sum := "5e5c1241e836943736b48effada253527a4fa142c66fae5306748242ad92efcc", func := "bodkin/bodkinlaw25.DiffLeast", spec := "diffLeast", unfollowed := true, recurses := true, apart := false }
def DiffLeastSaid : Prop := diffLeastRow.holds Try.pinned (OpenSpec.ofChange diffLeastSpec)

/-- ITS FALSE NEIGHBOUR: 'it returns false'. Refute it at one input. -/
def diffLeastWrong : ChangeSpec := { name := "diffLeast", fn := fun _ => fun
  | [d1, d2] => { results := [.lit (.bool false)], args := [d1, d2] }
  | _ => none }
def DiffLeastWrongFalsely : Prop := diffLeastRow.holds Try.pinned (OpenSpec.ofChange diffLeastWrong)

/-- 'bodkinlaw25.DiffApplies': WHATEVER THE INPUT: true; the input reads as it did. -/
def diffAppliesSpec : ChangeSpec := { name := "diffApplies", fn := fun _ => fun
  | [d1, d2, d3] => { results := [.lit (.bool true)], args := [d1, d2, d3] }
  | _ => none }
def diffAppliesRow : OpenClaim := { program := "ytbcdgcpaojfknaa", sum := "5e5c1241e836943736b48effada253527a4fa142c66fae5306748242ad92efcc", func := "bodkin/bodkinlaw25.DiffApplies", spec := "diffApplies", unfollowed := true, recurses := true, apart := false }
def DiffAppliesSaid : Prop := diffAppliesRow.holds Try.pinned (OpenSpec.ofChange diffAppliesSpec)

/-- ITS FALSE NEIGHBOUR: 'it returns false'. Refute it at one input. -/
def diffAppliesWrong : ChangeSpec := { name := "diffApplies", fn := fun _ => fun
  | [d1, d2, d3] => { results := [.lit (.bool false)], args := [d1, d2, d3] }
  | _ => none }
def DiffAppliesWrongFalsely : Prop := diffAppliesRow.holds Try.pinned (OpenSpec.ofChange diffAppliesWrong)

/-- 'bodkinlaw25.DiffBack': WHATEVER THE INPUT: true; the input reads as it did. -/
def diffBackSpec : ChangeSpec := { name := "diffBack", fn := fun _ => fun
  | [d1, d2, d3] => { results := [.lit (.bool true)], args := [d1, d2, d3] }
  | _ => none }
def diffBackRow : OpenClaim := { program := "ytbcdgcpaojfknaa", sum := "5e5c1241e836943736b48effada253527a4fa142c66fae5306748242ad92efcc", func := "bodkin/bodkinlaw25.DiffBack", spec := "diffBack", unfollowed := true, recurses := true, apart := false }
def DiffBackSaid : Prop := diffBackRow.holds Try.pinned (OpenSpec.ofChange diffBackSpec)

/-- ITS FALSE NEIGHBOUR: 'it returns false'. Refute it at one input. -/
def diffBackWrong : ChangeSpec := { name := "diffBack", fn := fun _ => fun
  | [d1, d2, d3] => { results := [.lit (.bool false)], args := [d1, d2, d3] }
  | _ => none }
def DiffBackWrongFalsely : Prop := diffBackRow.holds Try.pinned (OpenSpec.ofChange diffBackWrong)

/- THE SECOND FORM. 'bulk': how many values and letters a reading holds, each counted each time it is reached (what is shared counts as often as it is met; a slice's spare places count too). A statement '..UptoSaid' is the law's where the arguments, and the package variables that the reading takes, are together of bulk at most 1048576: NARROWER than '..Said'. Prove '..Said' where nothing that the law and all that it calls make is longer than what came in: it says more and counts as full. Else prove '..UptoSaid'. A law counts once. -/
mutual
def uptoBulk {H : Type} : DataW H → Nat
  | .lit (.string bytes) => bytes.length + 1
  | .lit _ => 1
  | .nil => 1
  | .ptr d => uptoBulk d + 1
  | .slice elems spare => uptoBulkAll elems + uptoBulkAll spare + 1
  | .agg parts => uptoBulkAll parts + 1
  | .iface _ d => uptoBulk d + 1
  | .map entries => uptoBulkEntries entries + 1
  | .held _ => 1
def uptoBulkAll {H : Type} : List (DataW H) → Nat
  | [] => 0
  | d :: r => uptoBulk d + uptoBulkAll r
def uptoBulkEntries {H : Type} : List (Lit × DataW H) → Nat
  | [] => 0
  | x :: r => uptoBulkEntry x + uptoBulkEntries r
def uptoBulkEntry {H : Type} : Lit × DataW H → Nat
  | (.string bytes, d) => bytes.length + uptoBulk d + 1
  | (_, d) => uptoBulk d + 1
 end
def uptoSmall : (H : Type) → List (DataW H) → Bool := fun _ ds => decide (uptoBulkAll ds ≤ 1048576)
def OpenSpec.upto (s : _root_.Go.ChangeSpec) : _root_.Go.OpenSpec := { _root_.Go.OpenSpec.ofChange s with cond := some uptoSmall }

/-- 'bodkinlaw25.DiffSame', WHERE WHAT IT READS IS OF BULK AT MOST 1048576: true; the input reads as it did. -/
def diffSameUptoRow : OpenClaim := { program := "ytbcdgcpaojfknaa", sum := "5e5c1241e836943736b48effada253527a4fa142c66fae5306748242ad92efcc", func := "bodkin/bodkinlaw25.DiffSame", spec := "diffSame", unfollowed := true, recurses := true, apart := false, narrowed := true }
def DiffSameUptoSaid : Prop := diffSameUptoRow.holds Try.pinned (OpenSpec.upto diffSameSpec)

/-- 'bodkinlaw25.DiffFits', WHERE WHAT IT READS IS OF BULK AT MOST 1048576: true; the input reads as it did. -/
def diffFitsUptoRow : OpenClaim := { program := "ytbcdgcpaojfknaa", sum := "5e5c1241e836943736b48effada253527a4fa142c66fae5306748242ad92efcc", func := "bodkin/bodkinlaw25.DiffFits", spec := "diffFits", unfollowed := true, recurses := true, apart := false, narrowed := true }
def DiffFitsUptoSaid : Prop := diffFitsUptoRow.holds Try.pinned (OpenSpec.upto diffFitsSpec)

/-- 'bodkinlaw25.DiffSound', WHERE WHAT IT READS IS OF BULK AT MOST 1048576: true; the input reads as it did. -/
def diffSoundUptoRow : OpenClaim := { program := "ytbcdgcpaojfknaa", sum := "5e5c1241e836943736b48effada253527a4fa142c66fae5306748242ad92efcc", func := "bodkin/bodkinlaw25.DiffSound", spec := "diffSound", unfollowed := true, recurses := true, apart := false, narrowed := true }
def DiffSoundUptoSaid : Prop := diffSoundUptoRow.holds Try.pinned (OpenSpec.upto diffSoundSpec)

/-- 'bodkinlaw25.DiffLeast', WHERE WHAT IT READS IS OF BULK AT MOST 1048576: true; the input reads as it did. -/
def diffLeastUptoRow : OpenClaim := { program := "ytbcdgcpaojfknaa", sum := "5e5c1241e836943736b48effada253527a4fa142c66fae5306748242ad92efcc", func := "bodkin/bodkinlaw25.DiffLeast", spec := "diffLeast", unfollowed := true, recurses := true, apart := false, narrowed := true }
def DiffLeastUptoSaid : Prop := diffLeastUptoRow.holds Try.pinned (OpenSpec.upto diffLeastSpec)

/-- 'bodkinlaw25.DiffApplies', WHERE WHAT IT READS IS OF BULK AT MOST 1048576: true; the input reads as it did. -/
def diffAppliesUptoRow : OpenClaim := { program := "ytbcdgcpaojfknaa", sum := "5e5c1241e836943736b48effada253527a4fa142c66fae5306748242ad92efcc", func := "bodkin/bodkinlaw25.DiffApplies", spec := "diffApplies", unfollowed := true, recurses := true, apart := false, narrowed := true }
def DiffAppliesUptoSaid : Prop := diffAppliesUptoRow.holds Try.pinned (OpenSpec.upto diffAppliesSpec)

/-- 'bodkinlaw25.DiffBack', WHERE WHAT IT READS IS OF BULK AT MOST 1048576: true; the input reads as it did. -/
def diffBackUptoRow : OpenClaim := { program := "ytbcdgcpaojfknaa", sum := "5e5c1241e836943736b48effada253527a4fa142c66fae5306748242ad92efcc", func := "bodkin/bodkinlaw25.DiffBack", spec := "diffBack", unfollowed := true, recurses := true, apart := false, narrowed := true }
def DiffBackUptoSaid : Prop := diffBackUptoRow.holds Try.pinned (OpenSpec.upto diffBackSpec)

end Rows
end Go.Proofs.Ytbcdgcpaojfknaa
