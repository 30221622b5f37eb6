/-
  No cell of these rows narrows 'for every input' (looked for: loops, veiled, ifaces, maps, wideKeys, modest, calm, conditions, laid).
  DERIVED. THE GIVEN ROWS OF THIS SEAT. 4 by the template 'for every input the law returns true; each argument reads behind the call as it read before'; 0 by the template 'total and deterministic' (their statements: YtkgmpnadgilpjaaTotals.lean).
  GIVEN WITH THE SEED: the statements are not yours to turn. If you find one false, say at which input.
  Laid BY PROGRAM, IN A SANDBOX (cutbox-rows.mjs): the forced cells as the released guide's own fill.sh prints them over the translation f957d917dc947d77… (all of the seat's roots in one cut). By AI agents, Wed Nov 11 2026. No macro, syntax, notation, axiom, sorry.
-/
import Derived.Test.YtkgmpnadgilpjaaChecked
import GoSem.Claim
import GoSem.ClaimJoined
import GoSem.ClaimMapViews
import Derived.JoinedTies
import Derived.KernelRfl
namespace Go.Proofs.Ytkgmpnadgilpjaa
/- THE CELL 'sum', in the pinned program and in every row, IS THE sha256 OF THE DUMP (.gsa) THAT YtkgmpnadgilpjaaProg.lean LOADS. Nothing in Lean hashes anything: it is a label: what it is worth is what the hold of that sum in a sandbox is worth. -/
noncomputable def Try.pinned : Pinned := { name := "ytkgmpnadgilpjaa", sum := "f957d917dc947d776e5f39cc7b4151f669c5dfdb3a17410d62d3af2bb03b3c2e", checked := Try.checked }
namespace Rows
def none {H : Type} : Left H := { results := [], args := [] }

/-- 'bodkinlaw04.ItemSums': WHATEVER THE INPUT: true; the input reads as it did. -/
def itemSumsSpec : ChangeSpec := { name := "itemSums", fn := fun _ => fun
  | [d] => { results := [.lit (.bool true)], args := [d] }
  | _ => none }
def itemSumsRow : OpenClaim := { program := "ytkgmpnadgilpjaa", sum := "f957d917dc947d776e5f39cc7b4151f669c5dfdb3a17410d62d3af2bb03b3c2e", func := "bodkin/bodkinlaw04.ItemSums", spec := "itemSums", apart := false }
def ItemSumsSaid : Prop := itemSumsRow.holds Try.pinned (OpenSpec.ofChange itemSumsSpec)

/-- ITS FALSE NEIGHBOUR: 'it returns false'. Refute it at one input. -/
def itemSumsWrong : ChangeSpec := { name := "itemSums", fn := fun _ => fun
  | [d] => { results := [.lit (.bool false)], args := [d] }
  | _ => none }
def ItemSumsWrongFalsely : Prop := itemSumsRow.holds Try.pinned (OpenSpec.ofChange itemSumsWrong)

/-- 'bodkinlaw04.ItemAdds': WHATEVER THE INPUT: true; the input reads as it did. -/
def itemAddsSpec : ChangeSpec := { name := "itemAdds", fn := fun _ => fun
  | [d1, d2] => { results := [.lit (.bool true)], args := [d1, d2] }
  | _ => none }
def itemAddsRow : OpenClaim := { program := "ytkgmpnadgilpjaa", sum := "f957d917dc947d776e5f39cc7b4151f669c5dfdb3a17410d62d3af2bb03b3c2e", func := "bodkin/bodkinlaw04.ItemAdds", spec := "itemAdds", apart := false }
def ItemAddsSaid : Prop := itemAddsRow.holds Try.pinned (OpenSpec.ofChange itemAddsSpec)

/-- ITS FALSE NEIGHBOUR: 'it returns false'. Refute it at one input. -/
def itemAddsWrong : ChangeSpec := { name := "itemAdds", fn := fun _ => fun
  | [d1, d2] => { results := [.lit (.bool false)], args := [d1, d2] }
  | _ => none }
def ItemAddsWrongFalsely : Prop := itemAddsRow.holds Try.pinned (OpenSpec.ofChange itemAddsWrong)

/-- 'bodkinlaw04.ItemBrackets': WHATEVER THE INPUT: true; the input reads as it did. -/
def itemBracketsSpec : ChangeSpec := { name := "itemBrackets", fn := fun _ => fun
  | [d1, d2, d3] => { results := [.lit (.bool true)], args := [d1, d2, d3] }
  | _ => none }
def itemBracketsRow : OpenClaim := { program := "ytkgmpnadgilpjaa", sum := "f957d917dc947d776e5f39cc7b4151f669c5dfdb3a17410d62d3af2bb03b3c2e", func := "bodkin/bodkinlaw04.ItemBrackets", spec := "itemBrackets", apart := false }
def ItemBracketsSaid : Prop := itemBracketsRow.holds Try.pinned (OpenSpec.ofChange itemBracketsSpec)

/-- ITS FALSE NEIGHBOUR: 'it returns false'. Refute it at one input. -/
def itemBracketsWrong : ChangeSpec := { name := "itemBrackets", fn := fun _ => fun
  | [d1, d2, d3] => { results := [.lit (.bool false)], args := [d1, d2, d3] }
  | _ => none }
def ItemBracketsWrongFalsely : Prop := itemBracketsRow.holds Try.pinned (OpenSpec.ofChange itemBracketsWrong)

/-- 'bodkinlaw04.ItemChecks': WHATEVER THE INPUT: true; the input reads as it did. -/
def itemChecksSpec : ChangeSpec := { name := "itemChecks", fn := fun _ => fun
  | [d] => { results := [.lit (.bool true)], args := [d] }
  | _ => none }
def itemChecksRow : OpenClaim := { program := "ytkgmpnadgilpjaa", sum := "f957d917dc947d776e5f39cc7b4151f669c5dfdb3a17410d62d3af2bb03b3c2e", func := "bodkin/bodkinlaw04.ItemChecks", spec := "itemChecks", apart := false }
def ItemChecksSaid : Prop := itemChecksRow.holds Try.pinned (OpenSpec.ofChange itemChecksSpec)

/-- ITS FALSE NEIGHBOUR: 'it returns false'. Refute it at one input. -/
def itemChecksWrong : ChangeSpec := { name := "itemChecks", fn := fun _ => fun
  | [d] => { results := [.lit (.bool false)], args := [d] }
  | _ => none }
def ItemChecksWrongFalsely : Prop := itemChecksRow.holds Try.pinned (OpenSpec.ofChange itemChecksWrong)

/- THE SECOND FORM. 'bulk': how many values and letters a reading holds, each counted each time it is reached (what is shared counts as often as it is met; a slice's spare places count too). A statement '..UptoSaid' is the law's where the arguments, and the package variables that the reading takes, are together of bulk at most 1048576: NARROWER than '..Said'. Prove '..Said' where nothing that the law and all that it calls make is longer than what came in: it says more and counts as full. Else prove '..UptoSaid'. A law counts once. -/
mutual
def uptoBulk {H : Type} : DataW H → Nat
  | .lit (.string bytes) => bytes.length + 1
  | .lit _ => 1
  | .nil => 1
  | .ptr d => uptoBulk d + 1
  | .slice elems spare => uptoBulkAll elems + uptoBulkAll spare + 1
  | .agg parts => uptoBulkAll parts + 1
  | .iface _ d => uptoBulk d + 1
  | .map entries => uptoBulkEntries entries + 1
  | .held _ => 1
def uptoBulkAll {H : Type} : List (DataW H) → Nat
  | [] => 0
  | d :: r => uptoBulk d + uptoBulkAll r
def uptoBulkEntries {H : Type} : List (Lit × DataW H) → Nat
  | [] => 0
  | x :: r => uptoBulkEntry x + uptoBulkEntries r
def uptoBulkEntry {H : Type} : Lit × DataW H → Nat
  | (.string bytes, d) => bytes.length + uptoBulk d + 1
  | (_, d) => uptoBulk d + 1
 end
def uptoSmall : (H : Type) → List (DataW H) → Bool := fun _ ds => decide (uptoBulkAll ds ≤ 1048576)
def OpenSpec.upto (s : _root_.Go.ChangeSpec) : _root_.Go.OpenSpec := { _root_.Go.OpenSpec.ofChange s with cond := some uptoSmall }

/-- 'bodkinlaw04.ItemSums', WHERE WHAT IT READS IS OF BULK AT MOST 1048576: true; the input reads as it did. -/
def itemSumsUptoRow : OpenClaim := { program := "ytkgmpnadgilpjaa", sum := "f957d917dc947d776e5f39cc7b4151f669c5dfdb3a17410d62d3af2bb03b3c2e", func := "bodkin/bodkinlaw04.ItemSums", spec := "itemSums", apart := false, narrowed := true }
def ItemSumsUptoSaid : Prop := itemSumsUptoRow.holds Try.pinned (OpenSpec.upto itemSumsSpec)

/-- 'bodkinlaw04.ItemAdds', WHERE WHAT IT READS IS OF BULK AT MOST 1048576: true; the input reads as it did. -/
def itemAddsUptoRow : OpenClaim := { program := "ytkgmpnadgilpjaa", sum := "f957d917dc947d776e5f39cc7b4151f669c5dfdb3a17410d62d3af2bb03b3c2e", func := "bodkin/bodkinlaw04.ItemAdds", spec := "itemAdds", apart := false, narrowed := true }
def ItemAddsUptoSaid : Prop := itemAddsUptoRow.holds Try.pinned (OpenSpec.upto itemAddsSpec)

/-- 'bodkinlaw04.ItemBrackets', WHERE WHAT IT READS IS OF BULK AT MOST 1048576: true; the input reads as it did. -/
def itemBracketsUptoRow : OpenClaim := { program := "ytkgmpnadgilpjaa", sum := "f957d917dc947d776e5f39cc7b4151f669c5dfdb3a17410d62d3af2bb03b3c2e", func := "bodkin/bodkinlaw04.ItemBrackets", spec := "itemBrackets", apart := false, narrowed := true }
def ItemBracketsUptoSaid : Prop := itemBracketsUptoRow.holds Try.pinned (OpenSpec.upto itemBracketsSpec)

/-- 'bodkinlaw04.ItemChecks', WHERE WHAT IT READS IS OF BULK AT MOST 1048576: true; the input reads as it did. -/
def itemChecksUptoRow : OpenClaim := { program := "ytkgmpnadgilpjaa", sum := "f957d917dc947d776e5f39cc7b4151f669c5dfdb3a17410d62d3af2bb03b3c2e", func := "bodkin/bodkinlaw04.ItemChecks", spec := "itemChecks", apart := false, narrowed := true }
def ItemChecksUptoSaid : Prop := itemChecksUptoRow.holds Try.pinned (OpenSpec.upto itemChecksSpec)

end Rows
end Go.Proofs.Ytkgmpnadgilpjaa
