/-
  No cell of these rows narrows 'for every input' (looked for: loops, veiled, ifaces, maps, wideKeys, modest, calm, conditions, laid).
  DERIVED. THE GIVEN ROWS OF THIS SEAT. 5 by the template 'for every input the law returns true; each argument reads behind the call as it read before'; 0 by the template 'total and deterministic' (their statements: YtkgplompdnjodaaTotals.lean).
  GIVEN WITH THE SEED: the statements are not yours to turn. If you find one false, say at which input.
  Laid BY PROGRAM, IN A SANDBOX (cutbox-rows.mjs): the forced cells as the released guide's own fill.sh prints them over the translation 586df79f07c8c3bc… (all of the seat's roots in one cut). By AI agents, Wed Nov 11 2026. No macro, syntax, notation, axiom, sorry.
-/
import Derived.Test.YtkgplompdnjodaaChecked
import GoSem.Claim
import GoSem.ClaimJoined
import GoSem.ClaimMapViews
import Derived.JoinedTies
import Derived.KernelRfl
namespace Go.Proofs.Ytkgplompdnjodaa
/- THE CELL 'sum', in the pinned program and in every row, IS THE sha256 OF THE DUMP (.gsa) THAT YtkgplompdnjodaaProg.lean LOADS. Nothing in Lean hashes anything: it is a label: what it is worth is what the hold of that sum in a sandbox is worth. -/
noncomputable def Try.pinned : Pinned := { name := "ytkgplompdnjodaa", sum := "586df79f07c8c3bcfefafa08bdcb8dbf0e5a63149d9d9c1e0d6cbd21b94110b2", checked := Try.checked }
namespace Rows
def none {H : Type} : Left H := { results := [], args := [] }

/-- 'bodkinlaw20.WrapRows': WHATEVER THE INPUT: true; the input reads as it did. -/
def wrapRowsSpec : ChangeSpec := { name := "wrapRows", fn := fun _ => fun
  | [d1, d2] => { results := [.lit (.bool true)], args := [d1, d2] }
  | _ => none }
def wrapRowsRow : OpenClaim := { program := "ytkgplompdnjodaa", sum := "586df79f07c8c3bcfefafa08bdcb8dbf0e5a63149d9d9c1e0d6cbd21b94110b2", func := "bodkin/bodkinlaw20.WrapRows", spec := "wrapRows", unfollowed := true, recurses := true, apart := false }
def WrapRowsSaid : Prop := wrapRowsRow.holds Try.pinned (OpenSpec.ofChange wrapRowsSpec)

/-- ITS FALSE NEIGHBOUR: 'it returns false'. Refute it at one input. -/
def wrapRowsWrong : ChangeSpec := { name := "wrapRows", fn := fun _ => fun
  | [d1, d2] => { results := [.lit (.bool false)], args := [d1, d2] }
  | _ => none }
def WrapRowsWrongFalsely : Prop := wrapRowsRow.holds Try.pinned (OpenSpec.ofChange wrapRowsWrong)

/-- 'bodkinlaw20.WrapWide': WHATEVER THE INPUT: true; the input reads as it did. -/
def wrapWideSpec : ChangeSpec := { name := "wrapWide", fn := fun _ => fun
  | [d1, d2] => { results := [.lit (.bool true)], args := [d1, d2] }
  | _ => none }
def wrapWideRow : OpenClaim := { program := "ytkgplompdnjodaa", sum := "586df79f07c8c3bcfefafa08bdcb8dbf0e5a63149d9d9c1e0d6cbd21b94110b2", func := "bodkin/bodkinlaw20.WrapWide", spec := "wrapWide", unfollowed := true, recurses := true, apart := false }
def WrapWideSaid : Prop := wrapWideRow.holds Try.pinned (OpenSpec.ofChange wrapWideSpec)

/-- ITS FALSE NEIGHBOUR: 'it returns false'. Refute it at one input. -/
def wrapWideWrong : ChangeSpec := { name := "wrapWide", fn := fun _ => fun
  | [d1, d2] => { results := [.lit (.bool false)], args := [d1, d2] }
  | _ => none }
def WrapWideWrongFalsely : Prop := wrapWideRow.holds Try.pinned (OpenSpec.ofChange wrapWideWrong)

/-- 'bodkinlaw20.WrapKeeps': WHATEVER THE INPUT: true; the input reads as it did. -/
def wrapKeepsSpec : ChangeSpec := { name := "wrapKeeps", fn := fun _ => fun
  | [d1, d2] => { results := [.lit (.bool true)], args := [d1, d2] }
  | _ => none }
def wrapKeepsRow : OpenClaim := { program := "ytkgplompdnjodaa", sum := "586df79f07c8c3bcfefafa08bdcb8dbf0e5a63149d9d9c1e0d6cbd21b94110b2", func := "bodkin/bodkinlaw20.WrapKeeps", spec := "wrapKeeps", unfollowed := true, recurses := true, apart := false }
def WrapKeepsSaid : Prop := wrapKeepsRow.holds Try.pinned (OpenSpec.ofChange wrapKeepsSpec)

/-- ITS FALSE NEIGHBOUR: 'it returns false'. Refute it at one input. -/
def wrapKeepsWrong : ChangeSpec := { name := "wrapKeeps", fn := fun _ => fun
  | [d1, d2] => { results := [.lit (.bool false)], args := [d1, d2] }
  | _ => none }
def WrapKeepsWrongFalsely : Prop := wrapKeepsRow.holds Try.pinned (OpenSpec.ofChange wrapKeepsWrong)

/-- 'bodkinlaw20.WrapHangs': WHATEVER THE INPUT: true; the input reads as it did. -/
def wrapHangsSpec : ChangeSpec := { name := "wrapHangs", fn := fun _ => fun
  | [d1, d2] => { results := [.lit (.bool true)], args := [d1, d2] }
  | _ => none }
def wrapHangsRow : OpenClaim := { program := "ytkgplompdnjodaa", sum := "586df79f07c8c3bcfefafa08bdcb8dbf0e5a63149d9d9c1e0d6cbd21b94110b2", func := "bodkin/bodkinlaw20.WrapHangs", spec := "wrapHangs", unfollowed := true, recurses := true, apart := false }
def WrapHangsSaid : Prop := wrapHangsRow.holds Try.pinned (OpenSpec.ofChange wrapHangsSpec)

/-- ITS FALSE NEIGHBOUR: 'it returns false'. Refute it at one input. -/
def wrapHangsWrong : ChangeSpec := { name := "wrapHangs", fn := fun _ => fun
  | [d1, d2] => { results := [.lit (.bool false)], args := [d1, d2] }
  | _ => none }
def WrapHangsWrongFalsely : Prop := wrapHangsRow.holds Try.pinned (OpenSpec.ofChange wrapHangsWrong)

/-- 'bodkinlaw20.WrapOne': WHATEVER THE INPUT: true; the input reads as it did. -/
def wrapOneSpec : ChangeSpec := { name := "wrapOne", fn := fun _ => fun
  | [d] => { results := [.lit (.bool true)], args := [d] }
  | _ => none }
def wrapOneRow : OpenClaim := { program := "ytkgplompdnjodaa", sum := "586df79f07c8c3bcfefafa08bdcb8dbf0e5a63149d9d9c1e0d6cbd21b94110b2", func := "bodkin/bodkinlaw20.WrapOne", spec := "wrapOne", unfollowed := true, recurses := true, apart := false }
def WrapOneSaid : Prop := wrapOneRow.holds Try.pinned (OpenSpec.ofChange wrapOneSpec)

/-- ITS FALSE NEIGHBOUR: 'it returns false'. Refute it at one input. -/
def wrapOneWrong : ChangeSpec := { name := "wrapOne", fn := fun _ => fun
  | [d] => { results := [.lit (.bool false)], args := [d] }
  | _ => none }
def WrapOneWrongFalsely : Prop := wrapOneRow.holds Try.pinned (OpenSpec.ofChange wrapOneWrong)

/- THE SECOND FORM. 'bulk': how many values and letters a reading holds, each counted each time it is reached (what is shared counts as often as it is met; a slice's spare places count too). A statement '..UptoSaid' is the law's where the arguments, and the package variables that the reading takes, are together of bulk at most 1048576: NARROWER than '..Said'. Prove '..Said' where nothing that the law and all that it calls make is longer than what came in: it says more and counts as full. Else prove '..UptoSaid'. A law counts once. -/
mutual
def uptoBulk {H : Type} : DataW H → Nat
  | .lit (.string bytes) => bytes.length + 1
  | .lit _ => 1
  | .nil => 1
  | .ptr d => uptoBulk d + 1
  | .slice elems spare => uptoBulkAll elems + uptoBulkAll spare + 1
  | .agg parts => uptoBulkAll parts + 1
  | .iface _ d => uptoBulk d + 1
  | .map entries => uptoBulkEntries entries + 1
  | .held _ => 1
def uptoBulkAll {H : Type} : List (DataW H) → Nat
  | [] => 0
  | d :: r => uptoBulk d + uptoBulkAll r
def uptoBulkEntries {H : Type} : List (Lit × DataW H) → Nat
  | [] => 0
  | x :: r => uptoBulkEntry x + uptoBulkEntries r
def uptoBulkEntry {H : Type} : Lit × DataW H → Nat
  | (.string bytes, d) => bytes.length + uptoBulk d + 1
  | (_, d) => uptoBulk d + 1
 end
def uptoSmall : (H : Type) → List (DataW H) → Bool := fun _ ds => decide (uptoBulkAll ds ≤ 1048576)
def OpenSpec.upto (s : _root_.Go.ChangeSpec) : _root_.Go.OpenSpec := { _root_.Go.OpenSpec.ofChange s with cond := some uptoSmall }

/-- 'bodkinlaw20.WrapRows', WHERE WHAT IT READS IS OF BULK AT MOST 1048576: true; the input reads as it did. -/
def wrapRowsUptoRow : OpenClaim := { program := "ytkgplompdnjodaa", sum := "586df79f07c8c3bcfefafa08bdcb8dbf0e5a63149d9d9c1e0d6cbd21b94110b2", func := "bodkin/bodkinlaw20.WrapRows", spec := "wrapRows", unfollowed := true, recurses := true, apart := false, narrowed := true }
def WrapRowsUptoSaid : Prop := wrapRowsUptoRow.holds Try.pinned (OpenSpec.upto wrapRowsSpec)

/-- 'bodkinlaw20.WrapWide', WHERE WHAT IT READS IS OF BULK AT MOST 1048576: true; the input reads as it did. -/
def wrapWideUptoRow : OpenClaim := { program := "ytkgplompdnjodaa", sum := "586df79f07c8c3bcfefafa08bdcb8dbf0e5a63149d9d9c1e0d6cbd21b94110b2", func := "bodkin/bodkinlaw20.WrapWide", spec := "wrapWide", unfollowed := true, recurses := true, apart := false, narrowed := true }
def WrapWideUptoSaid : Prop := wrapWideUptoRow.holds Try.pinned (OpenSpec.upto wrapWideSpec)

/-- 'bodkinlaw20.WrapKeeps', WHERE WHAT IT READS IS OF BULK AT MOST 1048576: true; the input reads as it did. -/
def wrapKeepsUptoRow : OpenClaim := { program := "ytkgplompdnjodaa", sum := "586df79f07c8c3bcfefafa08bdcb8dbf0e5a63149d9d9c1e0d6cbd21b94110b2", func := "bodkin/bodkinlaw20.WrapKeeps", spec := "wrapKeeps", unfollowed := true, recurses := true, apart := false, narrowed := true }
def WrapKeepsUptoSaid : Prop := wrapKeepsUptoRow.holds Try.pinned (OpenSpec.upto wrapKeepsSpec)

/-- 'bodkinlaw20.WrapHangs', WHERE WHAT IT READS IS OF BULK AT MOST 1048576: true; the input reads as it did. -/
def wrapHangsUptoRow : OpenClaim := { program := "ytkgplompdnjodaa", sum := "586df79f07c8c3bcfefafa08bdcb8dbf0e5a63149d9d9c1e0d6cbd21b94110b2", func := "bodkin/bodkinlaw20.WrapHangs", spec := "wrapHangs", unfollowed := true, recurses := true, apart := false, narrowed := true }
def WrapHangsUptoSaid : Prop := wrapHangsUptoRow.holds Try.pinned (OpenSpec.upto wrapHangsSpec)

/-- 'bodkinlaw20.WrapOne', WHERE WHAT IT READS IS OF BULK AT MOST 1048576: true; the input reads as it did. -/
def wrapOneUptoRow : OpenClaim := { program := "ytkgplompdnjodaa", sum := "586df79f07c8c3bcfefafa08bdcb8dbf0e5a63149d9d9c1e0d6cbd21b94110b2", func := "bodkin/bodkinlaw20.WrapOne", spec := "wrapOne", unfollowed := true, recurses := true, apart := false, narrowed := true }
def WrapOneUptoSaid : Prop := wrapOneUptoRow.holds Try.pinned (OpenSpec.upto wrapOneSpec)

end Rows
end Go.Proofs.Ytkgplompdnjodaa
