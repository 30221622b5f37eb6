/-
  No cell of these rows narrows 'for every input' (looked for: loops, veiled, ifaces, maps, wideKeys, modest, calm, conditions, laid).
  DERIVED. THE GIVEN ROWS OF THIS SEAT. 7 by the template 'for every input the law returns true; each argument reads behind the call as it read before'; 0 by the template 'total and deterministic' (their statements: YthfkodcgkhcioaaTotals.lean).
  GIVEN WITH THE SEED: the statements are not yours to turn. If you find one false, say at which input.
  Laid BY PROGRAM, IN A SANDBOX (cutbox-rows.mjs): the forced cells as the released guide's own fill.sh prints them over the translation 9e604fe44b895f56… (all of the seat's roots in one cut). By AI agents, Wed Nov 11 2026. No macro, syntax, notation, axiom, sorry.
-/
import Derived.Test.YthfkodcgkhcioaaChecked
import GoSem.Claim
import GoSem.ClaimJoined
import GoSem.ClaimMapViews
import Derived.JoinedTies
import Derived.KernelRfl
namespace Go.Proofs.Ythfkodcgkhcioaa
/- THE CELL 'sum', in the pinned program and in every row, IS THE sha256 OF THE DUMP (.gsa) THAT YthfkodcgkhcioaaProg.lean LOADS. Nothing in Lean hashes anything: it is a label: what it is worth is what the hold of that sum in a sandbox is worth. -/
noncomputable def Try.pinned : Pinned := { name := "ythfkodcgkhcioaa", sum := "9e604fe44b895f56343433309483c54c419588d2e46da637cbc2f67e68b29f9f", checked := Try.checked }
namespace Rows
def none {H : Type} : Left H := { results := [], args := [] }

/-- 'bodkinlaw19.BreaksTakes': WHATEVER THE INPUT: true; the input reads as it did. -/
def breaksTakesSpec : ChangeSpec := { name := "breaksTakes", fn := fun _ => fun
  | [d1, d2] => { results := [.lit (.bool true)], args := [d1, d2] }
  | _ => none }
def breaksTakesRow : OpenClaim := { program := "ythfkodcgkhcioaa", sum := "9e604fe44b895f56343433309483c54c419588d2e46da637cbc2f67e68b29f9f", func := "bodkin/bodkinlaw19.BreaksTakes", spec := "breaksTakes", unfollowed := true, recurses := true, apart := false }
def BreaksTakesSaid : Prop := breaksTakesRow.holds Try.pinned (OpenSpec.ofChange breaksTakesSpec)

/-- ITS FALSE NEIGHBOUR: 'it returns false'. Refute it at one input. -/
def breaksTakesWrong : ChangeSpec := { name := "breaksTakes", fn := fun _ => fun
  | [d1, d2] => { results := [.lit (.bool false)], args := [d1, d2] }
  | _ => none }
def BreaksTakesWrongFalsely : Prop := breaksTakesRow.holds Try.pinned (OpenSpec.ofChange breaksTakesWrong)

/-- 'bodkinlaw19.BreaksAll': WHATEVER THE INPUT: true; the input reads as it did. -/
def breaksAllSpec : ChangeSpec := { name := "breaksAll", fn := fun _ => fun
  | [d1, d2] => { results := [.lit (.bool true)], args := [d1, d2] }
  | _ => none }
def breaksAllRow : OpenClaim := { program := "ythfkodcgkhcioaa", sum := "9e604fe44b895f56343433309483c54c419588d2e46da637cbc2f67e68b29f9f", func := "bodkin/bodkinlaw19.BreaksAll", spec := "breaksAll", unfollowed := true, recurses := true, apart := false }
def BreaksAllSaid : Prop := breaksAllRow.holds Try.pinned (OpenSpec.ofChange breaksAllSpec)

/-- ITS FALSE NEIGHBOUR: 'it returns false'. Refute it at one input. -/
def breaksAllWrong : ChangeSpec := { name := "breaksAll", fn := fun _ => fun
  | [d1, d2] => { results := [.lit (.bool false)], args := [d1, d2] }
  | _ => none }
def BreaksAllWrongFalsely : Prop := breaksAllRow.holds Try.pinned (OpenSpec.ofChange breaksAllWrong)

/-- 'bodkinlaw19.BreaksWhole': WHATEVER THE INPUT: true; the input reads as it did. -/
def breaksWholeSpec : ChangeSpec := { name := "breaksWhole", fn := fun _ => fun
  | [d1, d2] => { results := [.lit (.bool true)], args := [d1, d2] }
  | _ => none }
def breaksWholeRow : OpenClaim := { program := "ythfkodcgkhcioaa", sum := "9e604fe44b895f56343433309483c54c419588d2e46da637cbc2f67e68b29f9f", func := "bodkin/bodkinlaw19.BreaksWhole", spec := "breaksWhole", unfollowed := true, recurses := true, apart := false }
def BreaksWholeSaid : Prop := breaksWholeRow.holds Try.pinned (OpenSpec.ofChange breaksWholeSpec)

/-- ITS FALSE NEIGHBOUR: 'it returns false'. Refute it at one input. -/
def breaksWholeWrong : ChangeSpec := { name := "breaksWhole", fn := fun _ => fun
  | [d1, d2] => { results := [.lit (.bool false)], args := [d1, d2] }
  | _ => none }
def BreaksWholeWrongFalsely : Prop := breaksWholeRow.holds Try.pinned (OpenSpec.ofChange breaksWholeWrong)

/-- 'bodkinlaw19.BreaksFit': WHATEVER THE INPUT: true; the input reads as it did. -/
def breaksFitSpec : ChangeSpec := { name := "breaksFit", fn := fun _ => fun
  | [d1, d2] => { results := [.lit (.bool true)], args := [d1, d2] }
  | _ => none }
def breaksFitRow : OpenClaim := { program := "ythfkodcgkhcioaa", sum := "9e604fe44b895f56343433309483c54c419588d2e46da637cbc2f67e68b29f9f", func := "bodkin/bodkinlaw19.BreaksFit", spec := "breaksFit", unfollowed := true, recurses := true, apart := false }
def BreaksFitSaid : Prop := breaksFitRow.holds Try.pinned (OpenSpec.ofChange breaksFitSpec)

/-- ITS FALSE NEIGHBOUR: 'it returns false'. Refute it at one input. -/
def breaksFitWrong : ChangeSpec := { name := "breaksFit", fn := fun _ => fun
  | [d1, d2] => { results := [.lit (.bool false)], args := [d1, d2] }
  | _ => none }
def BreaksFitWrongFalsely : Prop := breaksFitRow.holds Try.pinned (OpenSpec.ofChange breaksFitWrong)

/-- 'bodkinlaw19.BreaksWords': WHATEVER THE INPUT: true; the input reads as it did. -/
def breaksWordsSpec : ChangeSpec := { name := "breaksWords", fn := fun _ => fun
  | [d1, d2] => { results := [.lit (.bool true)], args := [d1, d2] }
  | _ => none }
def breaksWordsRow : OpenClaim := { program := "ythfkodcgkhcioaa", sum := "9e604fe44b895f56343433309483c54c419588d2e46da637cbc2f67e68b29f9f", func := "bodkin/bodkinlaw19.BreaksWords", spec := "breaksWords", unfollowed := true, recurses := true, apart := false }
def BreaksWordsSaid : Prop := breaksWordsRow.holds Try.pinned (OpenSpec.ofChange breaksWordsSpec)

/-- ITS FALSE NEIGHBOUR: 'it returns false'. Refute it at one input. -/
def breaksWordsWrong : ChangeSpec := { name := "breaksWords", fn := fun _ => fun
  | [d1, d2] => { results := [.lit (.bool false)], args := [d1, d2] }
  | _ => none }
def BreaksWordsWrongFalsely : Prop := breaksWordsRow.holds Try.pinned (OpenSpec.ofChange breaksWordsWrong)

/-- 'bodkinlaw19.BreaksMore': WHATEVER THE INPUT: true; the input reads as it did. -/
def breaksMoreSpec : ChangeSpec := { name := "breaksMore", fn := fun _ => fun
  | [d1, d2, d3] => { results := [.lit (.bool true)], args := [d1, d2, d3] }
  | _ => none }
def breaksMoreRow : OpenClaim := { program := "ythfkodcgkhcioaa", sum := "9e604fe44b895f56343433309483c54c419588d2e46da637cbc2f67e68b29f9f", func := "bodkin/bodkinlaw19.BreaksMore", spec := "breaksMore", unfollowed := true, recurses := true, apart := false }
def BreaksMoreSaid : Prop := breaksMoreRow.holds Try.pinned (OpenSpec.ofChange breaksMoreSpec)

/-- ITS FALSE NEIGHBOUR: 'it returns false'. Refute it at one input. -/
def breaksMoreWrong : ChangeSpec := { name := "breaksMore", fn := fun _ => fun
  | [d1, d2, d3] => { results := [.lit (.bool false)], args := [d1, d2, d3] }
  | _ => none }
def BreaksMoreWrongFalsely : Prop := breaksMoreRow.holds Try.pinned (OpenSpec.ofChange breaksMoreWrong)

/-- 'bodkinlaw19.BreaksNone': WHATEVER THE INPUT: true; the input reads as it did. -/
def breaksNoneSpec : ChangeSpec := { name := "breaksNone", fn := fun _ => fun
  | [d] => { results := [.lit (.bool true)], args := [d] }
  | _ => none }
def breaksNoneRow : OpenClaim := { program := "ythfkodcgkhcioaa", sum := "9e604fe44b895f56343433309483c54c419588d2e46da637cbc2f67e68b29f9f", func := "bodkin/bodkinlaw19.BreaksNone", spec := "breaksNone", unfollowed := true, recurses := true, apart := false }
def BreaksNoneSaid : Prop := breaksNoneRow.holds Try.pinned (OpenSpec.ofChange breaksNoneSpec)

/-- ITS FALSE NEIGHBOUR: 'it returns false'. Refute it at one input. -/
def breaksNoneWrong : ChangeSpec := { name := "breaksNone", fn := fun _ => fun
  | [d] => { results := [.lit (.bool false)], args := [d] }
  | _ => none }
def BreaksNoneWrongFalsely : Prop := breaksNoneRow.holds Try.pinned (OpenSpec.ofChange breaksNoneWrong)

/- THE SECOND FORM. 'bulk': how many values and letters a reading holds, each counted each time it is reached (what is shared counts as often as it is met; a slice's spare places count too). A statement '..UptoSaid' is the law's where the arguments, and the package variables that the reading takes, are together of bulk at most 1048576: NARROWER than '..Said'. Prove '..Said' where nothing that the law and all that it calls make is longer than what came in: it says more and counts as full. Else prove '..UptoSaid'. A law counts once. -/
mutual
def uptoBulk {H : Type} : DataW H → Nat
  | .lit (.string bytes) => bytes.length + 1
  | .lit _ => 1
  | .nil => 1
  | .ptr d => uptoBulk d + 1
  | .slice elems spare => uptoBulkAll elems + uptoBulkAll spare + 1
  | .agg parts => uptoBulkAll parts + 1
  | .iface _ d => uptoBulk d + 1
  | .map entries => uptoBulkEntries entries + 1
  | .held _ => 1
def uptoBulkAll {H : Type} : List (DataW H) → Nat
  | [] => 0
  | d :: r => uptoBulk d + uptoBulkAll r
def uptoBulkEntries {H : Type} : List (Lit × DataW H) → Nat
  | [] => 0
  | x :: r => uptoBulkEntry x + uptoBulkEntries r
def uptoBulkEntry {H : Type} : Lit × DataW H → Nat
  | (.string bytes, d) => bytes.length + uptoBulk d + 1
  | (_, d) => uptoBulk d + 1
 end
def uptoSmall : (H : Type) → List (DataW H) → Bool := fun _ ds => decide (uptoBulkAll ds ≤ 1048576)
def OpenSpec.upto (s : _root_.Go.ChangeSpec) : _root_.Go.OpenSpec := { _root_.Go.OpenSpec.ofChange s with cond := some uptoSmall }

/-- 'bodkinlaw19.BreaksTakes', WHERE WHAT IT READS IS OF BULK AT MOST 1048576: true; the input reads as it did. -/
def breaksTakesUptoRow : OpenClaim := { program := "ythfkodcgkhcioaa", sum := "9e604fe44b895f56343433309483c54c419588d2e46da637cbc2f67e68b29f9f", func := "bodkin/bodkinlaw19.BreaksTakes", spec := "breaksTakes", unfollowed := true, recurses := true, apart := false, narrowed := true }
def BreaksTakesUptoSaid : Prop := breaksTakesUptoRow.holds Try.pinned (OpenSpec.upto breaksTakesSpec)

/-- 'bodkinlaw19.BreaksAll', WHERE WHAT IT READS IS OF BULK AT MOST 1048576: true; the input reads as it did. -/
def breaksAllUptoRow : OpenClaim := { program := "ythfkodcgkhcioaa", sum := "9e604fe44b895f56343433309483c54c419588d2e46da637cbc2f67e68b29f9f", func := "bodkin/bodkinlaw19.BreaksAll", spec := "breaksAll", unfollowed := true, recurses := true, apart := false, narrowed := true }
def BreaksAllUptoSaid : Prop := breaksAllUptoRow.holds Try.pinned (OpenSpec.upto breaksAllSpec)

/-- 'bodkinlaw19.BreaksWhole', WHERE WHAT IT READS IS OF BULK AT MOST 1048576: true; the input reads as it did. -/
def breaksWholeUptoRow : OpenClaim := { program := "ythfkodcgkhcioaa", sum := "9e604fe44b895f56343433309483c54c419588d2e46da637cbc2f67e68b29f9f", func := "bodkin/bodkinlaw19.BreaksWhole", spec := "breaksWhole", unfollowed := true, recurses := true, apart := false, narrowed := true }
def BreaksWholeUptoSaid : Prop := breaksWholeUptoRow.holds Try.pinned (OpenSpec.upto breaksWholeSpec)

/-- 'bodkinlaw19.BreaksFit', WHERE WHAT IT READS IS OF BULK AT MOST 1048576: true; the input reads as it did. -/
def breaksFitUptoRow : OpenClaim := { program := "ythfkodcgkhcioaa", sum := "9e604fe44b895f56343433309483c54c419588d2e46da637cbc2f67e68b29f9f", func := "bodkin/bodkinlaw19.BreaksFit", spec := "breaksFit", unfollowed := true, recurses := true, apart := false, narrowed := true }
def BreaksFitUptoSaid : Prop := breaksFitUptoRow.holds Try.pinned (OpenSpec.upto breaksFitSpec)

/-- 'bodkinlaw19.BreaksWords', WHERE WHAT IT READS IS OF BULK AT MOST 1048576: true; the input reads as it did. -/
def breaksWordsUptoRow : OpenClaim := { program := "ythfkodcgkhcioaa", sum := "9e604fe44b895f56343433309483c54c419588d2e46da637cbc2f67e68b29f9f", func := "bodkin/bodkinlaw19.BreaksWords", spec := "breaksWords", unfollowed := true, recurses := true, apart := false, narrowed := true }
def BreaksWordsUptoSaid : Prop := breaksWordsUptoRow.holds Try.pinned (OpenSpec.upto breaksWordsSpec)

/-- 'bodkinlaw19.BreaksMore', WHERE WHAT IT READS IS OF BULK AT MOST 1048576: true; the input reads as it did. -/
def breaksMoreUptoRow : OpenClaim := { program := "ythfkodcgkhcioaa", sum := "9e604fe44b895f56343433309483c54c419588d2e46da637cbc2f67e68b29f9f", func := "bodkin/bodkinlaw19.BreaksMore", spec := "breaksMore", unfollowed := true, recurses := true, apart := false, narrowed := true }
def BreaksMoreUptoSaid : Prop := breaksMoreUptoRow.holds Try.pinned (OpenSpec.upto breaksMoreSpec)

/-- 'bodkinlaw19.BreaksNone', WHERE WHAT IT READS IS OF BULK AT MOST 1048576: true; the input reads as it did. -/
def breaksNoneUptoRow : OpenClaim := { program := "ythfkodcgkhcioaa", sum := "9e604fe44b895f56343433309483c54c419588d2e46da637cbc2f67e68b29f9f", func := "bodkin/bodkinlaw19.BreaksNone", spec := "breaksNone", unfollowed := true, recurses := true, apart := false, narrowed := true }
def BreaksNoneUptoSaid : Prop := breaksNoneUptoRow.holds Try.pinned (OpenSpec.upto breaksNoneSpec)

end Rows
end Go.Proofs.Ythfkodcgkhcioaa
