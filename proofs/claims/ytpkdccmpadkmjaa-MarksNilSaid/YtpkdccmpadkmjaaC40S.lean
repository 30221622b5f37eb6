/-
  Chapter 40: the library's sort and compaction. Conditions: none.
-/
import Derived.Test.YtpkdccmpadkmjaaFrX2
import Derived.Test.YtpkdccmpadkmjaaC40A
import Derived.Test.YtpkdccmpadkmjaaC40L
namespace Go.Fr.C40
open Go Go.Fr Go.Proofs

theorem r25 : RSpec Try.prog 25 rSort :=
  sort_spec Try.func25 (by decide) (by kernel_rfl : Try.f25.body = some (bodyOf Try.f25)) (fun _ _ => rfl) (fun xs h => Nat.lt_of_le_of_lt h (by decide)) (AnyM.slices_Sort_int Try.lSort) (AnyM.slices_Sort_int_none Try.lSort)
theorem upTo_dropRuns (zs : List Int) : ∀ (suf pre : List Int) (p : Int), zs = pre ++ p :: suf → Lib.compactUpTo zs.toArray zs.length = Lib.compactUpTo zs.toArray (pre.length + 1) ++ dropRuns p suf
  | [], pre, p, e => by
    have : zs.length = pre.length + 1 := by rw [e]; simp
    rw [this]
    simp [dropRuns]
  | b :: r, pre, p, e => by
    have ih := upTo_dropRuns zs r (pre ++ [p]) b (by rw [e]; simp)
    rw [ih, List.length_append, List.length_singleton, Lib.compactUpTo_succ, List.append_assoc]
    congr 1
    have h1 : zs.toArray[pre.length + 1]! = b := by rw [e]; simp
    have h0 : zs.toArray[pre.length + 1 - 1]! = p := by rw [e]; simp
    by_cases hb : b = p
    · rw [Lib.keeps_neg (by omega) (by rw [h1, h0, hb])]
      simp [dropRuns, hb]
    · rw [Lib.keeps_pos (by rw [h1, h0]; exact hb), h1]
      simp [dropRuns, hb]
theorem compact_eq : ∀ zs : List Int, Lib.compact zs = compactL zs
  | [] => rfl
  | a :: r => by
    unfold Lib.compact
    rw [upTo_dropRuns (a :: r) r [] a rfl]
    simp [Lib.compactUpTo_succ, Lib.compactUpTo, Lib.keeps, compactL]
theorem dropRuns_len : ∀ (r : List Int) (p : Int), (dropRuns p r).length ≤ r.length
  | [], _ => Nat.le_refl _
  | b :: r, p => by
    have := dropRuns_len r b
    simp only [dropRuns]
    split <;> simp <;> omega
theorem compact_len (zs : List Int) : (Lib.compact zs).length ≤ zs.length := by
  rw [compact_eq]
  cases zs with
  | nil => exact Nat.le_refl _
  | cons a r => have := dropRuns_len r a; simp [compactL]; omega
theorem r26 : RSpec Try.prog 26 rCompact :=
  compact_spec Try.func26 (by decide) (by kernel_rfl : Try.f26.body = some (bodyOf Try.f26)) (C := Lib.compact) compact_len rfl (fun xs _ => compact_eq xs) (fun xs h => Nat.le_trans h (by decide)) (AnyG.slices_Compact_int Try.lCompact) (AnyG.slices_Compact_int_empty Try.lCompact)
end Go.Fr.C40
