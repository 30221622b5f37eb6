/-
  Small facts that the proofs of conditions share. Conditions: none.
-/
import Derived.Test.YtepnpmaoodljkaaDoorFrX
namespace Go.Fr
open Go

theorem wrap_eq (n : Int) : IntKind.i64.wrap n = (n + 9223372036854775808) % 18446744073709551616 - 9223372036854775808 := by
  have e : IntKind.i64.wrap n = if n % 18446744073709551616 ≥ 9223372036854775808 then n % 18446744073709551616 - 18446744073709551616 else n % 18446744073709551616 := by
    unfold IntKind.wrap
    have hb : IntKind.i64.bits = 64 := rfl
    have hs : IntKind.i64.signed = true := rfl
    rw [hb, hs]
    simp
  rw [e]
  split <;> omega
theorem drop_cons {α : Type} {l : List α} {k : Nat} (d : α) (h : k < l.length) : l.drop k = l.getD k d :: l.drop (k + 1) := by
  rw [List.drop_eq_getElem_cons h, getD_of d h]
theorem toNat_cast (k : Nat) : Int.toNat (k : Int) = k := rfl
theorem dec_t {p : Prop} [Decidable p] (h : decide p = true) : p := of_decide_eq_true h
theorem dec_f {p : Prop} [Decidable p] (h : decide p = false) : ¬ p := of_decide_eq_false h
theorem eq_false_of {b : Bool} (h : ¬ b = true) : false = b := by cases b <;> simp_all
theorem eq_true_of {b : Bool} (h : b = true) : true = b := h.symm
theorem maxLen_eq : maxLen = 9223372036854775807 := rfl
theorem beq_bool (a b : Bool) : Ty.beq .bool a b = (a == b) := rfl
theorem one_len {α : Type} (c : α) : [c].length = 1 := rfl
theorem wf_i64 {n : Int} (h : (Lit.int .i64 n).wf = true) : -9223372036854775808 ≤ n ∧ n ≤ 9223372036854775807 := by
  unfold Lit.wf at h
  simp only [Bool.and_eq_true, decide_eq_true_eq] at h
  exact h

/-- Two lists of one length, alike place by place. -/
def all2 {α : Type} (f : α → α → Bool) : List α → List α → Bool
  | [], [] => true
  | a :: r, b :: s => f a b && all2 f r s
  | _, _ => false
theorem all2_iff {α : Type} {f : α → α → Bool} (d : α) : ∀ {a b : List α}, all2 f a b = true ↔ a.length = b.length ∧ ∀ k, k < a.length → f (a.getD k d) (b.getD k d) = true
  | [], [] => by simp [all2]
  | [], b :: s => by simp [all2]
  | a :: r, [] => by simp [all2]
  | a :: r, b :: s => by
    simp only [all2, Bool.and_eq_true, List.length_cons, Nat.add_right_cancel_iff]
    rw [all2_iff d]
    constructor
    · rintro ⟨h1, h2, h3⟩
      refine ⟨h2, fun k hk => ?_⟩
      cases k with
      | zero => exact h1
      | succ k => exact h3 k (by omega)
    · rintro ⟨h2, h3⟩
      exact ⟨h3 0 (by omega), h2, fun k hk => h3 (k + 1) (by omega)⟩
/-- A loop over two lists: what was alike so far. -/
theorem all2_so_far {α : Type} {f : α → α → Bool} {a b : List α} {k : Nat} {d : α} (h : ∀ j, j < k → f (a.getD j d) (b.getD j d) = true) (hk : f (a.getD k d) (b.getD k d) = true) :
    ∀ j, j < k + 1 → f (a.getD j d) (b.getD j d) = true := by
  intro j hj
  by_cases e : j = k
  · subst e; exact hk
  · exact h j (by omega)
end Go.Fr
