/-
  Chapter 20: how many cells rows take, in plain Lean. Conditions: none.
-/
import Derived.Test.YtkgplompdnjodaaC20A
namespace Go.Fr.C20
open Go Go.Fr Go.Proofs

theorem fitGo_le (room : Int) : ∀ (l : List Cell) (w : Int), fitGo room l w ≤ l.length
  | [], _ => Nat.le_refl _
  | c :: r, w => by
    unfold fitGo
    split
    · have := fitGo_le room r (w + wd c); simp only [List.length_cons]; omega
    · exact Nat.zero_le _
theorem zeros_le : ∀ (l : List Cell), zeros l ≤ l.length
  | [] => Nat.le_refl _
  | c :: r => by
    unfold zeros
    split
    · have := zeros_le r; simp only [List.length_cons]; omega
    · exact Nat.zero_le _
theorem fit_pos (l : List Cell) (room : Int) : 1 ≤ fit l room := by unfold fit; split <;> omega
theorem fit_le {l : List Cell} (h : l ≠ []) (room : Int) : fit l room ≤ l.length := by
  have h1 := fitGo_le room l 0
  have h2 := zeros_le (l.drop 1)
  have h3 : 1 ≤ l.length := by cases l <;> simp_all
  rw [List.length_drop] at h2
  unfold fit
  split <;> omega
theorem lastB_le (l : List Cell) : ∀ n, lastB l n ≤ n
  | 0 => Nat.le_refl _
  | n + 1 => by
    unfold lastB
    split
    · exact Nat.le_refl _
    · have := lastB_le l n; omega
theorem takes_nil (room : Int) : takes [] room = 0 := rfl
theorem takes_le (l : List Cell) (room : Int) : takes l room ≤ l.length := by
  unfold takes
  split
  · exact Nat.zero_le _
  · rename_i h
    have h1 := fit_le h room
    have h2 := lastB_le l (fit l room)
    split
    · omega
    · split <;> omega
theorem takes_pos {l : List Cell} (h : l ≠ []) (room : Int) : 1 ≤ takes l room := by
  unfold takes
  rw [if_neg h]
  have := fit_pos l room
  split
  · omega
  · split <;> omega
theorem takes_fit (l : List Cell) (room : Int) : takes l room ≤ fit l room := by
  unfold takes
  have h2 := lastB_le l (fit l room)
  split
  · exact Nat.zero_le _
  · split
    · omega
    · split <;> omega
theorem start_nil (room : Int) : start [] room = 0 := rfl
theorem start_le (l : List Cell) (room : Int) : start l room ≤ l.length := by
  unfold start
  have h1 := takes_le l room
  split
  · split
    · omega
    · rename_i h
      have : l ≠ [] := fun e => h (by rw [e]; rfl)
      exact fit_le this room
  · exact h1
theorem start_pos {l : List Cell} (h : l ≠ []) (room : Int) : 1 ≤ start l room := by
  unfold start
  have h1 := takes_pos h room
  have h2 := fit_pos l room
  split
  · split <;> omega
  · omega
theorem okL_drop {l : List Cell} (h : okL l) (n : Nat) : okL (l.drop n) :=
  ⟨by have := h.1; rw [List.length_drop]; omega, fun c hc => h.2 c (List.mem_of_mem_drop hc)⟩
theorem okL_take {l : List Cell} (h : okL l) (n : Nat) : okL (l.take n) :=
  ⟨by have := h.1; rw [List.length_take]; omega, fun c hc => h.2 c (List.mem_of_mem_take hc)⟩
/-- Enough steps are enough. -/
theorem rowsGo_fuel (rest : Int) : ∀ (f g : Nat) (l : List Cell) (n : Nat), l.length < f → l.length < g → (l ≠ [] → 1 ≤ n) → rowsGo rest f l n = rowsGo rest g l n
  | 0, _, _, _, h, _, _ => by omega
  | _, 0, _, _, _, h, _ => by omega
  | f + 1, g + 1, l, n, h1, h2, h3 => by
    unfold rowsGo
    by_cases e : l.drop n = []
    · rw [if_pos e, if_pos e]
    · rw [if_neg e, if_neg e]
      have hl : l ≠ [] := fun e' => e (by rw [e']; simp)
      have := h3 hl
      have hd : (l.drop n).length < l.length := by
        rw [List.length_drop]
        have : 1 ≤ l.length := by cases l <;> simp_all
        omega
      rw [rowsGo_fuel rest f g _ _ (by omega) (by omega) fun e' => takes_pos e' rest]
/-- The rows of what is left, whatever the steps. -/
def rowsL (rest : Int) (l : List Cell) (n : Nat) : List Int := rowsGo rest (l.length + 1) l n
theorem rowsL_eq (rest : Int) (l : List Cell) (n : Nat) (h : l ≠ [] → 1 ≤ n) : rowsL rest l n = (n : Int) :: if l.drop n = [] then [] else rowsL rest (l.drop n) (takes (l.drop n) rest) := by
  unfold rowsL
  rw [rowsGo]
  by_cases e : l.drop n = []
  · rw [if_pos e, if_pos e]
  · rw [if_neg e, if_neg e]
    have hl : l ≠ [] := fun e' => e (by rw [e']; simp)
    have := h hl
    have hd : (l.drop n).length < l.length := by
      rw [List.length_drop]
      have : 1 ≤ l.length := by cases l <;> simp_all
      omega
    rw [rowsGo_fuel rest l.length ((l.drop n).length + 1) _ _ hd (Nat.lt_succ_self _) fun e' => takes_pos e' rest]
theorem allR_eq (l : List Cell) (first rest : Int) : allR l first rest = rowsL rest l (start l first) := rfl
end Go.Fr.C20
