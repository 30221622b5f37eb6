/-
  Chapter 20: proofs of the laws' conditions. Conditions: none.
-/
import Derived.Test.YtkgplompdnjodaaC20P
namespace Go.Fr.C20
open Go Go.Fr Go.Proofs

theorem rowsGo_len (rest : Int) : ∀ (f : Nat) (l : List Cell) (n : Nat), (rowsGo rest f l n).length ≤ f
  | 0, _, _ => Nat.le_refl _
  | f + 1, l, n => by
    unfold rowsGo
    have := rowsGo_len rest f (l.drop n) (takes (l.drop n) rest)
    split
    · simp
    · simp only [List.length_cons]; omega
theorem allR_len (l : List Cell) (p q : Int) : (allR l p q).length ≤ l.length + 1 := rowsGo_len q _ l _
theorem allR_nil (p q : Int) : allR [] p q = [0] := rfl
/-- Where the rows are. -/
def Cur (l : List Cell) (p q : Int) (k at_ : Nat) : Prop :=
  at_ ≤ l.length ∧ ((allR l p q).drop k = [] ∧ at_ = l.length ∨ ∃ m, (allR l p q).drop k = rowsL q (l.drop at_) m ∧ m ≤ l.length - at_ ∧ (l.drop at_ ≠ [] → 1 ≤ m) ∧ (k = 0 ∧ at_ = 0 ∧ m = start l p ∨ 0 < k ∧ l.drop at_ ≠ [] ∧ m = takes (l.drop at_) q))
theorem cur_0 (l : List Cell) (p q : Int) : Cur l p q 0 0 :=
  ⟨Nat.zero_le _, .inr ⟨start l p, rfl, start_le l p, fun e => start_pos e p, .inl ⟨rfl, rfl, rfl⟩⟩⟩
theorem cur_step {l : List Cell} {p q : Int} {k at_ : Nat} (h : Cur l p q k at_) (hk : k < (allR l p q).length) : ∃ m : Nat, (allR l p q).getD k 0 = (m : Int) ∧ at_ + m ≤ l.length ∧ (l ≠ [] → 1 ≤ m) ∧
    (k = 0 ∧ at_ = 0 ∧ m = start l p ∨ 0 < k ∧ l.drop at_ ≠ [] ∧ m = takes (l.drop at_) q) ∧ Cur l p q (k + 1) (at_ + m) := by
  obtain ⟨h0, h1⟩ := h
  rw [drop_cons (0 : Int) hk] at h1
  rcases h1 with ⟨h1, _⟩ | ⟨m, h1, h2, h3, h4⟩
  · cases h1
  · have hm : l.drop at_ ≠ [] → 1 ≤ m := h3
    rw [rowsL_eq q (l.drop at_) m hm] at h1
    injection h1 with e1 e2
    refine ⟨m, e1, by omega, fun hl => ?_, h4, by omega, ?_⟩
    · rcases h4 with ⟨_, a0, _⟩ | ⟨_, a1, _⟩
      · subst a0; exact h3 (by simpa using hl)
      · exact h3 a1
    · rw [List.drop_drop] at e2
      by_cases e : l.drop (at_ + m) = []
      · rw [if_pos e] at e2
        have := congrArg List.length e
        rw [List.length_drop] at this
        simp at this
        exact .inl ⟨e2, by omega⟩
      · rw [if_neg e] at e2
        refine .inr ⟨_, e2, ?_, fun _ => takes_pos e q, .inr ⟨by omega, e, rfl⟩⟩
        have := takes_le (l.drop (at_ + m)) q
        rwa [List.length_drop] at this
theorem cur_end {l : List Cell} {p q : Int} {k at_ : Nat} (h : Cur l p q k at_) (hk : (allR l p q).length ≤ k) : at_ = l.length := by
  obtain ⟨h0, h1⟩ := h
  rcases h1 with ⟨_, h1⟩ | ⟨m, h1, h2, h3, h4⟩
  · exact h1
  · rw [List.drop_eq_nil_of_le hk, rowsL_eq _ _ _ h3] at h1
    cases h1
theorem okL_nil : okL [] := ⟨Nat.zero_le _, fun c hc => by cases hc⟩
theorem fitGo_mono {r r' : Int} (h : r ≤ r') : ∀ (l : List Cell) (w : Int), fitGo r l w ≤ fitGo r' l w
  | [], _ => Nat.le_refl _
  | c :: l, w => by
    unfold fitGo
    have := fitGo_mono h l (w + wd c)
    split
    · rw [if_pos (by omega)]; omega
    · exact Nat.zero_le _
theorem zeros_fit {r : Int} : ∀ (l : List Cell) (w : Int), w ≤ r → zeros l ≤ fitGo r l w
  | [], _, _ => Nat.le_refl _
  | c :: l, w, h => by
    unfold zeros fitGo
    split
    · rename_i e
      rw [if_pos (by omega), e, Int.add_zero]
      have := zeros_fit l w h
      omega
    · exact Nat.zero_le _
theorem fit_mono {r r' : Int} (h : r ≤ r') (l : List Cell) : fit l r ≤ fit l r' := by
  have hm := fitGo_mono h l 0
  unfold fit
  by_cases h1 : fitGo r l 0 = 0
  · rw [if_pos h1]
    by_cases h2 : fitGo r' l 0 = 0
    · rw [if_pos h2]; exact Nat.le_refl _
    · rw [if_neg h2]
      cases l with
      | nil => exact absurd rfl h2
      | cons c l =>
        rw [fitGo] at h2 ⊢
        by_cases h3 : 0 + wd c ≤ r'
        · rw [if_pos h3]
          have := zeros_fit l (0 + wd c) h3
          simp only [List.drop_succ_cons, List.drop_zero]
          omega
        · rw [if_neg h3] at h2; exact absurd rfl h2
  · rw [if_neg h1, if_neg (by omega)]
    exact hm
theorem lastB_max {l : List Cell} : ∀ {n k : Nat}, bound l (k : Int) = true → 1 ≤ k → k ≤ n → k ≤ lastB l n
  | 0, k, _, h1, h2 => by omega
  | n + 1, k, hb, h1, h2 => by
    unfold lastB
    by_cases e : k = n + 1
    · subst e; rw [if_pos hb]; exact Nat.le_refl _
    · have := lastB_max (n := n) hb h1 (by omega)
      split <;> omega
theorem lastB_is {l : List Cell} : ∀ {n : Nat}, lastB l n ≠ 0 → bound l (lastB l n : Int) = true
  | 0, h => absurd rfl h
  | n + 1, h => by
    unfold lastB at h ⊢
    by_cases hb : bound l ((n + 1 : Nat) : Int) = true
    · rw [if_pos hb]; exact hb
    · rw [if_neg hb] at h ⊢; exact lastB_is h
theorem takes_mono {r r' : Int} (h : r ≤ r') (l : List Cell) : takes l r ≤ takes l r' := by
  by_cases hl : l = []
  · subst hl; exact Nat.le_refl _
  · have hf := fit_mono h l
    have h1 := fit_le hl r'
    by_cases e : fit l r' = l.length
    · have : takes l r' = l.length := by unfold takes; rw [if_neg hl, if_pos e, e]
      rw [this]; exact takes_le l r
    · rw [takes_some hl (by omega), takes_some hl e]
      have b := lastB_le l (fit l r)
      by_cases z : lastB l (fit l r) = 0
      · rw [if_pos z]
        by_cases z' : lastB l (fit l r') = 0
        · rw [if_pos z']; exact hf
        · rw [if_neg z']
          have hb := lastB_is z'
          rcases Nat.lt_or_ge (fit l r) (lastB l (fit l r')) with g | g
          · omega
          · have := lastB_max (n := fit l r) hb (by omega) g
            omega
      · rw [if_neg z]
        have := lastB_max (n := fit l r') (lastB_is z) (by omega) (by omega)
        rw [if_neg (by omega)]
        exact this
/-- What comes behind what fits does not fit. -/
theorem fg_stop {room : Int} {l : List Cell} : ∀ (n k : Nat), fitGo room (l.drop k) (width (l.take k)) = n → k + n < l.length → width (l.take (k + n + 1)) > room
  | 0, k, h, hk => by
    rw [fg_step (by omega)] at h
    rw [Nat.add_zero, width_succ (by omega)]
    split at h
    · omega
    · omega
  | n + 1, k, h, hk => by
    rw [fg_step (by omega)] at h
    split at h
    · rw [← width_succ (by omega)] at h
      have := fg_stop (room := room) (l := l) n (k + 1) (by omega) (by omega)
      rw [show k + (n + 1) + 1 = k + 1 + n + 1 by omega]
      exact this
    · omega
theorem width_mono {l : List Cell} (hl : okL l) : ∀ (n k : Nat), k + n ≤ l.length → width (l.take k) ≤ width (l.take (k + n))
  | 0, _, _ => Int.le_refl _
  | n + 1, k, h => by
    have := width_mono hl n k (by omega)
    have h2 := ok_get hl (show k + n < l.length by omega)
    rw [show k + (n + 1) = k + n + 1 by omega, width_succ (by omega)]
    omega
theorem fit_stop {l : List Cell} (hl : okL l) {room : Int} (h : fit l room < l.length) : width (l.take (fit l room + 1)) > room := by
  unfold fit at h ⊢
  by_cases e : fitGo room l 0 = 0
  · rw [if_pos e] at h ⊢
    have st := fg_step (room := room) (l := l) (k := 0) (by omega) 0
    have e' : fitGo room (l.drop 0) 0 = 0 := e
    rw [e'] at st
    have ws : width (l.take 1) = width (l.take 0) + wd (l.getD 0 zCell) := width_succ (by omega)
    have w0 : width (l.take 0) = 0 := rfl
    have wm := width_mono hl (zeros (l.drop 1) + 1) 1 (by omega)
    rw [show zeros (l.drop 1) + 1 + 1 = 1 + (zeros (l.drop 1) + 1) by omega]
    by_cases g : 0 + wd (l.getD 0 zCell) ≤ room
    · rw [if_pos g] at st; omega
    · omega
  · rw [if_neg e] at h ⊢
    have := fg_stop (room := room) (l := l) (fitGo room l 0) 0 rfl (by omega)
    rwa [Nat.zero_add] at this
end Go.Fr.C20
