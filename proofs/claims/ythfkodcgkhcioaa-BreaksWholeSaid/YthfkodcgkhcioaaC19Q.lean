/-
  Chapter 19: proofs of the laws' conditions. Conditions: none.
-/
import Derived.Test.YthfkodcgkhcioaaC19P
namespace Go.Fr.C19
open Go Go.Fr Go.Proofs

theorem rowsGo_len (rest : Int) : ∀ (f : Nat) (l : List Cell) (n : Nat), (rowsGo rest f l n).length ≤ f
  | 0, _, _ => Nat.le_refl _
  | f + 1, l, n => by
    unfold rowsGo
    have := rowsGo_len rest f (l.drop n) (takes (l.drop n) rest)
    split
    · simp
    · simp only [List.length_cons]; omega
theorem allR_len (l : List Cell) (p q : Int) : (allR l p q).length ≤ l.length + 1 := rowsGo_len q _ l _
theorem allR_nil (p q : Int) : allR [] p q = [0] := rfl
/-- Where the rows are. -/
def Cur (l : List Cell) (p q : Int) (k at_ : Nat) : Prop :=
  at_ ≤ l.length ∧ ((allR l p q).drop k = [] ∧ at_ = l.length ∨ ∃ m, (allR l p q).drop k = rowsL q (l.drop at_) m ∧ m ≤ l.length - at_ ∧ (l.drop at_ ≠ [] → 1 ≤ m) ∧ (k = 0 ∧ at_ = 0 ∧ m = start l p ∨ 0 < k ∧ l.drop at_ ≠ [] ∧ m = takes (l.drop at_) q))
theorem cur_0 (l : List Cell) (p q : Int) : Cur l p q 0 0 :=
  ⟨Nat.zero_le _, .inr ⟨start l p, rfl, start_le l p, fun e => start_pos e p, .inl ⟨rfl, rfl, rfl⟩⟩⟩
theorem cur_step {l : List Cell} {p q : Int} {k at_ : Nat} (h : Cur l p q k at_) (hk : k < (allR l p q).length) : ∃ m : Nat, (allR l p q).getD k 0 = (m : Int) ∧ at_ + m ≤ l.length ∧ (l ≠ [] → 1 ≤ m) ∧
    (k = 0 ∧ at_ = 0 ∧ m = start l p ∨ 0 < k ∧ l.drop at_ ≠ [] ∧ m = takes (l.drop at_) q) ∧ Cur l p q (k + 1) (at_ + m) := by
  obtain ⟨h0, h1⟩ := h
  rw [drop_cons (0 : Int) hk] at h1
  rcases h1 with ⟨h1, _⟩ | ⟨m, h1, h2, h3, h4⟩
  · cases h1
  · have hm : l.drop at_ ≠ [] → 1 ≤ m := h3
    rw [rowsL_eq q (l.drop at_) m hm] at h1
    injection h1 with e1 e2
    refine ⟨m, e1, by omega, fun hl => ?_, h4, by omega, ?_⟩
    · rcases h4 with ⟨_, a0, _⟩ | ⟨_, a1, _⟩
      · subst a0; exact h3 (by simpa using hl)
      · exact h3 a1
    · rw [List.drop_drop] at e2
      by_cases e : l.drop (at_ + m) = []
      · rw [if_pos e] at e2
        have := congrArg List.length e
        rw [List.length_drop] at this
        simp at this
        exact .inl ⟨e2, by omega⟩
      · rw [if_neg e] at e2
        refine .inr ⟨_, e2, ?_, fun _ => takes_pos e q, .inr ⟨by omega, e, rfl⟩⟩
        have := takes_le (l.drop (at_ + m)) q
        rwa [List.length_drop] at this
theorem cur_end {l : List Cell} {p q : Int} {k at_ : Nat} (h : Cur l p q k at_) (hk : (allR l p q).length ≤ k) : at_ = l.length := by
  obtain ⟨h0, h1⟩ := h
  rcases h1 with ⟨_, h1⟩ | ⟨m, h1, h2, h3, h4⟩
  · exact h1
  · rw [List.drop_eq_nil_of_le hk, rowsL_eq _ _ _ h3] at h1
    cases h1
theorem p3 : vc3 := by
  unfold vc3
  rintro ⟨l, room, ⟨⟩⟩
  simp only
  intro hl
  refine ⟨hl, fun _ => ⟨trivial, trivial⟩, fun h => ?_⟩
  have ok := right_ok (l := l) (by simpa using h)
  simp [ok]
theorem p4 : vc4 := by
  unfold vc4
  rintro ⟨l, ⟨p, q, ⟨⟩⟩, ⟨⟩⟩
  simp only
  intro hl
  refine ⟨hl, fun _ => ⟨trivial, trivial⟩, fun h => ?_⟩
  have ok := right_ok (l := l) (by simpa using h)
  have h1 := ok.1
  have h2 := allR_len l p q
  rw [maxLen_eq]
  refine ⟨by omega, by omega, ok, ok, ⟨by omega, by omega⟩, fun _ => ⟨trivial, trivial⟩, by simp⟩
theorem okL_nil : okL [] := ⟨Nat.zero_le _, fun c hc => by cases hc⟩
theorem p9 : vc9 := by
  unfold vc9
  rintro ⟨⟨p, q, ⟨⟩⟩, ⟨⟩⟩ _
  simp only
  have e1 : takes [] p = 0 := rfl
  have e2 : indent [] = 0 := rfl
  rw [allR_nil, e1, e2, maxLen_eq]
  refine ⟨by omega, okL_nil, fun _ => ⟨okL_nil, fun _ => ⟨by omega, by omega, okL_nil, ⟨by simp, by simp⟩, fun _ => ⟨trivial, trivial⟩, by simp⟩, by simp⟩, by simp⟩
theorem p11 : vc11 := by
  unfold vc11
  intro _ _
  have e1 : takes [((97 : Int), (0 : Int), (1 : Int), (0 : Int), ()), ((98 : Int), (0 : Int), (1 : Int), (0 : Int), ()), ((32 : Int), (0 : Int), (1 : Int), (0 : Int), ()), ((99 : Int), (0 : Int), (1 : Int), (0 : Int), ()), ((100 : Int), (0 : Int), (1 : Int), (0 : Int), ())] 4 = 3 := by kernel_rfl
  have e2 : allR [((97 : Int), (0 : Int), (1 : Int), (0 : Int), ()), ((98 : Int), (0 : Int), (1 : Int), (0 : Int), ()), ((32 : Int), (0 : Int), (1 : Int), (0 : Int), ()), ((99 : Int), (0 : Int), (1 : Int), (0 : Int), ()), ((100 : Int), (0 : Int), (1 : Int), (0 : Int), ())] 4 4 = [3, 2] := by kernel_rfl
  have e3 : indent (List.drop (Int.toNat 2) [((97 : Int), (0 : Int), (1 : Int), (0 : Int), ()), ((98 : Int), (0 : Int), (1 : Int), (0 : Int), ()), ((32 : Int), (0 : Int), (1 : Int), (0 : Int), ()), ((99 : Int), (0 : Int), (1 : Int), (0 : Int), ()), ((100 : Int), (0 : Int), (1 : Int), (0 : Int), ())]) = 1 := by kernel_rfl
  have ok : okL [((97 : Int), (0 : Int), (1 : Int), (0 : Int), ()), ((98 : Int), (0 : Int), (1 : Int), (0 : Int), ()), ((32 : Int), (0 : Int), (1 : Int), (0 : Int), ()), ((99 : Int), (0 : Int), (1 : Int), (0 : Int), ()), ((100 : Int), (0 : Int), (1 : Int), (0 : Int), ())] := ⟨by simp, by simp [wd]⟩
  rw [e1, e2, e3, maxLen_eq]
  refine ⟨ok, fun _ => ⟨ok, ⟨by simp, by simp⟩, fun _ => ⟨⟨by omega, by simp⟩, okL_drop ok _, by rfl⟩, by simp⟩, by simp⟩
theorem p5 : vc5 := by
  unfold vc5
  simp only [eq_self, true_and, and_true, decide_eq_true_eq, decide_eq_false_iff_not, beq_iff_eq, beq_eq_false_iff_ne, bne_iff_ne, bne_eq_false_iff_eq, Bool.not_eq_true', Bool.not_eq_false', ne_eq, imp_true_iff, implies_true]
  rintro ⟨l, ⟨p, q, ⟨⟩⟩, ⟨⟩⟩
  simp only
  intro hl
  refine ⟨hl, fun h => ?_⟩
  have ok := right_ok h
  have h1 := ok.1
  have h2 := allR_len l p q
  rw [d3]
  refine ⟨by omega, by omega, ok, fun z => ∃ k at_ : Nat, k ≤ (allR l p q).length ∧ z.2.1 = (k : Int) ∧ z.1 = (at_ : Int) ∧ Cur l p q k at_, fun z => (allR l p q).length - z.2.1.toNat, ⟨0, 0, Nat.zero_le _, rfl, rfl, cur_0 l p q⟩, ?_⟩
  rintro a i ⟨k, at_, hk, hi, ha, hc⟩
  simp only at hi ha
  subst hi ha
  rw [toNat_cast]
  refine ⟨fun g => ?_, fun g => ?_⟩
  · have hlt : k < (allR l p q).length := by omega
    have hw : IntKind.i64.wrap ((k : Int) + 1) = ((k + 1 : Nat) : Int) := wrap_succ (by omega)
    obtain ⟨m, e1, e2, e3, e4, e5⟩ := cur_step hc hlt
    have w1 : IntKind.i64.wrap ((at_ : Int) + (m : Int)) = ((at_ + m : Nat) : Int) := by rw [wrap_eq]; omega
    have hdec : (allR l p q).length - (((k + 1 : Nat) : Int)).toNat < (allR l p q).length - (k : Int).toNat := by rw [toNat_cast, toNat_cast]; omega
    rw [e1, hw, w1]
    refine ⟨by omega, fun g2 => ⟨fun g3 => ?_, fun g3 => ⟨⟨k + 1, at_ + m, hlt, rfl, rfl, e5⟩, hdec⟩⟩, fun g2 => ⟨⟨k + 1, at_ + m, hlt, rfl, rfl, e5⟩, hdec⟩⟩
    have : l ≠ [] := fun e => by rw [e] at g3; simp at g3
    have := e3 this
    omega
  · have := cur_end hc (by omega)
    subst this
    refine ⟨fun _ g3 g4 => ?_, fun g2 => absurd rfl g2⟩
    have : l = [] := List.length_eq_zero_iff.1 (by omega)
    subst this
    exact absurd rfl g4
theorem fitGo_mono {r r' : Int} (h : r ≤ r') : ∀ (l : List Cell) (w : Int), fitGo r l w ≤ fitGo r' l w
  | [], _ => Nat.le_refl _
  | c :: l, w => by
    unfold fitGo
    have := fitGo_mono h l (w + wd c)
    split
    · rw [if_pos (by omega)]; omega
    · exact Nat.zero_le _
theorem zeros_fit {r : Int} : ∀ (l : List Cell) (w : Int), w ≤ r → zeros l ≤ fitGo r l w
  | [], _, _ => Nat.le_refl _
  | c :: l, w, h => by
    unfold zeros fitGo
    split
    · rename_i e
      rw [if_pos (by omega), e, Int.add_zero]
      have := zeros_fit l w h
      omega
    · exact Nat.zero_le _
theorem fit_mono {r r' : Int} (h : r ≤ r') (l : List Cell) : fit l r ≤ fit l r' := by
  have hm := fitGo_mono h l 0
  unfold fit
  by_cases h1 : fitGo r l 0 = 0
  · rw [if_pos h1]
    by_cases h2 : fitGo r' l 0 = 0
    · rw [if_pos h2]; exact Nat.le_refl _
    · rw [if_neg h2]
      cases l with
      | nil => exact absurd rfl h2
      | cons c l =>
        rw [fitGo] at h2 ⊢
        by_cases h3 : 0 + wd c ≤ r'
        · rw [if_pos h3]
          have := zeros_fit l (0 + wd c) h3
          simp only [List.drop_succ_cons, List.drop_zero]
          omega
        · rw [if_neg h3] at h2; exact absurd rfl h2
  · rw [if_neg h1, if_neg (by omega)]
    exact hm
theorem lastB_max {l : List Cell} : ∀ {n k : Nat}, bound l (k : Int) = true → 1 ≤ k → k ≤ n → k ≤ lastB l n
  | 0, k, _, h1, h2 => by omega
  | n + 1, k, hb, h1, h2 => by
    unfold lastB
    by_cases e : k = n + 1
    · subst e; rw [if_pos hb]; exact Nat.le_refl _
    · have := lastB_max (n := n) hb h1 (by omega)
      split <;> omega
theorem lastB_is {l : List Cell} : ∀ {n : Nat}, lastB l n ≠ 0 → bound l (lastB l n : Int) = true
  | 0, h => absurd rfl h
  | n + 1, h => by
    unfold lastB at h ⊢
    by_cases hb : bound l ((n + 1 : Nat) : Int) = true
    · rw [if_pos hb]; exact hb
    · rw [if_neg hb] at h ⊢; exact lastB_is h
theorem takes_mono {r r' : Int} (h : r ≤ r') (l : List Cell) : takes l r ≤ takes l r' := by
  by_cases hl : l = []
  · subst hl; exact Nat.le_refl _
  · have hf := fit_mono h l
    have h1 := fit_le hl r'
    by_cases e : fit l r' = l.length
    · have : takes l r' = l.length := by unfold takes; rw [if_neg hl, if_pos e, e]
      rw [this]; exact takes_le l r
    · rw [takes_some hl (by omega), takes_some hl e]
      have b := lastB_le l (fit l r)
      by_cases z : lastB l (fit l r) = 0
      · rw [if_pos z]
        by_cases z' : lastB l (fit l r') = 0
        · rw [if_pos z']; exact hf
        · rw [if_neg z']
          have hb := lastB_is z'
          rcases Nat.lt_or_ge (fit l r) (lastB l (fit l r')) with g | g
          · omega
          · have := lastB_max (n := fit l r) hb (by omega) g
            omega
      · rw [if_neg z]
        have := lastB_max (n := fit l r') (lastB_is z) (by omega) (by omega)
        rw [if_neg (by omega)]
        exact this
theorem p8 : vc8 := by
  unfold vc8
  simp only [eq_self, true_and, and_true, decide_eq_true_eq, decide_eq_false_iff_not, beq_iff_eq, beq_eq_false_iff_ne, bne_iff_ne, bne_eq_false_iff_eq, Bool.not_eq_true', Bool.not_eq_false', ne_eq, imp_true_iff, implies_true]
  rintro ⟨l, r, m, ⟨⟩⟩
  simp only
  rintro ⟨hl, _, _⟩
  refine ⟨hl, fun h h1 h2 h3 h4 => ?_⟩
  have ok := right_ok h
  have w : IntKind.i64.wrap (r + m) = r + m := by rw [wrap_eq]; omega
  rw [w]
  have := takes_mono (r := r) (r' := r + m) (by omega) l
  refine ⟨ok, ok, fun g => ?_⟩
  omega
/-- What comes behind what fits does not fit. -/
theorem fg_stop {room : Int} {l : List Cell} : ∀ (n k : Nat), fitGo room (l.drop k) (width (l.take k)) = n → k + n < l.length → width (l.take (k + n + 1)) > room
  | 0, k, h, hk => by
    rw [fg_step (by omega)] at h
    rw [Nat.add_zero, width_succ (by omega)]
    split at h
    · omega
    · omega
  | n + 1, k, h, hk => by
    rw [fg_step (by omega)] at h
    split at h
    · rw [← width_succ (by omega)] at h
      have := fg_stop (room := room) (l := l) n (k + 1) (by omega) (by omega)
      rw [show k + (n + 1) + 1 = k + 1 + n + 1 by omega]
      exact this
    · omega
theorem width_mono {l : List Cell} (hl : okL l) : ∀ (n k : Nat), k + n ≤ l.length → width (l.take k) ≤ width (l.take (k + n))
  | 0, _, _ => Int.le_refl _
  | n + 1, k, h => by
    have := width_mono hl n k (by omega)
    have h2 := ok_get hl (show k + n < l.length by omega)
    rw [show k + (n + 1) = k + n + 1 by omega, width_succ (by omega)]
    omega
theorem fit_stop {l : List Cell} (hl : okL l) {room : Int} (h : fit l room < l.length) : width (l.take (fit l room + 1)) > room := by
  unfold fit at h ⊢
  by_cases e : fitGo room l 0 = 0
  · rw [if_pos e] at h ⊢
    have st := fg_step (room := room) (l := l) (k := 0) (by omega) 0
    have e' : fitGo room (l.drop 0) 0 = 0 := e
    rw [e'] at st
    have ws : width (l.take 1) = width (l.take 0) + wd (l.getD 0 zCell) := width_succ (by omega)
    have w0 : width (l.take 0) = 0 := rfl
    have wm := width_mono hl (zeros (l.drop 1) + 1) 1 (by omega)
    rw [show zeros (l.drop 1) + 1 + 1 = 1 + (zeros (l.drop 1) + 1) by omega]
    by_cases g : 0 + wd (l.getD 0 zCell) ≤ room
    · rw [if_pos g] at st; omega
    · omega
  · rw [if_neg e] at h ⊢
    have := fg_stop (room := room) (l := l) (fitGo room l 0) 0 rfl (by omega)
    rwa [Nat.zero_add] at this
theorem p7 : vc7 := by
  unfold vc7
  simp only [eq_self, true_and, and_true, decide_eq_true_eq, decide_eq_false_iff_not, beq_iff_eq, beq_eq_false_iff_ne, bne_iff_ne, bne_eq_false_iff_eq, Bool.not_eq_true', Bool.not_eq_false', ne_eq, imp_true_iff, implies_true]
  rintro ⟨l, room, ⟨⟩⟩
  simp only
  intro hl
  refine ⟨hl, fun h h0 => ?_⟩
  have ok := right_ok h
  have h1 := ok.1
  have hne : l ≠ [] := fun e => h0 (by rw [e]; rfl)
  have t1 := takes_pos hne room
  have t2 := takes_le l room
  refine ⟨ok, fun g => by omega, fun _ => ⟨fun g => by omega, fun _ g => ⟨ok, fun gb => ?_⟩⟩⟩
  have hnf : fit l room ≠ l.length := fun e => by
    have : takes l room = l.length := by unfold takes; rw [if_neg hne, if_pos e, e]
    omega
  have tk := takes_some hne hnf
  have hz : lastB l (fit l room) = 0 := by
    rcases Nat.eq_zero_or_pos (lastB l (fit l room)) with z | z
    · exact z
    · exfalso
      rw [if_neg (by omega)] at tk
      have := lastB_is (l := l) (n := fit l room) (by omega)
      rw [← tk, gb] at this
      cases this
  rw [if_pos hz] at tk
  rw [tk] at *
  have fl := fit_le hne room
  refine ⟨fun z => ∃ k : Nat, 1 ≤ k ∧ k ≤ fit l room ∧ z.1 = (k : Int), fun z => fit l room - z.1.toNat, ⟨1, Nat.le_refl _, fit_pos l room, rfl⟩, ?_⟩
  rintro i ⟨k, k1, k2, hi⟩
  simp only at hi
  subst hi
  have hw : IntKind.i64.wrap ((k : Int) + 1) = ((k + 1 : Nat) : Int) := wrap_succ (by omega)
  rw [hw]
  refine ⟨fun g1 => ⟨ok, fun g2 => ?_, fun g2 => ⟨⟨k + 1, by omega, by omega, rfl⟩, ?_⟩⟩, fun g1 => ?_⟩
  · have := lastB_max (n := fit l room) g2 k1 k2
    omega
  · show fit l room - (((k + 1 : Nat) : Int)).toNat < fit l room - (k : Int).toNat
    rw [toNat_cast, toNat_cast]; omega
  · have hw2 : IntKind.i64.wrap ((fit l room : Int) + 1) = ((fit l room + 1 : Nat) : Int) := wrap_succ (by omega)
    have hs := fit_stop ok (room := room) (by omega)
    rw [hw2, toNat_cast]
    refine ⟨by omega, okL_take ok _, fun g2 => absurd hs g2⟩
end Go.Fr.C19
