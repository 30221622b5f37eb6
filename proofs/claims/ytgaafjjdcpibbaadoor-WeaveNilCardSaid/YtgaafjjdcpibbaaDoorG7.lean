/-
  Texts on which the proofs of the seat's statements stand: a symbolic walk, its soundness, the functions' conditions and their proofs (7). Conditions: none.
-/
import Derived.Test.YtgaafjjdcpibbaaDoorG6
namespace Go.Fr.C14
open Go Go.Fr Go.Proofs
abbrev zI0 : Inl := (0, 0, 0, 0, ByteArray.empty, ())
theorem d57 : Ty.dflt t57 = zI0 := rfl
theorem d44 : Ty.dflt t44 = ((0, 0, ()) : Spt) := rfl
theorem d103 : Ty.dflt t103 = ((0, 0, ()) : Pce) := rfl
theorem d139 : Ty.dflt t139 = ((0, 0, ()) : Pce) := rfl
theorem p7 : vc7 := by
  unfold vc7
  simp only [eq_self, true_and, and_true, decide_eq_true_eq, decide_eq_false_iff_not, beq_iff_eq, beq_eq_false_iff_ne, bne_iff_ne, bne_eq_false_iff_eq, Bool.not_eq_true', Bool.not_eq_false', ne_eq, imp_true_iff, implies_true]
  rintro ⟨n, l, ⟨⟩⟩
  simp only [maxLen_eq, d57]
  intro hl
  have yes : (n < 0 ∨ n > 300 ∨ (l.length : Int) > 60 ∨ ∃ x ∈ l, ((txt x).size : Int) > 200) → true = longW n l := fun h => by
    unfold longW
    rcases h with h | h | h | ⟨x, h1, h2⟩
    · simp [h]
    · simp [h]
    · simp [h]
    · rw [List.any_eq_true.2 ⟨x, h1, decide_eq_true h2⟩, Bool.or_true]
  refine ⟨fun h => yes (.inl h), fun g0 => ⟨fun h => yes (.inr (.inl h)), fun g1 => ⟨fun h => yes (.inr (.inr (.inl h))), fun g2 => ?_⟩⟩⟩
  refine ⟨fun z => ∃ k : Nat, k ≤ l.length ∧ z.1 = (k : Int) ∧ ∀ j, j < k → ¬ (((txt (l.getD j zI0)).size : Int) > 200), fun z => l.length - z.1.toNat, ⟨0, Nat.zero_le _, rfl, fun j hj => by omega⟩, ?_⟩
  rintro i ⟨k, hk, hi, hno⟩
  simp only at hi
  subst hi
  refine ⟨fun h1 => ⟨⟨by omega, h1⟩, fun h2 => ?_, fun h2 => ?_⟩, fun h1 => ?_⟩
  · rw [toNat_cast] at h2
    have hlt : k < l.length := by omega
    exact yes (.inr (.inr (.inr ⟨_, getD_in zI0 hlt, h2⟩)))
  · rw [toNat_cast] at h2
    have hw : IntKind.i64.wrap ((k : Int) + 1) = ((k + 1 : Nat) : Int) := wrap_succ (by omega)
    rw [hw]
    refine ⟨⟨k + 1, by omega, rfl, fun j hj => ?_⟩, by simp only [toNat_cast]; omega⟩
    by_cases e : j = k
    · subst e; exact h2
    · exact hno j (by omega)
  · have hke : k = l.length := by omega
    subst hke
    unfold longW
    rw [decide_eq_false g0, decide_eq_false g1, decide_eq_false g2, Bool.false_or, Bool.false_or, Bool.false_or]
    symm
    rw [List.any_eq_false]
    intro x hx
    obtain ⟨j, hj, e⟩ := List.getElem_of_mem hx
    have := hno j hj
    rw [getD_of zI0 hj, e] at this
    simpa using this
theorem rowF_len (t : Int) : (f : Int) → (l : List Inl) → (rowF t f l).length ≤ 2 * l.length + 1
  | f, [] => by
    unfold rowF
    split <;> simp
  | f, x :: r => by
    unfold rowF
    split
    · have := rowF_len t x.2.1 r
      simp; omega
    · have := rowF_len t f r
      simp; omega
theorem p11 : vc11 := by
  unfold vc11
  try simp only [eq_self, true_and, and_true, decide_eq_true_eq, decide_eq_false_iff_not, beq_iff_eq, beq_eq_false_iff_ne, bne_iff_ne, bne_eq_false_iff_eq, Bool.not_eq_true', Bool.not_eq_false', ne_eq, imp_true_iff, implies_true]
  rintro ⟨s, ⟨⟩⟩
  simp only []
  rintro ⟨h1, h2⟩
  have := rowF_len (lenI s) 0 (allI s)
  have h3 : (rowF (lenI s) 0 (allI s)).length ≤ 100000 := by omega
  exact ⟨h1, ⟨h1, h2⟩, h3, rfl⟩
theorem p12 : vc12 := by
  unfold vc12
  simp only [eq_self, true_and, and_true, decide_eq_true_eq, decide_eq_false_iff_not, beq_iff_eq, beq_eq_false_iff_ne, bne_iff_ne, bne_eq_false_iff_eq, Bool.not_eq_true', Bool.not_eq_false', ne_eq, imp_true_iff, implies_true]
  rintro ⟨w, a, b, ⟨⟩⟩ hw
  have y : ¬ (findT (treeOf w) 0 a b).2.1 = 0 → (0, (findT (treeOf w) 0 a b).2) = outW w a b := fun h => by
    unfold outW
    rw [if_pos h]
  have n : (findT (treeOf w) 0 a b).2.1 = 0 → (w64 (w64 ((findT (treeOf w) 0 a b).1.2.1.2.1.2.1 + a) - (findT (treeOf w) 0 a b).1.2.1.2.1.1), 0, ()) = outW w a b := fun h => by
    unfold outW
    rw [if_neg (fun hh => hh h)]
  (repeat' (first | apply And.intro | intro _))
  all_goals first
    | exact hw
    | exact y (by assumption)
    | exact n (by assumption)
    | decide
    | omega
theorem p14 : vc14 := by
  unfold vc14
  simp only [eq_self, true_and, and_true, decide_eq_true_eq, decide_eq_false_iff_not, beq_iff_eq, beq_eq_false_iff_ne, bne_iff_ne, bne_eq_false_iff_eq, Bool.not_eq_true', Bool.not_eq_false', ne_eq, imp_true_iff, implies_true]
  rintro ⟨w, a, ⟨⟩⟩
  simp only []
  intro hw
  have c0 : ¬ (findT (treeOf w) 1 a 1).2.1 = 0 → (0, 0, (findT (treeOf w) 1 a 1).2) = inW w a := fun h => by
    unfold inW
    rw [if_pos h]
  have c1 : (findT (treeOf w) 1 a 1).2.1 = 0 → (atT (treeOf w) (findT (treeOf w) 1 a 1).1.1).1.2.1 = 0 → (w64 ((findT (treeOf w) 1 a 1).1.2.1.2.1.1 + w64 (a - (findT (treeOf w) 1 a 1).1.2.1.2.1.2.1)), 0, 0, ()) = inW w a := fun h g => by
    unfold inW
    rw [if_neg (fun hh => hh h), if_pos g]
  have c2 : (findT (treeOf w) 1 a 1).2.1 = 0 → ¬ (atT (treeOf w) (findT (treeOf w) 1 a 1).1.1).1.2.1 = 0 → w64 (a - (findT (treeOf w) 1 a 1).1.2.1.2.1.2.1) = 0 → ((findT (treeOf w) 1 a 1).1.2.1.2.1.1, 0, 0, ()) = inW w a := fun h g i => by
    unfold inW
    rw [if_neg (fun hh => hh h), if_neg g, if_pos i]
  have c3 : (findT (treeOf w) 1 a 1).2.1 = 0 → ¬ (atT (treeOf w) (findT (treeOf w) 1 a 1).1.1).1.2.1 = 0 → ¬ w64 (a - (findT (treeOf w) 1 a 1).1.2.1.2.1.2.1) = 0 → ((findT (treeOf w) 1 a 1).1.2.1.2.1.1, (atT (treeOf w) (findT (treeOf w) 1 a 1).1.1).1.2.1, 0, ()) = inW w a := fun h g i => by
    unfold inW
    rw [if_neg (fun hh => hh h), if_neg g, if_neg i]
  have hw1 := hw.1
  generalize okTre (treeOf w) = Q at hw ⊢
  (repeat' (first | apply And.intro | intro _))
  all_goals first
    | exact hw
    | exact hw1
    | exact c0 (by assumption)
    | exact c1 (by assumption) (by assumption)
    | exact c2 (by assumption) (by assumption) (by assumption)
    | exact c3 (by assumption) (by assumption) (by assumption)
    | decide
    | omega
theorem p13 : vc13 := by
  unfold vc13
  simp only [eq_self, true_and, and_true, decide_eq_true_eq, decide_eq_false_iff_not, beq_iff_eq, beq_eq_false_iff_ne, bne_iff_ne, bne_eq_false_iff_eq, Bool.not_eq_true', Bool.not_eq_false', ne_eq, imp_true_iff, implies_true]
  rintro ⟨⟨n, l, e, ⟨⟩⟩, a, b, ⟨⟩⟩
  simp only [maxLen_eq, d57]
  rintro ⟨h1, h2, h3⟩
  simp only at h1 h2
  have e : ∀ m, m = refOut (n, l, e, ()) a b ↔ m = l.foldl (fun n x => if x.2.1 < a ∨ (x.2.1 = a ∧ b = 1) then w64 (n + lenT x) else n) a := fun m => Iff.rfl
  simp only [e]
  generalize hf : (fun (n : Int) (x : Inl) => if x.2.1 < a ∨ (x.2.1 = a ∧ b = 1) then w64 (n + lenT x) else n) = f
  refine ⟨fun z => ∃ k : Nat, k ≤ l.length ∧ z.2.1 = (k : Int) ∧ z.1 = (l.take k).foldl f a, fun z => l.length - z.2.1.toNat, ⟨0, Nat.zero_le _, rfl, rfl⟩, ?_⟩
  rintro m i ⟨k, hk, hi, hm⟩
  simp only at hi hm
  subst hi
  refine ⟨fun g1 => ?_, fun g1 => ?_⟩
  · have hlt : k < l.length := by omega
    have hw : IntKind.i64.wrap ((k : Int) + 1) = ((k + 1 : Nat) : Int) := wrap_succ (by omega)
    rw [toNat_cast, hw]
    simp only [toNat_cast]
    have hx := h2 _ (getD_in zI0 hlt)
    generalize hx' : l.getD k zI0 = x at hx ⊢
    have ht : (l.take (k + 1)).foldl f a = f m x := by
      rw [take_one zI0 hlt, List.foldl_append, ← hm, hx']
      rfl
    have hs : ByteArray.size x.2.2.2.2.1 ≤ 1000000000 := Nat.le_trans hx (by decide)
    have dec : l.length - (k + 1) < l.length - k := by omega
    have y : (x.2.1 < a ∨ (x.2.1 = a ∧ b = 1)) → (∃ k' : Nat, k' ≤ l.length ∧ ((k + 1 : Nat) : Int) = (k' : Int) ∧ IntKind.i64.wrap (m + ((decodeL x.2.2.2.2.1).length : Int)) = (l.take k').foldl f a) := fun h => ⟨k + 1, hlt, rfl, by
      rw [ht, ← hf]
      show _ = if _ then _ else _
      rw [if_pos h]
      rfl⟩
    have n : ¬ (x.2.1 < a ∨ (x.2.1 = a ∧ b = 1)) → (∃ k' : Nat, k' ≤ l.length ∧ ((k + 1 : Nat) : Int) = (k' : Int) ∧ m = (l.take k').foldl f a) := fun h => ⟨k + 1, hlt, rfl, by
      rw [ht, ← hf]
      show _ = if _ then _ else _
      rw [if_neg h]⟩
    (repeat' (first | apply And.intro | intro _))
    all_goals first
      | omega
      | exact hs
      | exact y (.inl (by assumption))
      | exact y (.inr ⟨by assumption, by assumption⟩)
      | exact n (by omega)
      | exact dec
  · have hke : k = l.length := by omega
    rw [hm, hke, List.take_length]
theorem p17 : vc17 := by
  unfold vc17
  try simp only [eq_self, true_and, and_true, decide_eq_true_eq, decide_eq_false_iff_not, beq_iff_eq, beq_eq_false_iff_ne, bne_iff_ne, bne_eq_false_iff_eq, Bool.not_eq_true', Bool.not_eq_false', ne_eq, imp_true_iff, implies_true]
  intro x
  (repeat' (first | apply And.intro | intro _))
  all_goals first
    | decide
    | rfl
    | trivial
theorem p21 : vc21 := by
  unfold vc21
  intro x _
  exact ⟨trivial, trivial, rfl⟩
theorem p34 : vc34 := by
  unfold vc34
  rintro ⟨s, ⟨⟩⟩ -
  cases s with
  | none => exact ⟨fun _ => rfl, fun h => by cases h⟩
  | some s => exact ⟨fun h => (by cases h), fun _ => ⟨rfl, rfl⟩⟩
theorem p42 : vc42 := by
  unfold vc42
  simp only [eq_self, true_and, and_true, decide_eq_true_eq, decide_eq_false_iff_not, beq_iff_eq, beq_eq_false_iff_ne, bne_iff_ne, bne_eq_false_iff_eq, Bool.not_eq_true', Bool.not_eq_false', ne_eq, imp_true_iff, implies_true]
  rintro ⟨s, n, ⟨⟩⟩ -
  unfold fitsW
  simp only [eq_comm (b := (_ && _ && _))]
  (repeat' (first | apply And.intro | intro _))
  all_goals simp_all
  all_goals omega
theorem p61 : vc61 := by
  unfold vc61
  intro x _
  rfl
theorem p62 : vc62 := by
  unfold vc62
  rintro ⟨x, ⟨⟩⟩ h
  exact ⟨h, rfl⟩
theorem spotsX_len {k : Int} {l : List Inl} (h : ∀ x ∈ l, (txt x).size ≤ 1000) : (spotsX k l).length ≤ 1000 * l.length := by
  induction l with
  | nil => exact Nat.zero_le _
  | cons x r ih =>
    have := ih fun y hy => h y (List.mem_cons_of_mem _ hy)
    have h1 := h x (List.mem_cons_self ..)
    have h2 := decL_len (txt x)
    have h3 : (lenT x).toNat = (decodeL (txt x)).length := rfl
    rw [spotsX_cons, List.length_append, List.length_cons]
    split
    · rw [List.length_replicate]; omega
    · show 0 + _ ≤ _; omega
theorem spF_len {n : Int} {l : List Inl} (h : ∀ x ∈ l, (txt x).size ≤ 1000) (hl : l.length ≤ 60) : (m : Nat) → (f : Int) → (spF n l f m).length ≤ 60001 * m
  | 0, _ => Nat.zero_le _
  | m + 1, f => by
    have h1 := spotsX_len (k := f) h
    have ih := spF_len (n := n) h hl m (f + 1)
    show (spotsX f l ++ _ ++ _).length ≤ _
    rw [List.length_append, List.length_append]
    split
    · rw [List.length_singleton]; omega
    · rw [List.length_nil]; omega
theorem spots_bd {w : WSet} (h1 : w.2.1.length ≤ 60) (h2 : ∀ x ∈ w.2.1, (txt x).size ≤ 1000) (h3 : w.1 ≤ 1000) : (spots w).length ≤ 100000000 := by
  rw [spots_F]
  have := spF_len (n := w.1) h2 h1 (w.1 + 1).toNat 0
  omega
theorem p16 : vc16 := by
  unfold vc16
  simp only [eq_self, true_and, and_true, decide_eq_true_eq, decide_eq_false_iff_not, beq_iff_eq, beq_eq_false_iff_ne, bne_iff_ne, bne_eq_false_iff_eq, Bool.not_eq_true', Bool.not_eq_false', ne_eq, imp_true_iff, implies_true]
  rintro ⟨w, a, ⟨⟩⟩
  simp only [maxLen_eq, d44]
  rintro ⟨hw, h0, h1⟩
  have el : ∀ r, r = refIn w a ↔ r = (if a = ((spots w).length : Int) then (w.1, 0, ()) else if ((spots w).getD a.toNat (0, 0, ())).2.1 = 0 ∨ a = 0 ∨ ((spots w).getD (a - 1).toNat (0, 0, ())).2.1 ≠ ((spots w).getD a.toNat (0, 0, ())).2.1 then (((spots w).getD a.toNat (0, 0, ())).1, 0, ()) else (spots w).getD a.toNat (0, 0, ())) := fun r => Iff.rfl
  simp only [el]
  refine ⟨hw, fun h => by rw [if_pos h], fun h => ?_⟩
  rw [if_neg h]
  have hb : (0 : Int) ≤ a ∧ a < ((spots w).length : Int) := by omega
  refine ⟨hb, fun h2 => ⟨hb, by rw [if_pos (.inl h2)]⟩, fun h2 => ⟨fun h3 => ⟨hb, by rw [if_pos (.inr (.inl h3))]⟩, fun h3 => ?_⟩⟩
  have hl : (spots w).length ≤ 9000000000000000000 := by
    obtain ⟨q1, q2, q3, q4⟩ := hw
    have := spots_bd (w := w) q1 q2 q4
    omega
  have hwr : IntKind.i64.wrap (a - 1) = a - 1 := wrap_id (by omega) (by omega)
  rw [hwr]
  refine ⟨by omega, hb, fun h4 => ⟨hb, by rw [if_pos (.inr (.inr h4))]⟩, fun h4 => ⟨hb, by rw [if_neg (fun hh => hh.elim h2 fun hh => hh.elim h3 fun hh => hh h4)]⟩⟩
end Go.Fr.C14
