/-
  Texts on which the proofs of the seat's statements stand: a symbolic walk, its soundness, the functions' conditions and their proofs (8). Conditions: none.
-/
import Derived.Test.YtgaafjjdcpibbaaDoorG7
namespace Go.Fr.C14
open Go Go.Fr Go.Proofs
theorem beq_t139 (a b : Pce) : Ty.beq t139 a b = true ↔ a = b := by
  obtain ⟨a1, a2, ⟨⟩⟩ := a
  obtain ⟨b1, b2, ⟨⟩⟩ := b
  show ((a1 == b1) && ((a2 == b2) && true)) = true ↔ _
  simp
theorem beq_self_t139 (a : Pce) : Ty.beq t139 a a = true := (beq_t139 a a).2 rfl
theorem p38 : vc38 := by
  unfold vc38
  simp only [eq_self, true_and, and_true, decide_eq_true_eq, decide_eq_false_iff_not, beq_iff_eq, beq_eq_false_iff_ne, bne_iff_ne, bne_eq_false_iff_eq, Bool.not_eq_true', Bool.not_eq_false', ne_eq, imp_true_iff, implies_true]
  rintro ⟨a, b, ⟨⟩⟩
  simp only [maxLen_eq, d139]
  rintro ⟨h1, h2⟩
  have no : a ≠ b → false = sameP a b := fun h => by unfold sameP; rw [decide_eq_false h]
  have yes : a = b → true = sameP a b := fun h => by unfold sameP; rw [decide_eq_true h]
  refine ⟨fun z => ∃ k : Nat, k ≤ a.length ∧ k ≤ b.length ∧ z.1 = (k : Int) ∧ a.take k = b.take k, fun z => a.length - z.1.toNat, ⟨0, Nat.zero_le _, Nat.zero_le _, rfl, rfl⟩, ?_⟩
  rintro i ⟨k, hk, hk2, hi, ht⟩
  simp only at hi
  subst hi
  rw [toNat_cast]
  refine ⟨fun g1 => ⟨fun g2 => no fun e => ?_, fun g2 => ⟨by omega, by omega, fun g3 => no fun e => ?_, fun g3 => ?_⟩⟩, fun g1 => ?_⟩
  · rw [e] at g1; omega
  · rw [e, beq_self_t139] at g3
    cases g3
  · have hw : IntKind.i64.wrap ((k : Int) + 1) = ((k + 1 : Nat) : Int) := wrap_succ (by omega)
    rw [hw]
    refine ⟨⟨k + 1, by omega, by omega, rfl, ?_⟩, by simp only [toNat_cast]; omega⟩
    have e : a.getD k ((0, 0, ()) : Pce) = b.getD k (0, 0, ()) := (beq_t139 _ _).1 (by simpa using g3)
    rw [take_one ((0, 0, ()) : Pce) (show k < a.length by omega), take_one ((0, 0, ()) : Pce) (show k < b.length by omega), ht, e]
  · have hke : k = a.length := by omega
    by_cases hl : (a.length : Int) = (b.length : Int)
    · rw [show ((a.length : Int) == (b.length : Int)) = true by simpa using hl]
      apply yes
      rw [hke, List.take_length, show a.length = b.length by omega, List.take_length] at ht
      exact ht
    · rw [show ((a.length : Int) == (b.length : Int)) = false by simpa using hl]
      exact no fun e => hl (by rw [e])
theorem p39 : vc39 := by
  unfold vc39
  simp only [eq_self, true_and, and_true, decide_eq_true_eq, decide_eq_false_iff_not, beq_iff_eq, beq_eq_false_iff_ne, bne_iff_ne, bne_eq_false_iff_eq, Bool.not_eq_true', Bool.not_eq_false', ne_eq, imp_true_iff, implies_true]
  rintro ⟨l, ⟨⟩⟩
  simp only [maxLen_eq, d103]
  intro hl
  refine ⟨fun z => ∃ k : Nat, k ≤ l.length ∧ z.2.1 = (k : Int) ∧ z.1 = l.take k, fun z => l.length - z.2.1.toNat, ⟨0, Nat.zero_le _, rfl, rfl⟩, ?_⟩
  rintro r i ⟨k, hk, hi, hr⟩
  simp only at hi hr
  subst hi
  have hrl : r.length = k := by rw [hr, List.length_take]; omega
  refine ⟨fun h => ?_, fun h => by rw [hr, show k = l.length by omega, List.take_length]⟩
  have hlt : k < l.length := by omega
  have hw : IntKind.i64.wrap ((k : Int) + 1) = ((k + 1 : Nat) : Int) := wrap_succ (by omega)
  rw [toNat_cast, hw]
  simp only [toNat_cast, List.length_singleton]
  have Zf : ∃ k' : Nat, k' ≤ l.length ∧ ((k + 1 : Nat) : Int) = (k' : Int) ∧ r ++ [l.getD k (0, 0, ())] = l.take k' := ⟨k + 1, hlt, rfl, by rw [hr, take_one _ hlt]⟩
  have dec : l.length - (k + 1) < l.length - k := by omega
  (repeat' (first | apply And.intro | intro _))
  all_goals first
    | omega
    | exact Zf
    | exact dec
    | rfl
theorem p20 : vc20 := by
  unfold vc20
  simp only [eq_self, true_and, and_true, decide_eq_true_eq, decide_eq_false_iff_not, beq_iff_eq, beq_eq_false_iff_ne, bne_iff_ne, bne_eq_false_iff_eq, Bool.not_eq_true', Bool.not_eq_false', ne_eq, imp_true_iff, implies_true]
  rintro ⟨w, ⟨⟩⟩
  simp only [maxLen_eq, d89]
  rintro ⟨h1, h2⟩
  have h3 : (items (topT (treeOf w))).length ≤ 100000 := by omega
  have el : ∀ r, r = piecesI (treeOf w) ↔ r = (items (topT (treeOf w))).map fun i => ((i.2.1, i.2.2.1.2.1, ()) : Pce) := fun r => Iff.rfl
  simp only [el]
  refine ⟨⟨h1, h3⟩, ?_⟩
  generalize items (topT (treeOf w)) = l at h2 ⊢
  refine ⟨fun z => ∃ k : Nat, k ≤ l.length ∧ z.2.1 = (k : Int) ∧ z.1 = (l.take k).map fun i => ((i.2.1, i.2.2.1.2.1, ()) : Pce), fun z => l.length - z.2.1.toNat, ⟨0, Nat.zero_le _, rfl, rfl⟩, ?_⟩
  rintro r i ⟨k, hk, hi, hr⟩
  simp only at hi hr
  subst hi
  have hrl : r.length = k := by rw [hr, List.length_map, List.length_take]; omega
  refine ⟨fun h => ?_, fun h => by rw [hr, show k = l.length by omega, List.take_length]⟩
  have hlt : k < l.length := by omega
  have hw : IntKind.i64.wrap ((k : Int) + 1) = ((k + 1 : Nat) : Int) := wrap_succ (by omega)
  rw [toNat_cast, hw]
  simp only [toNat_cast, List.length_singleton]
  have Zf : ∃ k' : Nat, k' ≤ l.length ∧ ((k + 1 : Nat) : Int) = (k' : Int) ∧ r ++ [((l.getD k zItm).2.1, (l.getD k zItm).2.2.1.2.1, ())] = (l.take k').map fun i => ((i.2.1, i.2.2.1.2.1, ()) : Pce) := ⟨k + 1, hlt, rfl, by rw [hr, take_one zItm hlt, List.map_append]; rfl⟩
  have dec : l.length - (k + 1) < l.length - k := by omega
  (repeat' (first | apply And.intro | intro _))
  all_goals first
    | omega
    | exact Zf
    | exact dec
    | rfl
def RowAt (t f0 : Int) (l : List Inl) (z : Int × List Itm × Int × Unit) : Prop := ∃ k : Nat, k ≤ l.length ∧ z.2.2.1 = (k : Int) ∧ rowF t f0 l = z.2.1 ++ rowF t z.1 (l.drop k) ∧ z.2.1.length ≤ 2 * k
theorem p31 : vc31 := by
  unfold vc31
  simp only [eq_self, true_and, and_true, decide_eq_true_eq, decide_eq_false_iff_not, beq_iff_eq, beq_eq_false_iff_ne, bne_iff_ne, bne_eq_false_iff_eq, Bool.not_eq_true', Bool.not_eq_false', ne_eq, imp_true_iff, implies_true]
  rintro ⟨f0, t, l, ⟨⟩⟩
  simp only [maxLen_eq, d57]
  rintro ⟨hl, hs⟩
  refine ⟨RowAt t f0 l, fun z => l.length - z.2.2.1.toNat, ⟨0, Nat.zero_le _, rfl, rfl, Nat.le_refl _⟩, ?_⟩
  rintro f out i ⟨k, hk, hi, hr, hlen⟩
  simp only at hi hr hlen
  subst hi
  refine ⟨fun h => ?_, fun h => ?_⟩
  · have hlt : k < l.length := by omega
    have hw : IntKind.i64.wrap ((k : Int) + 1) = ((k + 1 : Nat) : Int) := wrap_succ (by omega)
    rw [toNat_cast, hw]
    simp only [toNat_cast, List.length_singleton, List.length_append]
    rw [drop_cons zI0 hlt] at hr
    have hx := hs _ (getD_in zI0 hlt)
    generalize l.getD k zI0 = x at hr hx ⊢
    have e : rowF t f (x :: l.drop (k + 1)) = if x.2.1 > f then plainI (w64 (x.2.1 - f)) :: virtualI x :: rowF t x.2.1 (l.drop (k + 1)) else virtualI x :: rowF t f (l.drop (k + 1)) := rfl
    rw [e] at hr
    have hsz : (txt x).size ≤ 9223372036854775807 := by omega
    have y : x.2.1 > f → RowAt t f0 l (x.2.1, out ++ [plainI (IntKind.i64.wrap (x.2.1 - f))] ++ [virtualI x], ((k + 1 : Nat) : Int), ()) := fun g => ⟨k + 1, hlt, rfl, by
      rw [if_pos g] at hr
      rw [hr, List.append_assoc, List.append_assoc]
      rfl, by simp; omega⟩
    have n : ¬ x.2.1 > f → RowAt t f0 l (f, out ++ [virtualI x], ((k + 1 : Nat) : Int), ()) := fun g => ⟨k + 1, hlt, rfl, by
      rw [if_neg g] at hr
      rw [hr, List.append_assoc]
      rfl, by simp; omega⟩
    have dec : l.length - (k + 1) < l.length - k := by omega
    (repeat' (first | apply And.intro | intro _))
    all_goals first
      | omega
      | exact hsz
      | exact y (by assumption)
      | exact n (by assumption)
      | exact dec
      | rfl
  · have hke : k = l.length := by omega
    have e : rowF t f [] = if t > f then [plainI (w64 (t - f))] else [] := rfl
    rw [hke, List.drop_length, e] at hr
    simp only [List.length_singleton]
    have y : t > f → out ++ [plainI (IntKind.i64.wrap (t - f))] = rowF t f0 l := fun g => by
      rw [if_pos g] at hr
      exact hr.symm
    have n : ¬ t > f → out = rowF t f0 l := fun g => by
      rw [if_neg g, List.append_nil] at hr
      exact hr.symm
    (repeat' (first | apply And.intro | intro _))
    all_goals first
      | omega
      | exact y (by assumption)
      | exact n (by assumption)
theorem step_len (a : List Pce) (x : Spt) : (pceStep a x).length ≤ a.length + 1 ∧ pceStep a x ≠ [] := by
  unfold pceStep
  split
  · rename_i h
    refine ⟨by rw [List.length_set]; omega, fun e => h.1 ?_⟩
    have := congrArg List.length e
    rw [List.length_set] at this
    exact List.eq_nil_of_length_eq_zero this
  · exact ⟨by simp, by simp⟩
theorem p40 : vc40 := by
  unfold vc40
  simp only [eq_self, true_and, and_true, decide_eq_true_eq, decide_eq_false_iff_not, beq_iff_eq, beq_eq_false_iff_ne, bne_iff_ne, bne_eq_false_iff_eq, Bool.not_eq_true', Bool.not_eq_false', ne_eq, imp_true_iff, implies_true]
  rintro ⟨w, ⟨⟩⟩
  simp only [maxLen_eq, d139, d44]
  intro hw
  have hb := spots_bd hw.1 hw.2.1 hw.2.2.2
  have el : ∀ r, r = refPieces w ↔ r = (spots w).foldl pceStep [] := fun r => Iff.rfl
  simp only [el]
  refine ⟨hw, ?_⟩
  generalize spots w = l at hb ⊢
  refine ⟨fun z => ∃ k : Nat, k ≤ l.length ∧ z.2.1 = (k : Int) ∧ z.1 = (l.take k).foldl pceStep [] ∧ z.1.length ≤ k ∧ (k ≠ 0 → z.1 ≠ []), fun z => l.length - z.2.1.toNat, ⟨0, Nat.zero_le _, rfl, rfl, Nat.le_refl _, fun h => absurd rfl h⟩, ?_⟩
  rintro a i ⟨k, hk, hi, ha, hal, hne⟩
  simp only at hi ha hal hne
  subst hi
  refine ⟨fun h => ?_, fun h => by rw [ha, show k = l.length by omega, List.take_length]⟩
  have hlt : k < l.length := by omega
  have hw : IntKind.i64.wrap ((k : Int) + 1) = ((k + 1 : Nat) : Int) := wrap_succ (by omega)
  rw [toNat_cast, hw]
  simp only [toNat_cast, List.length_singleton]
  have ht : (l.take (k + 1)).foldl pceStep [] = pceStep a (l.getD k (0, 0, ())) := by
    rw [take_one (0, 0, ()) hlt, List.foldl_append, ← ha]
    rfl
  obtain ⟨sl, sn⟩ := step_len a (l.getD k (0, 0, ()))
  have Zf : ∀ b, b = pceStep a (l.getD k (0, 0, ())) → ∃ k' : Nat, k' ≤ l.length ∧ ((k + 1 : Nat) : Int) = (k' : Int) ∧ b = (l.take k').foldl pceStep [] ∧ b.length ≤ k' ∧ (k' ≠ 0 → b ≠ []) := fun b hb => ⟨k + 1, hlt, rfl, by rw [ht, hb], by rw [hb]; omega, fun _ => by rw [hb]; exact sn⟩
  have dec : l.length - (k + 1) < l.length - k := by omega
  have new_ : ¬ (a ≠ [] ∧ (a.getD (a.length - 1) (0, 0, ())).1 = (l.getD k (0, 0, ())).2.1) → a ++ [((l.getD k (0, 0, ())).2.1, 1, ())] = pceStep a (l.getD k (0, 0, ())) := fun h => by unfold pceStep; rw [if_neg h]
  have old_ : a ≠ [] → (a.getD (a.length - 1) (0, 0, ())).1 = (l.getD k (0, 0, ())).2.1 → a.set (a.length - 1) ((a.getD (a.length - 1) (0, 0, ())).1, IntKind.i64.wrap ((a.getD (a.length - 1) (0, 0, ())).2.1 + 1), ()) = pceStep a (l.getD k (0, 0, ())) := fun h g => by unfold pceStep; rw [if_pos ⟨h, g⟩]; rfl
  refine ⟨⟨by omega, h⟩, fun g1 => ?_, fun g1 => ?_⟩
  · have hne := hne (by omega)
    have hpos : 0 < a.length := List.length_pos_iff.2 hne
    have hl1 : IntKind.i64.wrap ((a.length : Int) - 1) = ((a.length - 1 : Nat) : Int) := by rw [wrap_id (by omega) (by omega)]; omega
    rw [hl1, toNat_cast]
    (repeat' (first | apply And.intro | intro _))
    all_goals first
      | omega
      | exact Zf _ (old_ hne (by assumption))
      | exact Zf _ (new_ (fun hh => absurd hh.2 (by assumption)))
      | exact dec
      | rfl
  · have h0 : a = [] := List.eq_nil_of_length_eq_zero (by omega)
    (repeat' (first | apply And.intro | intro _))
    all_goals first
      | omega
      | exact Zf _ (new_ (fun hh => hh.1 h0))
      | exact dec
      | rfl
theorem p41 : vc41 := by
  unfold vc41
  simp only [eq_self, true_and, and_true, decide_eq_true_eq, decide_eq_false_iff_not, beq_iff_eq, beq_eq_false_iff_ne, bne_iff_ne, bne_eq_false_iff_eq, Bool.not_eq_true', Bool.not_eq_false', ne_eq, imp_true_iff, implies_true]
  rintro ⟨h, n, ⟨⟩⟩
  simp only [maxLen_eq]
  rintro ⟨h1, h2, h3⟩
  have hn : IntKind.i64.wrap (n + 1) = n + 1 := wrap_id (by omega) (by omega)
  rw [hn]
  refine ⟨fun z => ∃ k : Nat, z.2.1 = ((k + 2 : Nat) : Int) ∧ (k + 2 ≤ h ∨ k = 0) ∧ z.1 = (4 : Int) ^ k ∧ (k = 0 ∨ z.1 ≤ n + 1) ∧ ∀ j, j < k → (4 : Int) ^ (j + 1) ≤ n + 1, fun z => (h - z.2.1).toNat, ⟨0, rfl, .inr rfl, rfl, .inl rfl, fun j hj => by omega⟩, ?_⟩
  rintro a i ⟨k, hi, hkh, ha, hle, hall⟩
  simp only at hi ha hle
  subst hi
  have hab : 0 ≤ a ∧ a ≤ 1000001 := by
    constructor
    · rw [ha]; exact Int.pow_nonneg (by decide)
    · rcases hle with e | e
      · rw [ha, e]; decide
      · omega
  have h4 : IntKind.i64.wrap (4 * a) = 4 * a := wrap_id (by omega) (by omega)
  have hp : 4 * a = (4 : Int) ^ (k + 1) := by rw [ha, Int.pow_succ]; omega
  have hw : IntKind.i64.wrap (((k + 2 : Nat) : Int) + 1) = ((k + 1 + 2 : Nat) : Int) := by rw [wrap_id (by omega) (by omega)]; omega
  rw [h4, hw]
  refine ⟨fun g1 => ⟨fun g2 => ?_, fun g2 => ⟨⟨k + 1, rfl, .inl (by omega), hp, .inr (by show 4 * a ≤ _; omega), fun j hj => ?_⟩, by simp only []; omega⟩⟩, fun g1 => ?_⟩
  · unfold highB
    have : ((List.range (h - 2).toNat).all fun j => decide ((4 : Int) ^ (j + 1) ≤ n + 1)) = false := by
      rw [List.all_eq_false]
      exact ⟨k, List.mem_range.2 (by omega), by rw [← hp]; simp; omega⟩
    rw [this]
    rfl
  · by_cases e : j = k
    · rw [e, ← hp]; omega
    · exact hall j (by omega)
  · have ha2 : ((List.range (h - 2).toNat).all fun j => decide ((4 : Int) ^ (j + 1) ≤ n + 1)) = true := by
      rw [List.all_eq_true]
      intro j hj
      have := List.mem_range.1 hj
      exact decide_eq_true (hall j (by omega))
    unfold highB
    rw [ha2]
    have e1 : (h == (0 : Int)) = decide (h = 0) := by
      rw [Bool.eq_iff_iff]; simp
    have e2 : (n == (0 : Int)) = decide (n = 0) := by
      rw [Bool.eq_iff_iff]; simp
    rw [e1, e2]
    simp only [Ty.beq]
    refine ⟨fun g2 => ?_, fun g2 => ?_⟩
    · rw [g2]
      simp
    · rw [g2]
      simp
theorem range_snoc (w : WSet) (k : Nat) : (List.range (k + 1)).flatMap (fun k : Nat => spotsAt w (k : Int)) = (List.range k).flatMap (fun k : Nat => spotsAt w (k : Int)) ++ spotsAt w (k : Int) := by
  rw [List.range_succ, List.flatMap_append]
  simp
theorem range_len {w : WSet} (h1 : w.2.1.length ≤ 60) (h2 : ∀ x ∈ w.2.1, (txt x).size ≤ 1000) : (k : Nat) → ((List.range k).flatMap (fun k : Nat => spotsAt w (k : Int))).length ≤ 60001 * k
  | 0 => Nat.zero_le _
  | k + 1 => by
    have ih := range_len h1 h2 k
    have h3 := spotsX_len (k := (k : Int)) h2
    have e : spotsAt w (k : Int) = spotsX (k : Int) w.2.1 ++ (if (k : Int) < w.1 then [((k : Int), 0, ())] else []) := rfl
    rw [range_snoc, List.length_append, e, List.length_append]
    split
    · rw [List.length_singleton]; omega
    · rw [List.length_nil]; omega
theorem spotsX_take {k : Int} {l : List Inl} {j : Nat} (h : j < l.length) : spotsX k (l.take (j + 1)) = spotsX k (l.take j) ++ (if (l.getD j zI0).2.1 = k then List.replicate (decodeL (txt (l.getD j zI0))).length (k, (l.getD j zI0).1, ()) else []) := by
  rw [take_one zI0 h]
  generalize l.getD j zI0 = x
  generalize l.take j = m
  induction m with
  | nil =>
    rw [List.nil_append, spotsX_cons]
    show _ ++ [] = [] ++ _
    rw [List.append_nil, List.nil_append]
    rfl
  | cons y m ih =>
    rw [List.cons_append, spotsX_cons, ih, spotsX_cons, List.append_assoc]
theorem p15 : vc15 := by
  unfold vc15
  simp only [eq_self, true_and, and_true, decide_eq_true_eq, decide_eq_false_iff_not, beq_iff_eq, beq_eq_false_iff_ne, bne_iff_ne, bne_eq_false_iff_eq, Bool.not_eq_true', Bool.not_eq_false', ne_eq, imp_true_iff, implies_true]
  rintro ⟨⟨n, l, e, ⟨⟩⟩, ⟨⟩⟩
  simp only [maxLen_eq, d57]
  rintro ⟨h1, h2, h3, h4⟩
  simp only at h1 h2 h3 h4
  obtain ⟨w, hw⟩ : ∃ w : WSet, w = (n, l, e, ()) := ⟨_, rfl⟩
  have hwl : w.2.1 = l := by rw [hw]
  have hwn : w.1 = n := by rw [hw]
  rw [← hw]
  have el : ∀ r, r = spots w ↔ r = (List.range (n + 1).toNat).flatMap fun k : Nat => spotsAt w (k : Int) := fun r => by rw [hw]; exact Iff.rfl
  simp only [el]
  have rl := range_len (w := w) (by rw [hwl]; exact h1) (by rw [hwl]; exact h2)
  refine ⟨fun z => ∃ k : Nat, (k : Int) ≤ n + 1 ∧ z.2.1 = (k : Int) ∧ z.1 = (List.range k).flatMap fun k : Nat => spotsAt w (k : Int), fun z => (n + 1 - z.2.1).toNat, ⟨0, by omega, rfl, rfl⟩, ?_⟩
  rintro a i ⟨k, hk, hi, ha⟩
  simp only at hi ha
  subst hi
  have hal : a.length ≤ 60001 * k := by rw [ha]; exact rl k
  refine ⟨fun g1 => ?_, fun g1 => by rw [ha, show k = (n + 1).toNat by omega]⟩
  have hwk : IntKind.i64.wrap ((k : Int) + 1) = ((k + 1 : Nat) : Int) := wrap_succ (by omega)
  rw [hwk]
  have xl : ∀ j, (spotsX (k : Int) (l.take j)).length ≤ 60000 := fun j => by
    have := spotsX_len (k := (k : Int)) (l := l.take j) fun x hx => h2 x (List.mem_of_mem_take hx)
    rw [List.length_take] at this
    omega
  refine ⟨fun z => ∃ j : Nat, j ≤ l.length ∧ z.2.1 = (j : Int) ∧ z.1 = a ++ spotsX (k : Int) (l.take j), fun z => l.length - z.2.1.toNat, ⟨0, Nat.zero_le _, rfl, by show a = a ++ []; rw [List.append_nil]⟩, ?_⟩
  rintro b i ⟨j, hj, hi, hb⟩
  simp only at hi hb
  subst hi
  have hbl : b.length ≤ 60001 * k + 60000 := by rw [hb, List.length_append]; have := xl j; omega
  refine ⟨fun g2 => ?_, fun g2 => ?_⟩
  · have hlt : j < l.length := by omega
    have hwj : IntKind.i64.wrap ((j : Int) + 1) = ((j + 1 : Nat) : Int) := wrap_succ (by omega)
    rw [toNat_cast, hwj]
    have hx := h2 _ (getD_in zI0 hlt)
    have st := spotsX_take (k := (k : Int)) hlt
    generalize l.getD j zI0 = x at hx st ⊢
    have hdl := decL_len (txt x)
    have dec : l.length - (j + 1) < l.length - j := by omega
    refine ⟨⟨by omega, g2⟩, fun g3 => ⟨⟨j + 1, hlt, rfl, ?_⟩, by simp only [toNat_cast]; exact dec⟩, fun g3 => ⟨Nat.le_trans hx (by decide), ?_⟩⟩
    · rw [st, if_neg g3, List.append_nil]
      exact hb
    · rw [if_pos g3] at st
      show ∃ (Z : List Spt × Int × Unit → Prop), _
      refine ⟨fun z => ∃ m : Nat, m ≤ (decodeL (txt x)).length ∧ z.2.1 = (m : Int) ∧ z.1 = b ++ List.replicate m ((k : Int), x.1, ()), fun z => (decodeL (txt x)).length - z.2.1.toNat, ⟨0, Nat.zero_le _, rfl, by show b = b ++ []; rw [List.append_nil]⟩, ?_⟩
      rintro c i ⟨m, hm, hi, hc⟩
      simp only at hi hc
      subst hi
      have hcl : c.length ≤ 60001 * k + 61000 := by
        rw [hc, List.length_append, List.length_replicate]
        have : (txt x).size ≤ 1000 := hx
        omega
      refine ⟨fun g4 => ?_, fun g4 => ?_⟩
      · have g4 : (m : Int) < ((decodeL (txt x)).length : Int) := g4
        have hwm : IntKind.i64.wrap ((m : Int) + 1) = ((m + 1 : Nat) : Int) := wrap_succ (by omega)
        rw [hwm]
        simp only [List.length_singleton, toNat_cast]
        have Zf : ∃ m' : Nat, m' ≤ (decodeL (txt x)).length ∧ ((m + 1 : Nat) : Int) = (m' : Int) ∧ c ++ [((k : Int), x.1, ())] = b ++ List.replicate m' ((k : Int), x.1, ()) := ⟨m + 1, by omega, rfl, by rw [hc, List.replicate_succ', List.append_assoc]⟩
        have dm : (decodeL (txt x)).length - (m + 1) < (decodeL (txt x)).length - m := by omega
        (repeat' (first | apply And.intro | intro _))
        all_goals first
          | omega
          | exact Zf
          | exact dm
          | rfl
      · have g4 : ¬ (m : Int) < ((decodeL (txt x)).length : Int) := g4
        have hme : m = (decodeL (txt x)).length := by omega
        refine ⟨⟨j + 1, hlt, rfl, ?_⟩, by simp only [toNat_cast]; exact dec⟩
        show c = _
        rw [st, hc, hb, hme, List.append_assoc]
  · have hje : j = l.length := by omega
    rw [hje, List.take_length] at hb
    have hat : spotsAt w (k : Int) = spotsX (k : Int) l ++ (if (k : Int) < n then [((k : Int), 0, ())] else []) := by rw [hw]; rfl
    simp only [List.length_singleton, toNat_cast]
    have y : (k : Int) < n → ∃ k' : Nat, (k' : Int) ≤ n + 1 ∧ ((k + 1 : Nat) : Int) = (k' : Int) ∧ b ++ [((k : Int), 0, ())] = (List.range k').flatMap fun k : Nat => spotsAt w (k : Int) := fun h => ⟨k + 1, by omega, rfl, by rw [range_snoc, hat, if_pos h, ← ha, hb, List.append_assoc]⟩
    have n_ : ¬ (k : Int) < n → ∃ k' : Nat, (k' : Int) ≤ n + 1 ∧ ((k + 1 : Nat) : Int) = (k' : Int) ∧ b = (List.range k').flatMap fun k : Nat => spotsAt w (k : Int) := fun h => ⟨k + 1, by omega, rfl, by rw [range_snoc, hat, if_neg h, ← ha, hb, List.append_nil]⟩
    have dk : (n + 1 - ((k + 1 : Nat) : Int)).toNat < (n + 1 - (k : Int)).toNat := by omega
    (repeat' (first | apply And.intro | intro _))
    all_goals first
      | omega
      | exact y (by assumption)
      | exact n_ (by assumption)
      | exact dk
theorem p18 : vc18 := by
  unfold vc18
  simp only [eq_self, true_and, and_true, decide_eq_true_eq, decide_eq_false_iff_not, beq_iff_eq, beq_eq_false_iff_ne, bne_iff_ne, bne_eq_false_iff_eq, Bool.not_eq_true', Bool.not_eq_false', ne_eq, imp_true_iff, implies_true]
  rintro ⟨w, s, ⟨⟩⟩
  simp only [maxLen_eq]
  rintro ⟨h1, h2, h3⟩
  have hb := spots_bd h1.1 h1.2.1 h1.2.2.2
  have hp : (piecesI (treeOf w)).length = (items (topT (treeOf w))).length := by unfold piecesI; rw [List.length_map]
  have hr : (refPieces s).length ≤ 100000000 := by
    have : ∀ (l : List Spt) (o : List Pce), (l.foldl pceStep o).length ≤ o.length + l.length := by
      intro l
      induction l with
      | nil => intro o; exact Nat.le_refl _
      | cons x l ih =>
        intro o
        have := ih (pceStep o x)
        have := (step_len o x).1
        rw [List.foldl_cons, List.length_cons]
        omega
    have := this (spots s) []
    unfold refPieces
    simp at this
    omega
  have hh : heightOf (topT (treeOf w)) ≤ 1000 := by
    rcases h2 with e | ⟨h, hh, wf⟩
    · rw [e]; decide
    · rw [(wf_height wf).1]; omega
  have no : ∀ b, b = isW w s ↔ b = (w.isSome && decide ((sumOf (topT (treeOf w))).2.1.1 = s.1) && decide ((sumOf (topT (treeOf w))).2.1.2.1 = ((spots s).length : Int)) && sameP (piecesI (treeOf w)) (refPieces s) && highB (heightOf (topT (treeOf w))) ((items (topT (treeOf w))).length : Int)) := fun b => Iff.rfl
  simp only [no, hp]
  refine ⟨⟨h2, h3⟩, fun g1 => ⟨fun g2 => ⟨h1, fun g3 => ⟨by omega, h1, by omega, fun g4 => ⟨by omega, ?_⟩, fun g4 => ?_⟩, fun g3 => ?_⟩, fun g2 => ?_⟩, fun g1 => ?_⟩
  · rw [g1, decide_eq_true g2, decide_eq_true g3, g4]
    rfl
  · rw [g1, decide_eq_true g2, decide_eq_true g3, g4]
    rfl
  · rw [g1, decide_eq_true g2, decide_eq_false g3]
    rfl
  · rw [g1, decide_eq_false g2]
    rfl
  · rw [g1]
    rfl
end Go.Fr.C14
namespace Go.Fr.C14
open Go Go.Fr Go.Proofs
theorem take_app {α : Type} (a b : List α) (i : Int) (h : (a.length : Int) ≤ i) : (a ++ b).take i.toNat = a ++ b.take (i - a.length).toNat := by
  rw [List.take_append]
  congr 1
  · exact List.take_of_length_le (by omega)
  · congr 1; omega
theorem drop_app {α : Type} (a b : List α) (i : Int) (h : (a.length : Int) ≤ i) : (a ++ b).drop i.toNat = b.drop (i - a.length).toNat := by
  rw [List.drop_append]
  rw [List.drop_eq_nil_of_le (by omega), List.nil_append]
  congr 1; omega
theorem take_app_l {α : Type} (a b : List α) (i : Int) (h : i ≤ (a.length : Int)) : (a ++ b).take i.toNat = a.take i.toNat := by
  rw [List.take_append, show i.toNat - a.length = 0 by omega, List.take_zero, List.append_nil]
theorem drop_app_l {α : Type} (a b : List α) (i : Int) (h : i ≤ (a.length : Int)) : (a ++ b).drop i.toNat = a.drop i.toNat ++ b := by
  rw [List.drop_append, show i.toNat - a.length = 0 by omega, List.drop_zero]
theorem spK_at : (ks : List Nd) → (i : Nat) → (a : Int) → (∀ x ∈ ks, (sumOf x).1 = ((items x).length : Int)) → a ≤ 9223372036854775807 → (∀ x ∈ ks, (items x).length ≤ 100000) →
    (spK ks i a = none ∧ (ks = [] ∨ ((ks.flatMap items).length : Int) < a)) ∨
    (∃ j a', spK ks i a = some (i + j, a') ∧ j < ks.length ∧ a' ≤ ((items (ks.getD j .nil)).length : Int) ∧ (j = 0 ∨ 0 < a') ∧ a' ≤ a ∧ a = a' + (((ks.take j).flatMap items).length : Int))
  | [], i, a, _, _, _ => .inl ⟨rfl, .inl rfl⟩
  | k :: r, i, a, hs, ha, hl => by
    have hk := hs k (List.mem_cons_self ..)
    have hkl := hl k (List.mem_cons_self ..)
    have e : spK (k :: r) i a = if a ≤ (sumOf k).1 then some (i, a) else spK r (i + 1) (w64 (a - (sumOf k).1)) := rfl
    rw [e, hk]
    by_cases h : a ≤ ((items k).length : Int)
    · rw [if_pos h]
      exact .inr ⟨0, a, rfl, by simp, h, .inl rfl, Int.le_refl _, by simp⟩
    · rw [if_neg h, w64_id (by omega) (by omega)]
      rcases spK_at r (i + 1) (a - ((items k).length : Int)) (fun x hx => hs x (List.mem_cons_of_mem _ hx)) (by omega) (fun x hx => hl x (List.mem_cons_of_mem _ hx)) with ⟨h1, h2⟩ | ⟨j, a', h1, h2, h3, h4, h5, h6⟩
      · refine .inl ⟨h1, .inr ?_⟩
        rw [flat_cons, List.length_append]
        rcases h2 with rfl | h2
        · simp; omega
        · omega
      · refine .inr ⟨j + 1, a', by rw [h1, show i + 1 + j = i + (j + 1) by omega], by simp; omega, h3, ?_, by omega, ?_⟩
        · rcases h4 with rfl | h4
          · simp at h6; omega
          · exact .inr h4
        · rw [List.take_succ_cons, flat_cons, List.length_append]
          omega
theorem rowN_ok {h : Nat} {ks : List Nd} (h0 : 1 ≤ h) (hh : h ≤ 99) (h8 : ks.length ≤ 8) (hk : ∀ k ∈ ks, Wf h false k) : WfN (rowN ks) ∧ items (rowN ks) = ks.flatMap items := by
  unfold rowN
  by_cases e0 : ks.length = 0
  · rw [if_pos e0, List.eq_nil_of_length_eq_zero e0]
    exact ⟨.inl rfl, rfl⟩
  · rw [if_neg e0]
    by_cases e1 : ks.length = 1
    · rw [if_pos e1]
      match ks, e1 with
      | [x], _ =>
        exact ⟨.inr ⟨h, by omega, wf_top (hk x (List.mem_cons_self ..))⟩, by simp⟩
    · rw [if_neg e1]
      have w : Wf (h + 1) true (mkInner ks) := wf_inner h0 (by omega) (by simp; omega) h8 hk
      exact ⟨.inr ⟨h + 1, by omega, w⟩, items_inner w (by omega)⟩
theorem kid_split {ks : List Nd} {j : Nat} (h : j < ks.length) : ks = ks.take j ++ (ks.getD j .nil :: ks.drop (j + 1)) := by
  conv => lhs; rw [← List.take_append_drop j ks]
  rw [drop_cons .nil h]
theorem flat_len_le {ks : List Nd} {j : Nat} (h : j < ks.length) : ((ks.take j).flatMap items).length + (items (ks.getD j .nil)).length + ((ks.drop (j + 1)).flatMap items).length = (ks.flatMap items).length := by
  conv => rhs; rw [kid_split h]
  rw [List.flatMap_append, List.flatMap_cons, List.length_append, List.length_append]
  omega
theorem split_ok : (m h : Nat) → (top : Bool) → (n : Nd) → (a : Int) → h ≤ 100 → h ≤ m → Wf h top n → Fine (items n) → (items n).length ≤ 100000 → a ≤ 9223372036854775807 →
    WfN (splitF m n a).1 ∧ WfN (splitF m n a).2 ∧ items (splitF m n a).1 = (items n).take a.toNat ∧ items (splitF m n a).2 = (items n).drop a.toNat
  | 0, h, _, n, _, _, hm, e, _, _, _ => by
    have : h = 0 := by omega
    subst this
    exact e.elim
  | m + 1, 0, _, _, _, _, _, e, _, _, _ => e.elim
  | m + 1, h + 1, _, .nil, _, _, _, e, _, _, _ => e.elim
  | m + 1, h + 1, top, .leaf x, a, hh, hm, e, hf, hl, ha => by
    have h0 : h = 0 := e.1
    subst h0
    have e8 := e.2.2.1
    have wl : WfN (.leaf x) := .inr ⟨1, by omega, wf_any e⟩
    have es : splitF (m + 1) (.leaf x) a = if a ≤ 0 then (.nil, .leaf x) else if a ≥ (x.1.length : Int) then (.leaf x, .nil) else (mkLeaf (x.1.take a.toNat), mkLeaf (x.1.drop a.toNat)) := rfl
    rw [es, items_leaf]
    by_cases h1 : a ≤ 0
    · rw [if_pos h1, show a.toNat = 0 by omega]
      exact ⟨.inl rfl, wl, rfl, rfl⟩
    · rw [if_neg h1]
      by_cases h2 : a ≥ (x.1.length : Int)
      · rw [if_pos h2]
        refine ⟨wl, .inl rfl, ?_, ?_⟩
        · show x.1 = _; rw [List.take_of_length_le (by omega)]
        · show [] = _; rw [List.drop_eq_nil_of_le (by omega)]
      · rw [if_neg h2]
        refine ⟨.inr ⟨1, by omega, wf_leaf (by simp; omega) (by simp; omega)⟩, .inr ⟨1, by omega, wf_leaf (by simp; omega) (by simp; omega)⟩, rfl, rfl⟩
  | m + 1, h + 1, top, .inner ks b, a, hh, hm, e, hf, hl, ha => by
    have wt : WfN (.inner ks b) := .inr ⟨h + 1, hh, wf_any e⟩
    have ei := items_inner e (by omega)
    rw [ei] at hf hl ⊢
    obtain ⟨w1, w2, w3, w4, w5, w6⟩ := e
    have so : ∀ x ∈ ks, (sumOf x).1 = ((items x).length : Int) := fun x hx => (sum_wf h false x (by omega) (w6 x hx) (fine_mem hf hx) (Nat.le_trans (len_mem hx) hl)).1
    have es : splitF (m + 1) (.inner ks b) a = match spK ks 0 a with
      | none => (.inner ks b, .nil)
      | some q => (join (rowN (ks.take q.1)) (splitF m (ks.getD q.1 .nil) q.2).1, join (splitF m (ks.getD q.1 .nil) q.2).2 (rowN (ks.drop (q.1 + 1)))) := rfl
    rw [es]
    rcases spK_at ks 0 a so ha (fun x hx => Nat.le_trans (len_mem hx) hl) with ⟨h1, h2⟩ | ⟨j, a', h1, h2, h3, h4, h5, h6⟩
    · rw [h1]
      have hlen : ((ks.flatMap items).length : Int) < a := by
        rcases h2 with rfl | h2
        · simp at w2; split at w2 <;> omega
        · exact h2
      refine ⟨wt, .inl rfl, ?_, ?_⟩
      · show items (.inner ks b) = _
        rw [ei, List.take_of_length_le (by omega)]
      · show [] = _; rw [List.drop_eq_nil_of_le (by omega)]
    · rw [h1]
      simp only [Nat.zero_add]
      have mem := getD_in (.nil : Nd) h2
      have fl := flat_len_le h2
      obtain ⟨i1, i2, i3, i4⟩ := split_ok m h false _ a' (by omega) (by omega) (w6 _ mem) (fine_mem hf mem) (Nat.le_trans (len_mem mem) hl) (by omega)
      obtain ⟨r1, r2⟩ := rowN_ok (ks := ks.take j) w1 (by omega) (by rw [List.length_take]; omega) (fun k hk => w6 k (List.mem_of_mem_take hk))
      obtain ⟨r3, r4⟩ := rowN_ok (ks := ks.drop (j + 1)) w1 (by omega) (by rw [List.length_drop]; omega) (fun k hk => w6 k (List.mem_of_mem_drop hk))
      obtain ⟨j1, j2⟩ := join_ok r1 i1 (by rw [r2, i3, List.length_take]; omega)
      obtain ⟨j3, j4⟩ := join_ok i2 r3 (by rw [r4, i4, List.length_drop]; omega)
      refine ⟨j1, j3, ?_, ?_⟩
      · rw [j2, r2, i3]
        conv => rhs; rw [kid_split h2]
        rw [List.flatMap_append, List.flatMap_cons]
        by_cases hn : j = 0
        · subst hn
          have e1 : a = a' := by
            have : a = a' + 0 := by simpa using h6
            omega
          rw [e1, List.take_zero, List.flatMap_nil, List.nil_append, List.nil_append, take_app_l _ _ _ h3]
        · rw [take_app _ _ _ (by omega), take_app_l _ _ _ (by omega)]
          congr 2
          omega
      · rw [j4, r4, i4]
        conv => rhs; rw [kid_split h2]
        rw [List.flatMap_append, List.flatMap_cons]
        by_cases hn : j = 0
        · subst hn
          have e1 : a = a' := by
            have : a = a' + 0 := by simpa using h6
            omega
          rw [e1, List.take_zero, List.flatMap_nil, List.nil_append, drop_app_l _ _ _ h3]
        · rw [drop_app _ _ _ (by omega), drop_app_l _ _ _ (by omega)]
          congr 2
          omega
theorem splitN_ok {n : Nd} {a : Int} (hw : WfN n) (hf : Fine (items n)) (hl : (items n).length ≤ 100000) (ha : a ≤ 9223372036854775807) :
    WfN (splitN n a).1 ∧ WfN (splitN n a).2 ∧ items (splitN n a).1 = (items n).take a.toNat ∧ items (splitN n a).2 = (items n).drop a.toNat := by
  unfold splitN
  rcases hw with rfl | ⟨h, h1, w⟩
  · exact ⟨.inl rfl, .inl rfl, by simp [heightOf, splitF, items_nil], by simp [heightOf, splitF, items_nil]⟩
  · rw [(wf_height w).1]
    exact split_ok _ h true n a h1 (Nat.le_refl _) w hf hl ha
theorem fine_take {l : List Itm} (h : Fine l) (k : Nat) : Fine (l.take k) := fun i hi => h i (List.mem_of_mem_take hi)
theorem fine_drop {l : List Itm} (h : Fine l) (k : Nat) : Fine (l.drop k) := fun i hi => h i (List.mem_of_mem_drop hi)
theorem replN_ok {n mid : Nd} {from_ to : Int} (hw : WfN n) (hf : Fine (items n)) (hl : (items n).length ≤ 100000) (wm : WfN mid) (hm : (items mid).length ≤ 100000) (h0 : 0 ≤ from_) (h1 : from_ ≤ to) (h2 : to ≤ 9000000000000000000) :
    WfN (splitN n from_).1 ∧ WfN (splitN n from_).2 ∧ items (splitN n from_).2 = (items n).drop from_.toNat ∧ WfN (join (splitN n from_).1 mid) ∧ WfN (splitN (splitN n from_).2 (w64 (to - from_))).2 ∧
    WfN (replN n mid from_ to) ∧ items (replN n mid from_ to) = (items n).take from_.toNat ++ items mid ++ (items n).drop to.toNat := by
  obtain ⟨a1, a2, a3, a4⟩ := splitN_ok (a := from_) hw hf hl (by omega)
  have hd : ((items n).drop from_.toNat).length ≤ 100000 := by rw [List.length_drop]; omega
  obtain ⟨b1, b2, b3, b4⟩ := splitN_ok (n := (splitN n from_).2) (a := w64 (to - from_)) a2 (by rw [a4]; exact fine_drop hf _) (by rw [a4]; exact hd) (by rw [w64_id (by omega) (by omega)]; omega)
  obtain ⟨j1, j2⟩ := join_ok a1 wm (by rw [a3, List.length_take]; omega)
  obtain ⟨j3, j4⟩ := join_ok j1 b2 (by rw [j2, a3, b4, a4, List.length_append, List.length_take, List.length_drop, List.length_drop]; omega)
  refine ⟨a1, a2, a4, j1, b2, j3, ?_⟩
  show items (join (join (splitN n from_).1 mid) (splitN (splitN n from_).2 (w64 (to - from_))).2) = _
  rw [j4, j2, a3, b4, a4, List.drop_drop, w64_id (by omega) (by omega)]
  congr 2
  omega
theorem newT_ok {l : List Itm} (hl : l.length ≤ 30000) (h : ∀ i ∈ l, checkI i = 0) : newT l = (some (buildT l, ()), 0, ()) := by
  unfold newT
  rw [if_neg (by omega), if_pos]
  rw [List.all_eq_true]
  intro i hi
  exact decide_eq_true (h i hi)
theorem newT_zero {l : List Itm} (h : (newT l).2.1 = 0) : l.length ≤ 30000 ∧ (∀ i ∈ l, checkI i = 0) ∧ newT l = (some (buildT l, ()), 0, ()) := by
  unfold newT at h ⊢
  by_cases h1 : l.length > 30000
  · rw [if_pos h1] at h; cases h
  · rw [if_neg h1] at h ⊢
    by_cases h2 : (l.all fun x => decide (checkI x = 0)) = true
    · rw [if_pos h2]
      rw [List.all_eq_true] at h2
      exact ⟨by omega, fun i hi => of_decide_eq_true (h2 i hi), rfl⟩
    · rw [if_neg h2] at h; cases h
end Go.Fr.C14
namespace Go.Fr.C14
open Go Go.Fr Go.Proofs
set_option maxRecDepth 100000
def hs45 : List (Nat × Nat × Hint) := [(740009, 4, ⟨[.slot 740028 t3, .rowC 3 0 950000150 t89 89], [740010, 740026, 740027, 3], [3], []⟩),
  (740009, 11, ⟨[.slot 740044 t3, .rowC 3 0 950000150 t89 89], [740010, 740042, 740043, 3], [3], []⟩),
  (1480052, 4, ⟨[.slot 1480071 t3, .rowC 3 0 950000150 t89 89], [1480053, 1480069, 1480070, 740010, 740042, 740043, 740044, 3], [740015, 3], []⟩),
  (1480052, 11, ⟨[.slot 1480087 t3, .rowC 3 0 950000150 t89 89], [1480053, 1480085, 1480086, 740010, 740042, 740043, 740044, 3], [740015, 3], []⟩),
  (2220095, 4, ⟨[.slot 2220114 t3, .rowC 3 0 950000150 t89 89], [2220096, 2220112, 2220113, 1480053, 1480085, 1480086, 1480087, 740010, 740042, 740043, 740044, 3], [1480058, 740015, 3], []⟩),
  (2220095, 11, ⟨[.slot 2220130 t3, .rowC 3 0 950000150 t89 89], [2220096, 2220128, 2220129, 1480053, 1480085, 1480086, 1480087, 740010, 740042, 740043, 740044, 3], [1480058, 740015, 3], []⟩)]
def nm45 : List Nat := [3000000024]
noncomputable def E45 : Env := env tab [(66, cTop)] [(74, Tryd.f74), (73, Tryd.f73)] gl hs45 nm45
def vc45 : Prop :=
 ∀ (x : Option (Nd × Unit) × Unit),
 let y :=  (List.getD (optL (NT.asInner (topT x.fst))) (0 : Nat)  (([], (0, zS, ())) : List Nd × Nx)).fst;
 let y_1 := (List.getD (optL (NT.asLeaf (topT x.fst))) (0 : Nat) (([], zS, ()) : Lf)).fst;
 let y_2 := topT x.fst;
 let y_3 := Option.isSome (NT.asInner y_2);
 let y_4 := Option.isSome (NT.asLeaf y_2);
 let y_5 := (↑(List.length y_1) : Int);
 let y_6 := (↑(List.length y) : Int);
 (y_2 = (NT.nil : Nd) ∨ ∃ (h : Nat), h ≤ (3 : Nat) ∧ Wf h true y_2) ∧ List.length (items y_2) ≤ (100000 : Nat) →
 True ∧
 (y_4 = true →
 y_4 = true ∧
 (((0 : Int) = (0 : Int) ∧ True ∧ y_1 = y_1 ∧ y_5 = y_5 ∧ True) ∧ True ∧ True ∧ True) ∧
 ∃ (Z : Int × List Itm × Unit → Prop),
 ∃ (μ : Int × List Itm × Unit → Nat),
 Z ((0 : Int), [], ()) ∧
 ∀ (a : Int),
 let y := [List.getD y_1 (Int.toNat a) (Ty.dflt t89)];
 let y_7 := IntKind.wrap IntKind.i64 (a + (1 : Int));
 ∀ (a_1 : List Itm),
 let y_8 := (y_7, a_1 ++ y, ());
 let y_9 := (a, a_1, ());
 Z y_9 →
 (decide (a < y_5) = true →
 ((0 : Int) ≤ a ∧ a < y_5) ∧
 (List.length a_1 + List.length y) * (64 : Nat) ≤ (140737488355328 : Nat) ∧
 List.length a_1 + List.length y ≤ maxLen ∧
 ((y_7 = y_7 ∧ True ∧ y_1 = y_1 ∧ y_5 = y_5 ∧ True) ∧
 True ∧ a_1 ++ y = a_1 ++ y ∧ True) ∧
 Z y_8 ∧ μ y_8 < μ y_9) ∧
 (decide (a < y_5) = false → a_1 = items y_2)) ∧
 (y_4 = false →
 (y_3 = true →
 Option.isSome (NT.asInner y_2) = true ∧
 (((0 : Int) = (0 : Int) ∧ True ∧ y = y ∧ y_6 = y_6 ∧ True) ∧ True ∧ True ∧ True) ∧
 ∃ (Z : Int × List Itm × Unit → Prop),
 ∃ (μ : Int × List Itm × Unit → Nat),
 Z ((0 : Int), [], ()) ∧
 ∀ (a : Int),
 let y_7 :=  (List.getD  (optL  (NT.asInner  (List.getD y (Int.toNat a)  (NT.nil : Nd))))  (0 : Nat)  (([], (0, zS, ())) : List Nd × Nx)).fst;
 let y_8 :=  (List.getD  (optL  (NT.asLeaf  (List.getD y (Int.toNat a)  (NT.nil : Nd))))  (0 : Nat) (([], zS, ()) : Lf)).fst;
 let y_9 :=  List.getD y (Int.toNat a)  (NT.nil : Nd);
 let y_10 := IntKind.wrap IntKind.i64 (a + (1 : Int));
 let y_11 := Option.isSome (NT.asInner y_9);
 let y_12 := Option.isSome (NT.asLeaf y_9);
 let y_13 := (↑(List.length y_8) : Int);
 let y_14 := (↑(List.length y_7) : Int);
 ∀ (a_1 : List Itm),
 let y_15 := (a_1, ());
 let y_16 := (a, y_15);
 let y_17 := (y_10, y_15);
 Z y_16 →
 (decide (a < y_6) = true →
 ((0 : Int) ≤ a ∧ a < y_6) ∧
 (y_12 = true →
 y_12 = true ∧
 (((0 : Int) = (0 : Int) ∧
 True ∧
 y_8 = y_8 ∧ y_13 = y_13 ∧ True ∧ y = y ∧ y_6 = y_6 ∧ a = a ∧ True) ∧
 True ∧ a_1 = a_1 ∧ True) ∧
 ∃ (Z_1 :
 Int ×
 List Itm ×
 Unit →
 Prop),
 ∃ (μ_1 :
 Int ×
 List
 Itm ×
 Unit →
 Nat),
 Z_1 ((0 : Int), y_15) ∧
 ∀ (a_5 : Int),
 let y_18 := [List.getD y_8 (Int.toNat a_5) (Ty.dflt t89)];
 let y_19 := IntKind.wrap IntKind.i64 (a_5 + (1 : Int));
 ∀
 (a_6 :
 List
 Itm),
 let y_20 := (a_6, ());
 let y_21 := (y_19, a_6 ++ y_18, ());
 let y_22 := (a_5, y_20);
 let y_23 := (y_10, y_20);
 Z_1 y_22 →
 (decide (a_5 < y_13) = true →
 ((0 : Int) ≤ a_5 ∧ a_5 < y_13) ∧
 (List.length a_6 + List.length y_18) * (64 : Nat) ≤
 (140737488355328 : Nat) ∧
 List.length a_6 + List.length y_18 ≤ maxLen ∧
 ((y_19 = y_19 ∧
 True ∧
 y_8 = y_8 ∧
 y_13 = y_13 ∧
 True ∧ y = y ∧ y_6 = y_6 ∧ a = a ∧ True) ∧
 True ∧ a_6 ++ y_18 = a_6 ++ y_18 ∧ True) ∧
 Z_1 y_21 ∧ μ_1 y_21 < μ_1 y_22) ∧
 (decide (a_5 < y_13) = false →
 ((y_10 = y_10 ∧ True ∧ y = y ∧ y_6 = y_6 ∧ True) ∧
 True ∧ a_6 = a_6 ∧ True) ∧
 Z y_23 ∧ μ y_23 < μ y_16)) ∧
 (y_12 = false →
 (y_11 = true →
 Option.isSome (NT.asInner y_9) = true ∧
 (((0 : Int) = (0 : Int) ∧
 True ∧
 y_7 = y_7 ∧
 y_14 = y_14 ∧ True ∧ y = y ∧ y_6 = y_6 ∧ a = a ∧ True) ∧
 True ∧ a_1 = a_1 ∧ True) ∧
 ∃ (Z_1 :
 Int ×
 List
 Itm ×
 Unit →
 Prop),
 ∃ (μ_1 :
 Int ×
 List
 Itm ×
 Unit →
 Nat),
 Z_1 ((0 : Int), y_15) ∧
 ∀ (a_6 : Int),
 let y_18 :=  (List.getD  (optL  (NT.asInner  (List.getD y_7 (Int.toNat a_6)  (NT.nil : Nd))))  (0 : Nat)  (([], (0, zS, ())) : List Nd × Nx)).fst;
 let y_19 :=  (List.getD  (optL  (NT.asLeaf  (List.getD y_7 (Int.toNat a_6)  (NT.nil : Nd))))  (0 : Nat) (([], zS, ()) : Lf)).fst;
 let y_20 :=  List.getD y_7 (Int.toNat a_6)  (NT.nil : Nd);
 let y_21 := IntKind.wrap IntKind.i64 (a_6 + (1 : Int));
 let y_22 := Option.isSome (NT.asInner y_20);
 let y_23 := Option.isSome (NT.asLeaf y_20);
 let y_24 := (↑(List.length y_19) : Int);
 let y_25 := (↑(List.length y_18) : Int);
 ∀
 (a_7 :
 List
 Itm),
 let y_26 := (a_7, ());
 let y_27 := (a_6, y_26);
 let y_28 := (y_10, y_26);
 let y_29 := (y_21, y_26);
 Z_1 y_27 →
 (decide (a_6 < y_14) = true →
 ((0 : Int) ≤ a_6 ∧ a_6 < y_14) ∧
 (y_23 = true →
 y_23 = true ∧
 (((0 : Int) = (0 : Int) ∧
 True ∧
 y_19 = y_19 ∧
 y_24 = y_24 ∧
 True ∧
 y_7 = y_7 ∧
 y_14 = y_14 ∧
 a_6 = a_6 ∧
 True ∧
 y = y ∧
 y_6 = y_6 ∧
 a = a ∧ True) ∧
 True ∧ a_7 = a_7 ∧ True) ∧
 ∃ (Z :
 Int ×
 List
 Itm ×
 Unit →
 Prop),
 ∃ (μ :
 Int ×
 List
 Itm ×
 Unit →
 Nat),
 Z ((0 : Int), y_26) ∧
 ∀ (a_11 : Int),
 let y_30 :=  [List.getD y_19 (Int.toNat a_11)  (Ty.dflt t89)];
 let y_31 :=  IntKind.wrap IntKind.i64  (a_11 + (1 : Int));
 ∀
 (a_12 :
 List
 Itm),
 let y_32 := (a_12, ());
 let y_33 :=  (y_31, a_12 ++ y_30, ());
 let y_34 := (a_11, y_32);
 let y_35 := (y_21, y_32);
 Z y_34 →
 (decide (a_11 < y_24) = true →
 ((0 : Int) ≤ a_11 ∧
 a_11 < y_24) ∧
 (List.length a_12 +
 List.length y_30) *
 (64 : Nat) ≤
 (140737488355328 :
 Nat) ∧
 List.length a_12 +
 List.length y_30 ≤
 maxLen ∧
 ((y_31 = y_31 ∧
 True ∧
 y_19 = y_19 ∧
 y_24 = y_24 ∧
 True ∧
 y_7 =
 y_7 ∧
 y_14 =
 y_14 ∧
 a_6 =
 a_6 ∧
 True ∧
 y =
 y ∧
 y_6 =
 y_6 ∧
 a =
 a ∧
 True) ∧
 True ∧
 a_12 ++ y_30 =
 a_12 ++ y_30 ∧
 True) ∧
 Z y_33 ∧
 μ y_33 < μ y_34) ∧
 (decide (a_11 < y_24) = false →
 ((y_21 = y_21 ∧
 True ∧
 y_7 = y_7 ∧
 y_14 = y_14 ∧
 True ∧
 y = y ∧
 y_6 = y_6 ∧
 a = a ∧
 True) ∧
 True ∧
 a_12 = a_12 ∧ True) ∧
 Z_1 y_35 ∧
 μ_1 y_35 < μ_1 y_27)) ∧
 (y_23 = false →
 (y_22 = true →
 Option.isSome (NT.asInner y_20) = true ∧
 (((0 : Int) = (0 : Int) ∧
 True ∧
 y_18 = y_18 ∧
 y_25 = y_25 ∧
 True ∧
 y_7 = y_7 ∧
 y_14 = y_14 ∧
 a_6 = a_6 ∧
 True ∧
 y = y ∧
 y_6 = y_6 ∧
 a = a ∧ True) ∧
 True ∧ a_7 = a_7 ∧ True) ∧
 ∃ (Z :
 Int ×
 List
 Itm ×
 Unit →
 Prop),
 ∃ (μ :
 Int ×
 List
 Itm ×
 Unit →
 Nat),
 Z ((0 : Int), y_26) ∧
 ∀ (a_12 : Int),
 let y_30 :=  List.getD y_18 (Int.toNat a_12)  (NT.nil : Nd);
 let y_31 :=  IntKind.wrap IntKind.i64  (a_12 + (1 : Int));
 let y_32 :=  Option.isSome (NT.asInner y_30);
 let y_33 :=  Option.isSome (NT.asLeaf y_30);
 ∀
 (a_13 :
 List
 Itm),
 let y_34 := (a_13, ());
 let y_35 := (y_21, y_34);
 let y_36 := (a_12, y_34);
 let y_37 := (y_31, y_34);
 Z y_36 →
 (decide (a_12 < y_25) = true →
 ((0 : Int) ≤ a_12 ∧
 a_12 < y_25) ∧
 (y_33 = true →
 y_33 = true ∧
 False) ∧
 (y_33 = false →
 (y_32 = true →
 Option.isSome
 (NT.asInner
 y_30) =
 true ∧
 False) ∧
 (y_32 = false →
 ((y_31 = y_31 ∧
 True ∧
 y_18 =
 y_18 ∧
 y_25 =
 y_25 ∧
 True ∧
 y_7 =
 y_7 ∧
 y_14 =
 y_14 ∧
 a_6 =
 a_6 ∧
 True ∧
 y =
 y ∧
 y_6 =
 y_6 ∧
 a =
 a ∧
 True) ∧
 True ∧
 a_13 =
 a_13 ∧
 True) ∧
 Z y_37 ∧
 μ y_37 <
 μ
 y_36))) ∧
 (decide (a_12 < y_25) =
 false →
 ((y_21 = y_21 ∧
 True ∧
 y_7 = y_7 ∧
 y_14 = y_14 ∧
 True ∧
 y = y ∧
 y_6 =
 y_6 ∧
 a = a ∧
 True) ∧
 True ∧
 a_13 = a_13 ∧
 True) ∧
 Z_1 y_35 ∧
 μ_1 y_35 <
 μ_1 y_27)) ∧
 (y_22 = false →
 ((y_21 = y_21 ∧
 True ∧
 y_7 = y_7 ∧
 y_14 = y_14 ∧
 True ∧
 y = y ∧
 y_6 = y_6 ∧ a = a ∧ True) ∧
 True ∧ a_7 = a_7 ∧ True) ∧
 Z_1 y_29 ∧ μ_1 y_29 < μ_1 y_27))) ∧
 (decide (a_6 < y_14) = false →
 ((y_10 = y_10 ∧ True ∧ y = y ∧ y_6 = y_6 ∧ True) ∧
 True ∧ a_7 = a_7 ∧ True) ∧
 Z y_28 ∧ μ y_28 < μ y_16)) ∧
 (y_11 = false →
 ((y_10 = y_10 ∧ True ∧ y = y ∧ y_6 = y_6 ∧ True) ∧
 True ∧ a_1 = a_1 ∧ True) ∧
 Z y_17 ∧ μ y_17 < μ y_16))) ∧
 (decide (a < y_6) = false → a_1 = items y_2)) ∧
 (y_3 = false → [] = items y_2))
theorem vcEq45 : fnVC E45 Tryd.f45 (bodyOf Tryd.f45) cItems = vc45 := by kernel_rfl
end Go.Fr.C14
namespace Go.Fr.C14
open Go Go.Fr Go.Proofs
theorem leafLoop (l r0 : List Itm) (K : List Itm → Prop) (hs : r0.length + l.length ≤ 1000000) (hK : K (r0 ++ l)) :
    ∃ (Z : Int × List Itm × Unit → Prop), ∃ (μ : Int × List Itm × Unit → Nat), Z (0, r0, ()) ∧ ∀ (i : Int) (r : List Itm), Z (i, r, ()) →
      (i < (l.length : Int) → (0 ≤ i ∧ i < (l.length : Int)) ∧ (r.length + [l.getD i.toNat zItm].length) * 64 ≤ 140737488355328 ∧ r.length + [l.getD i.toNat zItm].length ≤ 9223372036854775807 ∧
        Z (IntKind.i64.wrap (i + 1), r ++ [l.getD i.toNat zItm], ()) ∧ μ (IntKind.i64.wrap (i + 1), r ++ [l.getD i.toNat zItm], ()) < μ (i, r, ())) ∧
      (¬ i < (l.length : Int) → K r) := by
  refine ⟨fun z => ∃ k : Nat, k ≤ l.length ∧ z.1 = (k : Int) ∧ z.2.1 = r0 ++ l.take k, fun z => l.length - z.1.toNat, ⟨0, Nat.zero_le _, rfl, by simp⟩, ?_⟩
  rintro i r ⟨k, hk, hi, hr⟩
  simp only at hi hr
  subst hi
  have hrl : r.length = r0.length + k := by rw [hr, List.length_append, List.length_take]; omega
  refine ⟨fun h => ?_, fun h => ?_⟩
  · have hlt : k < l.length := by omega
    have hw : IntKind.i64.wrap ((k : Int) + 1) = ((k + 1 : Nat) : Int) := wrap_succ (by omega)
    rw [toNat_cast, hw]
    simp only [toNat_cast, List.length_singleton]
    exact ⟨⟨by omega, h⟩, by omega, by omega, ⟨k + 1, hlt, rfl, by rw [hr, take_one zItm hlt, List.append_assoc]⟩, by omega⟩
  · have hke : k = l.length := by omega
    rw [hr, hke, List.take_length]
    exact hK
def KidsAt (ks : List Nd) (r0 : List Itm) (z : Int × List Itm × Unit) : Prop := ∃ k : Nat, k ≤ ks.length ∧ z.1 = (k : Int) ∧ z.2.1 = r0 ++ (ks.take k).flatMap items
theorem kids_step {ks : List Nd} {r0 r : List Itm} {k : Nat} (h : k < ks.length) (hr : r = r0 ++ (ks.take k).flatMap items) (hl : ks.length ≤ 100000) :
    KidsAt ks r0 (IntKind.i64.wrap ((k : Int) + 1), r ++ items (ks.getD k .nil), ()) ∧ ks.length - (IntKind.i64.wrap ((k : Int) + 1)).toNat < ks.length - ((k : Int)).toNat := by
  have hw : IntKind.i64.wrap ((k : Int) + 1) = ((k + 1 : Nat) : Int) := wrap_succ (by omega)
  rw [hw, toNat_cast, toNat_cast]
  refine ⟨⟨k + 1, h, rfl, ?_⟩, by omega⟩
  show r ++ items (ks.getD k .nil) = _
  rw [hr, take_one .nil h, List.flatMap_append]
  simp
theorem kids_part {ks : List Nd} {k : Nat} (h : k < ks.length) : ((ks.take k).flatMap items).length + (items (ks.getD k .nil)).length ≤ (ks.flatMap items).length := by
  have hs : ks = ks.take k ++ (ks.getD k .nil :: ks.drop (k + 1)) := by
    conv => lhs; rw [← List.take_append_drop k ks]
    rw [drop_cons .nil h]
  conv => rhs; rw [hs]
  rw [List.flatMap_append, List.flatMap_cons, List.length_append, List.length_append]
  omega
theorem inner_of {n : Nd} (h : (NT.asInner n).isSome = true) : ∃ b, n = .inner (kidsOf n) b := by
  cases n with
  | nil => cases h
  | leaf a => cases h
  | inner ks b => exact ⟨b, rfl⟩
theorem leaf_of {n : Nd} (h : (NT.asLeaf n).isSome = true) : items n = itemsOf n := by
  cases n with
  | nil => cases h
  | leaf a => rfl
  | inner ks b => cases h
theorem nil_of {n : Nd} (h1 : (NT.asLeaf n).isSome = false) (h2 : (NT.asInner n).isSome = false) : n = .nil := by
  cases n with
  | nil => rfl
  | leaf a => cases h1
  | inner ks b => cases h2
theorem kids_wf {h : Nat} {top : Bool} {n : Nd} (e : Wf h top n) (hh : h ≤ 100) (hi : (NT.asInner n).isSome = true) : 2 ≤ h ∧ (kidsOf n).length ≤ 8 ∧ items n = (kidsOf n).flatMap items ∧ ∀ k : Nat, k < (kidsOf n).length → Wf (h - 1) false ((kidsOf n).getD k .nil) := by
  obtain ⟨b, hb⟩ := inner_of hi
  rw [hb] at e
  cases h with
  | zero => exact e.elim
  | succ h =>
    have hi2 := items_inner e (by omega)
    obtain ⟨w1, w2, w3, w4, w5, w6⟩ := e
    exact ⟨by omega, w3, by rw [← hi2, ← hb], fun k hk => w6 _ (getD_in .nil hk)⟩
theorem p45 : vc45 := by
  unfold vc45
  simp only [eq_self, true_and, and_true, decide_eq_true_eq, decide_eq_false_iff_not, beq_iff_eq, beq_eq_false_iff_ne, bne_iff_ne, bne_eq_false_iff_eq, Bool.not_eq_true', Bool.not_eq_false', ne_eq, imp_true_iff, implies_true]
  rintro ⟨t, ⟨⟩⟩
  simp only [maxLen_eq, ka', la', d89]
  rintro ⟨hw, hl⟩
  generalize topT t = n at hw hl ⊢
  refine ⟨fun h => ⟨h, ?_⟩, fun h1 => ⟨fun h2 => ⟨h2, ?_⟩, fun h2 => ?_⟩⟩
  · rw [leaf_of h] at hl ⊢
    exact leafLoop _ _ (fun r => r = itemsOf n) (by simp; omega) (by simp)
  · obtain ⟨h, hh, w⟩ := hw.resolve_left (fun e => by rw [e] at h2; cases h2)
    obtain ⟨w1, w2, w3, w4⟩ := kids_wf w (by omega) h2
    rw [w3] at hl ⊢
    refine ⟨KidsAt (kidsOf n) [], fun z => (kidsOf n).length - z.1.toNat, ⟨0, Nat.zero_le _, rfl, rfl⟩, ?_⟩
    rintro i r ⟨k, hk, hi, hr⟩
    simp only at hi hr
    subst hi
    refine ⟨fun hlt => ?_, fun hge => by rw [hr, show k = (kidsOf n).length by omega, List.take_length, List.nil_append]⟩
    have hlt' : k < (kidsOf n).length := by omega
    have hp := kids_part hlt'
    obtain ⟨st1, st2⟩ := kids_step hlt' hr (by omega)
    have wk := w4 k hlt'
    have hrl : r.length = (((kidsOf n).take k).flatMap items).length := by rw [hr]; simp
    rw [toNat_cast]
    refine ⟨⟨by omega, hlt⟩, ?_⟩
    generalize hm : (kidsOf n).getD k .nil = m at wk hp st1 ⊢
    refine ⟨fun g1 => ⟨g1, ?_⟩, fun g1 => ⟨fun g2 => ⟨g2, ?_⟩, fun g2 => absurd (nil_of g1 g2) (wf_height wk).2.2⟩⟩
    · rw [leaf_of g1] at st1 hp
      exact leafLoop _ _ (fun r' => KidsAt (kidsOf n) [] (IntKind.i64.wrap ((k : Int) + 1), r', ()) ∧ (kidsOf n).length - (IntKind.i64.wrap ((k : Int) + 1)).toNat < (kidsOf n).length - ((k : Int)).toNat) (by omega) ⟨st1, st2⟩
    · obtain ⟨v1, v2, v3, v4⟩ := kids_wf wk (by omega) g2
      rw [v3] at st1 hp
      refine ⟨KidsAt (kidsOf m) r, fun z => (kidsOf m).length - z.1.toNat, ⟨0, Nat.zero_le _, rfl, by simp⟩, ?_⟩
      rintro i2 r2 ⟨k2, hk2, hi2, hr2⟩
      simp only at hi2 hr2
      subst hi2
      refine ⟨fun hlt2 => ?_, fun hge => by rw [hr2, show k2 = (kidsOf m).length by omega, List.take_length]; exact ⟨st1, st2⟩⟩
      have hlt2' : k2 < (kidsOf m).length := by omega
      have hp2 := kids_part hlt2'
      obtain ⟨su1, su2⟩ := kids_step hlt2' hr2 (by omega)
      have wk2 := v4 k2 hlt2'
      have hrl2 : r2.length = r.length + (((kidsOf m).take k2).flatMap items).length := by rw [hr2, List.length_append]
      rw [toNat_cast]
      refine ⟨⟨by omega, hlt2⟩, ?_⟩
      generalize hm2 : (kidsOf m).getD k2 .nil = m2 at wk2 hp2 su1 ⊢
      refine ⟨fun g3 => ⟨g3, ?_⟩, fun g3 => ⟨fun g4 => ?_, fun g4 => absurd (nil_of g3 g4) (wf_height wk2).2.2⟩⟩
      · rw [leaf_of g3] at su1 hp2
        exact leafLoop _ _ (fun r' => KidsAt (kidsOf m) r (IntKind.i64.wrap ((k2 : Int) + 1), r', ()) ∧ (kidsOf m).length - (IntKind.i64.wrap ((k2 : Int) + 1)).toNat < (kidsOf m).length - ((k2 : Int)).toNat) (by omega) ⟨su1, su2⟩
      · have := (kids_wf wk2 (by omega) g4).1
        omega
  · rw [nil_of h1 h2]
    rfl
end Go.Fr.C14
namespace Go.Fr.C14
open Go Go.Fr Go.Proofs
theorem fine_of {l : List Itm} (h : ∀ x ∈ l, checkI x = 0) : Fine l := fun i hi => by
  have := h i hi
  unfold checkI at this
  split at this
  · rename_i g
    simp [withinN] at g
    show 0 ≤ i.2.2.1.1 ∧ i.2.2.1.1 ≤ 1099511627776 ∧ 0 ≤ i.2.2.1.2.1 ∧ i.2.2.1.2.1 ≤ 1099511627776
    omega
  · cases this
theorem wf_inner_of {h : Nat} {top : Bool} {n : Nd} (e : Wf h top n) (hi : (NT.asInner n).isSome = true) : ∃ h' b, h = h' + 1 ∧ n = .inner (kidsOf n) b ∧ 1 ≤ h' ∧ (kidsOf n).length ≤ 8 ∧ ∀ k ∈ kidsOf n, Wf h' false k := by
  obtain ⟨b, hb⟩ := inner_of hi
  rw [hb] at e
  cases h with
  | zero => exact e.elim
  | succ h =>
    obtain ⟨w1, w2, w3, w4, w5, w6⟩ := e
    exact ⟨h, b, rfl, hb, w1, w3, w6⟩
theorem not_inner {n : Nd} (h : (NT.asInner n).isSome = false) (hn : NT.isNil n = false) : ∃ a, n = .leaf a := by
  cases n with
  | nil => cases hn
  | leaf a => exact ⟨a, rfl⟩
  | inner ks b => cases h
theorem findF_leaf (dim v bias : Int) (m : Nat) (a : Lf) (s : Sm) (vis : Int) : findF dim v bias (m + 1) (.leaf a) s vis = (findL dim v bias a.1 s, w64 (vis + 1)) := rfl
theorem findF_inner (dim v bias : Int) (m : Nat) (ks : List Nd) (b : Nx) (s : Sm) (vis : Int) : findF dim v bias (m + 1) (.inner ks b) s vis = findF dim v bias m (findK dim v bias ks s).2 (findK dim v bias ks s).1 (w64 (vis + 1)) := rfl
theorem findF_none (dim v bias : Int) (m : Nat) (s : Sm) (vis : Int) : findF dim v bias m .nil s vis = (s, vis) := by cases m <;> rfl
theorem findL_yes {dim v bias : Int} {i : Itm} {r : List Itm} {s : Sm} (h : reach v bias (sizeD (addS s (ofI i)) dim) = true) : findL dim v bias (i :: r) s = s := by
  unfold findL; rw [if_pos h]
theorem findL_no {dim v bias : Int} {i : Itm} {r : List Itm} {s : Sm} (h : reach v bias (sizeD (addS s (ofI i)) dim) = false) : findL dim v bias (i :: r) s = findL dim v bias r (addS s (ofI i)) := by
  conv => lhs; unfold findL
  rw [if_neg (by rw [h]; decide)]
theorem findK_yes {dim v bias : Int} {k : Nd} {r : List Nd} {s : Sm} (h : reach v bias (sizeD (addS s (sumOf k)) dim) = true) : findK dim v bias (k :: r) s = (s, k) := by
  unfold findK; rw [if_pos h]
theorem findK_no {dim v bias : Int} {k : Nd} {r : List Nd} {s : Sm} (h : reach v bias (sizeD (addS s (sumOf k)) dim) = false) : findK dim v bias (k :: r) s = findK dim v bias r (addS s (sumOf k)) := by
  conv => lhs; unfold findK
  rw [if_neg (by rw [h]; decide)]
theorem reach_gt {v bias e : Int} (h : e > v) : reach v bias e = true := by unfold reach; simp; omega
theorem reach_eq {v bias e : Int} (h : bias = 0) (h2 : e = v) : reach v bias e = true := by unfold reach; simp; omega
theorem reach_no {v bias e : Int} (h : ¬ e > v) (h2 : ¬ (bias = 0 ∧ e = v)) : reach v bias e = false := by unfold reach; simp; omega
theorem itemsOf_leaf (a : Lf) : itemsOf (.leaf a : Nd) = a.1 := rfl
theorem kidsOf_inner (ks : List Nd) (b : Nx) : kidsOf (.inner ks b : Nd) = ks := rfl
def LeafAt (dim v bias : Int) (l : List Itm) (s0 : Sm) (z : Int × Int × Int × Int × Int × Int × Int × Unit) : Prop :=
  ∃ k : Nat, k ≤ l.length ∧ z.1 = (k : Int) ∧ findL dim v bias (l.drop k) (z.2.1, (z.2.2.1, z.2.2.2.1, z.2.2.2.2.1, ()), z.2.2.2.2.2.1, z.2.2.2.2.2.2.1, ()) = findL dim v bias l s0
def NodeAt (dim v bias : Int) (ks : List Nd) (s0 : Sm) (z : Nd × Int × Int × Int × Int × Int × Int × Int × Unit) : Prop :=
  z.1 = .nil ∧ ∃ k : Nat, k ≤ ks.length ∧ z.2.1 = (k : Int) ∧ findK dim v bias (ks.drop k) (z.2.2.1, (z.2.2.2.1, z.2.2.2.2.1, z.2.2.2.2.2.1, ()), z.2.2.2.2.2.2.1, z.2.2.2.2.2.2.2.1, ()) = findK dim v bias ks s0
def SeekAt (dim v bias : Int) (t : Nd) (z : Nd × Int × Int × Int × Int × Int × Int × Int × Unit) : Prop :=
  ∃ m h : Nat, h ≤ m ∧ m ≤ 101 ∧ (z.1 = .nil ∨ Wf h true z.1) ∧ findF dim v bias m z.1 (z.2.1, (z.2.2.1, z.2.2.2.1, z.2.2.2.2.1, ()), z.2.2.2.2.2.1, z.2.2.2.2.2.2.1, ()) z.2.2.2.2.2.2.2.1 = findF dim v bias 101 t zS 0
theorem seek_high {n : Nd} {h : Nat} {b : Bool} (w : n = .nil ∨ Wf h b n) : (heightOf n).toNat ≤ h := by
  rcases w with rfl | w
  · exact Nat.zero_le _
  · rw [(wf_height w).1]; omega
theorem p35 : vc35 := by
  unfold vc35
  simp only [eq_self, true_and, and_true, decide_eq_true_eq, decide_eq_false_iff_not, beq_iff_eq, beq_eq_false_iff_ne, bne_iff_ne, bne_eq_false_iff_eq, Bool.not_eq_true', Bool.not_eq_false', ne_eq, imp_true_iff, implies_true]
  rintro ⟨t, dim, v, bias, ⟨⟩⟩
  simp only [maxLen_eq, ka', la', d89]
  intro hw
  have bad : (dim < 0 ∨ dim > 3 ∨ v < 0 ∨ v > sizeD (sumOf (topT t)) dim ∨ (bias ≠ 0 ∧ bias ≠ 1)) → ((0, (0, (0, 0, 0, ()), 0, 0, ()), 0, ()), 1, ()) = findT t dim v bias := fun h => by
    unfold findT; rw [if_pos h]; rfl
  refine ⟨fun h => bad (.inl h), fun g0 => ⟨fun h => bad (.inr (.inl h)), fun g1 => ⟨fun h => bad (.inr (.inr (.inl h))), fun g2 => ⟨by omega, fun h => bad (.inr (.inr (.inr (.inl h)))), fun g3 => ?_⟩⟩⟩⟩
  refine ⟨fun b0 => ⟨fun b1 => bad (.inr (.inr (.inr (.inr ⟨b0, b1⟩)))), fun b1 => ?_⟩, fun b0 => ?_⟩
  all_goals
    have hb : bias = 0 ∨ bias = 1 := by omega
    clear bad
    have res : ∀ (s : Sm) (vis : Int), (s, vis) = findF dim v bias 101 (topT t) zS 0 → ((s.1, s, vis, ()), 0, ()) = findT t dim v bias := fun s vis h => by
      unfold findT
      rw [if_neg (by omega)]
      unfold findP
      rw [← h]
    generalize topT t = n0 at hw res ⊢
    generalize findT t dim v bias = R at res ⊢
    have hz : ∃ h : Nat, h ≤ 101 ∧ (n0 = .nil ∨ Wf h true n0) := by
      rcases hw with e | ⟨h, h1, w⟩
      · exact ⟨0, by omega, .inl e⟩
      · exact ⟨h, by omega, .inr w⟩
    obtain ⟨h00, hz1, hz2⟩ := hz
    refine ⟨SeekAt dim v bias n0, fun z => (heightOf z.1).toNat, ⟨101, h00, hz1, Nat.le_refl _, hz2, rfl⟩, ?_⟩
    clear hz1 hz2 hw
    rintro a n b c d e f vis ⟨m, h, hm, hm2, hw, hf⟩
    simp only at hw hf
    refine ⟨fun hn => ⟨fun hi => ⟨fun hl => ⟨hl, ?_⟩, fun hl => absurd (nil_of hl hi) (isNil_f.1 hn)⟩, fun hi => ⟨hi, ?_⟩⟩, fun hn => ⟨fun hl => ?_, fun hl => ?_⟩⟩
    · obtain ⟨lf, rfl⟩ := not_inner hi hn
      have w := hw.resolve_left (isNil_f.1 hn)
      obtain ⟨m, rfl⟩ : ∃ m', m = m' + 1 := ⟨m - 1, by have := (wf_height w).2.1; omega⟩
      rw [findF_leaf] at hf
      rw [itemsOf_leaf]
      have hl8 : lf.1.length ≤ 8 := by
        cases h with
        | zero => exact w.elim
        | succ h => exact w.2.2.1
      generalize lf.1 = l at hf hl8 ⊢
      clear w hw hm hm2
      refine ⟨LeafAt dim v bias l (n, (b, c, d, ()), e, f, ()), fun z => l.length - z.1.toNat, ⟨0, Nat.zero_le _, rfl, rfl⟩, ?_⟩
      rintro i n' b' c' d' e' f' ⟨k, hk, hi2, hs⟩
      simp only at hi2 hs
      subst hi2
      refine ⟨fun g => ?_, fun g => ?_⟩
      · have hlt : k < l.length := by omega
        have hw64 : IntKind.i64.wrap ((k : Int) + 1) = ((k + 1 : Nat) : Int) := wrap_succ (by omega)
        rw [toNat_cast, hw64]
        rw [drop_cons zItm hlt] at hs
        generalize l.getD k zItm = it at hs ⊢
        have stop : reach v bias (sizeD (addS (n', (b', c', d', ()), e', f', ()) (ofI it)) dim) = true → ((n', (n', (b', c', d', ()), e', f', ()), IntKind.i64.wrap (vis + 1), ()), 0, ()) = R := fun hr => by
          rw [findL_yes hr] at hs
          rw [← hs] at hf
          exact res _ _ hf
        have go : reach v bias (sizeD (addS (n', (b', c', d', ()), e', f', ()) (ofI it)) dim) = false → ∀ s : Sm, s = addS (n', (b', c', d', ()), e', f', ()) (ofI it) → LeafAt dim v bias l (n, (b, c, d, ()), e, f, ()) (((k + 1 : Nat) : Int), s.1, s.2.1.1, s.2.1.2.1, s.2.1.2.2.1, s.2.2) := fun hr s hs2 => ⟨k + 1, hlt, rfl, by
          rw [findL_no hr, ← hs2] at hs
          exact hs⟩
        have dec : ∀ x : Int × Int × Int × Int × Int × Int × Unit, l.length - (((k + 1 : Nat) : Int)).toNat < l.length - ((k : Int)).toNat := fun _ => by simp only [toNat_cast]; omega
        refine ⟨⟨by omega, g⟩, by omega, fun g4 => stop (reach_gt g4), fun g4 => ⟨fun g5 => ⟨fun g6 => stop (reach_eq g5 g6), fun g6 => ⟨go (reach_no g4 (fun hh => g6 hh.2)) _ rfl, dec (0, 0, 0, 0, 0, 0, ())⟩⟩, fun g5 => ⟨go (reach_no g4 (fun hh => g5 hh.1)) _ rfl, dec (0, 0, 0, 0, 0, 0, ())⟩⟩⟩
      · have hke : k = l.length := by omega
        rw [hke, List.drop_length] at hs
        have hs : ((n', (b', c', d', ()), e', f', ()) : Sm) = findL dim v bias l (n, (b, c, d, ()), e, f, ()) := hs
        rw [← hs] at hf
        exact res _ _ hf
    · have w := hw.resolve_left (isNil_f.1 hn)
      obtain ⟨h', bx, rfl, ea, h1, k8, wk⟩ := wf_inner_of w hi
      obtain ⟨m, rfl⟩ : ∃ m', m = m' + 1 := ⟨m - 1, by omega⟩
      rw [ea, findF_inner] at hf
      have ha : heightOf a = ((h' + 1 : Nat) : Int) := (wf_height w).1
      generalize kidsOf a = ks at hf k8 wk ⊢
      refine ⟨NodeAt dim v bias ks (n, (b, c, d, ()), e, f, ()), fun z => ks.length - z.2.1.toNat, ⟨rfl, 0, Nat.zero_le _, rfl, rfl⟩, ?_⟩
      rintro kn i n' b' c' d' e' f' ⟨hkn, k, hk, hi2, hs⟩
      simp only at hkn hi2 hs
      subst hi2 hkn
      refine ⟨fun g => ?_, fun g => ?_⟩
      · have hlt : k < ks.length := by omega
        have hw64 : IntKind.i64.wrap ((k : Int) + 1) = ((k + 1 : Nat) : Int) := wrap_succ (by omega)
        rw [toNat_cast, hw64]
        rw [drop_cons .nil hlt] at hs
        have wkk := wk _ (getD_in .nil hlt)
        generalize ks.getD k .nil = it at hs wkk ⊢
        have stop : reach v bias (sizeD (addS (n', (b', c', d', ()), e', f', ()) (sumOf it)) dim) = true → SeekAt dim v bias n0 (it, n', b', c', d', e', f', IntKind.i64.wrap (vis + 1), ()) := fun hr => ⟨m, h', by omega, by omega, .inr (wf_top wkk), by
          rw [findK_yes hr] at hs
          rw [← hs] at hf
          exact hf⟩
        have low : (heightOf it).toNat < (heightOf a).toNat := by
          rw [ha, (wf_height wkk).1]; omega
        have go : reach v bias (sizeD (addS (n', (b', c', d', ()), e', f', ()) (sumOf it)) dim) = false → ∀ s : Sm, s = addS (n', (b', c', d', ()), e', f', ()) (sumOf it) → NodeAt dim v bias ks (n, (b, c, d, ()), e, f, ()) (.nil, ((k + 1 : Nat) : Int), s.1, s.2.1.1, s.2.1.2.1, s.2.1.2.2.1, s.2.2) := fun hr s hs2 => ⟨rfl, k + 1, hlt, rfl, by
          rw [findK_no hr, ← hs2] at hs
          exact hs⟩
        have dec : ks.length - (((k + 1 : Nat) : Int)).toNat < ks.length - ((k : Int)).toNat := by simp only [toNat_cast]; omega
        refine ⟨⟨by omega, g⟩, by omega, fun g4 => ⟨stop (reach_gt g4), low⟩, fun g4 => ⟨fun g5 => ⟨fun g6 => ⟨stop (reach_eq g5 g6), low⟩, fun g6 => ⟨go (reach_no g4 (fun hh => g6 hh.2)) _ rfl, dec⟩⟩, fun g5 => ⟨go (reach_no g4 (fun hh => g5 hh.1)) _ rfl, dec⟩⟩⟩
      · have hke : k = ks.length := by omega
        rw [hke, List.drop_length] at hs
        have hs : (((n', (b', c', d', ()), e', f', ()), .nil) : Sm × Nd) = findK dim v bias ks (n, (b, c, d, ()), e, f, ()) := hs
        rw [← hs] at hf
        exact ⟨⟨m, 0, Nat.zero_le _, by omega, .inl rfl, hf⟩, by show (heightOf (NT.nil : Nd)).toNat < (heightOf a).toNat; rw [ha]; show 0 < _; omega⟩
    · rw [isNil_t.1 hn] at hl; cases hl
    · rw [isNil_t.1 hn, findF_none] at hf
      exact res (n, (b, c, d, ()), e, f, ()) vis hf
theorem flat_at {ks : List Nd} {k j : Nat} (h : k < ks.length) (hj : j < (items (ks.getD k .nil)).length) : (ks.flatMap items).getD (((ks.take k).flatMap items).length + j) zItm = (items (ks.getD k .nil)).getD j zItm := by
  have hs : ks = ks.take k ++ (ks.getD k .nil :: ks.drop (k + 1)) := by
    conv => lhs; rw [← List.take_append_drop k ks]
    rw [drop_cons .nil h]
  generalize ks.getD k .nil = x at hs hj ⊢
  generalize ks.take k = a at hs ⊢
  rw [hs, List.flatMap_append, List.flatMap_cons, getD_app_r _ (by omega), getD_app_l _ (by omega)]
  congr 1
  omega
def DownAt (it : Itm) (z : Int × Nd × Unit) : Prop := ∃ h : Nat, h ≤ 100 ∧ Wf h true z.2.1 ∧ 0 ≤ z.1 ∧ z.1 < ((items z.2.1).length : Int) ∧ Fine (items z.2.1) ∧ (items z.2.1).length ≤ 100000 ∧ (items z.2.1).getD z.1.toNat zItm = it
theorem p36 : vc36 := by
  unfold vc36
  simp only [eq_self, true_and, and_true, decide_eq_true_eq, decide_eq_false_iff_not, beq_iff_eq, beq_eq_false_iff_ne, bne_iff_ne, bne_eq_false_iff_eq, Bool.not_eq_true', Bool.not_eq_false', ne_eq, imp_true_iff, implies_true]
  rintro ⟨t, i0, ⟨⟩⟩
  simp only [maxLen_eq, ka', la', d89]
  rintro ⟨hw, hl, hc⟩
  have hf := fine_of hc
  have so := sum_top hw hf hl
  rw [so.1]
  have bad : (i0 < 0 ∨ i0 ≥ ((items (topT t)).length : Int)) → ((0, 0, (0, 0, 0, ()), 0, ByteArray.empty, ()), 1, ()) = atT t i0 := fun h => by
    unfold atT; rw [if_pos h]; rfl
  refine ⟨fun h => bad (.inl h), fun g0 => ⟨fun h => bad (.inr h), fun g1 => ?_⟩⟩
  have res : ∀ it, it = (items (topT t)).getD i0.toNat zItm → (it, 0, ()) = atT t i0 := fun it h => by
    unfold atT; rw [if_neg (by omega), h]
  have hz : DownAt ((items (topT t)).getD i0.toNat zItm) (i0, topT t, ()) := by
    rcases hw with e | ⟨h, h1, w⟩
    · exfalso
      rw [e, items_nil] at g1
      simp at g1
      omega
    · exact ⟨h, h1, w, by omega, by show i0 < ((items (topT t)).length : Int); omega, hf, hl, rfl⟩
  generalize (items (topT t)).getD i0.toNat zItm = it0 at hz res
  refine ⟨DownAt it0, fun z => (heightOf z.2.1).toNat, hz, ?_⟩
  rintro i n ⟨h, h1, w, i1, i2, nf, nl, hit⟩
  simp only at w i1 i2 nf nl hit
  have hn : NT.isNil n = false := isNil_f.2 (wf_height w).2.2
  refine ⟨fun hi => ?_, fun hi => ⟨hi, ?_⟩⟩
  · obtain ⟨a, rfl⟩ := not_inner hi hn
    rw [items_leaf] at i2 hit
    rw [itemsOf_leaf]
    exact ⟨rfl, rfl, ⟨i1, i2⟩, res _ hit⟩
  · obtain ⟨h', bx, rfl, ea, p1, k8, wk⟩ := wf_inner_of w hi
    have ei : items n = (kidsOf n).flatMap items := by
      rw [ea] at w ⊢
      exact items_inner w (by omega)
    have hh : heightOf n = ((h' + 1 : Nat) : Int) := (wf_height w).1
    rw [ei] at i2 nf nl hit
    generalize kidsOf n = ks at i2 nf nl hit k8 wk ⊢
    refine ⟨fun z => z.2.1 = n ∧ ∃ k : Nat, k ≤ ks.length ∧ z.2.2.1 = (k : Int) ∧ 0 ≤ z.1 ∧ z.1 + (((ks.take k).flatMap items).length : Int) = i, fun z => ks.length - z.2.2.1.toNat, ⟨rfl, 0, Nat.zero_le _, rfl, i1, by show i + 0 = i; omega⟩, ?_⟩
    rintro j n' m ⟨hn', k, hk, hm, j0, hj⟩
    simp only at hn' hm j0 hj
    subst hn' hm
    refine ⟨fun g => ?_, fun g => ?_⟩
    · have hlt : k < ks.length := by omega
      have hw64 : IntKind.i64.wrap ((k : Int) + 1) = ((k + 1 : Nat) : Int) := wrap_succ (by omega)
      rw [toNat_cast, hw64]
      have mem := getD_in (.nil : Nd) hlt
      have wkk := wk _ mem
      have sk := sum_wf h' false _ (by omega) wkk (fine_mem nf mem) (Nat.le_trans (len_mem mem) nl)
      have hlm := len_mem mem
      have tk : ((ks.take (k + 1)).flatMap items).length = ((ks.take k).flatMap items).length + (items (ks.getD k .nil)).length := by
        rw [take_one .nil hlt, List.flatMap_append, List.length_append]
        simp
      have fa := fun j => flat_at (j := j) hlt
      have fm := fine_mem nf mem
      rw [sk.1]
      generalize ks.getD k .nil = kid at wkk hlm tk fa fm ⊢
      have hws : IntKind.i64.wrap (j - ((items kid).length : Int)) = j - ((items kid).length : Int) := wrap_id (by omega) (by omega)
      rw [hws]
      refine ⟨⟨by omega, g⟩, fun g4 => ⟨⟨rfl, k + 1, hlt, rfl, by simp only []; omega, by simp only []; omega⟩, by simp only [toNat_cast]; omega⟩, fun g4 => ⟨⟨h', by omega, wf_top wkk, j0, by show j < ((items kid).length : Int); omega, fm, by show (items kid).length ≤ _; omega, ?_⟩, ?_⟩⟩
      · show (items kid).getD j.toNat zItm = it0
        rw [← fa j.toNat (by omega), ← hit]
        congr 1
        omega
      · show (heightOf kid).toNat < (heightOf n').toNat
        rw [hh, (wf_height wkk).1]; omega
    · exfalso
      have hke : k = ks.length := by omega
      rw [hke, List.take_length] at hj
      omega
end Go.Fr.C14
namespace Go.Fr.C14
open Go Go.Fr Go.Proofs
set_option maxRecDepth 100000
def hs19 : List (Nat × Nat × Hint) := []
def nm19 : List Nat := [3000000024]
noncomputable def E19 : Env := env tab [(17, cSizes), (42, cFits), (32, cLen), (34, cTreeOf), (35, cFind), (36, cAt), (44, cBetween), (31, cRow), (43, cReplace)] [] gl hs19 nm19
def vc19 : Prop :=
 ∀
 (x :
 Option (Option (Nd × Unit) × Unit) ×
 (Int × Int × Unit) ×
 (Int × Int × Unit) × Option (Int × List Inl × Unit) × Unit),
 let y :=  replT (treeOf x.fst) (findT (treeOf x.fst) (0 : Int) x.snd.fst.fst (0 : Int)).fst.fst  (if  (findT (treeOf x.fst) (0 : Int) x.snd.fst.fst (0 : Int)).fst.fst <  IntKind.wrap IntKind.i64  ((findT (treeOf x.fst) (0 : Int) x.snd.fst.snd.fst (1 : Int)).fst.fst + (1 : Int)) then  IntKind.wrap IntKind.i64 ((findT (treeOf x.fst) (0 : Int) x.snd.fst.snd.fst (1 : Int)).fst.fst + (1 : Int))  else (findT (treeOf x.fst) (0 : Int) x.snd.fst.fst (0 : Int)).fst.fst)  (rowF  (IntKind.wrap IntKind.i64  (x.snd.snd.fst.snd.fst +  IntKind.wrap IntKind.i64  (IntKind.wrap IntKind.i64  ((findT (treeOf x.fst) (0 : Int) x.snd.fst.snd.fst (1 : Int)).fst.snd.fst.snd.fst.fst +  (atT (treeOf x.fst)  (findT (treeOf x.fst) (0 : Int) x.snd.fst.snd.fst  (1 : Int)).fst.fst).fst.snd.snd.fst.fst) -  x.snd.fst.snd.fst)))  (findT (treeOf x.fst) (0 : Int) x.snd.fst.fst (0 : Int)).fst.snd.fst.snd.fst.fst  (List.filter (inI x.snd.snd.fst.fst x.snd.snd.fst.snd.fst) (allI x.snd.snd.snd.fst)));
 let y_1 :=  replT (treeOf x.fst) (findT (treeOf x.fst) (0 : Int) x.snd.fst.fst (0 : Int)).fst.fst  (if  (findT (treeOf x.fst) (0 : Int) x.snd.fst.fst (0 : Int)).fst.fst <  (findT (treeOf x.fst) (0 : Int) x.snd.fst.snd.fst (1 : Int)).fst.fst then  (findT (treeOf x.fst) (0 : Int) x.snd.fst.snd.fst (1 : Int)).fst.fst  else (findT (treeOf x.fst) (0 : Int) x.snd.fst.fst (0 : Int)).fst.fst)  (rowF x.snd.snd.fst.snd.fst (findT (treeOf x.fst) (0 : Int) x.snd.fst.fst (0 : Int)).fst.snd.fst.snd.fst.fst  (List.filter (inI x.snd.snd.fst.fst x.snd.snd.fst.snd.fst) (allI x.snd.snd.snd.fst)));
 let y_2 := x.snd.snd;
 let y_3 := x.snd.fst;
 let y_4 := treeOf x.fst;
 let y_5 := (sumOf (topT y_4)).snd.fst.fst;
 let y_6 := atT y_4 (findT y_4 (0 : Int) y_3.snd.fst (1 : Int)).fst.fst;
 let y_7 := (findT y_4 (0 : Int) y_3.fst (0 : Int)).fst.snd.fst.snd.fst.fst;
 let y_8 := !fitsW y_3 y_5;
 let y_9 := y_3.snd.fst;
 let y_10 := y_6.snd.fst == (0 : Int);
 let y_11 := updW x.fst y_3 y_2.fst y_2.snd.fst;
 let y_12 := List.filter (inI y_2.fst.fst y_2.fst.snd.fst) (allI y_2.snd.fst);
 let y_13 := IntKind.wrap IntKind.i64 (y_5 - y_9) != IntKind.wrap IntKind.i64 (lenI y_2.snd.fst - y_2.fst.snd.fst);
 let y_14 := y_2.snd.fst;
 let y_15 := y_3.fst != y_2.fst.fst;
 let y_16 := y_2.fst;
 let y_17 := y_1.snd.fst != (0 : Int);
 let y_18 := y.snd.fst != (0 : Int);
 okTre y_4 ∧ List.length (allI y_14) ≤ (10000 : Nat) ∧ shortL (allI y_14) →
 True ∧
 True ∧
 (y_8 = true → (none, (1 : Int), ()) = y_11) ∧
 (y_8 = false →
 True ∧
 True ∧
 ((!fitsW y_16 (lenI y_14)) = true → (none, (1 : Int), ()) = y_11) ∧
 ((!fitsW y_16 (lenI y_14)) = false →
 (y_15 = true → (none, (1 : Int), ()) = y_11) ∧
 (y_15 = false →
 True ∧
 (y_13 = true → (none, (1 : Int), ()) = y_11) ∧
 (y_13 = false →
 True ∧
 WfN (topT y_4) ∧
 True ∧
 WfN (topT y_4) ∧
 ((0 : Int) ≤ (0 : Int) ∧ (0 : Int) < (↑(3 : Nat) : Int)) ∧
 True ∧
 okTre y_4 ∧
 (y_10 = true →
 ((0 : Int) ≤ (0 : Int) ∧ (0 : Int) < (↑(3 : Nat) : Int)) ∧
 ((0 : Int) ≤ (0 : Int) ∧ (0 : Int) < (↑(3 : Nat) : Int)) ∧
 True ∧
 List.length (allI y_14) ≤ (10000 : Nat) ∧
 (List.length y_12 ≤ (10000 : Nat) ∧ shortL y_12) ∧
 (okTre y_4 ∧
 List.length
 (rowF
 (IntKind.wrap IntKind.i64
 (y_16.snd.fst +
 IntKind.wrap IntKind.i64
 (IntKind.wrap IntKind.i64
 ((findT y_4 (0 : Int) y_9
 (1 :
 Int)).fst.snd.fst.snd.fst.fst +
 y_6.fst.snd.snd.fst.fst) -
 y_9)))
 y_7 y_12) ≤
 (100000 : Nat)) ∧
 (y_18 = true → (none, y.snd) = y_11) ∧
 (y_18 = false →
 (some (y.fst, ()), (0 : Int), ()) = y_11)) ∧
 (y_10 = false →
 True ∧
 List.length (allI y_14) ≤ (10000 : Nat) ∧
 (List.length y_12 ≤ (10000 : Nat) ∧ shortL y_12) ∧
 (okTre y_4 ∧
 List.length (rowF y_16.snd.fst y_7 y_12) ≤ (100000 : Nat)) ∧
 (y_17 = true → (none, y_1.snd) = y_11) ∧
 (y_17 = false →
 (some (y_1.fst, ()), (0 : Int), ()) = y_11))))))
theorem vcEq19 : fnVC E19 Tryd.f19 (bodyOf Tryd.f19) cUpdate = vc19 := by kernel_rfl
def hs43 : List (Nat × Nat × Hint) := []
def nm43 : List Nat := [3000000024]
noncomputable def E43 : Env := env tab [(37, cSum), (30, cTreeNew), (66, cTop), (70, cSplit), (59, cJoin)] [] gl hs43 nm43
def vc43 : Prop :=
 ∀
 (x :
 Option (Nd × Unit) ×
 Int × Int × List Itm × Unit),
 let y := x.snd.snd;
 let y_1 := x.snd.fst;
 let y_2 := x.fst;
 let y_3 := (sumOf (topT y_2)).fst;
 let y_4 := splitN (topT y_2) y_1;
 let y_5 :=  IntKind.wrap IntKind.i64  (IntKind.wrap IntKind.i64 (y_3 - IntKind.wrap IntKind.i64 (y.fst - y_1)) + (↑(List.length y.snd.fst) : Int));
 let y_6 := replT y_2 y_1 y.fst y.snd.fst;
 let y_7 := y.snd.fst;
 let y_8 := (splitN y_4.snd (IntKind.wrap IntKind.i64 (y.fst - y_1))).snd;
 let y_9 := decide (y.fst > y_3);
 let y := decide (y.fst < y_1);
 let y_10 := join y_4.fst (List.getD (optL (newT y_7).fst) (0 : Nat) (Ty.dflt t122)).fst;
 let y_11 := (newT y_7).snd.fst != (0 : Int);
 okTre y_2 ∧ List.length y_7 ≤ (100000 : Nat) →
 True ∧
 (decide (y_1 < (0 : Int)) = true → (none, (1 : Int), ()) = y_6) ∧
 (decide (y_1 < (0 : Int)) = false →
 (y = true → (none, (1 : Int), ()) = y_6) ∧
 (y = false →
 (y_9 = true → (none, (1 : Int), ()) = y_6) ∧
 (y_9 = false →
 List.length y_7 ≤ (100000 : Nat) ∧
 (y_11 = true → (none, (newT y_7).snd) = y_6) ∧
 (y_11 = false →
 (decide (y_5 > (30000 : Int)) = true → (none, (5 : Int), ()) = y_6) ∧
 (decide (y_5 > (30000 : Int)) = false →
 True ∧
 (WfN (topT y_2) ∧ okIts (items (topT y_2))) ∧
 (WfN y_4.snd ∧ okIts (items y_4.snd)) ∧
 Option.isSome (newT y_7).fst = true ∧
 (WfN y_4.fst ∧ WfN (List.getD (optL (newT y_7).fst) (0 : Nat) (Ty.dflt t122)).fst) ∧
 (WfN y_10 ∧ WfN y_8) ∧ (some (join y_10 y_8, ()), (0 : Int), ()) = y_6)))))
theorem vcEq43 : fnVC E43 Tryd.f43 (bodyOf Tryd.f43) cReplace = vc43 := by kernel_rfl
def hs70 : List (Nat × Nat × Hint) := [(0, 12, ⟨[.slot 1 t3, .slot 57 t3], [7, 55, 56], [], []⟩)]
def nm70 : List Nat := [3000000024]
noncomputable def E70 (nn : Nat) : Env := env tab [(60, cLeafOf), (68, cSumOf), (70, cSplit.cut muSplit nn), (94, cRowN), (59, cJoin)] [] gl hs70 nm70
def vc70 (nn : Nat) : Prop :=
 ∀ (x : Nd × Int × Unit),
 let y :=  (List.getD (optL (NT.asInner x.fst)) (0 : Nat)  (([], (0, zS, ())) : List Nd × Nx)).fst;
 let y_1 := x.snd.fst;
 let y_2 := NT.asLeaf x.fst;
 let y_3 := NT.asInner x.fst;
 let y_4 := x.fst;
 let y_5 := Option.isSome y_3;
 let y_6 := (List.getD (optL y_2) (0 : Nat) (([], zS, ()) : Lf)).fst;
 let y_7 := ((splitN y_4 y_1).fst, (splitN y_4 y_1).snd, ());
 let y_8 := decide (y_1 ≥ (↑(List.length y_6) : Int));
 let y_9 := List.drop (Int.toNat y_1) y_6;
 let y_10 := List.take (Int.toNat y_1) y_6;
 let y_11 := (↑(List.length y) : Int);
 (WfN y_4 ∧ okIts (items y_4)) ∧ muSplit x < nn + (1 : Nat) →
 (Option.isSome y_2 = true →
 (decide (y_1 ≤ (0 : Int)) = true → Option.isSome y_2 = true ∧ (NT.nil, NT.ofLeaf y_2, ()) = y_7) ∧
 (decide (y_1 ≤ (0 : Int)) = false →
 Option.isSome y_2 = true ∧
 (y_8 = true → Option.isSome y_2 = true ∧ (NT.ofLeaf y_2, (NT.nil : Nd), ()) = y_7) ∧
 (y_8 = false →
 Option.isSome y_2 = true ∧
 ((0 : Int) ≤ y_1 ∧ y_1 ≤ y_1 ∧ y_1 ≤ (↑(List.length y_6) : Int)) ∧
 List.length y_10 ≤ maxLen ∧
 Option.isSome (some (mkLf y_10)) = true ∧
 Option.isSome y_2 = true ∧
 ((0 : Int) ≤ y_1 ∧ y_1 ≤ (↑(List.length y_6) : Int)) ∧
 List.length y_9 ≤ maxLen ∧
 Option.isSome (some (mkLf y_9)) = true ∧
 (NT.ofLeaf (some (mkLf y_10)), NT.ofLeaf (some (mkLf y_9)), ()) = y_7))) ∧
 (Option.isSome y_2 = false →
 (Option.isSome y_3 = true →
 y_5 = true ∧
 ((0 : Int) = (0 : Int) ∧ y_1 = y_1 ∧ y_3 = y_3 ∧ y = y ∧ y_11 = y_11) ∧
 ∃ (Z : Int × Int × Unit → Prop),
 ∃ (μ : Int × Int × Unit → Nat),
 Z (y_1, (0 : Int), ()) ∧
 ∀ (a a_1 : Int),
 let y_12 :=  List.getD y (Int.toNat a_1)  (NT.nil : Nd);
 let y_13 := IntKind.wrap IntKind.i64 (a_1 + (1 : Int));
 let y_14 := List.take (Int.toNat a_1) y;
 let y_15 := (a, a_1, ());
 let y_16 := List.drop (Int.toNat y_13) y;
 let y_17 := (sumOf y_12).fst;
 let y_18 := (IntKind.wrap IntKind.i64 (a - y_17), y_13, ());
 Z y_15 →
 (decide (a_1 < y_11) = true →
 ((0 : Int) ≤ a_1 ∧ a_1 < y_11) ∧
 True ∧
 (decide (a ≤ y_17) = true →
 ((WfN y_12 ∧ okIts (items y_12)) ∧ muSplit (y_12, a, ()) < nn) ∧
 y_5 = true ∧
 ((0 : Int) ≤ a_1 ∧ a_1 ≤ a_1 ∧ a_1 ≤ y_11) ∧
 List.length y_14 ≤ (100000 : Nat) ∧
 (WfN (rowN y_14) ∧ WfN (splitN y_12 a).fst) ∧
 y_5 = true ∧
 ((0 : Int) ≤ y_13 ∧ y_13 ≤ y_11) ∧
 List.length y_16 ≤ (100000 : Nat) ∧
 (WfN (splitN y_12 a).snd ∧ WfN (rowN y_16)) ∧
 (join (rowN y_14) (splitN y_12 a).fst,
 join (splitN y_12 a).snd (rowN y_16), ()) =
 y_7) ∧
 (decide (a ≤ y_17) = false →
 (y_13 = y_13 ∧
 IntKind.wrap IntKind.i64 (a - y_17) = IntKind.wrap IntKind.i64 (a - y_17) ∧
 y_3 = y_3 ∧ y = y ∧ y_11 = y_11) ∧
 Z y_18 ∧ μ y_18 < μ y_15)) ∧
 (decide (a_1 < y_11) = false → y_5 = true ∧ (NT.ofInner y_3, (NT.nil : Nd), ()) = y_7)) ∧
 (Option.isSome y_3 = false → (NT.nil, (NT.nil : Nd), ()) = y_7))
theorem vcEq70 (nn : Nat) : fnVC (E70 nn) Tryd.f70 (bodyOf Tryd.f70) (cSplit.cut muSplit (nn + 1)) = vc70 nn := by kernel_rfl
end Go.Fr.C14
