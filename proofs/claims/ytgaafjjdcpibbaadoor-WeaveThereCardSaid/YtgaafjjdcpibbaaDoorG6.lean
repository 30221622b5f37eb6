/-
  Texts on which the proofs of the seat's statements stand: a symbolic walk, its soundness, the functions' conditions and their proofs (6). Conditions: none.
-/
import Derived.Test.YtgaafjjdcpibbaaDoorG5
namespace Go.Fr.C14
open Go Go.Fr Go.Proofs
theorem ka (a : Nd) (d : List Nd × Nx) (hd : d = ([], (0, zS, ()))) : ((optL (NT.asInner a)).getD 0 d).1 = kidsOf a := by
  subst hd
  cases a <;> rfl
theorem ka' (a : Nd) : ((optL (NT.asInner a)).getD 0 (([], (0, zS, ())) : List Nd × Nx)).1 = kidsOf a := ka a _ rfl
theorem la' (a : Nd) : ((optL (NT.asLeaf a)).getD 0 (([], zS, ()) : Lf)).1 = itemsOf a := by
  cases a <;> rfl
theorem p90 : vc90 := by
  unfold vc90
  rintro ⟨n, ⟨⟩⟩ -
  simp only [withinN]
  refine ⟨fun h => ?_, fun h => ?_⟩
  · rw [show decide (0 ≤ n) = true from by simp at h ⊢; omega]; rfl
  · rw [show decide (0 ≤ n) = false from by simp at h ⊢; omega]; rfl
theorem w1 : IntKind.i64.wrap (0 + 1) = 1 := by decide
theorem w2 : IntKind.i64.wrap (1 + 1) = 2 := by decide
theorem w3 : IntKind.i64.wrap (2 + 1) = 3 := by decide
theorem w4 : IntKind.i64.wrap (3 + 1) = 4 := by decide
theorem p58 : vc58 := by
  unfold vc58
  rintro ⟨x, ⟨⟩⟩ -
  simp only [w1, w2, w3, w4]
  unfold checkI
  cases withinN x.2.2.2.1 <;> cases withinN x.2.2.1.1 <;> cases withinN x.2.2.1.2.1 <;> cases withinN x.2.2.1.2.2.1 <;> simp
theorem p69 : vc69 := by
  unfold vc69
  rintro ⟨x, ⟨⟩⟩ -
  rfl
theorem p67 : vc67 := by
  unfold vc67
  simp only [eq_self, true_and, and_true, decide_eq_true_eq, decide_eq_false_iff_not, beq_iff_eq, beq_eq_false_iff_ne, bne_iff_ne, bne_eq_false_iff_eq, Bool.not_eq_true', Bool.not_eq_false', ne_eq, imp_true_iff, implies_true]
  rintro ⟨a, b, ⟨⟩⟩ -
  simp only [w1, w2, w3, w4]
  have yes : b.1 > 0 → (a.1 = 0 ∨ b.2.2.1 > a.2.2.1) → (IntKind.i64.wrap (a.1 + b.1), (IntKind.i64.wrap (a.2.1.1 + b.2.1.1), IntKind.i64.wrap (a.2.1.2.1 + b.2.1.2.1), IntKind.i64.wrap (a.2.1.2.2.1 + b.2.1.2.2.1), ()), b.2.2.1, IntKind.i64.wrap (a.1 + b.2.2.2.1), ()) = addS a b := fun h1 h2 => by
    unfold addS
    rw [if_pos ⟨h1, h2⟩]
    rfl
  have no : ¬ (b.1 > 0 ∧ (a.1 = 0 ∨ b.2.2.1 > a.2.2.1)) → (IntKind.i64.wrap (a.1 + b.1), (IntKind.i64.wrap (a.2.1.1 + b.2.1.1), IntKind.i64.wrap (a.2.1.2.1 + b.2.1.2.1), IntKind.i64.wrap (a.2.1.2.2.1 + b.2.1.2.2.1), ()), a.2.2.1, a.2.2.2.1, ()) = addS a b := fun h1 => by
    unfold addS
    rw [if_neg h1]
    rfl
  (repeat' (first | apply And.intro | intro _))
  all_goals first
    | (exfalso; omega)
    | exact yes (by assumption) (.inl (by assumption))
    | exact yes (by assumption) (.inr (by assumption))
    | exact no (fun hh => hh.2.elim (by assumption) (by assumption))
    | exact no (fun hh => absurd hh.1 (by assumption))
    | omega
    | decide
theorem p75 : vc75 := by
  unfold vc75
  rintro ⟨x, ⟨⟩⟩ -
  cases x with
  | nil => exact ⟨fun h => (by cases h), fun _ => ⟨fun h => (by cases h), fun _ => rfl⟩⟩
  | leaf a => exact ⟨fun _ => rfl, fun h => by cases h⟩
  | inner ks b => exact ⟨fun h => (by cases h), fun _ => ⟨fun _ => ⟨rfl, rfl⟩, fun h => by cases h⟩⟩
theorem p68 : vc68 := by
  unfold vc68
  try simp only [eq_self, true_and, and_true, decide_eq_true_eq, decide_eq_false_iff_not, beq_iff_eq, beq_eq_false_iff_ne, bne_iff_ne, bne_eq_false_iff_eq, Bool.not_eq_true', Bool.not_eq_false', ne_eq, imp_true_iff, implies_true]
  rintro ⟨x, ⟨⟩⟩ -
  cases x with
  | nil => exact ⟨fun h => (by cases h), fun _ => ⟨fun h => (by cases h), fun _ => rfl⟩⟩
  | leaf a => exact ⟨fun _ => ⟨rfl, rfl⟩, fun h => by cases h⟩
  | inner ks b => exact ⟨fun h => (by cases h), fun _ => ⟨fun _ => ⟨rfl, rfl⟩, fun h => by cases h⟩⟩
theorem p60 : vc60 := by
  unfold vc60
  rintro ⟨x, ⟨⟩⟩ h
  exact ⟨h, rfl⟩
theorem allS_take {l : List Itm} {k : Nat} (d : Itm) (h : k < l.length) : allS (l.take (k + 1)) = addS (allS (l.take k)) (ofI (l.getD k d)) := by
  rw [take_one d h]
  simp [allS]
theorem sums_take {l : List Nd} {k : Nat} (h : k < l.length) : sums (l.take (k + 1)) = addS (sums (l.take k)) (sumOf (l.getD k .nil)) := by
  rw [take_one .nil h]
  simp [sums]
def Z7 (s : Sm) (a b c d e f : Int) : Prop := s = (a, (b, c, d, ()), e, f, ())
theorem d89 : Ty.dflt t89 = zItm := rfl
theorem p93 : vc93 := by
  unfold vc93
  simp only [eq_self, true_and, and_true, decide_eq_true_eq, decide_eq_false_iff_not, beq_iff_eq, beq_eq_false_iff_ne, bne_iff_ne, bne_eq_false_iff_eq, Bool.not_eq_true', Bool.not_eq_false', ne_eq, imp_true_iff, implies_true]
  rintro ⟨l, ⟨⟩⟩
  simp only [maxLen_eq, d89]
  intro hl
  refine ⟨fun z => ∃ k : Nat, k ≤ l.length ∧ z.1 = (k : Int) ∧ ((z.2.1, (z.2.2.1, z.2.2.2.1, z.2.2.2.2.1, ()), z.2.2.2.2.2.1, z.2.2.2.2.2.2.1, ()) : Sm) = allS (l.take k), fun z => l.length - z.1.toNat, ⟨0, Nat.zero_le _, rfl, rfl⟩, ?_⟩
  rintro i a b c d e f ⟨k, hk, hi, hs⟩
  simp only at hi hs
  subst hi
  rw [hs]
  refine ⟨fun h => ?_, fun h => ?_⟩
  · have hlt : k < l.length := by omega
    have hw : IntKind.i64.wrap ((k : Int) + 1) = ((k + 1 : Nat) : Int) := wrap_succ (by omega)
    have ht := allS_take zItm hlt
    rw [toNat_cast, hw]
    simp only [toNat_cast]
    exact ⟨⟨by omega, h⟩, ⟨k + 1, hlt, rfl, by rw [ht]⟩, by omega⟩
  · have hke : k = l.length := by omega
    rw [hke, List.take_length]
theorem p92 : vc92 := by
  unfold vc92
  simp only [eq_self, true_and, and_true, decide_eq_true_eq, decide_eq_false_iff_not, beq_iff_eq, beq_eq_false_iff_ne, bne_iff_ne, bne_eq_false_iff_eq, Bool.not_eq_true', Bool.not_eq_false', ne_eq, imp_true_iff, implies_true]
  rintro ⟨l, ⟨⟩⟩
  simp only [maxLen_eq]
  rintro ⟨hl0, hl⟩
  refine ⟨by omega, ?_⟩
  refine ⟨fun z => ∃ k : Nat, k ≤ l.length ∧ z.1 = (k : Int) ∧ ((z.2.1, (z.2.2.1, z.2.2.2.1, z.2.2.2.2.1, ()), z.2.2.2.2.2.1, z.2.2.2.2.2.2.1, ()) : Sm) = sums (l.take k), fun z => l.length - z.1.toNat, ⟨0, Nat.zero_le _, rfl, rfl⟩, ?_⟩
  rintro i a b c d e f ⟨k, hk, hi, hs⟩
  simp only at hi hs
  subst hi
  rw [hs]
  refine ⟨fun h => ?_, fun h => ?_⟩
  · have hlt : k < l.length := by omega
    have hw : IntKind.i64.wrap ((k : Int) + 1) = ((k + 1 : Nat) : Int) := wrap_succ (by omega)
    have ht := sums_take hlt
    rw [toNat_cast, hw]
    simp only [toNat_cast]
    have Zf : ∃ k' : Nat, k' ≤ l.length ∧ ((k + 1 : Nat) : Int) = (k' : Int) ∧ addS (sums (l.take k)) (sumOf (l.getD k .nil)) = sums (l.take k') := ⟨k + 1, hlt, rfl, ht.symm⟩
    have d : l.length - (k + 1) < l.length - k := by omega
    repeat' apply And.intro
    all_goals first
      | omega
      | exact Zf
      | exact d
  · have hke : k = l.length := by omega
    rw [hke, List.take_length]
    rfl
theorem half {n : Nat} (h : n ≤ 100000) : IntKind.i64.wrap (Int.tdiv (n : Int) 2) = ((n / 2 : Nat) : Int) := by
  rw [Int.tdiv_eq_ediv_of_nonneg (by omega), wrap_id (by omega) (by omega)]
  omega
theorem p102 : vc102 := by
  unfold vc102
  simp only [eq_self, true_and, and_true, decide_eq_true_eq, decide_eq_false_iff_not, beq_iff_eq, beq_eq_false_iff_ne, bne_iff_ne, bne_eq_false_iff_eq, Bool.not_eq_true', Bool.not_eq_false', ne_eq, imp_true_iff, implies_true]
  rintro ⟨l, ⟨⟩⟩
  simp only [maxLen_eq]
  rintro ⟨h1, h2⟩
  rw [half h2]
  simp only [toNat_cast]
  have e8 : ((l.length : Int) ≤ 8) = (l.length ≤ 8) := by rw [eq_iff_iff]; omega
  rw [e8]
  refine ⟨fun h => ⟨⟨h1, by omega⟩, rfl, ?_⟩, fun h => ?_⟩
  · unfold raise; rw [if_pos h]; rfl
  · have t1 : (l.take (l.length / 2)).length = l.length / 2 := by simp; omega
    have t2 : (l.drop (l.length / 2)).length = l.length - l.length / 2 := by simp
    have er : [NT.ofInner (some (l.take (l.length / 2), mkNx (l.take (l.length / 2)))), NT.ofInner (some (l.drop (l.length / 2), mkNx (l.drop (l.length / 2))))] = raise l := by
      unfold raise; rw [if_neg h]; rfl
    rw [t1, t2]
    (repeat' (first | apply And.intro | intro _))
    all_goals first
      | exact er
      | rfl
      | omega
theorem p104 : vc104 := by
  unfold vc104
  simp only [eq_self, true_and, and_true, decide_eq_true_eq, decide_eq_false_iff_not, beq_iff_eq, beq_eq_false_iff_ne, bne_iff_ne, bne_eq_false_iff_eq, Bool.not_eq_true', Bool.not_eq_false', ne_eq, imp_true_iff, implies_true]
  rintro ⟨l, ⟨⟩⟩
  simp only [maxLen_eq]
  intro h2
  rw [half h2]
  simp only [toNat_cast]
  have e8 : ((l.length : Int) ≤ 8) = (l.length ≤ 8) := by rw [eq_iff_iff]; omega
  rw [e8]
  refine ⟨fun h => ⟨by omega, rfl, ?_⟩, fun h => ?_⟩
  · unfold spread; rw [if_pos h]; rfl
  · have t1 : (l.take (l.length / 2)).length = l.length / 2 := by simp; omega
    have t2 : (l.drop (l.length / 2)).length = l.length - l.length / 2 := by simp
    have er : [NT.ofLeaf (some (mkLf (l.take (l.length / 2)))), NT.ofLeaf (some (mkLf (l.drop (l.length / 2))))] = spread l := by
      unfold spread; rw [if_neg h]; rfl
    rw [t1, t2]
    (repeat' (first | apply And.intro | intro _))
    all_goals first
      | exact er
      | rfl
      | omega
theorem p103 : vc103 := by
  unfold vc103
  try simp only [eq_self, true_and, and_true, decide_eq_true_eq, decide_eq_false_iff_not, beq_iff_eq, beq_eq_false_iff_ne, bne_iff_ne, bne_eq_false_iff_eq, Bool.not_eq_true', Bool.not_eq_false', ne_eq, imp_true_iff, implies_true]
  rintro ⟨a, b, ⟨⟩⟩
  simp only [maxLen_eq]
  rintro ⟨h1, h2⟩
  have hw : IntKind.i64.wrap ((a.length : Int) + (b.length : Int)) = (a.length : Int) + (b.length : Int) := wrap_id (by omega) (by omega)
  rw [hw]
  simp only [show Int.toNat 0 = 0 from rfl, List.replicate_zero, List.length_nil, List.nil_append]
  (repeat' (first | apply And.intro | intro _))
  all_goals first
    | omega
    | rfl
    | trivial
theorem p94 : vc94 := by
  unfold vc94
  simp only [eq_self, true_and, and_true, decide_eq_true_eq, decide_eq_false_iff_not, beq_iff_eq, beq_eq_false_iff_ne, bne_iff_ne, bne_eq_false_iff_eq, Bool.not_eq_true', Bool.not_eq_false', ne_eq, imp_true_iff, implies_true]
  rintro ⟨l, ⟨⟩⟩
  simp only [maxLen_eq]
  intro h1
  unfold rowN
  refine ⟨fun h => by rw [if_pos (by omega)], fun h => ⟨fun h2 => ⟨by omega, by rw [if_neg (by omega), if_pos (by omega)]; rfl⟩, fun h2 => ⟨by omega, rfl, by rw [if_neg (by omega), if_neg (by omega)]; rfl⟩⟩⟩
theorem p66 : vc66 := by
  unfold vc66
  rintro ⟨s, ⟨⟩⟩ -
  cases s with
  | none => exact ⟨fun _ => rfl, fun h => by cases h⟩
  | some s => exact ⟨fun h => (by cases h), fun _ => ⟨rfl, rfl⟩⟩
theorem p37 : vc37 := by
  unfold vc37
  intro x _
  exact ⟨trivial, trivial, rfl⟩
theorem p46 : vc46 := by
  unfold vc46
  intro x _
  exact ⟨trivial, trivial, rfl⟩
theorem meld_gt {h k : Nat} {a b : Nd} (h100 : h ≤ 100) (k100 : k ≤ 100) (wa : Wf h true a) (wb : Wf k true b) (hgt : k < h) :
    (NT.asInner a).isSome = true ∧ 2 ≤ (kidsOf a).length ∧ (kidsOf a).length ≤ 8 ∧ Wf (h - 1) true ((kidsOf a).getD ((kidsOf a).length - 1) .nil) ∧
    meld a b = raise ((kidsOf a).take ((kidsOf a).length - 1) ++ meld ((kidsOf a).getD ((kidsOf a).length - 1) .nil) b) ∧ 1 ≤ (meld ((kidsOf a).getD ((kidsOf a).length - 1) .nil) b).length ∧ (meld ((kidsOf a).getD ((kidsOf a).length - 1) .nil) b).length ≤ 2 := by
  obtain ⟨ea, pa, na⟩ := wf_height wa
  obtain ⟨eb, pb, nb⟩ := wf_height wb
  obtain ⟨h', rfl⟩ : ∃ h', h = h' + 1 := ⟨h - 1, by omega⟩
  cases a with
  | nil => exact absurd rfl na
  | leaf a => have := wa.1; omega
  | inner ks bx =>
    have wa' := wa
    obtain ⟨w1, w2, w3, w4, w5, w6⟩ := wa
    simp only [if_true] at w2
    have wl := wf_top (w6 _ (getD_in .nil (show ks.length - 1 < ks.length by omega)))
    have el := (wf_height wl).1
    have e2 : meld (ks.getD (ks.length - 1) .nil) b = meldF (h' + k) (ks.getD (ks.length - 1) .nil) b := by
      unfold meld
      rw [el, eb]
      rfl
    have e1 : meld (.inner ks bx) b = meldF (h' + k + 1) (.inner ks bx) b := by
      unfold meld
      rw [ea, eb]
      congr 1
      omega
    obtain ⟨⟨i1, i2, _⟩, _⟩ := meld_ok (h' + k) h' k _ b (Nat.le_refl _) (by omega) k100 wl wb
    refine ⟨rfl, w2, w3, wl, ?_, ?_, ?_⟩
    · show _ = raise (ks.take (ks.length - 1) ++ meld (ks.getD (ks.length - 1) .nil) b)
      rw [e1, e2]
      show (if heightOf (.inner ks bx) > heightOf b then _ else _) = _
      rw [if_pos (by rw [ea, eb]; omega)]
      rfl
    · show 1 ≤ (meld (ks.getD (ks.length - 1) .nil) b).length
      rw [e2]; exact i1
    · show (meld (ks.getD (ks.length - 1) .nil) b).length ≤ 2
      rw [e2]; exact i2
theorem meld_lt {h k : Nat} {a b : Nd} (h100 : h ≤ 100) (k100 : k ≤ 100) (wa : Wf h true a) (wb : Wf k true b) (hgt : h < k) :
    (NT.asInner b).isSome = true ∧ 2 ≤ (kidsOf b).length ∧ (kidsOf b).length ≤ 8 ∧ Wf (k - 1) true ((kidsOf b).getD 0 .nil) ∧
    meld a b = raise (meld a ((kidsOf b).getD 0 .nil) ++ (kidsOf b).drop 1) ∧ 1 ≤ (meld a ((kidsOf b).getD 0 .nil)).length ∧ (meld a ((kidsOf b).getD 0 .nil)).length ≤ 2 := by
  obtain ⟨ea, pa, na⟩ := wf_height wa
  obtain ⟨eb, pb, nb⟩ := wf_height wb
  obtain ⟨k', rfl⟩ : ∃ k', k = k' + 1 := ⟨k - 1, by omega⟩
  cases b with
  | nil => exact absurd rfl nb
  | leaf b => have := wb.1; omega
  | inner ks bx =>
    obtain ⟨w1, w2, w3, w4, w5, w6⟩ := wb
    simp only [if_true] at w2
    have wl := wf_top (w6 _ (getD_in .nil (show 0 < ks.length by omega)))
    have el := (wf_height wl).1
    have e2 : meld a (ks.getD 0 .nil) = meldF (h + k') a (ks.getD 0 .nil) := by
      unfold meld
      rw [el, ea]
      rfl
    have e1 : meld a (.inner ks bx) = meldF (h + k' + 1) a (.inner ks bx) := by
      unfold meld
      rw [ea, eb]
      congr 1
    obtain ⟨⟨i1, i2, _⟩, _⟩ := meld_ok (h + k') h k' a _ (Nat.le_refl _) h100 (by omega) wa wl
    refine ⟨rfl, w2, w3, wl, ?_, ?_, ?_⟩
    · show _ = raise (meld a (ks.getD 0 .nil) ++ ks.drop 1)
      rw [e1, e2]
      show (if heightOf a > heightOf (.inner ks bx) then _ else _) = _
      rw [if_neg (by rw [ea, eb]; omega), if_pos (by rw [ea, eb]; omega)]
      rfl
    · show 1 ≤ (meld a (ks.getD 0 .nil)).length
      rw [e2]; exact i1
    · show (meld a (ks.getD 0 .nil)).length ≤ 2
      rw [e2]; exact i2
theorem meld_eq {h : Nat} {a b : Nd} (wa : Wf h true a) (wb : Wf h true b) :
    ((NT.asLeaf a).isSome = true ∧ (NT.asLeaf b).isSome = true ∧ (itemsOf a).length ≤ 8 ∧ (itemsOf b).length ≤ 8 ∧ meld a b = spread (itemsOf a ++ itemsOf b)) ∨
    ((NT.asLeaf a).isSome = false ∧ (NT.asInner a).isSome = true ∧ (NT.asInner b).isSome = true ∧ 2 ≤ (kidsOf a).length ∧ (kidsOf a).length ≤ 8 ∧ (kidsOf b).length ≤ 8 ∧ meld a b = raise (kidsOf a ++ kidsOf b)) := by
  obtain ⟨ea, pa, na⟩ := wf_height wa
  obtain ⟨eb, pb, nb⟩ := wf_height wb
  obtain ⟨h', rfl⟩ : ∃ h', h = h' + 1 := ⟨h - 1, by omega⟩
  have e1 : meld a b = if (NT.asLeaf a).isSome = true then spread (itemsOf a ++ itemsOf b) else raise (kidsOf a ++ kidsOf b) := by
    have : meld a b = meldF (h' + 1 + h' + 1) a b := by
      unfold meld
      rw [ea, eb]
      congr 1
    rw [this]
    show (if heightOf a > heightOf b then _ else _) = _
    rw [if_neg (by rw [ea, eb]; omega), if_neg (by rw [ea, eb]; omega)]
  rw [e1]
  cases a with
  | nil => exact absurd rfl na
  | leaf a =>
    have h0 := wa.1
    subst h0
    cases b with
    | nil => exact absurd rfl nb
    | inner ks bx => exact absurd wb.1 (by decide)
    | leaf b => exact .inl ⟨rfl, rfl, wa.2.2.1, wb.2.2.1, rfl⟩
  | inner ks bx =>
    cases b with
    | nil => exact absurd rfl nb
    | leaf b => have := wb.1; have := wa.1; omega
    | inner ls by_ =>
      have := wa.2.1
      simp only [if_true] at this
      exact .inr ⟨rfl, rfl, rfl, this, wa.2.2.1, wb.2.2.1, rfl⟩
theorem p91 (n : Nat) : vc91 n := by
  unfold vc91
  simp only [eq_self, true_and, and_true, decide_eq_true_eq, decide_eq_false_iff_not, beq_iff_eq, beq_eq_false_iff_ne, bne_iff_ne, bne_eq_false_iff_eq, Bool.not_eq_true', Bool.not_eq_false', ne_eq, imp_true_iff, implies_true]
  rintro ⟨a, b, ⟨⟩⟩
  simp only [maxLen_eq, ka', la']
  rintro ⟨⟨h, k, h100, k100, wa, wb⟩, hmu⟩
  obtain ⟨ea, pa, na⟩ := wf_height wa
  obtain ⟨eb, pb, nb⟩ := wf_height wb
  have hmu : h + k < n + 1 := by
    unfold muMeld at hmu
    rw [ea, eb] at hmu
    exact hmu
  rw [ea, eb]
  refine ⟨fun h1 => ?_, fun h1 => ⟨fun h2 => ?_, fun h2 => ?_⟩⟩
  · obtain ⟨m1, m2, m3, m4, m5, m6, m7⟩ := meld_gt h100 k100 wa wb (by omega)
    have hw : IntKind.i64.wrap (((kidsOf a).length : Int) - 1) = (((kidsOf a).length - 1 : Nat) : Int) := by rw [wrap_id (by omega) (by omega)]; omega
    rw [hw]
    simp only [toNat_cast]
    have mu : muMeld ((kidsOf a).getD ((kidsOf a).length - 1) .nil, b, ()) < n := by
      unfold muMeld
      rw [(wf_height m4).1, eb]
      simp only [Int.toNat_natCast]
      omega
    have pre : ∃ h' k' : Nat, h' ≤ 100 ∧ k' ≤ 100 ∧ Wf h' true ((kidsOf a).getD ((kidsOf a).length - 1) .nil) ∧ Wf k' true b := ⟨h - 1, k, by omega, k100, m4, wb⟩
    have tl : ((kidsOf a).take ((kidsOf a).length - 1)).length = (kidsOf a).length - 1 := by rw [List.length_take]; omega
    simp only [List.length_append, tl]
    have fin := m5.symm
    (repeat' (first | apply And.intro | intro _))
    all_goals first
      | exact m1
      | exact pre
      | exact mu
      | exact fin
      | omega
  · obtain ⟨m1, m2, m3, m4, m5, m6, m7⟩ := meld_lt h100 k100 wa wb (by omega)
    simp only [show Int.toNat 0 = 0 from rfl, show Int.toNat 1 = 1 from rfl]
    have mu : muMeld (a, (kidsOf b).getD 0 .nil, ()) < n := by
      unfold muMeld
      rw [(wf_height m4).1, ea]
      simp only [Int.toNat_natCast]
      omega
    have pre : ∃ h' k' : Nat, h' ≤ 100 ∧ k' ≤ 100 ∧ Wf h' true a ∧ Wf k' true ((kidsOf b).getD 0 .nil) := ⟨h, k - 1, h100, by omega, wa, m4⟩
    simp only [List.length_append, List.length_drop]
    have fin := m5.symm
    (repeat' (first | apply And.intro | intro _))
    all_goals first
      | exact m1
      | exact pre
      | exact mu
      | exact fin
      | omega
  · have hk : h = k := by omega
    subst hk
    rcases meld_eq wa wb with ⟨m1, m2, m3, m4, m5⟩ | ⟨m1, m2, m3, m4, m5, m6, m7⟩
    · have hw : IntKind.i64.wrap (((itemsOf a).length : Int) + ((itemsOf b).length : Int)) = ((itemsOf a).length : Int) + ((itemsOf b).length : Int) := wrap_id (by omega) (by omega)
      rw [hw]
      simp only [show Int.toNat 0 = 0 from rfl, List.replicate_zero, List.length_nil, List.nil_append, List.length_append]
      have fin := m5.symm
      refine ⟨fun _ => ?_, fun hh => by rw [m1] at hh; cases hh⟩
      clear h1 h2 hmu ea eb na nb wa wb
      repeat' apply And.intro
      all_goals first
        | exact m1
        | exact m2
        | exact fin
        | omega
    · simp only [List.length_append]
      have fin := m7.symm
      refine ⟨fun hh => (by rw [m1] at hh; cases hh), fun _ => ?_⟩
      clear h1 h2 hmu ea eb na nb wa wb
      repeat' apply And.intro
      all_goals first
        | exact m2
        | exact m3
        | exact fin
        | omega
theorem p59 : vc59 := by
  unfold vc59
  simp only [eq_self, true_and, and_true, decide_eq_true_eq, decide_eq_false_iff_not, beq_iff_eq, beq_eq_false_iff_ne, bne_iff_ne, bne_eq_false_iff_eq, Bool.not_eq_true', Bool.not_eq_false', ne_eq, imp_true_iff, implies_true]
  rintro ⟨a, b, ⟨⟩⟩
  simp only [maxLen_eq]
  rintro ⟨wa, wb⟩
  unfold join
  refine ⟨fun h => by rw [if_pos h], fun h1 => ⟨fun h2 => by rw [if_neg (by rw [h1]; decide), if_pos h2], fun h2 => ?_⟩⟩
  rw [if_neg (by rw [h1]; decide), if_neg (by rw [h2]; decide)]
  obtain ⟨h, h100, wa⟩ := wa.resolve_left (isNil_f.1 h1)
  obtain ⟨k, k100, wb⟩ := wb.resolve_left (isNil_f.1 h2)
  have em : meld a b = meldF (h + k) a b := by
    unfold meld
    rw [(wf_height wa).1, (wf_height wb).1]
    rfl
  obtain ⟨⟨m1, m2, m3, m4, m5⟩, _, _⟩ := meld_ok (h + k) h k a b (Nat.le_refl _) h100 k100 wa wb
  rw [← em] at m1 m2
  refine ⟨⟨h, k, h100, k100, wa, wb⟩, fun h3 => ⟨by omega, by rw [if_pos (by omega)]; rfl⟩, fun h3 => ⟨by omega, rfl, by rw [if_neg (by omega)]; rfl⟩⟩
theorem p30 : vc30 := by
  unfold vc30
  simp only [eq_self, true_and, and_true, decide_eq_true_eq, decide_eq_false_iff_not, beq_iff_eq, beq_eq_false_iff_ne, bne_iff_ne, bne_eq_false_iff_eq, Bool.not_eq_true', Bool.not_eq_false', ne_eq, imp_true_iff, implies_true]
  rintro ⟨l, ⟨⟩⟩
  simp only [maxLen_eq, d89]
  intro hl
  refine ⟨fun h => by unfold newT; rw [if_pos (by omega)], fun h => ?_⟩
  have hl3 : l.length ≤ 30000 := by omega
  have fin : ∀ t, t = newT l ↔ t = if (l.all fun x => decide (checkI x = 0)) = true then (some (buildT l, ()), 0, ()) else (none, 1, ()) := fun t => by
    unfold newT
    rw [if_neg (by omega)]
  simp only [fin]
  refine ⟨fun z => ∃ k : Nat, k ≤ l.length ∧ z.2.1 = (k : Int) ∧ z.1 = build l ((k + 7) / 8) ∧ ∀ j, j < k → checkI (l.getD j zItm) = 0, fun z => l.length - z.2.1.toNat, ⟨0, Nat.zero_le _, rfl, rfl, fun j hj => by omega⟩, ?_⟩
  rintro root i ⟨k, hk, hi, hr, hc⟩
  simp only at hi hr
  subst hi
  refine ⟨fun h1 => ?_, fun h1 => ?_⟩
  · have hlt : k < l.length := by omega
    have hw : IntKind.i64.wrap ((k : Int) + 1) = ((k + 1 : Nat) : Int) := wrap_succ (by omega)
    rw [toNat_cast, hw]
    simp only [toNat_cast]
    have dec : l.length - (k + 1) < l.length - k := by omega
    refine ⟨⟨by omega, h1⟩, fun h2 => ?_, fun h2 => ⟨by decide, fun h3 => ?_, fun h3 => ⟨⟨k + 1, hlt, rfl, ?_, ?_⟩, dec⟩⟩⟩
    · have hna : (l.all fun x => decide (checkI x = 0)) = false := by
        rw [List.all_eq_false]
        refine ⟨l.getD k zItm, getD_in zItm hlt, ?_⟩
        simpa using h2
      rw [hna, if_neg (by decide)]
      have : checkI (l.getD k zItm) = 1 := by
        unfold checkI at h2 ⊢
        split at h2
        · exact absurd rfl h2
        · rename_i hh
          rw [if_neg hh]
      rw [this]
    · have hk8 : k % 8 = 0 := by
        rw [Int.tmod_eq_emod_of_nonneg (by omega)] at h3
        omega
      have hws : IntKind.i64.wrap ((l.length : Int) - (k : Int)) = (l.length : Int) - (k : Int) := wrap_id (by omega) (by omega)
      rw [hws]
      have hm : (if (l.length : Int) - (k : Int) < 8 then (l.length : Int) - (k : Int) else 8) = ((min 8 (l.length - k) : Nat) : Int) := by
        split <;> omega
      rw [hm]
      simp only [toNat_cast, List.length_replicate, List.length_drop]
      have hdr : (List.replicate (min 8 (l.length - k)) ((0, 0, (0, 0, 0, ()), 0, ByteArray.empty, ()) : Itm)).drop (l.length - k) = [] := by
        rw [List.drop_eq_nil_iff, List.length_replicate]; omega
      rw [hdr, List.append_nil]
      have htk : (l.drop k).take (min 8 (l.length - k)) = (l.drop k).take 8 := by
        by_cases h8 : 8 ≤ l.length - k
        · rw [show min 8 (l.length - k) = 8 by omega]
        · rw [show min 8 (l.length - k) = l.length - k by omega, List.take_of_length_le (by simp), List.take_of_length_le (by simp; omega)]
      rw [htk]
      have hlen : ((l.drop k).take 8).length = min 8 (l.length - k) := by rw [List.length_take, List.length_drop]
      rw [hlen]
      obtain ⟨b1, b2⟩ := build_ok l hl ((k + 7) / 8) (by omega)
      have wl : WfN (NT.ofLeaf (some (mkLf ((l.drop k).take 8)))) := .inr ⟨1, by omega, wf_leaf (by rw [hlen]; simp; omega) (by rw [hlen]; omega)⟩
      have ej : join root (NT.ofLeaf (some (mkLf ((l.drop k).take 8)))) = build l ((k + 1 + 7) / 8) := by
        have e1 : (k + 1 + 7) / 8 = (k + 7) / 8 + 1 := by omega
        have e2 : 8 * ((k + 7) / 8) = k := by omega
        rw [e1]
        show _ = join (build l ((k + 7) / 8)) (mkLeaf ((l.drop (8 * ((k + 7) / 8))).take 8))
        rw [e2, hr]
        rfl
      rw [ej]
      have hc' : ∀ j, j < k + 1 → checkI (l.getD j zItm) = 0 := fun j hj => by
        by_cases e : j = k
        · subst e; exact h2
        · exact hc j (by omega)
      refine ⟨⟨by omega, by omega, by omega, by omega⟩, ⟨by omega, by omega⟩, by omega, rfl, ⟨by rw [hr]; exact b1, wl⟩, ⟨k + 1, hlt, rfl, rfl, hc'⟩, dec⟩
    · have hk8 : ¬ k % 8 = 0 := by
        rw [Int.tmod_eq_emod_of_nonneg (by omega)] at h3
        omega
      rw [hr, show (k + 1 + 7) / 8 = (k + 7) / 8 by omega]
    · intro j hj
      by_cases e : j = k
      · subst e; exact h2
      · exact hc j (by omega)
  · have hke : k = l.length := by omega
    subst hke
    have ha : (l.all fun x => decide (checkI x = 0)) = true := by
      rw [List.all_eq_true]
      intro x hx
      obtain ⟨j, hj, e⟩ := List.getElem_of_mem hx
      have := hc j hj
      rw [getD_of zItm hj, e] at this
      exact decide_eq_true this
    rw [if_pos ha, hr]
    rfl
end Go.Fr.C14
namespace Go.Fr.C14
open Go Go.Fr Go.Proofs
set_option maxRecDepth 100000
def hs7 : List (Nat × Nat × Hint) := [(0, 4, ⟨[.slot 20 t3], [18, 19], [], []⟩)]
def nm7 : List Nat := [3000000024]
noncomputable def E7 : Env := env tab [] [] gl hs7 nm7
def vc7 : Prop :=
 ∀ (x : Int × List Inl × Unit),
 List.length x.snd.fst ≤ maxLen →
 (decide (x.fst < (0 : Int)) = true → true = longW x.fst x.snd.fst) ∧
 (decide (x.fst < (0 : Int)) = false →
 (decide (x.fst > (300 : Int)) = true → true = longW x.fst x.snd.fst) ∧
 (decide (x.fst > (300 : Int)) = false →
 (decide ((↑(List.length x.snd.fst) : Int) > (60 : Int)) = true → true = longW x.fst x.snd.fst) ∧
 (decide ((↑(List.length x.snd.fst) : Int) > (60 : Int)) = false →
 ((0 : Int) = (0 : Int) ∧
 x.snd.fst = x.snd.fst ∧ (↑(List.length x.snd.fst) : Int) = (↑(List.length x.snd.fst) : Int)) ∧
 ∃ (Z : Int × Unit → Prop),
 ∃ (μ : Int × Unit → Nat),
 Z ((0 : Int), ()) ∧
 ∀ (a : Int),
 Z (a, ()) →
 (decide (a < (↑(List.length x.snd.fst) : Int)) = true →
 ((0 : Int) ≤ a ∧ a < (↑(List.length x.snd.fst) : Int)) ∧
 (decide
 ((↑(ByteArray.size
 (List.getD x.snd.fst (Int.toNat a)
 (Ty.dflt t57)).snd.snd.snd.snd.fst) :
 Int) >
 (200 : Int)) =
 true →
 true = longW x.fst x.snd.fst) ∧
 (decide
 ((↑(ByteArray.size
 (List.getD x.snd.fst (Int.toNat a)
 (Ty.dflt t57)).snd.snd.snd.snd.fst) :
 Int) >
 (200 : Int)) =
 false →
 (IntKind.wrap IntKind.i64 (a + (1 : Int)) =
 IntKind.wrap IntKind.i64 (a + (1 : Int)) ∧
 x.snd.fst = x.snd.fst ∧
 (↑(List.length x.snd.fst) : Int) = (↑(List.length x.snd.fst) : Int)) ∧
 Z (IntKind.wrap IntKind.i64 (a + (1 : Int)), ()) ∧
 μ (IntKind.wrap IntKind.i64 (a + (1 : Int)), ()) < μ (a, ()))) ∧
 (decide (a < (↑(List.length x.snd.fst) : Int)) = false → false = longW x.fst x.snd.fst))))
theorem vcEq7 : fnVC E7 Tryd.f7 (bodyOf Tryd.f7) cLong = vc7 := by kernel_rfl
def hs8 : List (Nat × Nat × Hint) := []
def nm8 : List Nat := [3000000024]
noncomputable def E8 : Env := env tab [(9, cNew), (11, cWeave), (12, cOut), (14, cIn), (21, cHeightW)] [] gl hs8 nm8
def vc8 : Prop :=
 ∀ (x : Unit),
 True →
 (List.length [((7 : Int), (1 : Int), (0 : Int), (0 : Int), (ByteArray.mk #[(120 : UInt8), (121 : UInt8)]), ())] ≤
 maxLen ∧
 shortL [((7 : Int), (1 : Int), (0 : Int), (0 : Int), (ByteArray.mk #[(120 : UInt8), (121 : UInt8)]), ())]) ∧
 (List.length
 (allI
 (newI (4 : Int)
 [((7 : Int), (1 : Int), (0 : Int), (0 : Int), (ByteArray.mk #[(120 : UInt8), (121 : UInt8)]),
 ())]).fst) ≤
 (10000 : Nat) ∧
 shortL
 (allI
 (newI (4 : Int)
 [((7 : Int), (1 : Int), (0 : Int), (0 : Int), (ByteArray.mk #[(120 : UInt8), (121 : UInt8)]),
 ())]).fst)) ∧
 WfN
 (topT
 (treeOf
 (weaveI
 (newI (4 : Int)
 [((7 : Int), (1 : Int), (0 : Int), (0 : Int), (ByteArray.mk #[(120 : UInt8), (121 : UInt8)]),
 ())]).fst))) ∧
 WfN
 (topT
 (treeOf
 (weaveI
 (newI (4 : Int)
 [((7 : Int), (1 : Int), (0 : Int), (0 : Int), (ByteArray.mk #[(120 : UInt8), (121 : UInt8)]),
 ())]).fst))) ∧
 okTre
 (treeOf
 (weaveI
 (newI (4 : Int)
 [((7 : Int), (1 : Int), (0 : Int), (0 : Int), (ByteArray.mk #[(120 : UInt8), (121 : UInt8)]),
 ())]).fst)) ∧
 (((newI (4 : Int)
 [((7 : Int), (1 : Int), (0 : Int), (0 : Int), (ByteArray.mk #[(120 : UInt8), (121 : UInt8)]),
 ())]).snd.fst ==
 (0 : Int)) =
 true →
 (((outW
 (weaveI
 (newI (4 : Int)
 [((7 : Int), (1 : Int), (0 : Int), (0 : Int),
 (ByteArray.mk #[(120 : UInt8), (121 : UInt8)]), ())]).fst)
 (1 : Int) (0 : Int)).snd.fst ==
 (0 : Int)) =
 true →
 (((outW
 (weaveI
 (newI (4 : Int)
 [((7 : Int), (1 : Int), (0 : Int), (0 : Int),
 (ByteArray.mk #[(120 : UInt8), (121 : UInt8)]), ())]).fst)
 (1 : Int) (1 : Int)).snd.fst ==
 (0 : Int)) =
 true →
 (((inW
 (weaveI
 (newI (4 : Int)
 [((7 : Int), (1 : Int), (0 : Int), (0 : Int),
 (ByteArray.mk #[(120 : UInt8), (121 : UInt8)]), ())]).fst)
 (2 : Int)).snd.snd.fst ==
 (0 : Int)) =
 true →
 (((outW
 (weaveI
 (newI (4 : Int)
 [((7 : Int), (1 : Int), (0 : Int), (0 : Int),
 (ByteArray.mk #[(120 : UInt8), (121 : UInt8)]), ())]).fst)
 (1 : Int) (0 : Int)).fst ==
 (1 : Int)) =
 true →
 (((outW
 (weaveI
 (newI (4 : Int)
 [((7 : Int), (1 : Int), (0 : Int), (0 : Int),
 (ByteArray.mk #[(120 : UInt8), (121 : UInt8)]), ())]).fst)
 (1 : Int) (1 : Int)).fst ==
 (3 : Int)) =
 true →
 (((inW
 (weaveI
 (newI (4 : Int)
 [((7 : Int), (1 : Int), (0 : Int), (0 : Int),
 (ByteArray.mk #[(120 : UInt8), (121 : UInt8)]), ())]).fst)
 (2 : Int)).fst ==
 (1 : Int)) =
 true →
 (((inW
 (weaveI
 (newI (4 : Int)
 [((7 : Int), (1 : Int), (0 : Int), (0 : Int),
 (ByteArray.mk #[(120 : UInt8), (121 : UInt8)]),
 ())]).fst)
 (2 : Int)).snd.fst ==
 (7 : Int)) =
 true →
 True ∧
 (heightOf
 (topT
 (treeOf
 (weaveI
 (newI (4 : Int)
 [((7 : Int), (1 : Int), (0 : Int), (0 : Int),
 (ByteArray.mk #[(120 : UInt8), (121 : UInt8)]),
 ())]).fst))) ==
 (1 : Int)) =
 true) ∧
 (((inW
 (weaveI
 (newI (4 : Int)
 [((7 : Int), (1 : Int), (0 : Int), (0 : Int),
 (ByteArray.mk #[(120 : UInt8), (121 : UInt8)]),
 ())]).fst)
 (2 : Int)).snd.fst ==
 (7 : Int)) =
 false →
 false = true)) ∧
 (((inW
 (weaveI
 (newI (4 : Int)
 [((7 : Int), (1 : Int), (0 : Int), (0 : Int),
 (ByteArray.mk #[(120 : UInt8), (121 : UInt8)]), ())]).fst)
 (2 : Int)).fst ==
 (1 : Int)) =
 false →
 false = true)) ∧
 (((outW
 (weaveI
 (newI (4 : Int)
 [((7 : Int), (1 : Int), (0 : Int), (0 : Int),
 (ByteArray.mk #[(120 : UInt8), (121 : UInt8)]), ())]).fst)
 (1 : Int) (1 : Int)).fst ==
 (3 : Int)) =
 false →
 false = true)) ∧
 (((outW
 (weaveI
 (newI (4 : Int)
 [((7 : Int), (1 : Int), (0 : Int), (0 : Int),
 (ByteArray.mk #[(120 : UInt8), (121 : UInt8)]), ())]).fst)
 (1 : Int) (0 : Int)).fst ==
 (1 : Int)) =
 false →
 false = true)) ∧
 (((inW
 (weaveI
 (newI (4 : Int)
 [((7 : Int), (1 : Int), (0 : Int), (0 : Int),
 (ByteArray.mk #[(120 : UInt8), (121 : UInt8)]), ())]).fst)
 (2 : Int)).snd.snd.fst ==
 (0 : Int)) =
 false →
 false = true)) ∧
 (((outW
 (weaveI
 (newI (4 : Int)
 [((7 : Int), (1 : Int), (0 : Int), (0 : Int),
 (ByteArray.mk #[(120 : UInt8), (121 : UInt8)]), ())]).fst)
 (1 : Int) (1 : Int)).snd.fst ==
 (0 : Int)) =
 false →
 false = true)) ∧
 (((outW
 (weaveI
 (newI (4 : Int)
 [((7 : Int), (1 : Int), (0 : Int), (0 : Int),
 (ByteArray.mk #[(120 : UInt8), (121 : UInt8)]), ())]).fst)
 (1 : Int) (0 : Int)).snd.fst ==
 (0 : Int)) =
 false →
 false = true)) ∧
 (((newI (4 : Int)
 [((7 : Int), (1 : Int), (0 : Int), (0 : Int), (ByteArray.mk #[(120 : UInt8), (121 : UInt8)]),
 ())]).snd.fst ==
 (0 : Int)) =
 false →
 false = true)
theorem vcEq8 : fnVC E8 Tryd.f8 (bodyOf Tryd.f8) cFour = vc8 := by kernel_rfl
def hs11 : List (Nat × Nat × Hint) := []
def nm11 : List Nat := [3000000024]
noncomputable def E11 : Env := env tab [(32, cLen), (33, cAll), (31, cRow), (30, cTreeNew)] [] gl hs11 nm11
def vc11 : Prop :=
 ∀ (x : Option (Int × List Inl × Unit) × Unit),
 List.length (allI x.fst) ≤ (10000 : Nat) ∧ shortL (allI x.fst) →
 True ∧
 List.length (allI x.fst) ≤ (10000 : Nat) ∧
 (List.length (allI x.fst) ≤ (10000 : Nat) ∧ shortL (allI x.fst)) ∧
 List.length (rowF (lenI x.fst) (0 : Int) (allI x.fst)) ≤ (100000 : Nat) ∧
 some ((newT (rowF (lenI x.fst) (0 : Int) (allI x.fst))).fst, ()) = weaveI x.fst
theorem vcEq11 : fnVC E11 Tryd.f11 (bodyOf Tryd.f11) cWeave = vc11 := by kernel_rfl
def hs12 : List (Nat × Nat × Hint) := []
def nm12 : List Nat := [3000000024]
noncomputable def E12 : Env := env tab [(34, cTreeOf), (35, cFind)] [] gl hs12 nm12
def vc12 : Prop :=
 ∀ (x : Option (Option (Nd × Unit) × Unit) × Int × Int × Unit),
 WfN (topT (treeOf x.fst)) →
 True ∧
 WfN (topT (treeOf x.fst)) ∧
 (((findT (treeOf x.fst) (0 : Int) x.snd.fst x.snd.snd.fst).snd.fst != (0 : Int)) = true →
 ((0 : Int), (findT (treeOf x.fst) (0 : Int) x.snd.fst x.snd.snd.fst).snd) =
 outW x.fst x.snd.fst x.snd.snd.fst) ∧
 (((findT (treeOf x.fst) (0 : Int) x.snd.fst x.snd.snd.fst).snd.fst != (0 : Int)) = false →
 ((0 : Int) ≤ (1 : Int) ∧ (1 : Int) < (↑(3 : Nat) : Int)) ∧
 ((0 : Int) ≤ (0 : Int) ∧ (0 : Int) < (↑(3 : Nat) : Int)) ∧
 (IntKind.wrap IntKind.i64
 (IntKind.wrap IntKind.i64
 ((findT (treeOf x.fst) (0 : Int) x.snd.fst x.snd.snd.fst).fst.snd.fst.snd.fst.snd.fst +
 x.snd.fst) -
 (findT (treeOf x.fst) (0 : Int) x.snd.fst x.snd.snd.fst).fst.snd.fst.snd.fst.fst),
 (0 : Int), ()) =
 outW x.fst x.snd.fst x.snd.snd.fst)
theorem vcEq12 : fnVC E12 Tryd.f12 (bodyOf Tryd.f12) cOut = vc12 := by kernel_rfl
def hs13 : List (Nat × Nat × Hint) := [(0, 3, ⟨[.slot 7 t3, .slot 14 t3], [1, 2, 12, 13], [], []⟩)]
def nm13 : List Nat := [3000000024]
noncomputable def E13 : Env := env tab [(28, cRDecode)] [] gl hs13 nm13
def vc13 : Prop :=
 ∀ (x : (Int × List Inl × Int × Unit) × Int × Int × Unit),
 let y := x.fst.snd.fst;
 let y_1 := x.snd.fst;
 let y_2 := x.snd.snd.fst;
 let y_3 := (↑(List.length y) : Int);
 smallW x.fst →
 ((0 : Int) = (0 : Int) ∧ y_1 = y_1 ∧ y_1 = y_1 ∧ y_2 = y_2 ∧ y = y ∧ y_3 = y_3) ∧
 ∃ (Z : Int × Int × Unit → Prop),
 ∃ (μ : Int × Int × Unit → Nat),
 Z (y_1, (0 : Int), ()) ∧
 ∀ (a a_1 : Int),
 let y_4 :=  IntKind.wrap IntKind.i64  (a +  (↑(List.length (decodeL (List.getD y (Int.toNat a_1) (Ty.dflt t57)).snd.snd.snd.snd.fst)) : Int));
 let y_5 := IntKind.wrap IntKind.i64 (a_1 + (1 : Int));
 let y_6 := (List.getD y (Int.toNat a_1) (Ty.dflt t57)).snd.fst;
 let y_7 := (a, a_1, ());
 let y_8 := ByteArray.size (List.getD y (Int.toNat a_1) (Ty.dflt t57)).snd.snd.snd.snd.fst;
 let y_9 := (a, y_5, ());
 let y_10 := (y_4, y_5, ());
 Z y_7 →
 (decide (a_1 < y_3) = true →
 ((0 : Int) ≤ a_1 ∧ a_1 < y_3) ∧
 (decide (y_6 < y_1) = true →
 y_8 ≤ (1000000000 : Nat) ∧
 (y_5 = y_5 ∧ y_4 = y_4 ∧ y_1 = y_1 ∧ y_2 = y_2 ∧ y = y ∧ y_3 = y_3) ∧
 Z y_10 ∧ μ y_10 < μ y_7) ∧
 (decide (y_6 < y_1) = false →
 ((y_6 == y_1) = true →
 ((y_2 == (1 : Int)) = true →
 y_8 ≤ (1000000000 : Nat) ∧
 (y_5 = y_5 ∧ y_4 = y_4 ∧ y_1 = y_1 ∧ y_2 = y_2 ∧ y = y ∧ y_3 = y_3) ∧
 Z y_10 ∧ μ y_10 < μ y_7) ∧
 ((y_2 == (1 : Int)) = false →
 (y_5 = y_5 ∧ a = a ∧ y_1 = y_1 ∧ y_2 = y_2 ∧ y = y ∧ y_3 = y_3) ∧
 Z y_9 ∧ μ y_9 < μ y_7)) ∧
 ((y_6 == y_1) = false →
 (y_5 = y_5 ∧ a = a ∧ y_1 = y_1 ∧ y_2 = y_2 ∧ y = y ∧ y_3 = y_3) ∧
 Z y_9 ∧ μ y_9 < μ y_7))) ∧
 (decide (a_1 < y_3) = false → a = refOut x.fst y_1 y_2)
theorem vcEq13 : fnVC E13 Tryd.f13 (bodyOf Tryd.f13) cRefOut = vc13 := by kernel_rfl
def hs14 : List (Nat × Nat × Hint) := []
def nm14 : List Nat := [3000000024]
noncomputable def E14 : Env := env tab [(34, cTreeOf), (35, cFind), (36, cAt)] [] gl hs14 nm14
def vc14 : Prop :=
 ∀ (x : Option (Option (Nd × Unit) × Unit) × Int × Unit),
 okTre (treeOf x.fst) →
 True ∧
 WfN (topT (treeOf x.fst)) ∧
 (((findT (treeOf x.fst) (1 : Int) x.snd.fst (1 : Int)).snd.fst != (0 : Int)) = true →
 ((0 : Int), (0 : Int), (findT (treeOf x.fst) (1 : Int) x.snd.fst (1 : Int)).snd) = inW x.fst x.snd.fst) ∧
 (((findT (treeOf x.fst) (1 : Int) x.snd.fst (1 : Int)).snd.fst != (0 : Int)) = false →
 True ∧
 okTre (treeOf x.fst) ∧
 ((0 : Int) ≤ (1 : Int) ∧ (1 : Int) < (↑(3 : Nat) : Int)) ∧
 (((atT (treeOf x.fst) (findT (treeOf x.fst) (1 : Int) x.snd.fst (1 : Int)).fst.fst).fst.snd.fst ==
 (0 : Int)) =
 true →
 ((0 : Int) ≤ (0 : Int) ∧ (0 : Int) < (↑(3 : Nat) : Int)) ∧
 (IntKind.wrap IntKind.i64
 ((findT (treeOf x.fst) (1 : Int) x.snd.fst (1 : Int)).fst.snd.fst.snd.fst.fst +
 IntKind.wrap IntKind.i64
 (x.snd.fst -
 (findT (treeOf x.fst) (1 : Int) x.snd.fst (1 : Int)).fst.snd.fst.snd.fst.snd.fst)),
 (0 : Int), (0 : Int), ()) =
 inW x.fst x.snd.fst) ∧
 (((atT (treeOf x.fst) (findT (treeOf x.fst) (1 : Int) x.snd.fst (1 : Int)).fst.fst).fst.snd.fst ==
 (0 : Int)) =
 false →
 ((IntKind.wrap IntKind.i64
 (x.snd.fst -
 (findT (treeOf x.fst) (1 : Int) x.snd.fst (1 : Int)).fst.snd.fst.snd.fst.snd.fst) ==
 (0 : Int)) =
 true →
 ((0 : Int) ≤ (0 : Int) ∧ (0 : Int) < (↑(3 : Nat) : Int)) ∧
 ((findT (treeOf x.fst) (1 : Int) x.snd.fst (1 : Int)).fst.snd.fst.snd.fst.fst, (0 : Int),
 (0 : Int), ()) =
 inW x.fst x.snd.fst) ∧
 ((IntKind.wrap IntKind.i64
 (x.snd.fst -
 (findT (treeOf x.fst) (1 : Int) x.snd.fst (1 : Int)).fst.snd.fst.snd.fst.snd.fst) ==
 (0 : Int)) =
 false →
 ((0 : Int) ≤ (0 : Int) ∧ (0 : Int) < (↑(3 : Nat) : Int)) ∧
 ((findT (treeOf x.fst) (1 : Int) x.snd.fst (1 : Int)).fst.snd.fst.snd.fst.fst,
 (atT (treeOf x.fst)
 (findT (treeOf x.fst) (1 : Int) x.snd.fst (1 : Int)).fst.fst).fst.snd.fst,
 (0 : Int), ()) =
 inW x.fst x.snd.fst)))
theorem vcEq14 : fnVC E14 Tryd.f14 (bodyOf Tryd.f14) cIn = vc14 := by kernel_rfl
def hs15 : List (Nat × Nat × Hint) := [(0, 3, ⟨[.rowS 3 900000003 t44 44, .slot 4 t3], [1], [1], []⟩),
  (0, 6, ⟨[.rowS 3 900000003 t44 44, .slot 16 t3], [1, 4, 14, 15], [1], []⟩),
  (0, 10, ⟨[.rowS 3 900000003 t44 44, .slot 28 t3], [1, 4, 6, 14, 15, 16, 27], [1, 6], []⟩)]
def nm15 : List Nat := [3000000024]
noncomputable def E15 : Env := env tab [(28, cRDecode)] [] gl hs15 nm15
def vc15 : Prop :=
 ∀ (x : (Int × List Inl × Int × Unit) × Unit),
 let y := x.fst.snd.fst;
 let y_1 := x.fst.snd.snd.fst;
 let y_2 := x.fst.fst;
 let y_3 := (↑(List.length y) : Int);
 smallW x.fst →
 (((0 : Int) = (0 : Int) ∧ True ∧ True) ∧ (y_2 = y_2 ∧ y = y ∧ y_1 = y_1) ∧ True ∧ True) ∧
 ∃ (Z : List (Int × Int × Unit) × Int × Unit → Prop),
 ∃ (μ : List (Int × Int × Unit) × Int × Unit → Nat),
 Z ([], (0 : Int), ()) ∧
 ∀ (a : List (Int × Int × Unit)) (a_1 : Int),
 let y_4 := [(a_1, (0 : Int), ())];
 let y_5 := IntKind.wrap IntKind.i64 (a_1 + (1 : Int));
 let y_6 := (a, a_1, ());
 let y_7 := (y_5, ());
 Z y_6 →
 (decide (a_1 ≤ y_2) = true →
 (((0 : Int) = (0 : Int) ∧ True ∧ True ∧ a_1 = a_1 ∧ y = y ∧ y_3 = y_3) ∧
 (y_2 = y_2 ∧ y = y ∧ y_1 = y_1) ∧ a = a ∧ True) ∧
 ∃ (Z_1 : List (Int × Int × Unit) × Int × Unit → Prop),
 ∃ (μ_1 : List (Int × Int × Unit) × Int × Unit → Nat),
 Z_1 (a, (0 : Int), ()) ∧
 ∀ (a : List (Int × Int × Unit)),
 let y_8 := a ++ y_4;
 let y_9 := (a, y_7);
 let y_10 := (y_8, y_7);
 ∀ (a_4 : Int),
 let y_11 := (List.getD y (Int.toNat a_4) (Ty.dflt t57)).snd.snd.snd;
 let y_12 := [(a_1, (List.getD y (Int.toNat a_4) (Ty.dflt t57)).fst, ())];
 let y_13 := (List.getD y (Int.toNat a_4) (Ty.dflt t57)).snd;
 let y_14 := IntKind.wrap IntKind.i64 (a_4 + (1 : Int));
 let y_15 := (a, a_4, ());
 let y_16 := (List.getD y (Int.toNat a_4) (Ty.dflt t57)).fst;
 let y_17 := (a, y_14, ());
 let y_18 := y_13.snd.fst;
 let y_19 := y_13.fst;
 let y_20 := y_11.snd.fst;
 let y_21 := y_11.fst;
 let y_22 := (↑(List.length (decodeL y_20)) : Int);
 Z_1 y_15 →
 (decide (a_4 < y_3) = true →
 ((0 : Int) ≤ a_4 ∧ a_4 < y_3) ∧
 ((y_19 != a_1) = true →
 ((y_14 = y_14 ∧ True ∧ True ∧ a_1 = a_1 ∧ y = y ∧ y_3 = y_3) ∧
 (y_2 = y_2 ∧ y = y ∧ y_1 = y_1) ∧ a = a ∧ True) ∧
 Z_1 y_17 ∧ μ_1 y_17 < μ_1 y_15) ∧
 ((y_19 != a_1) = false →
 ByteArray.size y_20 ≤ (1000000000 : Nat) ∧
 (((0 : Int) = (0 : Int) ∧
 True ∧
 True ∧
 a_1 = a_1 ∧
 True ∧ y = y ∧ y_3 = y_3 ∧ a_4 = a_4 ∧ y_22 = y_22) ∧
 ((y_2 = y_2 ∧ y = y ∧ y_1 = y_1) ∧
 y_16 = y_16 ∧
 y_19 = y_19 ∧ y_18 = y_18 ∧ y_21 = y_21 ∧ y_20 = y_20) ∧
 a = a ∧ True) ∧
 ∃ (Z : List (Int × Int × Unit) × Int × Unit → Prop),
 ∃ (μ : List (Int × Int × Unit) × Int × Unit → Nat),
 Z (a, (0 : Int), ()) ∧
 ∀ (a : List (Int × Int × Unit)),
 let y_23 := a ++ y_12;
 let y_24 := (a, y_14, ());
 ∀ (a_8 : Int),
 let y_25 :=  (y_23, IntKind.wrap IntKind.i64 (a_8 + (1 : Int)), ());
 let y_26 := (a, a_8, ());
 Z y_26 →
 (decide (a_8 < y_22) = true →
 (List.length a + List.length y_12) * (16 : Nat) ≤
 (140737488355328 : Nat) ∧
 List.length a + List.length y_12 ≤ maxLen ∧
 ((IntKind.wrap IntKind.i64 (a_8 + (1 : Int)) =
 IntKind.wrap IntKind.i64 (a_8 + (1 : Int)) ∧
 True ∧
 True ∧
 a_1 = a_1 ∧
 True ∧
 y = y ∧
 y_3 = y_3 ∧
 a_4 = a_4 ∧ y_22 = y_22) ∧
 ((y_2 = y_2 ∧ y = y ∧ y_1 = y_1) ∧
 y_16 = y_16 ∧
 y_19 = y_19 ∧
 y_18 = y_18 ∧
 y_21 = y_21 ∧ y_20 = y_20) ∧
 y_23 = y_23 ∧ True) ∧
 Z y_25 ∧ μ y_25 < μ y_26) ∧
 (decide (a_8 < y_22) = false →
 ((y_14 = y_14 ∧
 True ∧ True ∧ a_1 = a_1 ∧ y = y ∧ y_3 = y_3) ∧
 (y_2 = y_2 ∧ y = y ∧ y_1 = y_1) ∧ a = a ∧ True) ∧
 Z_1 y_24 ∧ μ_1 y_24 < μ_1 y_15))) ∧
 (decide (a_4 < y_3) = false →
 (decide (a_1 < y_2) = true →
 (List.length a + List.length y_4) * (16 : Nat) ≤ (140737488355328 : Nat) ∧
 List.length a + List.length y_4 ≤ maxLen ∧
 ((y_5 = y_5 ∧ True ∧ True) ∧
 (y_2 = y_2 ∧ y = y ∧ y_1 = y_1) ∧ y_8 = y_8 ∧ True) ∧
 Z y_10 ∧ μ y_10 < μ y_6) ∧
 (decide (a_1 < y_2) = false →
 ((y_5 = y_5 ∧ True ∧ True) ∧ (y_2 = y_2 ∧ y = y ∧ y_1 = y_1) ∧ a = a ∧ True) ∧
 Z y_9 ∧ μ y_9 < μ y_6))) ∧
 (decide (a_1 ≤ y_2) = false → a = spots x.fst)
theorem vcEq15 : fnVC E15 Tryd.f15 (bodyOf Tryd.f15) cSpots = vc15 := by kernel_rfl
def hs16 : List (Nat × Nat × Hint) := []
def nm16 : List Nat := [3000000024]
noncomputable def E16 : Env := env tab [(15, cSpots)] [] gl hs16 nm16
def vc16 : Prop :=
 ∀ (x : (Int × List Inl × Int × Unit) × Int × Unit),
 smallW x.fst ∧ (0 : Int) ≤ x.snd.fst ∧ x.snd.fst ≤ (↑(List.length (spots x.fst)) : Int) →
 smallW x.fst ∧
 ((x.snd.fst == (↑(List.length (spots x.fst)) : Int)) = true →
 (x.fst.fst, (0 : Int), ()) = refIn x.fst x.snd.fst) ∧
 ((x.snd.fst == (↑(List.length (spots x.fst)) : Int)) = false →
 ((0 : Int) ≤ x.snd.fst ∧ x.snd.fst < (↑(List.length (spots x.fst)) : Int)) ∧
 (((List.getD (spots x.fst) (Int.toNat x.snd.fst) (Ty.dflt t44)).snd.fst == (0 : Int)) = true →
 ((0 : Int) ≤ x.snd.fst ∧ x.snd.fst < (↑(List.length (spots x.fst)) : Int)) ∧
 ((List.getD (spots x.fst) (Int.toNat x.snd.fst) (Ty.dflt t44)).fst, (0 : Int), ()) =
 refIn x.fst x.snd.fst) ∧
 (((List.getD (spots x.fst) (Int.toNat x.snd.fst) (Ty.dflt t44)).snd.fst == (0 : Int)) = false →
 ((x.snd.fst == (0 : Int)) = true →
 ((0 : Int) ≤ x.snd.fst ∧ x.snd.fst < (↑(List.length (spots x.fst)) : Int)) ∧
 ((List.getD (spots x.fst) (Int.toNat x.snd.fst) (Ty.dflt t44)).fst, (0 : Int), ()) =
 refIn x.fst x.snd.fst) ∧
 ((x.snd.fst == (0 : Int)) = false →
 ((0 : Int) ≤ IntKind.wrap IntKind.i64 (x.snd.fst - (1 : Int)) ∧
 IntKind.wrap IntKind.i64 (x.snd.fst - (1 : Int)) < (↑(List.length (spots x.fst)) : Int)) ∧
 ((0 : Int) ≤ x.snd.fst ∧ x.snd.fst < (↑(List.length (spots x.fst)) : Int)) ∧
 (((List.getD (spots x.fst) (Int.toNat (IntKind.wrap IntKind.i64 (x.snd.fst - (1 : Int))))
 (Ty.dflt t44)).snd.fst !=
 (List.getD (spots x.fst) (Int.toNat x.snd.fst) (Ty.dflt t44)).snd.fst) =
 true →
 ((0 : Int) ≤ x.snd.fst ∧ x.snd.fst < (↑(List.length (spots x.fst)) : Int)) ∧
 ((List.getD (spots x.fst) (Int.toNat x.snd.fst) (Ty.dflt t44)).fst, (0 : Int), ()) =
 refIn x.fst x.snd.fst) ∧
 (((List.getD (spots x.fst) (Int.toNat (IntKind.wrap IntKind.i64 (x.snd.fst - (1 : Int))))
 (Ty.dflt t44)).snd.fst !=
 (List.getD (spots x.fst) (Int.toNat x.snd.fst) (Ty.dflt t44)).snd.fst) =
 false →
 ((0 : Int) ≤ x.snd.fst ∧ x.snd.fst < (↑(List.length (spots x.fst)) : Int)) ∧
 List.getD (spots x.fst) (Int.toNat x.snd.fst) (Ty.dflt t44) = refIn x.fst x.snd.fst))))
theorem vcEq16 : fnVC E16 Tryd.f16 (bodyOf Tryd.f16) cRefIn = vc16 := by kernel_rfl
def hs17 : List (Nat × Nat × Hint) := []
def nm17 : List Nat := [3000000024]
noncomputable def E17 : Env := env tab [(34, cTreeOf), (37, cSum)] [] gl hs17 nm17
def vc17 : Prop :=
 ∀ (x : Option (Option (Nd × Unit) × Unit) × Unit),
 True →
 True ∧
 True ∧
 ((0 : Int) ≤ (0 : Int) ∧ (0 : Int) < (↑(3 : Nat) : Int)) ∧
 ((0 : Int) ≤ (1 : Int) ∧ (1 : Int) < (↑(3 : Nat) : Int)) ∧
 ((sumOf (topT (treeOf x.fst))).snd.fst.fst, (sumOf (topT (treeOf x.fst))).snd.fst.snd.fst, ()) =
 ((sumOf (topT (treeOf x.fst))).snd.fst.fst, (sumOf (topT (treeOf x.fst))).snd.fst.snd.fst, ())
theorem vcEq17 : fnVC E17 Tryd.f17 (bodyOf Tryd.f17) cSizes = vc17 := by kernel_rfl
def hs18 : List (Nat × Nat × Hint) := []
def nm18 : List Nat := [3000000024]
noncomputable def E18 : Env := env tab [(17, cSizes), (20, cPieces), (15, cSpots), (39, cRefsP), (40, cRefPieces), (38, cSameP), (21, cHeightW), (41, cHigh)] [] gl hs18 nm18
def vc18 : Prop :=
 ∀
 (x :
 Option (Option (Nd × Unit) × Unit) ×
 (Int × List Inl × Int × Unit) × Unit),
 smallW x.snd.fst ∧
 (topT (treeOf x.fst) = (NT.nil : Nd) ∨ ∃ (h : Nat), h ≤ (3 : Nat) ∧ Wf h true (topT (treeOf x.fst))) ∧
 List.length (items (topT (treeOf x.fst))) ≤ (10000 : Nat) →
 True ∧
 ((topT (treeOf x.fst) = (NT.nil : Nd) ∨ ∃ (h : Nat), h ≤ (3 : Nat) ∧ Wf h true (topT (treeOf x.fst))) ∧
 List.length (items (topT (treeOf x.fst))) ≤ (10000 : Nat)) ∧
 (Option.isSome x.fst = true →
 (((sumOf (topT (treeOf x.fst))).snd.fst.fst == x.snd.fst.fst) = true →
 smallW x.snd.fst ∧
 (((sumOf (topT (treeOf x.fst))).snd.fst.snd.fst == (↑(List.length (spots x.snd.fst)) : Int)) = true →
 List.length (piecesI (treeOf x.fst)) ≤ (1000000 : Nat) ∧
 smallW x.snd.fst ∧
 (List.length (piecesI (treeOf x.fst)) ≤ maxLen ∧ List.length (refPieces x.snd.fst) ≤ maxLen) ∧
 (sameP (piecesI (treeOf x.fst)) (refPieces x.snd.fst) = true →
 True ∧
 (heightOf (topT (treeOf x.fst)) ≤ (1000 : Int) ∧
 (0 : Int) ≤ (↑(List.length (piecesI (treeOf x.fst))) : Int) ∧
 (↑(List.length (piecesI (treeOf x.fst))) : Int) ≤ (1000000 : Int)) ∧
 highB (heightOf (topT (treeOf x.fst)))
 (↑(List.length (piecesI (treeOf x.fst))) : Int) =
 isW x.fst x.snd.fst) ∧
 (sameP (piecesI (treeOf x.fst)) (refPieces x.snd.fst) = false →
 false = isW x.fst x.snd.fst)) ∧
 (((sumOf (topT (treeOf x.fst))).snd.fst.snd.fst == (↑(List.length (spots x.snd.fst)) : Int)) =
 false →
 false = isW x.fst x.snd.fst)) ∧
 (((sumOf (topT (treeOf x.fst))).snd.fst.fst == x.snd.fst.fst) = false → false = isW x.fst x.snd.fst)) ∧
 (Option.isSome x.fst = false → false = isW x.fst x.snd.fst)
theorem vcEq18 : fnVC E18 Tryd.f18 (bodyOf Tryd.f18) cIs = vc18 := by kernel_rfl
def hs20 : List (Nat × Nat × Hint) := [(0, 3, ⟨[.rowS 3 900000003 t103 103, .slot 10 t3], [8, 9], [], []⟩)]
def nm20 : List Nat := [3000000024]
noncomputable def E20 : Env := env tab [(34, cTreeOf), (45, cItems)] [] gl hs20 nm20
def vc20 : Prop :=
 ∀ (x : Option (Option (Nd × Unit) × Unit) × Unit),
 let y := topT (treeOf x.fst);
 let y_1 := (↑(List.length (items y)) : Int);
 (y = (NT.nil : Nd) ∨ ∃ (h : Nat), h ≤ (3 : Nat) ∧ Wf h true y) ∧ List.length (items y) ≤ (10000 : Nat) →
 True ∧
 ((y = (NT.nil : Nd) ∨ ∃ (h : Nat), h ≤ (3 : Nat) ∧ Wf h true y) ∧ List.length (items y) ≤ (100000 : Nat)) ∧
 (((0 : Int) = (0 : Int) ∧ True ∧ items y = items y ∧ y_1 = y_1) ∧ True ∧ True) ∧
 ∃ (Z : List (Int × Int × Unit) × Int × Unit → Prop),
 ∃ (μ : List (Int × Int × Unit) × Int × Unit → Nat),
 Z ([], (0 : Int), ()) ∧
 ∀ (a : List (Int × Int × Unit)) (a_1 : Int),
 let y_2 :=  [((List.getD (items y) (Int.toNat a_1) (Ty.dflt t89)).snd.fst,  (List.getD (items y) (Int.toNat a_1) (Ty.dflt t89)).snd.snd.fst.snd.fst, ())];
 let y_3 := (a, a_1, ());
 let y_4 := IntKind.wrap IntKind.i64 (a_1 + (1 : Int));
 let y_5 := (a ++ y_2, y_4, ());
 Z y_3 →
 (decide (a_1 < y_1) = true →
 ((0 : Int) ≤ a_1 ∧ a_1 < y_1) ∧
 ((0 : Int) ≤ (1 : Int) ∧ (1 : Int) < (↑(3 : Nat) : Int)) ∧
 (List.length a + List.length y_2) * (16 : Nat) ≤ (140737488355328 : Nat) ∧
 List.length a + List.length y_2 ≤ maxLen ∧
 ((y_4 = y_4 ∧ True ∧ items y = items y ∧ y_1 = y_1) ∧ a ++ y_2 = a ++ y_2 ∧ True) ∧
 Z y_5 ∧ μ y_5 < μ y_3) ∧
 (decide (a_1 < y_1) = false → a = piecesI (treeOf x.fst))
theorem vcEq20 : fnVC E20 Tryd.f20 (bodyOf Tryd.f20) cPieces = vc20 := by kernel_rfl
def hs21 : List (Nat × Nat × Hint) := []
def nm21 : List Nat := [3000000024]
noncomputable def E21 : Env := env tab [(34, cTreeOf), (46, cHeightT)] [] gl hs21 nm21
def vc21 : Prop :=
 ∀ (x : Option (Option (Nd × Unit) × Unit) × Unit),
 True → True ∧ True ∧ heightOf (topT (treeOf x.fst)) = heightOf (topT (treeOf x.fst))
theorem vcEq21 : fnVC E21 Tryd.f21 (bodyOf Tryd.f21) cHeightW = vc21 := by kernel_rfl
def hs31 : List (Nat × Nat × Hint) := [(0, 3, ⟨[.slot 0 t3, .rowS 7 900000007 t89 89, .slot 12 t3], [1, 10, 11], [], []⟩)]
def nm31 : List Nat := [3000000024]
noncomputable def E31 : Env := env tab [(61, cPlain), (62, cVirtual)] [] gl hs31 nm31
def vc31 : Prop :=
 ∀ (x : Int × Int × List Inl × Unit),
 let y := x.snd.snd.fst;
 let y_1 := x.snd.fst;
 let y_2 := x.fst;
 let y_3 := (↑(List.length y) : Int);
 let y_4 := rowF y_1 y_2 y;
 List.length y ≤ (10000 : Nat) ∧ shortL y →
 (((0 : Int) = (0 : Int) ∧ True ∧ y_2 = y_2 ∧ y_1 = y_1 ∧ y = y ∧ y_3 = y_3) ∧ True ∧ True) ∧
 ∃ (Z : Int × List Itm × Int × Unit → Prop),
 ∃ (μ : Int × List Itm × Int × Unit → Nat),
 Z (y_2, [], (0 : Int), ()) ∧
 ∀ (a : Int),
 let y_5 := [plainI (IntKind.wrap IntKind.i64 (y_1 - a))];
 ∀ (a_1 : List Itm) (a_2 : Int),
 let y_6 := (List.getD y (Int.toNat a_2) (Ty.dflt t57)).snd.fst;
 let y_7 := (a, a_1, a_2, ());
 let y_8 :=  (a, a_1 ++ [virtualI (List.getD y (Int.toNat a_2) (Ty.dflt t57))],  IntKind.wrap IntKind.i64 (a_2 + (1 : Int)), ());
 let y_9 := [virtualI (List.getD y (Int.toNat a_2) (Ty.dflt t57))];
 let y_10 := IntKind.wrap IntKind.i64 (a_2 + (1 : Int));
 let y_11 := a_1 ++ [plainI (IntKind.wrap IntKind.i64 (y_6 - a))] ++ y_9;
 let y_12 := List.length (a_1 ++ [plainI (IntKind.wrap IntKind.i64 (y_6 - a))]) + List.length y_9;
 let y_13 := List.length a_1 + List.length [plainI (IntKind.wrap IntKind.i64 (y_6 - a))];
 let y_14 := (y_6, y_11, y_10, ());
 Z y_7 →
 (decide (a_2 < y_3) = true →
 ((0 : Int) ≤ a_2 ∧ a_2 < y_3) ∧
 (decide (y_6 > a) = true →
 True ∧
 y_13 * (64 : Nat) ≤ (140737488355328 : Nat) ∧
 y_13 ≤ maxLen ∧
 ByteArray.size (txt (List.getD y (Int.toNat a_2) (Ty.dflt t57))) ≤ maxLen ∧
 y_12 * (64 : Nat) ≤ (140737488355328 : Nat) ∧
 y_12 ≤ maxLen ∧
 ((y_10 = y_10 ∧ True ∧ y_6 = y_6 ∧ y_1 = y_1 ∧ y = y ∧ y_3 = y_3) ∧
 y_11 = y_11 ∧ True) ∧
 Z y_14 ∧ μ y_14 < μ y_7) ∧
 (decide (y_6 > a) = false →
 ByteArray.size (txt (List.getD y (Int.toNat a_2) (Ty.dflt t57))) ≤ maxLen ∧
 (List.length a_1 + List.length y_9) * (64 : Nat) ≤ (140737488355328 : Nat) ∧
 List.length a_1 + List.length y_9 ≤ maxLen ∧
 ((y_10 = y_10 ∧ True ∧ a = a ∧ y_1 = y_1 ∧ y = y ∧ y_3 = y_3) ∧
 a_1 ++ y_9 = a_1 ++ y_9 ∧ True) ∧
 Z y_8 ∧ μ y_8 < μ y_7)) ∧
 (decide (a_2 < y_3) = false →
 (decide (y_1 > a) = true →
 True ∧
 (List.length a_1 + List.length y_5) * (64 : Nat) ≤ (140737488355328 : Nat) ∧
 List.length a_1 + List.length y_5 ≤ maxLen ∧ a_1 ++ y_5 = y_4) ∧
 (decide (y_1 > a) = false → a_1 = y_4))
theorem vcEq31 : fnVC E31 Tryd.f31 (bodyOf Tryd.f31) cRow = vc31 := by kernel_rfl
def hs34 : List (Nat × Nat × Hint) := []
def nm34 : List Nat := [3000000024]
noncomputable def E34 : Env := env tab [] [] gl hs34 nm34
def vc34 : Prop :=
 ∀ (x : Option (Option (Nd × Unit) × Unit) × Unit),
 True →
 (Option.isNone x.fst = true → none = treeOf x.fst) ∧
 (Option.isNone x.fst = false →
 Option.isSome x.fst = true ∧ (List.getD (optL x.fst) (0 : Nat) (Ty.dflt t79)).fst = treeOf x.fst)
theorem vcEq34 : fnVC E34 Tryd.f34 (bodyOf Tryd.f34) cTreeOf = vc34 := by kernel_rfl
def hs35 : List (Nat × Nat × Hint) := [(0, 7, ⟨[.slot 13 t116, .cell 12 1 t3, .cell 12 2 t3, .cell 12 3 t3, .cell 12 4 t3, .cell 12 5 t3, .cell 12 6 t3, .cell 12 7 t3], [1, 8, 11, 12], [8, 12, 6, 7], []⟩),
  (0, 13, ⟨[.slot 13 t116, .slot 74 t3, .cell 12 1 t3, .cell 12 2 t3, .cell 12 3 t3, .cell 12 4 t3, .cell 12 5 t3, .cell 12 6 t3], [1, 8, 11, 12, 72, 73], [8, 12, 6, 7], []⟩),
  (0, 23, ⟨[.slot 103 t3, .cell 12 1 t3, .cell 12 2 t3, .cell 12 3 t3, .cell 12 4 t3, .cell 12 5 t3, .cell 12 6 t3], [1, 8, 11, 12, 101, 102], [8, 12, 6, 7], []⟩)]
def nm35 : List Nat := [3000000024]
noncomputable def E35 : Env := env tab [(37, cSum), (64, cSizeD), (66, cTop), (68, cSumOf), (67, cAddS), (69, cOfI)] [(65, Tryd.f65)] gl hs35 nm35
def vc35 : Prop :=
 ∀ (x : Option (Nd × Unit) × Int × Int × Int × Unit),
 let y := x.snd.snd;
 let y_1 := x.snd.fst;
 let y_2 := (topT x.fst, (0 : Int), (0 : Int), (0 : Int), (0 : Int), (0 : Int), (0 : Int), (0 : Int), ());
 let y_3 := x.fst;
 let y_4 := y.snd.fst;
 let y := y.fst;
 let y_5 := decide (y > sizeD (sumOf (topT y_3)) y_1);
 let y_6 := findT y_3 y_1 y y_4;
 let y_7 := y_4 == (0 : Int);
 WfN (topT y_3) →
 True ∧
 (decide (y_1 < (0 : Int)) = true →
 (((0 : Int), ((0 : Int), ((0 : Int), (0 : Int), (0 : Int), ()), (0 : Int), (0 : Int), ()), (0 : Int), ()),
 (1 : Int), ()) =
 y_6) ∧
 (decide (y_1 < (0 : Int)) = false →
 (decide (y_1 > (3 : Int)) = true →
 (((0 : Int), ((0 : Int), ((0 : Int), (0 : Int), (0 : Int), ()), (0 : Int), (0 : Int), ()), (0 : Int), ()),
 (1 : Int), ()) =
 y_6) ∧
 (decide (y_1 > (3 : Int)) = false →
 (decide (y < (0 : Int)) = true →
 (((0 : Int), ((0 : Int), ((0 : Int), (0 : Int), (0 : Int), ()), (0 : Int), (0 : Int), ()), (0 : Int),
 ()),
 (1 : Int), ()) =
 y_6) ∧
 (decide (y < (0 : Int)) = false →
 ((0 : Int) ≤ y_1 ∧ y_1 ≤ (3 : Int)) ∧
 (y_5 = true →
 (((0 : Int), ((0 : Int), ((0 : Int), (0 : Int), (0 : Int), ()), (0 : Int), (0 : Int), ()),
 (0 : Int), ()),
 (1 : Int), ()) =
 y_6) ∧
 (y_5 = false →
 ((y_4 != (0 : Int)) = true →
 ((y_4 != (1 : Int)) = true →
 (((0 : Int),
 ((0 : Int), ((0 : Int), (0 : Int), (0 : Int), ()), (0 : Int), (0 : Int), ()),
 (0 : Int), ()),
 (1 : Int), ()) =
 y_6) ∧
 ((y_4 != (1 : Int)) = false →
 True ∧
 ((topT y_3 = topT y_3 ∧ y_1 = y_1 ∧ True ∧ (True ∧ True) ∧ True) ∧
 ((0 : Int) = (0 : Int) ∧
 (0 : Int) = (0 : Int) ∧
 (0 : Int) = (0 : Int) ∧
 (0 : Int) = (0 : Int) ∧
 (0 : Int) = (0 : Int) ∧
 (0 : Int) = (0 : Int) ∧
 (0 : Int) = (0 : Int) ∧ (0 : Int) = (0 : Int)) ∧
 ((0 : Int) = (0 : Int) ∧
 (0 : Int) = (0 : Int) ∧
 (0 : Int) = (0 : Int) ∧
 (0 : Int) = (0 : Int) ∧
 (0 : Int) = (0 : Int) ∧
 (0 : Int) = (0 : Int) ∧
 (0 : Int) = (0 : Int) ∧ (0 : Int) = (0 : Int)) ∧
 y = y ∧ y_4 = y_4) ∧
 ∃ (Z :
 Nd ×
 Int × Int × Int × Int × Int × Int × Int × Unit →
 Prop),
 ∃ (μ :
 Nd ×
 Int × Int × Int × Int × Int × Int × Int × Unit →
 Nat),
 Z y_2 ∧
 ∀ (a : Nd),
 let y_8 :=  (List.getD (optL (NT.asInner a)) (0 : Nat)  (([], (0, zS, ())) : List Nd × Nx)).fst;
 let y_9 := (List.getD (optL (NT.asLeaf a)) (0 : Nat) (([], zS, ()) : Lf)).fst;
 let y_10 := Option.isSome (NT.asLeaf a);
 let y_11 := !Option.isSome (NT.asInner a);
 let y_12 := (↑(List.length y_9) : Int);
 let y_13 := (↑(List.length y_8) : Int);
 ∀ (a_1 a_2 a_3 a_4 : Int),
 let y_14 := (a_2, a_3, a_4, ());
 ∀ (a_5 a_6 : Int),
 let y_15 := (a_1, a_2, a_3, a_4, a_5, a_6, ());
 let y_16 := (a_1, y_14, a_5, a_6, ());
 let y_17 := ((0 : Int), y_15);
 ∀ (a_7 : Int),
 let y_18 := (a, a_1, a_2, a_3, a_4, a_5, a_6, a_7, ());
 let y_19 := IntKind.wrap IntKind.i64 (a_7 + (1 : Int));
 let y_20 := (y_19, ());
 Z y_18 →
 ((!NT.isNil a) = true →
 (y_11 = true →
 (y_10 = true →
 y_10 = true ∧
 (((0 : Int) = (0 : Int) ∧
 y_1 = y_1 ∧
 True ∧
 (True ∧ True) ∧
 True ∧ y_9 = y_9 ∧ y_12 = y_12) ∧
 ((0 : Int) = (0 : Int) ∧
 (0 : Int) = (0 : Int) ∧
 (0 : Int) = (0 : Int) ∧
 (0 : Int) = (0 : Int) ∧
 (0 : Int) = (0 : Int) ∧
 (0 : Int) = (0 : Int) ∧
 (0 : Int) = (0 : Int) ∧
 (0 : Int) = (0 : Int)) ∧
 ((0 : Int) = (0 : Int) ∧
 a_1 = a_1 ∧
 a_2 = a_2 ∧
 a_3 = a_3 ∧
 a_4 = a_4 ∧
 a_5 = a_5 ∧
 a_6 = a_6 ∧ y_19 = y_19) ∧
 y = y ∧ y_4 = y_4) ∧
 ∃ (Z :
 Int × Int × Int × Int × Int × Int × Int × Unit →
 Prop),
 ∃ (μ :
 Int × Int × Int × Int × Int × Int × Int × Unit →
 Nat),
 Z y_17 ∧
 ∀ (a : Int),
 let y_21 :=  ofI  (List.getD y_9 (Int.toNat a)  (Ty.dflt t89));
 let y_22 :=  IntKind.wrap IntKind.i64 (a + (1 : Int));
 ∀ (a_10 a_11 a_12 a_13 : Int),
 let y_23 := (a_11, a_12, a_13, ());
 ∀ (a_14 a_15 : Int),
 let y_24 :=  (y_22,  (addS (a_10, y_23, a_14, a_15, ())  y_21).fst,  (addS (a_10, y_23, a_14, a_15, ())  y_21).snd.fst.fst,  (addS (a_10, y_23, a_14, a_15, ())  y_21).snd.fst.snd.fst,  (addS (a_10, y_23, a_14, a_15, ())  y_21).snd.fst.snd.snd.fst,  (addS (a_10, y_23, a_14, a_15, ())  y_21).snd.snd);
 let y_25 :=  (a_10, y_23, a_14, a_15, ());
 let y_26 :=  (a, a_10, a_11, a_12, a_13, a_14,  a_15, ());
 let y_27 := (addS y_25 y_21).snd;
 let y_28 :=  ((a_10, y_25, y_19, ()), (0 : Int),  ());
 let y_29 := (addS y_25 y_21).fst;
 let y_30 := y_27.fst.snd;
 let y_31 := y_27.snd;
 let y_32 := y_27.fst.fst;
 let y_33 := y_31.snd.fst;
 let y_34 := y_31.fst;
 let y_35 := y_30.snd.fst;
 let y_36 := y_30.fst;
 Z y_26 →
 (decide (a < y_12) = true →
 ((0 : Int) ≤ a ∧ a < y_12) ∧
 True ∧
 True ∧
 ((0 : Int) ≤ y_1 ∧
 y_1 ≤ (3 : Int)) ∧
 (decide
 (sizeD
 (addS y_25
 y_21)
 y_1 >
 y) =
 true →
 y_28 = y_6) ∧
 (decide
 (sizeD
 (addS y_25
 y_21)
 y_1 >
 y) =
 false →
 (y_7 = true →
 ((sizeD
 (addS
 y_25
 y_21)
 y_1 ==
 y) =
 true →
 y_28 = y_6) ∧
 ((sizeD
 (addS
 y_25
 y_21)
 y_1 ==
 y) =
 false →
 ((y_22 =
 y_22 ∧
 y_1 =
 y_1 ∧
 True ∧
 (True ∧
 True) ∧
 True ∧
 y_9 =
 y_9 ∧
 y_12 =
 y_12) ∧
 ((0 :
 Int) =
 (0 :
 Int) ∧
 (0 :
 Int) =
 (0 :
 Int) ∧
 (0 :
 Int) =
 (0 :
 Int) ∧
 (0 :
 Int) =
 (0 :
 Int) ∧
 (0 :
 Int) =
 (0 :
 Int) ∧
 (0 :
 Int) =
 (0 :
 Int) ∧
 (0 :
 Int) =
 (0 :
 Int) ∧
 (0 :
 Int) =
 (0 :
 Int)) ∧
 ((0 :
 Int) =
 (0 :
 Int) ∧
 y_29 =
 y_29 ∧
 y_32 =
 y_32 ∧
 y_36 =
 y_36 ∧
 y_35 =
 y_35 ∧
 y_31.fst =
 y_34 ∧
 y_31.snd.fst =
 y_33 ∧
 y_19 =
 y_19) ∧
 y =
 y ∧
 y_4 =
 y_4) ∧
 Z y_24 ∧
 μ y_24 <
 μ
 y_26)) ∧
 (y_7 = false →
 ((y_22 = y_22 ∧
 y_1 = y_1 ∧
 True ∧
 (True ∧
 True) ∧
 True ∧
 y_9 =
 y_9 ∧
 y_12 =
 y_12) ∧
 ((0 : Int) =
 (0 :
 Int) ∧
 (0 :
 Int) =
 (0 :
 Int) ∧
 (0 :
 Int) =
 (0 :
 Int) ∧
 (0 :
 Int) =
 (0 :
 Int) ∧
 (0 :
 Int) =
 (0 :
 Int) ∧
 (0 :
 Int) =
 (0 :
 Int) ∧
 (0 :
 Int) =
 (0 :
 Int) ∧
 (0 :
 Int) =
 (0 :
 Int)) ∧
 ((0 : Int) =
 (0 :
 Int) ∧
 y_29 =
 y_29 ∧
 y_32 =
 y_32 ∧
 y_36 =
 y_36 ∧
 y_35 =
 y_35 ∧
 y_31.fst =
 y_34 ∧
 y_31.snd.fst =
 y_33 ∧
 y_19 =
 y_19) ∧
 y = y ∧
 y_4 =
 y_4) ∧
 Z y_24 ∧
 μ y_24 <
 μ y_26))) ∧
 (decide (a < y_12) = false →
 y_28 = y_6)) ∧
 (y_10 = false →
 ((a_1, y_16, y_19, ()), (0 : Int), ()) = y_6)) ∧
 (y_11 = false →
 Option.isSome (NT.asInner a) = true ∧
 (((0 : Int) = (0 : Int) ∧
 (NT.nil : Nd) = (NT.nil : Nd) ∧
 y_1 = y_1 ∧
 True ∧
 (True ∧ True) ∧
 True ∧ y_8 = y_8 ∧ y_13 = y_13) ∧
 ((0 : Int) = (0 : Int) ∧
 (0 : Int) = (0 : Int) ∧
 (0 : Int) = (0 : Int) ∧
 (0 : Int) = (0 : Int) ∧
 (0 : Int) = (0 : Int) ∧
 (0 : Int) = (0 : Int) ∧
 (0 : Int) = (0 : Int) ∧
 (0 : Int) = (0 : Int)) ∧
 ((0 : Int) = (0 : Int) ∧
 a_1 = a_1 ∧
 a_2 = a_2 ∧
 a_3 = a_3 ∧
 a_4 = a_4 ∧
 a_5 = a_5 ∧ a_6 = a_6 ∧ y_19 = y_19) ∧
 y = y ∧ y_4 = y_4) ∧
 ∃ (Z_1 :
 Nd ×
 Int × Int × Int × Int × Int × Int × Int × Unit →
 Prop),
 ∃ (μ_1 :
 Nd ×
 Int × Int × Int × Int × Int × Int × Int × Unit →
 Nat),
 Z_1 (NT.nil, (0 : Int), y_15) ∧
 ∀
 (a :
 Nd)
 (a_11 : Int),
 let y_21 :=  List.getD y_8 (Int.toNat a_11)  (NT.nil : Nd);
 let y_22 :=  IntKind.wrap IntKind.i64 (a_11 + (1 : Int));
 ∀ (a_12 a_13 a_14 a_15 : Int),
 let y_23 := (a_13, a_14, a_15, ());
 ∀ (a_16 a_17 : Int),
 let y_24 :=  (a, y_22,  (addS (a_12, y_23, a_16, a_17, ())  (sumOf y_21)).fst,  (addS (a_12, y_23, a_16, a_17, ())  (sumOf y_21)).snd.fst.fst,  (addS (a_12, y_23, a_16, a_17, ())  (sumOf y_21)).snd.fst.snd.fst,  (addS (a_12, y_23, a_16, a_17, ())  (sumOf  y_21)).snd.fst.snd.snd.fst,  (addS (a_12, y_23, a_16, a_17, ())  (sumOf y_21)).snd.snd);
 let y_25 :=  (a_12, a_13, a_14, a_15, a_16, a_17,  y_20);
 let y_26 :=  addS (a_12, y_23, a_16, a_17, ())  (sumOf y_21);
 let y_27 :=  (a, a_11, a_12, a_13, a_14, a_15, a_16,  a_17, ());
 let y_28 := y_26.snd.fst;
 let y_29 := y_26.snd.snd;
 let y_30 := y_26.fst;
 let y_31 := y_29.snd.fst;
 let y_32 := y_29.fst;
 let y_33 := y_28.snd;
 let y_34 := y_28.fst;
 let y_35 := y_33.snd.fst;
 let y_36 := y_33.fst;
 let y_37 := (y_21, y_25);
 let y_38 := (a, y_25);
 Z_1 y_27 →
 (decide (a_11 < y_13) = true →
 ((0 : Int) ≤ a_11 ∧ a_11 < y_13) ∧
 True ∧
 True ∧
 ((0 : Int) ≤ y_1 ∧
 y_1 ≤ (3 : Int)) ∧
 (decide (sizeD y_26 y_1 > y) =
 true →
 ((y_21 = y_21 ∧
 y_1 = y_1 ∧
 True ∧
 (True ∧ True) ∧
 True) ∧
 ((0 : Int) =
 (0 : Int) ∧
 (0 : Int) =
 (0 : Int) ∧
 (0 : Int) =
 (0 : Int) ∧
 (0 : Int) =
 (0 :
 Int) ∧
 (0 : Int) =
 (0 :
 Int) ∧
 (0 :
 Int) =
 (0 :
 Int) ∧
 (0 :
 Int) =
 (0 :
 Int) ∧
 (0 :
 Int) =
 (0 :
 Int)) ∧
 ((0 : Int) =
 (0 : Int) ∧
 a_12 = a_12 ∧
 a_13 = a_13 ∧
 a_14 =
 a_14 ∧
 a_15 =
 a_15 ∧
 a_16 =
 a_16 ∧
 a_17 =
 a_17 ∧
 y_19 =
 y_19) ∧
 y = y ∧
 y_4 = y_4) ∧
 Z y_37 ∧
 μ y_37 < μ y_18) ∧
 (decide
 (sizeD y_26 y_1 > y) =
 false →
 (y_7 = true →
 ((sizeD y_26 y_1 ==
 y) =
 true →
 ((y_21 = y_21 ∧
 y_1 = y_1 ∧
 True ∧
 (True ∧
 True) ∧
 True) ∧
 ((0 : Int) =
 (0 :
 Int) ∧
 (0 :
 Int) =
 (0 :
 Int) ∧
 (0 :
 Int) =
 (0 :
 Int) ∧
 (0 :
 Int) =
 (0 :
 Int) ∧
 (0 :
 Int) =
 (0 :
 Int) ∧
 (0 :
 Int) =
 (0 :
 Int) ∧
 (0 :
 Int) =
 (0 :
 Int) ∧
 (0 :
 Int) =
 (0 :
 Int)) ∧
 ((0 : Int) =
 (0 :
 Int) ∧
 a_12 =
 a_12 ∧
 a_13 =
 a_13 ∧
 a_14 =
 a_14 ∧
 a_15 =
 a_15 ∧
 a_16 =
 a_16 ∧
 a_17 =
 a_17 ∧
 y_19 =
 y_19) ∧
 y = y ∧
 y_4 =
 y_4) ∧
 Z y_37 ∧
 μ y_37 <
 μ y_18) ∧
 ((sizeD y_26 y_1 ==
 y) =
 false →
 ((y_22 = y_22 ∧
 a = a ∧
 y_1 =
 y_1 ∧
 True ∧
 (True ∧
 True) ∧
 True ∧
 y_8 =
 y_8 ∧
 y_13 =
 y_13) ∧
 ((0 : Int) =
 (0 :
 Int) ∧
 (0 :
 Int) =
 (0 :
 Int) ∧
 (0 :
 Int) =
 (0 :
 Int) ∧
 (0 :
 Int) =
 (0 :
 Int) ∧
 (0 :
 Int) =
 (0 :
 Int) ∧
 (0 :
 Int) =
 (0 :
 Int) ∧
 (0 :
 Int) =
 (0 :
 Int) ∧
 (0 :
 Int) =
 (0 :
 Int)) ∧
 ((0 : Int) =
 (0 :
 Int) ∧
 y_30 =
 y_30 ∧
 y_34 =
 y_34 ∧
 y_36 =
 y_36 ∧
 y_35 =
 y_35 ∧
 y_29.fst =
 y_32 ∧
 y_29.snd.fst =
 y_31 ∧
 y_19 =
 y_19) ∧
 y = y ∧
 y_4 =
 y_4) ∧
 Z_1 y_24 ∧
 μ_1 y_24 <
 μ_1 y_27)) ∧
 (y_7 = false →
 ((y_22 = y_22 ∧
 a = a ∧
 y_1 = y_1 ∧
 True ∧
 (True ∧
 True) ∧
 True ∧
 y_8 =
 y_8 ∧
 y_13 =
 y_13) ∧
 ((0 : Int) =
 (0 : Int) ∧
 (0 : Int) =
 (0 :
 Int) ∧
 (0 : Int) =
 (0 :
 Int) ∧
 (0 :
 Int) =
 (0 :
 Int) ∧
 (0 :
 Int) =
 (0 :
 Int) ∧
 (0 :
 Int) =
 (0 :
 Int) ∧
 (0 :
 Int) =
 (0 :
 Int) ∧
 (0 :
 Int) =
 (0 :
 Int)) ∧
 ((0 : Int) =
 (0 :
 Int) ∧
 y_30 =
 y_30 ∧
 y_34 =
 y_34 ∧
 y_36 =
 y_36 ∧
 y_35 =
 y_35 ∧
 y_29.fst =
 y_32 ∧
 y_29.snd.fst =
 y_31 ∧
 y_19 =
 y_19) ∧
 y = y ∧
 y_4 = y_4) ∧
 Z_1 y_24 ∧
 μ_1 y_24 <
 μ_1 y_27))) ∧
 (decide (a_11 < y_13) = false →
 ((a = a ∧
 y_1 = y_1 ∧
 True ∧ (True ∧ True) ∧ True) ∧
 ((0 : Int) = (0 : Int) ∧
 (0 : Int) = (0 : Int) ∧
 (0 : Int) = (0 : Int) ∧
 (0 : Int) = (0 : Int) ∧
 (0 : Int) = (0 : Int) ∧
 (0 : Int) =
 (0 : Int) ∧
 (0 : Int) =
 (0 : Int) ∧
 (0 : Int) =
 (0 : Int)) ∧
 ((0 : Int) = (0 : Int) ∧
 a_12 = a_12 ∧
 a_13 = a_13 ∧
 a_14 = a_14 ∧
 a_15 = a_15 ∧
 a_16 = a_16 ∧
 a_17 = a_17 ∧
 y_19 = y_19) ∧
 y = y ∧ y_4 = y_4) ∧
 Z y_38 ∧ μ y_38 < μ y_18))) ∧
 ((!NT.isNil a) = false →
 (y_10 = true →
 y_10 = true ∧
 (((0 : Int) = (0 : Int) ∧
 y_1 = y_1 ∧
 True ∧
 (True ∧ True) ∧
 True ∧ y_9 = y_9 ∧ y_12 = y_12) ∧
 ((0 : Int) = (0 : Int) ∧
 (0 : Int) = (0 : Int) ∧
 (0 : Int) = (0 : Int) ∧
 (0 : Int) = (0 : Int) ∧
 (0 : Int) = (0 : Int) ∧
 (0 : Int) = (0 : Int) ∧
 (0 : Int) = (0 : Int) ∧
 (0 : Int) = (0 : Int)) ∧
 ((0 : Int) = (0 : Int) ∧
 a_1 = a_1 ∧
 a_2 = a_2 ∧
 a_3 = a_3 ∧
 a_4 = a_4 ∧
 a_5 = a_5 ∧ a_6 = a_6 ∧ a_7 = a_7) ∧
 y = y ∧ y_4 = y_4) ∧
 ∃ (Z :
 Int × Int × Int × Int × Int × Int × Int × Unit →
 Prop),
 ∃ (μ :
 Int × Int × Int × Int × Int × Int × Int × Unit →
 Nat),
 Z y_17 ∧
 ∀ (a : Int),
 let y_21 :=  ofI  (List.getD y_9 (Int.toNat a) (Ty.dflt t89));
 let y_22 :=  IntKind.wrap IntKind.i64 (a + (1 : Int));
 ∀ (a_9 a_10 a_11 a_12 : Int),
 let y_23 := (a_10, a_11, a_12, ());
 ∀ (a_13 a_14 : Int),
 let y_24 :=  (y_22,  (addS (a_9, y_23, a_13, a_14, ())  y_21).fst,  (addS (a_9, y_23, a_13, a_14, ())  y_21).snd.fst.fst,  (addS (a_9, y_23, a_13, a_14, ())  y_21).snd.fst.snd.fst,  (addS (a_9, y_23, a_13, a_14, ())  y_21).snd.fst.snd.snd.fst,  (addS (a_9, y_23, a_13, a_14, ())  y_21).snd.snd);
 let y_25 := (a_9, y_23, a_13, a_14, ());
 let y_26 :=  (a, a_9, a_10, a_11, a_12, a_13, a_14,  ());
 let y_27 := (addS y_25 y_21).snd;
 let y_28 :=  ((a_9, y_25, a_7, ()), (0 : Int), ());
 let y_29 := (addS y_25 y_21).fst;
 let y_30 := y_27.fst.snd;
 let y_31 := y_27.snd;
 let y_32 := y_27.fst.fst;
 let y_33 := y_31.snd.fst;
 let y_34 := y_31.fst;
 let y_35 := y_30.snd.fst;
 let y_36 := y_30.fst;
 Z y_26 →
 (decide (a < y_12) = true →
 ((0 : Int) ≤ a ∧ a < y_12) ∧
 True ∧
 True ∧
 ((0 : Int) ≤ y_1 ∧
 y_1 ≤ (3 : Int)) ∧
 (decide
 (sizeD
 (addS y_25 y_21)
 y_1 >
 y) =
 true →
 y_28 = y_6) ∧
 (decide
 (sizeD
 (addS y_25 y_21)
 y_1 >
 y) =
 false →
 (y_7 = true →
 ((sizeD
 (addS y_25
 y_21)
 y_1 ==
 y) =
 true →
 y_28 = y_6) ∧
 ((sizeD
 (addS y_25
 y_21)
 y_1 ==
 y) =
 false →
 ((y_22 = y_22 ∧
 y_1 = y_1 ∧
 True ∧
 (True ∧
 True) ∧
 True ∧
 y_9 =
 y_9 ∧
 y_12 =
 y_12) ∧
 ((0 : Int) =
 (0 :
 Int) ∧
 (0 :
 Int) =
 (0 :
 Int) ∧
 (0 :
 Int) =
 (0 :
 Int) ∧
 (0 :
 Int) =
 (0 :
 Int) ∧
 (0 :
 Int) =
 (0 :
 Int) ∧
 (0 :
 Int) =
 (0 :
 Int) ∧
 (0 :
 Int) =
 (0 :
 Int) ∧
 (0 :
 Int) =
 (0 :
 Int)) ∧
 ((0 : Int) =
 (0 :
 Int) ∧
 y_29 =
 y_29 ∧
 y_32 =
 y_32 ∧
 y_36 =
 y_36 ∧
 y_35 =
 y_35 ∧
 y_31.fst =
 y_34 ∧
 y_31.snd.fst =
 y_33 ∧
 a_7 =
 a_7) ∧
 y = y ∧
 y_4 =
 y_4) ∧
 Z y_24 ∧
 μ y_24 <
 μ y_26)) ∧
 (y_7 = false →
 ((y_22 = y_22 ∧
 y_1 = y_1 ∧
 True ∧
 (True ∧
 True) ∧
 True ∧
 y_9 =
 y_9 ∧
 y_12 =
 y_12) ∧
 ((0 : Int) =
 (0 : Int) ∧
 (0 : Int) =
 (0 :
 Int) ∧
 (0 : Int) =
 (0 :
 Int) ∧
 (0 :
 Int) =
 (0 :
 Int) ∧
 (0 :
 Int) =
 (0 :
 Int) ∧
 (0 :
 Int) =
 (0 :
 Int) ∧
 (0 :
 Int) =
 (0 :
 Int) ∧
 (0 :
 Int) =
 (0 :
 Int)) ∧
 ((0 : Int) =
 (0 :
 Int) ∧
 y_29 =
 y_29 ∧
 y_32 =
 y_32 ∧
 y_36 =
 y_36 ∧
 y_35 =
 y_35 ∧
 y_31.fst =
 y_34 ∧
 y_31.snd.fst =
 y_33 ∧
 a_7 =
 a_7) ∧
 y = y ∧
 y_4 = y_4) ∧
 Z y_24 ∧
 μ y_24 <
 μ y_26))) ∧
 (decide (a < y_12) = false →
 y_28 = y_6)) ∧
 (y_10 = false →
 ((a_1, y_16, a_7, ()), (0 : Int), ()) = y_6)))) ∧
 ((y_4 != (0 : Int)) = false →
 True ∧
 ((topT y_3 = topT y_3 ∧ y_1 = y_1 ∧ True ∧ (True ∧ True) ∧ True) ∧
 ((0 : Int) = (0 : Int) ∧
 (0 : Int) = (0 : Int) ∧
 (0 : Int) = (0 : Int) ∧
 (0 : Int) = (0 : Int) ∧
 (0 : Int) = (0 : Int) ∧
 (0 : Int) = (0 : Int) ∧ (0 : Int) = (0 : Int) ∧ (0 : Int) = (0 : Int)) ∧
 ((0 : Int) = (0 : Int) ∧
 (0 : Int) = (0 : Int) ∧
 (0 : Int) = (0 : Int) ∧
 (0 : Int) = (0 : Int) ∧
 (0 : Int) = (0 : Int) ∧
 (0 : Int) = (0 : Int) ∧ (0 : Int) = (0 : Int) ∧ (0 : Int) = (0 : Int)) ∧
 y = y ∧ y_4 = y_4) ∧
 ∃ (Z :
 Nd ×
 Int × Int × Int × Int × Int × Int × Int × Unit →
 Prop),
 ∃ (μ :
 Nd ×
 Int × Int × Int × Int × Int × Int × Int × Unit →
 Nat),
 Z y_2 ∧
 ∀ (a : Nd),
 let y_8 :=  (List.getD (optL (NT.asInner a)) (0 : Nat)  (([], (0, zS, ())) : List Nd × Nx)).fst;
 let y_9 := (List.getD (optL (NT.asLeaf a)) (0 : Nat) (([], zS, ()) : Lf)).fst;
 let y_10 := Option.isSome (NT.asLeaf a);
 let y_11 := !Option.isSome (NT.asInner a);
 let y_12 := (↑(List.length y_9) : Int);
 let y_13 := (↑(List.length y_8) : Int);
 ∀ (a_1 a_2 a_3 a_4 : Int),
 let y_14 := (a_2, a_3, a_4, ());
 ∀ (a_5 a_6 : Int),
 let y_15 := (a_1, a_2, a_3, a_4, a_5, a_6, ());
 let y_16 := (a_1, y_14, a_5, a_6, ());
 let y_17 := ((0 : Int), y_15);
 ∀ (a_7 : Int),
 let y_18 := (a, a_1, a_2, a_3, a_4, a_5, a_6, a_7, ());
 let y_19 := IntKind.wrap IntKind.i64 (a_7 + (1 : Int));
 let y_20 := (y_19, ());
 Z y_18 →
 ((!NT.isNil a) = true →
 (y_11 = true →
 (y_10 = true →
 y_10 = true ∧
 (((0 : Int) = (0 : Int) ∧
 y_1 = y_1 ∧
 True ∧
 (True ∧ True) ∧
 True ∧ y_9 = y_9 ∧ y_12 = y_12) ∧
 ((0 : Int) = (0 : Int) ∧
 (0 : Int) = (0 : Int) ∧
 (0 : Int) = (0 : Int) ∧
 (0 : Int) = (0 : Int) ∧
 (0 : Int) = (0 : Int) ∧
 (0 : Int) = (0 : Int) ∧
 (0 : Int) = (0 : Int) ∧
 (0 : Int) = (0 : Int)) ∧
 ((0 : Int) = (0 : Int) ∧
 a_1 = a_1 ∧
 a_2 = a_2 ∧
 a_3 = a_3 ∧
 a_4 = a_4 ∧
 a_5 = a_5 ∧ a_6 = a_6 ∧ y_19 = y_19) ∧
 y = y ∧ y_4 = y_4) ∧
 ∃ (Z :
 Int × Int × Int × Int × Int × Int × Int × Unit →
 Prop),
 ∃ (μ :
 Int × Int × Int × Int × Int × Int × Int × Unit →
 Nat),
 Z y_17 ∧
 ∀ (a : Int),
 let y_21 :=  ofI  (List.getD y_9 (Int.toNat a) (Ty.dflt t89));
 let y_22 :=  IntKind.wrap IntKind.i64 (a + (1 : Int));
 ∀ (a_10 a_11 a_12 a_13 : Int),
 let y_23 := (a_11, a_12, a_13, ());
 ∀ (a_14 a_15 : Int),
 let y_24 :=  (y_22,  (addS (a_10, y_23, a_14, a_15, ())  y_21).fst,  (addS (a_10, y_23, a_14, a_15, ())  y_21).snd.fst.fst,  (addS (a_10, y_23, a_14, a_15, ())  y_21).snd.fst.snd.fst,  (addS (a_10, y_23, a_14, a_15, ())  y_21).snd.fst.snd.snd.fst,  (addS (a_10, y_23, a_14, a_15, ())  y_21).snd.snd);
 let y_25 := (a_10, y_23, a_14, a_15, ());
 let y_26 :=  (a, a_10, a_11, a_12, a_13, a_14, a_15,  ());
 let y_27 := (addS y_25 y_21).snd;
 let y_28 :=  ((a_10, y_25, y_19, ()), (0 : Int), ());
 let y_29 := (addS y_25 y_21).fst;
 let y_30 := y_27.fst.snd;
 let y_31 := y_27.snd;
 let y_32 := y_27.fst.fst;
 let y_33 := y_31.snd.fst;
 let y_34 := y_31.fst;
 let y_35 := y_30.snd.fst;
 let y_36 := y_30.fst;
 Z y_26 →
 (decide (a < y_12) = true →
 ((0 : Int) ≤ a ∧ a < y_12) ∧
 True ∧
 True ∧
 ((0 : Int) ≤ y_1 ∧
 y_1 ≤ (3 : Int)) ∧
 (decide
 (sizeD
 (addS y_25 y_21)
 y_1 >
 y) =
 true →
 y_28 = y_6) ∧
 (decide
 (sizeD
 (addS y_25 y_21)
 y_1 >
 y) =
 false →
 (y_7 = true →
 ((sizeD
 (addS y_25
 y_21)
 y_1 ==
 y) =
 true →
 y_28 = y_6) ∧
 ((sizeD
 (addS y_25
 y_21)
 y_1 ==
 y) =
 false →
 ((y_22 = y_22 ∧
 y_1 = y_1 ∧
 True ∧
 (True ∧
 True) ∧
 True ∧
 y_9 =
 y_9 ∧
 y_12 =
 y_12) ∧
 ((0 : Int) =
 (0 :
 Int) ∧
 (0 :
 Int) =
 (0 :
 Int) ∧
 (0 :
 Int) =
 (0 :
 Int) ∧
 (0 :
 Int) =
 (0 :
 Int) ∧
 (0 :
 Int) =
 (0 :
 Int) ∧
 (0 :
 Int) =
 (0 :
 Int) ∧
 (0 :
 Int) =
 (0 :
 Int) ∧
 (0 :
 Int) =
 (0 :
 Int)) ∧
 ((0 : Int) =
 (0 :
 Int) ∧
 y_29 =
 y_29 ∧
 y_32 =
 y_32 ∧
 y_36 =
 y_36 ∧
 y_35 =
 y_35 ∧
 y_31.fst =
 y_34 ∧
 y_31.snd.fst =
 y_33 ∧
 y_19 =
 y_19) ∧
 y = y ∧
 y_4 =
 y_4) ∧
 Z y_24 ∧
 μ y_24 <
 μ y_26)) ∧
 (y_7 = false →
 ((y_22 = y_22 ∧
 y_1 = y_1 ∧
 True ∧
 (True ∧
 True) ∧
 True ∧
 y_9 =
 y_9 ∧
 y_12 =
 y_12) ∧
 ((0 : Int) =
 (0 : Int) ∧
 (0 : Int) =
 (0 :
 Int) ∧
 (0 : Int) =
 (0 :
 Int) ∧
 (0 :
 Int) =
 (0 :
 Int) ∧
 (0 :
 Int) =
 (0 :
 Int) ∧
 (0 :
 Int) =
 (0 :
 Int) ∧
 (0 :
 Int) =
 (0 :
 Int) ∧
 (0 :
 Int) =
 (0 :
 Int)) ∧
 ((0 : Int) =
 (0 :
 Int) ∧
 y_29 =
 y_29 ∧
 y_32 =
 y_32 ∧
 y_36 =
 y_36 ∧
 y_35 =
 y_35 ∧
 y_31.fst =
 y_34 ∧
 y_31.snd.fst =
 y_33 ∧
 y_19 =
 y_19) ∧
 y = y ∧
 y_4 = y_4) ∧
 Z y_24 ∧
 μ y_24 <
 μ y_26))) ∧
 (decide (a < y_12) = false →
 y_28 = y_6)) ∧
 (y_10 = false →
 ((a_1, y_16, y_19, ()), (0 : Int), ()) = y_6)) ∧
 (y_11 = false →
 Option.isSome (NT.asInner a) = true ∧
 (((0 : Int) = (0 : Int) ∧
 (NT.nil : Nd) = (NT.nil : Nd) ∧
 y_1 = y_1 ∧
 True ∧
 (True ∧ True) ∧ True ∧ y_8 = y_8 ∧ y_13 = y_13) ∧
 ((0 : Int) = (0 : Int) ∧
 (0 : Int) = (0 : Int) ∧
 (0 : Int) = (0 : Int) ∧
 (0 : Int) = (0 : Int) ∧
 (0 : Int) = (0 : Int) ∧
 (0 : Int) = (0 : Int) ∧
 (0 : Int) = (0 : Int) ∧
 (0 : Int) = (0 : Int)) ∧
 ((0 : Int) = (0 : Int) ∧
 a_1 = a_1 ∧
 a_2 = a_2 ∧
 a_3 = a_3 ∧
 a_4 = a_4 ∧
 a_5 = a_5 ∧ a_6 = a_6 ∧ y_19 = y_19) ∧
 y = y ∧ y_4 = y_4) ∧
 ∃ (Z_1 :
 Nd ×
 Int × Int × Int × Int × Int × Int × Int × Unit →
 Prop),
 ∃ (μ_1 :
 Nd ×
 Int × Int × Int × Int × Int × Int × Int × Unit →
 Nat),
 Z_1 (NT.nil, (0 : Int), y_15) ∧
 ∀
 (a :
 Nd)
 (a_11 : Int),
 let y_21 :=  List.getD y_8 (Int.toNat a_11)  (NT.nil : Nd);
 let y_22 :=  IntKind.wrap IntKind.i64 (a_11 + (1 : Int));
 ∀ (a_12 a_13 a_14 a_15 : Int),
 let y_23 := (a_13, a_14, a_15, ());
 ∀ (a_16 a_17 : Int),
 let y_24 :=  (a, y_22,  (addS (a_12, y_23, a_16, a_17, ())  (sumOf y_21)).fst,  (addS (a_12, y_23, a_16, a_17, ())  (sumOf y_21)).snd.fst.fst,  (addS (a_12, y_23, a_16, a_17, ())  (sumOf y_21)).snd.fst.snd.fst,  (addS (a_12, y_23, a_16, a_17, ())  (sumOf  y_21)).snd.fst.snd.snd.fst,  (addS (a_12, y_23, a_16, a_17, ())  (sumOf y_21)).snd.snd);
 let y_25 :=  (a_12, a_13, a_14, a_15, a_16, a_17, y_20);
 let y_26 :=  addS (a_12, y_23, a_16, a_17, ())  (sumOf y_21);
 let y_27 :=  (a, a_11, a_12, a_13, a_14, a_15, a_16, a_17,  ());
 let y_28 := y_26.snd.fst;
 let y_29 := y_26.snd.snd;
 let y_30 := y_26.fst;
 let y_31 := y_29.snd.fst;
 let y_32 := y_29.fst;
 let y_33 := y_28.snd;
 let y_34 := y_28.fst;
 let y_35 := y_33.snd.fst;
 let y_36 := y_33.fst;
 let y_37 := (y_21, y_25);
 let y_38 := (a, y_25);
 Z_1 y_27 →
 (decide (a_11 < y_13) = true →
 ((0 : Int) ≤ a_11 ∧ a_11 < y_13) ∧
 True ∧
 True ∧
 ((0 : Int) ≤ y_1 ∧
 y_1 ≤ (3 : Int)) ∧
 (decide (sizeD y_26 y_1 > y) =
 true →
 ((y_21 = y_21 ∧
 y_1 = y_1 ∧
 True ∧
 (True ∧ True) ∧
 True) ∧
 ((0 : Int) = (0 : Int) ∧
 (0 : Int) =
 (0 : Int) ∧
 (0 : Int) =
 (0 : Int) ∧
 (0 : Int) =
 (0 : Int) ∧
 (0 : Int) =
 (0 : Int) ∧
 (0 : Int) =
 (0 :
 Int) ∧
 (0 : Int) =
 (0 :
 Int) ∧
 (0 :
 Int) =
 (0 :
 Int)) ∧
 ((0 : Int) = (0 : Int) ∧
 a_12 = a_12 ∧
 a_13 = a_13 ∧
 a_14 = a_14 ∧
 a_15 = a_15 ∧
 a_16 =
 a_16 ∧
 a_17 =
 a_17 ∧
 y_19 =
 y_19) ∧
 y = y ∧ y_4 = y_4) ∧
 Z y_37 ∧ μ y_37 < μ y_18) ∧
 (decide (sizeD y_26 y_1 > y) =
 false →
 (y_7 = true →
 ((sizeD y_26 y_1 == y) =
 true →
 ((y_21 = y_21 ∧
 y_1 = y_1 ∧
 True ∧
 (True ∧
 True) ∧
 True) ∧
 ((0 : Int) =
 (0 : Int) ∧
 (0 : Int) =
 (0 :
 Int) ∧
 (0 : Int) =
 (0 :
 Int) ∧
 (0 :
 Int) =
 (0 :
 Int) ∧
 (0 :
 Int) =
 (0 :
 Int) ∧
 (0 :
 Int) =
 (0 :
 Int) ∧
 (0 :
 Int) =
 (0 :
 Int) ∧
 (0 :
 Int) =
 (0 :
 Int)) ∧
 ((0 : Int) =
 (0 :
 Int) ∧
 a_12 =
 a_12 ∧
 a_13 =
 a_13 ∧
 a_14 =
 a_14 ∧
 a_15 =
 a_15 ∧
 a_16 =
 a_16 ∧
 a_17 =
 a_17 ∧
 y_19 =
 y_19) ∧
 y = y ∧
 y_4 = y_4) ∧
 Z y_37 ∧
 μ y_37 < μ y_18) ∧
 ((sizeD y_26 y_1 == y) =
 false →
 ((y_22 = y_22 ∧
 a = a ∧
 y_1 = y_1 ∧
 True ∧
 (True ∧
 True) ∧
 True ∧
 y_8 =
 y_8 ∧
 y_13 =
 y_13) ∧
 ((0 : Int) =
 (0 : Int) ∧
 (0 : Int) =
 (0 :
 Int) ∧
 (0 : Int) =
 (0 :
 Int) ∧
 (0 :
 Int) =
 (0 :
 Int) ∧
 (0 :
 Int) =
 (0 :
 Int) ∧
 (0 :
 Int) =
 (0 :
 Int) ∧
 (0 :
 Int) =
 (0 :
 Int) ∧
 (0 :
 Int) =
 (0 :
 Int)) ∧
 ((0 : Int) =
 (0 :
 Int) ∧
 y_30 =
 y_30 ∧
 y_34 =
 y_34 ∧
 y_36 =
 y_36 ∧
 y_35 =
 y_35 ∧
 y_29.fst =
 y_32 ∧
 y_29.snd.fst =
 y_31 ∧
 y_19 =
 y_19) ∧
 y = y ∧
 y_4 = y_4) ∧
 Z_1 y_24 ∧
 μ_1 y_24 <
 μ_1 y_27)) ∧
 (y_7 = false →
 ((y_22 = y_22 ∧
 a = a ∧
 y_1 = y_1 ∧
 True ∧
 (True ∧
 True) ∧
 True ∧
 y_8 =
 y_8 ∧
 y_13 =
 y_13) ∧
 ((0 : Int) =
 (0 : Int) ∧
 (0 : Int) =
 (0 : Int) ∧
 (0 : Int) =
 (0 : Int) ∧
 (0 : Int) =
 (0 :
 Int) ∧
 (0 : Int) =
 (0 :
 Int) ∧
 (0 :
 Int) =
 (0 :
 Int) ∧
 (0 :
 Int) =
 (0 :
 Int) ∧
 (0 :
 Int) =
 (0 :
 Int)) ∧
 ((0 : Int) =
 (0 : Int) ∧
 y_30 = y_30 ∧
 y_34 = y_34 ∧
 y_36 =
 y_36 ∧
 y_35 =
 y_35 ∧
 y_29.fst =
 y_32 ∧
 y_29.snd.fst =
 y_31 ∧
 y_19 =
 y_19) ∧
 y = y ∧
 y_4 = y_4) ∧
 Z_1 y_24 ∧
 μ_1 y_24 <
 μ_1 y_27))) ∧
 (decide (a_11 < y_13) = false →
 ((a = a ∧
 y_1 = y_1 ∧
 True ∧ (True ∧ True) ∧ True) ∧
 ((0 : Int) = (0 : Int) ∧
 (0 : Int) = (0 : Int) ∧
 (0 : Int) = (0 : Int) ∧
 (0 : Int) = (0 : Int) ∧
 (0 : Int) = (0 : Int) ∧
 (0 : Int) = (0 : Int) ∧
 (0 : Int) = (0 : Int) ∧
 (0 : Int) =
 (0 : Int)) ∧
 ((0 : Int) = (0 : Int) ∧
 a_12 = a_12 ∧
 a_13 = a_13 ∧
 a_14 = a_14 ∧
 a_15 = a_15 ∧
 a_16 = a_16 ∧
 a_17 = a_17 ∧
 y_19 = y_19) ∧
 y = y ∧ y_4 = y_4) ∧
 Z y_38 ∧ μ y_38 < μ y_18))) ∧
 ((!NT.isNil a) = false →
 (y_10 = true →
 y_10 = true ∧
 (((0 : Int) = (0 : Int) ∧
 y_1 = y_1 ∧
 True ∧
 (True ∧ True) ∧ True ∧ y_9 = y_9 ∧ y_12 = y_12) ∧
 ((0 : Int) = (0 : Int) ∧
 (0 : Int) = (0 : Int) ∧
 (0 : Int) = (0 : Int) ∧
 (0 : Int) = (0 : Int) ∧
 (0 : Int) = (0 : Int) ∧
 (0 : Int) = (0 : Int) ∧
 (0 : Int) = (0 : Int) ∧
 (0 : Int) = (0 : Int)) ∧
 ((0 : Int) = (0 : Int) ∧
 a_1 = a_1 ∧
 a_2 = a_2 ∧
 a_3 = a_3 ∧
 a_4 = a_4 ∧
 a_5 = a_5 ∧ a_6 = a_6 ∧ a_7 = a_7) ∧
 y = y ∧ y_4 = y_4) ∧
 ∃ (Z :
 Int × Int × Int × Int × Int × Int × Int × Unit → Prop),
 ∃ (μ :
 Int × Int × Int × Int × Int × Int × Int × Unit → Nat),
 Z y_17 ∧
 ∀ (a : Int),
 let y_21 :=  ofI (List.getD y_9 (Int.toNat a) (Ty.dflt t89));
 let y_22 :=  IntKind.wrap IntKind.i64 (a + (1 : Int));
 ∀ (a_9 a_10 a_11 a_12 : Int),
 let y_23 := (a_10, a_11, a_12, ());
 ∀ (a_13 a_14 : Int),
 let y_24 :=  (y_22,  (addS (a_9, y_23, a_13, a_14, ()) y_21).fst,  (addS (a_9, y_23, a_13, a_14, ())  y_21).snd.fst.fst,  (addS (a_9, y_23, a_13, a_14, ())  y_21).snd.fst.snd.fst,  (addS (a_9, y_23, a_13, a_14, ())  y_21).snd.fst.snd.snd.fst,  (addS (a_9, y_23, a_13, a_14, ())  y_21).snd.snd);
 let y_25 := (a_9, y_23, a_13, a_14, ());
 let y_26 :=  (a, a_9, a_10, a_11, a_12, a_13, a_14, ());
 let y_27 := (addS y_25 y_21).snd;
 let y_28 :=  ((a_9, y_25, a_7, ()), (0 : Int), ());
 let y_29 := (addS y_25 y_21).fst;
 let y_30 := y_27.fst.snd;
 let y_31 := y_27.snd;
 let y_32 := y_27.fst.fst;
 let y_33 := y_31.snd.fst;
 let y_34 := y_31.fst;
 let y_35 := y_30.snd.fst;
 let y_36 := y_30.fst;
 Z y_26 →
 (decide (a < y_12) = true →
 ((0 : Int) ≤ a ∧ a < y_12) ∧
 True ∧
 True ∧
 ((0 : Int) ≤ y_1 ∧
 y_1 ≤ (3 : Int)) ∧
 (decide
 (sizeD (addS y_25 y_21)
 y_1 >
 y) =
 true →
 y_28 = y_6) ∧
 (decide
 (sizeD (addS y_25 y_21)
 y_1 >
 y) =
 false →
 (y_7 = true →
 ((sizeD (addS y_25 y_21)
 y_1 ==
 y) =
 true →
 y_28 = y_6) ∧
 ((sizeD (addS y_25 y_21)
 y_1 ==
 y) =
 false →
 ((y_22 = y_22 ∧
 y_1 = y_1 ∧
 True ∧
 (True ∧
 True) ∧
 True ∧
 y_9 =
 y_9 ∧
 y_12 =
 y_12) ∧
 ((0 : Int) =
 (0 : Int) ∧
 (0 : Int) =
 (0 :
 Int) ∧
 (0 : Int) =
 (0 :
 Int) ∧
 (0 :
 Int) =
 (0 :
 Int) ∧
 (0 :
 Int) =
 (0 :
 Int) ∧
 (0 :
 Int) =
 (0 :
 Int) ∧
 (0 :
 Int) =
 (0 :
 Int) ∧
 (0 :
 Int) =
 (0 :
 Int)) ∧
 ((0 : Int) =
 (0 :
 Int) ∧
 y_29 =
 y_29 ∧
 y_32 =
 y_32 ∧
 y_36 =
 y_36 ∧
 y_35 =
 y_35 ∧
 y_31.fst =
 y_34 ∧
 y_31.snd.fst =
 y_33 ∧
 a_7 =
 a_7) ∧
 y = y ∧
 y_4 = y_4) ∧
 Z y_24 ∧
 μ y_24 <
 μ y_26)) ∧
 (y_7 = false →
 ((y_22 = y_22 ∧
 y_1 = y_1 ∧
 True ∧
 (True ∧ True) ∧
 True ∧
 y_9 = y_9 ∧
 y_12 =
 y_12) ∧
 ((0 : Int) =
 (0 : Int) ∧
 (0 : Int) =
 (0 : Int) ∧
 (0 : Int) =
 (0 : Int) ∧
 (0 : Int) =
 (0 :
 Int) ∧
 (0 : Int) =
 (0 :
 Int) ∧
 (0 :
 Int) =
 (0 :
 Int) ∧
 (0 :
 Int) =
 (0 :
 Int) ∧
 (0 :
 Int) =
 (0 :
 Int)) ∧
 ((0 : Int) =
 (0 : Int) ∧
 y_29 = y_29 ∧
 y_32 = y_32 ∧
 y_36 =
 y_36 ∧
 y_35 =
 y_35 ∧
 y_31.fst =
 y_34 ∧
 y_31.snd.fst =
 y_33 ∧
 a_7 =
 a_7) ∧
 y = y ∧
 y_4 = y_4) ∧
 Z y_24 ∧
 μ y_24 < μ y_26))) ∧
 (decide (a < y_12) = false → y_28 = y_6)) ∧
 (y_10 = false → ((a_1, y_16, a_7, ()), (0 : Int), ()) = y_6)))))))
theorem vcEq35 : fnVC E35 Tryd.f35 (bodyOf Tryd.f35) cFind = vc35 := by kernel_rfl
def hs36 : List (Nat × Nat × Hint) := [(0, 4, ⟨[.slot 1 t3, .slot 6 t116], [4], [4], []⟩),
  (0, 7, ⟨[.slot 1 t3, .slot 6 t116, .slot 36 t3], [4, 34, 35], [4], []⟩)]
def nm36 : List Nat := [3000000024]
noncomputable def E36 : Env := env tab [(37, cSum), (66, cTop), (68, cSumOf)] [] gl hs36 nm36
def vc36 : Prop :=
 ∀ (x : Option (Nd × Unit) × Int × Unit),
 let y := x.snd.fst;
 let y_1 := x.fst;
 let y_2 := decide (y ≥ (sumOf (topT y_1)).fst);
 okTre y_1 →
 (decide (y < (0 : Int)) = true →
 (((0 : Int), (0 : Int), ((0 : Int), (0 : Int), (0 : Int), ()), (0 : Int), ByteArray.empty, ()), (1 : Int), ()) =
 atT y_1 y) ∧
 (decide (y < (0 : Int)) = false →
 True ∧
 (y_2 = true →
 (((0 : Int), (0 : Int), ((0 : Int), (0 : Int), (0 : Int), ()), (0 : Int), ByteArray.empty, ()), (1 : Int),
 ()) =
 atT y_1 y) ∧
 (y_2 = false →
 True ∧
 ((topT y_1 = topT y_1 ∧ y = y ∧ True) ∧
 (0 : Int) = (0 : Int) ∧
 (0 : Int) = (0 : Int) ∧
 (0 : Int) = (0 : Int) ∧
 (0 : Int) = (0 : Int) ∧
 (0 : Int) = (0 : Int) ∧ (0 : Int) = (0 : Int) ∧ ByteArray.empty = ByteArray.empty) ∧
 ∃ (Z : Int × Nd × Unit → Prop),
 ∃ (μ : Int × Nd × Unit → Nat),
 Z (y, topT y_1, ()) ∧
 ∀ (a : Int) (a_1 : Nd),
 let y_3 :=  (List.getD (optL (NT.asInner a_1)) (0 : Nat)  (([], (0, zS, ())) : List Nd × Nx)).fst;
 let y_4 := (a, a_1, ());
 let y_5 := (List.getD (optL (NT.asLeaf a_1)) (0 : Nat) (([], zS, ()) : Lf)).fst;
 let y_6 := !Option.isSome (NT.asInner a_1);
 let y_7 := (↑(List.length y_3) : Int);
 Z y_4 →
 (y_6 = true →
 Option.isSome (NT.asLeaf a_1) = true ∧
 Option.isSome (NT.asLeaf a_1) = true ∧
 ((0 : Int) ≤ a ∧ a < (↑(List.length y_5) : Int)) ∧
 (List.getD y_5 (Int.toNat a) (Ty.dflt t89), (0 : Int), ()) = atT y_1 y) ∧
 (y_6 = false →
 Option.isSome (NT.asInner a_1) = true ∧
 (((0 : Int) = (0 : Int) ∧ a_1 = a_1 ∧ a = a ∧ True ∧ y_3 = y_3 ∧ y_7 = y_7) ∧
 (0 : Int) = (0 : Int) ∧
 (0 : Int) = (0 : Int) ∧
 (0 : Int) = (0 : Int) ∧
 (0 : Int) = (0 : Int) ∧
 (0 : Int) = (0 : Int) ∧
 (0 : Int) = (0 : Int) ∧ ByteArray.empty = ByteArray.empty) ∧
 ∃ (Z_1 :
 Int × Nd × Int × Unit →
 Prop),
 ∃ (μ_1 :
 Int ×
 Nd × Int × Unit →
 Nat),
 Z_1 (a, a_1, (0 : Int), ()) ∧
 ∀ (a : Int)
 (a_4 : Nd),
 let y := (a, a_4, ());
 ∀ (a_5 : Int),
 let y_8 :=  List.getD y_3 (Int.toNat a_5)  (NT.nil : Nd);
 let y_9 := (a, a_4, a_5, ());
 let y_10 := IntKind.wrap IntKind.i64 (a_5 + (1 : Int));
 let y_11 :=  (IntKind.wrap IntKind.i64 (a - (sumOf y_8).fst), a_4, y_10, ());
 let y_12 := (sumOf y_8).fst;
 let y_13 := (a, y_8, ());
 Z_1 y_9 →
 (decide (a_5 < y_7) = true →
 ((0 : Int) ≤ a_5 ∧ a_5 < y_7) ∧
 True ∧
 (decide (a ≥ y_12) = true →
 ((y_10 = y_10 ∧
 a_4 = a_4 ∧
 IntKind.wrap IntKind.i64 (a - y_12) =
 IntKind.wrap IntKind.i64 (a - y_12) ∧
 True ∧ y_3 = y_3 ∧ y_7 = y_7) ∧
 (0 : Int) = (0 : Int) ∧
 (0 : Int) = (0 : Int) ∧
 (0 : Int) = (0 : Int) ∧
 (0 : Int) = (0 : Int) ∧
 (0 : Int) = (0 : Int) ∧
 (0 : Int) = (0 : Int) ∧
 ByteArray.empty = ByteArray.empty) ∧
 Z_1 y_11 ∧ μ_1 y_11 < μ_1 y_9) ∧
 (decide (a ≥ y_12) = false →
 ((y_8 = y_8 ∧ a = a ∧ True) ∧
 (0 : Int) = (0 : Int) ∧
 (0 : Int) = (0 : Int) ∧
 (0 : Int) = (0 : Int) ∧
 (0 : Int) = (0 : Int) ∧
 (0 : Int) = (0 : Int) ∧
 (0 : Int) = (0 : Int) ∧
 ByteArray.empty = ByteArray.empty) ∧
 Z y_13 ∧ μ y_13 < μ y_4)) ∧
 (decide (a_5 < y_7) = false →
 ((a_4 = a_4 ∧ a = a ∧ True) ∧
 (0 : Int) = (0 : Int) ∧
 (0 : Int) = (0 : Int) ∧
 (0 : Int) = (0 : Int) ∧
 (0 : Int) = (0 : Int) ∧
 (0 : Int) = (0 : Int) ∧
 (0 : Int) = (0 : Int) ∧
 ByteArray.empty = ByteArray.empty) ∧
 Z y ∧ μ y < μ y_4))))
theorem vcEq36 : fnVC E36 Tryd.f36 (bodyOf Tryd.f36) cAt = vc36 := by kernel_rfl
def hs38 : List (Nat × Nat × Hint) := [(0, 2, ⟨[.slot 8 t3], [0, 1, 7], [], []⟩)]
def nm38 : List Nat := [3000000024]
noncomputable def E38 : Env := env tab [] [] gl hs38 nm38
def vc38 : Prop :=
 ∀ (x : List (Int × Int × Unit) × List (Int × Int × Unit) × Unit),
 List.length x.fst ≤ maxLen ∧ List.length x.snd.fst ≤ maxLen →
 ((0 : Int) = (0 : Int) ∧
 x.fst = x.fst ∧ x.snd.fst = x.snd.fst ∧ (↑(List.length x.fst) : Int) = (↑(List.length x.fst) : Int)) ∧
 ∃ (Z : Int × Unit → Prop),
 ∃ (μ : Int × Unit → Nat),
 Z ((0 : Int), ()) ∧
 ∀ (a : Int),
 Z (a, ()) →
 (decide (a < (↑(List.length x.fst) : Int)) = true →
 (decide (a ≥ (↑(List.length x.snd.fst) : Int)) = true → false = sameP x.fst x.snd.fst) ∧
 (decide (a ≥ (↑(List.length x.snd.fst) : Int)) = false →
 ((0 : Int) ≤ a ∧ a < (↑(List.length x.fst) : Int)) ∧
 ((0 : Int) ≤ a ∧ a < (↑(List.length x.snd.fst) : Int)) ∧
 ((!Ty.beq t139 (List.getD x.fst (Int.toNat a) (Ty.dflt t139))
 (List.getD x.snd.fst (Int.toNat a) (Ty.dflt t139))) =
 true →
 false = sameP x.fst x.snd.fst) ∧
 ((!Ty.beq t139 (List.getD x.fst (Int.toNat a) (Ty.dflt t139))
 (List.getD x.snd.fst (Int.toNat a) (Ty.dflt t139))) =
 false →
 (IntKind.wrap IntKind.i64 (a + (1 : Int)) = IntKind.wrap IntKind.i64 (a + (1 : Int)) ∧
 x.fst = x.fst ∧
 x.snd.fst = x.snd.fst ∧
 (↑(List.length x.fst) : Int) = (↑(List.length x.fst) : Int)) ∧
 Z (IntKind.wrap IntKind.i64 (a + (1 : Int)), ()) ∧
 μ (IntKind.wrap IntKind.i64 (a + (1 : Int)), ()) < μ (a, ())))) ∧
 (decide (a < (↑(List.length x.fst) : Int)) = false →
 ((↑(List.length x.fst) : Int) == (↑(List.length x.snd.fst) : Int)) = sameP x.fst x.snd.fst)
theorem vcEq38 : fnVC E38 Tryd.f38 (bodyOf Tryd.f38) cSameP = vc38 := by kernel_rfl
def hs39 : List (Nat × Nat × Hint) := [(0, 3, ⟨[.rowS 3 900000003 t139 139, .slot 8 t3], [6, 7], [], []⟩)]
def nm39 : List Nat := [3000000024]
noncomputable def E39 : Env := env tab [] [] gl hs39 nm39
def vc39 : Prop :=
 ∀ (x : List (Int × Int × Unit) × Unit),
 List.length x.fst ≤ (1000000 : Nat) →
 (((0 : Int) = (0 : Int) ∧ True ∧ x.fst = x.fst ∧ (↑(List.length x.fst) : Int) = (↑(List.length x.fst) : Int)) ∧
 True ∧ True) ∧
 ∃ (Z : List (Int × Int × Unit) × Int × Unit → Prop),
 ∃ (μ : List (Int × Int × Unit) × Int × Unit → Nat),
 Z ([], (0 : Int), ()) ∧
 ∀ (a : List (Int × Int × Unit)) (a_1 : Int),
 Z (a, a_1, ()) →
 (decide (a_1 < (↑(List.length x.fst) : Int)) = true →
 ((0 : Int) ≤ a_1 ∧ a_1 < (↑(List.length x.fst) : Int)) ∧
 (List.length a + List.length [List.getD x.fst (Int.toNat a_1) (Ty.dflt t103)]) * (16 : Nat) ≤
 (140737488355328 : Nat) ∧
 List.length a + List.length [List.getD x.fst (Int.toNat a_1) (Ty.dflt t103)] ≤ maxLen ∧
 ((IntKind.wrap IntKind.i64 (a_1 + (1 : Int)) = IntKind.wrap IntKind.i64 (a_1 + (1 : Int)) ∧
 True ∧ x.fst = x.fst ∧ (↑(List.length x.fst) : Int) = (↑(List.length x.fst) : Int)) ∧
 a ++ [List.getD x.fst (Int.toNat a_1) (Ty.dflt t103)] =
 a ++ [List.getD x.fst (Int.toNat a_1) (Ty.dflt t103)] ∧
 True) ∧
 Z
 (a ++ [List.getD x.fst (Int.toNat a_1) (Ty.dflt t103)],
 IntKind.wrap IntKind.i64 (a_1 + (1 : Int)), ()) ∧
 μ
 (a ++ [List.getD x.fst (Int.toNat a_1) (Ty.dflt t103)],
 IntKind.wrap IntKind.i64 (a_1 + (1 : Int)), ()) <
 μ (a, a_1, ())) ∧
 (decide (a_1 < (↑(List.length x.fst) : Int)) = false → a = x.fst)
theorem vcEq39 : fnVC E39 Tryd.f39 (bodyOf Tryd.f39) cRefsP = vc39 := by kernel_rfl
def hs40 : List (Nat × Nat × Hint) := [(0, 3, ⟨[.rowS 3 900000003 t139 139, .slot 10 t3], [8, 9], [], []⟩)]
def nm40 : List Nat := [3000000024]
noncomputable def E40 : Env := env tab [(15, cSpots)] [] gl hs40 nm40
def vc40 : Prop :=
 ∀ (x : (Int × List Inl × Int × Unit) × Unit),
 let y := spots x.fst;
 let y_1 := (↑(List.length y) : Int);
 smallW x.fst →
 smallW x.fst ∧
 (((0 : Int) = (0 : Int) ∧ True ∧ y = y ∧ y_1 = y_1) ∧ True ∧ True) ∧
 ∃ (Z : List (Int × Int × Unit) × Int × Unit → Prop),
 ∃ (μ : List (Int × Int × Unit) × Int × Unit → Nat),
 Z ([], (0 : Int), ()) ∧
 ∀ (a : List (Int × Int × Unit)),
 let y_2 := IntKind.wrap IntKind.i64 ((↑(List.length a) : Int) - (1 : Int));
 let y_3 := (List.getD a (Int.toNat y_2) (Ty.dflt t139)).fst;
 let y_4 :=  List.set a (Int.toNat y_2)  (y_3, IntKind.wrap IntKind.i64 ((List.getD a (Int.toNat y_2) (Ty.dflt t139)).snd.fst + (1 : Int)),  ());
 ∀ (a_1 : Int),
 let y_5 := [((List.getD y (Int.toNat a_1) (Ty.dflt t44)).snd.fst, (1 : Int), ())];
 let y_6 := (a, a_1, ());
 let y_7 := IntKind.wrap IntKind.i64 (a_1 + (1 : Int));
 let y_8 := y_3 == (List.getD y (Int.toNat a_1) (Ty.dflt t44)).snd.fst;
 let y_9 := (y_4, y_7, ());
 let y_10 := (a ++ y_5, y_7, ());
 let y_11 := a ++ y_5;
 let y_12 := List.length a + List.length y_5;
 Z y_6 →
 (decide (a_1 < y_1) = true →
 ((0 : Int) ≤ a_1 ∧ a_1 < y_1) ∧
 (decide (a_1 > (0 : Int)) = true →
 ((0 : Int) ≤ y_2 ∧ y_2 < (↑(List.length a) : Int)) ∧
 (y_8 = true →
 ((0 : Int) ≤ y_2 ∧ y_2 < (↑(List.length a) : Int)) ∧
 ((0 : Int) ≤ y_2 ∧ y_2 < (↑(List.length a) : Int)) ∧
 ((y_7 = y_7 ∧ True ∧ y = y ∧ y_1 = y_1) ∧ y_4 = y_4 ∧ True) ∧
 Z y_9 ∧ μ y_9 < μ y_6) ∧
 (y_8 = false →
 y_12 * (16 : Nat) ≤ (140737488355328 : Nat) ∧
 y_12 ≤ maxLen ∧
 ((y_7 = y_7 ∧ True ∧ y = y ∧ y_1 = y_1) ∧ y_11 = y_11 ∧ True) ∧
 Z y_10 ∧ μ y_10 < μ y_6)) ∧
 (decide (a_1 > (0 : Int)) = false →
 y_12 * (16 : Nat) ≤ (140737488355328 : Nat) ∧
 y_12 ≤ maxLen ∧
 ((y_7 = y_7 ∧ True ∧ y = y ∧ y_1 = y_1) ∧ y_11 = y_11 ∧ True) ∧
 Z y_10 ∧ μ y_10 < μ y_6)) ∧
 (decide (a_1 < y_1) = false → a = refPieces x.fst)
theorem vcEq40 : fnVC E40 Tryd.f40 (bodyOf Tryd.f40) cRefPieces = vc40 := by kernel_rfl
def hs41 : List (Nat × Nat × Hint) := [(0, 3, ⟨[.slot 5 t3, .slot 6 t3], [0, 1], [], []⟩)]
def nm41 : List Nat := [3000000024]
noncomputable def E41 : Env := env tab [] [] gl hs41 nm41
def vc41 : Prop :=
 ∀ (x : Int × Int × Unit),
 x.fst ≤ (1000 : Int) ∧ (0 : Int) ≤ x.snd.fst ∧ x.snd.fst ≤ (1000000 : Int) →
 ((2 : Int) = (2 : Int) ∧ (1 : Int) = (1 : Int) ∧ x.fst = x.fst ∧ x.snd.fst = x.snd.fst) ∧
 ∃ (Z : Int × Int × Unit → Prop),
 ∃ (μ : Int × Int × Unit → Nat),
 Z ((1 : Int), (2 : Int), ()) ∧
 ∀ (a a_1 : Int),
 Z (a, a_1, ()) →
 (decide (a_1 < x.fst) = true →
 (decide
 (IntKind.wrap IntKind.i64 ((4 : Int) * a) >
 IntKind.wrap IntKind.i64 (x.snd.fst + (1 : Int))) =
 true →
 false = highB x.fst x.snd.fst) ∧
 (decide
 (IntKind.wrap IntKind.i64 ((4 : Int) * a) >
 IntKind.wrap IntKind.i64 (x.snd.fst + (1 : Int))) =
 false →
 (IntKind.wrap IntKind.i64 (a_1 + (1 : Int)) = IntKind.wrap IntKind.i64 (a_1 + (1 : Int)) ∧
 IntKind.wrap IntKind.i64 ((4 : Int) * a) = IntKind.wrap IntKind.i64 ((4 : Int) * a) ∧
 x.fst = x.fst ∧ x.snd.fst = x.snd.fst) ∧
 Z (IntKind.wrap IntKind.i64 ((4 : Int) * a), IntKind.wrap IntKind.i64 (a_1 + (1 : Int)), ()) ∧
 μ
 (IntKind.wrap IntKind.i64 ((4 : Int) * a), IntKind.wrap IntKind.i64 (a_1 + (1 : Int)),
 ()) <
 μ (a, a_1, ()))) ∧
 (decide (a_1 < x.fst) = false →
 (Ty.beq t4 (x.fst == (0 : Int)) (x.snd.fst == (0 : Int)) = true →
 decide (x.fst ≥ (0 : Int)) = highB x.fst x.snd.fst) ∧
 (Ty.beq t4 (x.fst == (0 : Int)) (x.snd.fst == (0 : Int)) = false → false = highB x.fst x.snd.fst))
theorem vcEq41 : fnVC E41 Tryd.f41 (bodyOf Tryd.f41) cHigh = vc41 := by kernel_rfl
def hs42 : List (Nat × Nat × Hint) := []
def nm42 : List Nat := [3000000024]
noncomputable def E42 : Env := env tab [] [] gl hs42 nm42
def vc42 : Prop :=
 ∀ (x : (Int × Int × Unit) × Int × Unit),
 True →
 (decide (x.fst.fst ≥ (0 : Int)) = true →
 (decide (x.fst.snd.fst ≥ x.fst.fst) = true → decide (x.fst.snd.fst ≤ x.snd.fst) = fitsW x.fst x.snd.fst) ∧
 (decide (x.fst.snd.fst ≥ x.fst.fst) = false → false = fitsW x.fst x.snd.fst)) ∧
 (decide (x.fst.fst ≥ (0 : Int)) = false → false = fitsW x.fst x.snd.fst)
theorem vcEq42 : fnVC E42 Tryd.f42 (bodyOf Tryd.f42) cFits = vc42 := by kernel_rfl
def hs61 : List (Nat × Nat × Hint) := []
def nm61 : List Nat := [3000000024]
noncomputable def E61 : Env := env tab [] [] gl hs61 nm61
def vc61 : Prop :=
 ∀ (x : Int × Unit),
 True → ((0 : Int), (0 : Int), (x.fst, x.fst, (0 : Int), ()), (0 : Int), ByteArray.empty, ()) = plainI x.fst
theorem vcEq61 : fnVC E61 Tryd.f61 (bodyOf Tryd.f61) cPlain = vc61 := by kernel_rfl
def hs62 : List (Nat × Nat × Hint) := []
def nm62 : List Nat := [3000000024]
noncomputable def E62 : Env := env tab [(47, cCount)] [] gl hs62 nm62
def vc62 : Prop :=
 ∀ (x : Inl × Unit),
 ByteArray.size (txt x.fst) ≤ maxLen →
 ByteArray.size x.fst.snd.snd.snd.snd.fst ≤ maxLen ∧
 ((0 : Int), x.fst.fst, ((0 : Int), (↑(List.length (decodeL x.fst.snd.snd.snd.snd.fst)) : Int), (0 : Int), ()),
 (0 : Int), ByteArray.empty, ()) =
 virtualI x.fst
theorem vcEq62 : fnVC E62 Tryd.f62 (bodyOf Tryd.f62) cVirtual = vc62 := by kernel_rfl
end Go.Fr.C14
