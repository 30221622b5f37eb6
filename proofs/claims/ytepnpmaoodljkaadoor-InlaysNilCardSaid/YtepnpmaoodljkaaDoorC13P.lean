/-
  Chapter 13: proofs of the conditions: patches. Conditions: none.
-/
import Derived.Test.YtepnpmaoodljkaaDoorC13V
namespace Go.Fr.C13
open Go Go.Fr Go.Proofs
theorem beq_t {a b : Int} (h : (a == b) = true) : a = b := by simpa using h
theorem beq_f {a b : Int} (h : (a == b) = false) : a ≠ b := by simpa using h
theorem bne_t {a b : Int} (h : (a != b) = true) : a ≠ b := by simpa using h
theorem bne_f {a b : Int} (h : (a != b) = false) : a = b := by simpa using h
theorem not_t {b : Bool} (h : (!b) = true) : b = false := by cases b <;> simp_all
theorem not_f {b : Bool} (h : (!b) = false) : b = true := by cases b <;> simp_all

theorem p54 : vc54 := by
  unfold vc54
  intro x _
  refine ⟨fun h1 => ⟨fun h2 => ?_, fun h2 => ?_⟩, fun h1 => ?_⟩
  · have h1 := dec_t h1; have h2 := dec_t h2; simp [within, h1, h2]
  · have h2 := dec_f h2; simp [within, h2]
  · have h1 := dec_f h1; simp [within]; omega
theorem p52 : vc52 := by
  unfold vc52
  intro x _
  refine ⟨fun h1 => ⟨fun h2 => ?_, fun h2 => ?_⟩, fun h1 => ?_⟩
  · have h1 := dec_t h1; have h2 := dec_t h2; simp [within, h1, h2]
  · have h2 := dec_f h2; simp [within, h2]
  · have h1 := dec_f h1; simp [within]; omega
theorem p53 : vc53 := by
  unfold vc53
  intro x _
  rfl
theorem delta_take {l : List Chg} {k : Nat} (h : k < l.length) : delta (l.take (k + 1)) = w64 (delta (l.take k) + w64 (size (l.getD k zeroC).2.1 - size (l.getD k zeroC).1)) := by
  unfold delta
  rw [foldl_take_succ h, getD_of _ h]
theorem p36 : vc36 := by
  unfold vc36
  simp only [eq_self, true_and, and_true]
  intro x hx
  rw [maxLen_eq] at hx
  refine ⟨fun z => ∃ k : Nat, k ≤ x.1.length ∧ z.1 = delta (x.1.take k) ∧ z.2.1 = (k : Int), fun z => x.1.length - z.2.1.toNat, ⟨0, Nat.zero_le _, rfl, rfl⟩, ?_⟩
  rintro a i ⟨k, hk, ha, hi⟩
  simp only at ha hi
  subst hi ha
  refine ⟨fun h => ?_, fun h => ?_⟩
  · have h := dec_t h
    have hl : k < x.1.length := by omega
    have hw : IntKind.i64.wrap ((k : Int) + 1) = ((k + 1 : Nat) : Int) := wrap_succ (by omega)
    refine ⟨⟨by omega, h⟩, ⟨k + 1, hl, ?_, hw⟩, ?_⟩
    · exact (delta_take hl).symm
    · show x.1.length - (IntKind.i64.wrap ((k : Int) + 1)).toNat < x.1.length - (k : Int).toNat
      rw [hw, toNat_cast, toNat_cast]
      omega
  · have h := dec_f h
    have : k = x.1.length := by omega
    subst this
    rw [List.take_length]

theorem within_iff {s : Span} : within s = true ↔ 0 ≤ s.1 ∧ s.1 ≤ s.2.1 ∧ s.2.1 ≤ 1099511627776 := by simp [within, and_assoc]
theorem okStep_iff {last c : Chg} {f : Bool} : okStep last c f = true ↔ (0 ≤ c.1.1 ∧ c.1.1 ≤ c.1.2.1 ∧ c.1.2.1 ≤ 1099511627776) ∧ (0 ≤ c.2.1.1 ∧ c.2.1.1 ≤ c.2.1.2.1 ∧ c.2.1.2.1 ≤ 1099511627776) ∧
    ¬ (c.1.1 = c.1.2.1 ∧ c.2.1.1 = c.2.1.2.1) ∧ c.1.1 - last.1.2.1 = c.2.1.1 - last.2.1.2.1 ∧ last.1.2.1 ≤ c.1.1 ∧ (f = true ∨ c.1.1 ≠ last.1.2.1) := by
  simp only [okStep, Bool.and_eq_true, within_iff, Bool.not_eq_true', decide_eq_true_eq, Bool.or_eq_true, Bool.and_eq_false_iff, decide_eq_false_iff_not, and_assoc]
  constructor
  · rintro ⟨a1, a2, a3, b1, b2, b3, c1, d, e, f⟩
    exact ⟨a1, a2, a3, b1, b2, b3, by omega, d, e, f⟩
  · rintro ⟨a1, a2, a3, b1, b2, b3, c1, d, e, f⟩
    exact ⟨a1, a2, a3, b1, b2, b3, by omega, d, e, f⟩
theorem normFrom_cons {last c : Chg} {f : Bool} {r : List Chg} : normFrom last f (c :: r) = true ↔ okStep last c f = true ∧ normFrom c false r = true := by
  simp [normFrom]

theorem p35 : vc35 := by
  unfold vc35
  simp only [eq_self, true_and, and_true]
  intro x hx
  rw [maxLen_eq] at hx
  refine ⟨fun z => ∃ k : Nat, k ≤ x.1.length ∧ z.1 = (k : Int) ∧ (0 ≤ z.2.2.1 ∧ z.2.2.1 ≤ 1099511627776 ∧ 0 ≤ z.2.2.2.2.1 ∧ z.2.2.2.2.1 ≤ 1099511627776) ∧
    normal x.1 = normFrom ((z.2.1, z.2.2.1, ()), (z.2.2.2.1, z.2.2.2.2.1, ()), ()) (decide (k = 0)) (x.1.drop k), fun z => x.1.length - z.1.toNat, ⟨0, Nat.zero_le _, rfl, by simp, rfl⟩, ?_⟩
  rintro i a1 a2 a3 a4 ⟨k, hk, hi, hb, hn⟩
  simp only at hi hb hn
  subst hi
  refine ⟨fun h => ?_, fun h => ?_⟩
  · have h := dec_t h
    have hl : k < x.1.length := by omega
    rw [toNat_cast]
    rw [drop_cons (Ty.dflt t79) hl] at hn
    generalize hc : x.1.getD k (Ty.dflt t79) = c at hn ⊢
    have hw : IntKind.i64.wrap ((k : Int) + 1) = ((k + 1 : Nat) : Int) := wrap_succ (by omega)
    have key : normal x.1 = true ↔ okStep ((a1, a2, ()), (a3, a4, ()), ()) c (decide (k = 0)) = true ∧ normFrom c false (x.1.drop (k + 1)) = true := by
      rw [hn]; exact normFrom_cons
    refine ⟨⟨by omega, h⟩, fun g1 => ?_, fun g1 => ⟨fun g2 => ?_, fun g2 => ⟨fun g3 => ?_, fun g3 => ⟨fun g4 => ?_, fun g4 => ⟨fun g5 => ?_, fun g5 => ?_⟩⟩⟩⟩⟩
    · refine eq_false_of fun hh => ?_
      have := (okStep_iff.1 (key.1 hh).1).1
      rw [within_iff.2 this] at g1
      cases g1
    · refine eq_false_of fun hh => ?_
      have := (okStep_iff.1 (key.1 hh).1).2.1
      rw [within_iff.2 this] at g2
      cases g2
    all_goals
      have w1 := within_iff.1 (not_f g1)
      have w2 := within_iff.1 (not_f g2)
    · refine eq_false_of fun hh => ?_
      have := okStep_iff.1 (key.1 hh).1
      have g3 := beq_t g3
      simp only [size, w64, wrap_eq] at g3
      omega
    all_goals
      have g3 := beq_f g3
      simp only [size, w64, wrap_eq] at g3
    · refine eq_false_of fun hh => ?_
      have := okStep_iff.1 (key.1 hh).1
      have g4 := bne_t g4
      simp only [wrap_eq] at g4
      simp only at this
      omega
    all_goals
      have g4 := bne_f g4
      simp only [wrap_eq] at g4
    · refine eq_false_of fun hh => ?_
      have := okStep_iff.1 (key.1 hh).1
      have g5 := dec_t g5
      simp only [wrap_eq] at g5
      simp only at this
      omega
    · have g5 := dec_f g5
      simp only [wrap_eq] at g5
      have next : okStep ((a1, a2, ()), (a3, a4, ()), ()) c (decide (k = 0)) = true → (∃ k' : Nat, k' ≤ x.1.length ∧ IntKind.i64.wrap ((k : Int) + 1) = (k' : Int) ∧ (0 ≤ c.1.2.1 ∧ c.1.2.1 ≤ 1099511627776 ∧ 0 ≤ c.2.1.2.1 ∧ c.2.1.2.1 ≤ 1099511627776) ∧
          normal x.1 = normFrom ((c.1.1, c.1.2.1, ()), (c.2.1.1, c.2.1.2.1, ()), ()) (decide (k' = 0)) (x.1.drop k')) ∧ x.1.length - (IntKind.i64.wrap ((k : Int) + 1)).toNat < x.1.length - (k : Int).toNat := by
        intro hok
        refine ⟨⟨k + 1, hl, hw, by omega, ?_⟩, by rw [hw, toNat_cast, toNat_cast]; omega⟩
        rw [hn]
        have : decide (k + 1 = 0) = false := by simp
        rw [this]
        show (okStep _ c _ && normFrom c false _) = _
        rw [hok]
        rfl
      refine ⟨fun g6 => ⟨fun g7 => ?_, fun g7 => ?_⟩, fun g6 => ?_⟩
      · refine eq_false_of fun hh => ?_
        have := okStep_iff.1 (key.1 hh).1
        have g6 := beq_t g6
        have g7 := dec_t g7
        simp only [wrap_eq] at g6
        simp only [decide_eq_true_eq] at this
        omega
      · have g6 := beq_t g6
        have g7 := dec_f g7
        simp only [wrap_eq] at g6
        refine next (okStep_iff.2 ?_)
        simp only [decide_eq_true_eq]
        omega
      · have g6 := beq_f g6
        simp only [wrap_eq] at g6
        refine next (okStep_iff.2 ?_)
        simp only [decide_eq_true_eq]
        omega
  · have h := dec_f h
    have : k = x.1.length := by omega
    subst this
    rw [hn, List.drop_length]
    rfl

theorem within_no {s : Span} : within s = false ↔ ¬ (0 ≤ s.1 ∧ s.1 ≤ s.2.1 ∧ s.2.1 ≤ 1099511627776) := by
  rw [← within_iff]; simp
theorem dflt56 : Ty.dflt t79 = zeroC := rfl
theorem bne_eq_false_iff_eq' {a b : Int} : (a != b) = false ↔ a = b := by simp
def prevC (l : List Chg) (k : Nat) : Chg := if k = 0 then zeroC else l.getD (k - 1) zeroC
theorem prevC_succ (l : List Chg) (k : Nat) : prevC l (k + 1) = l.getD k zeroC := by simp [prevC]
theorem normFrom_drop {l : List Chg} {k : Nat} (h : k < l.length) : normFrom (prevC l k) (decide (k = 0)) (l.drop k) = true ↔ okStep (prevC l k) (l.getD k zeroC) (decide (k = 0)) = true ∧ normFrom (prevC l (k + 1)) (decide (k + 1 = 0)) (l.drop (k + 1)) = true := by
  rw [drop_cons zeroC h, prevC_succ]
  have : decide (k + 1 = 0) = false := by simp
  rw [this]
  exact normFrom_cons

theorem p38 : vc38 := by
  unfold vc38
  simp only [eq_self, true_and, and_true, decide_eq_true_eq, decide_eq_false_iff_not, beq_iff_eq, beq_eq_false_iff_ne, bne_iff_ne, bne_eq_false_iff_eq, Bool.not_eq_true', Bool.not_eq_false', ne_eq, imp_true_iff, implies_true]
  intro x hx
  rw [maxLen_eq] at hx
  rw [dflt56]
  refine ⟨fun z => ∃ k : Nat, k ≤ x.1.length ∧ z.1 = (k : Int) ∧ (0 ≤ (prevC x.1 k).1.2.1 ∧ (prevC x.1 k).1.2.1 ≤ 1099511627776 ∧ 0 ≤ (prevC x.1 k).2.1.2.1 ∧ (prevC x.1 k).2.1.2.1 ≤ 1099511627776) ∧
    normal x.1 = normFrom (prevC x.1 k) (decide (k = 0)) (x.1.drop k), fun z => x.1.length - z.1.toNat, ⟨0, Nat.zero_le _, rfl, by simp [prevC, zeroC], rfl⟩, ?_⟩
  rintro i ⟨k, hk, hi, hb, hn⟩
  simp only at hi
  subst hi
  refine ⟨fun h => ?_, fun h => ?_⟩
  · have hl : k < x.1.length := by omega
    rw [toNat_cast]
    have hw : IntKind.i64.wrap ((k : Int) + 1) = ((k + 1 : Nat) : Int) := wrap_succ (by omega)
    have hw' : 0 < k → IntKind.i64.wrap ((k : Int) - 1) = ((k - 1 : Nat) : Int) := fun h => by rw [wrap_eq]; omega
    have key : normal x.1 = true ↔ okStep (prevC x.1 k) (x.1.getD k zeroC) (decide (k = 0)) = true ∧ normFrom (prevC x.1 (k + 1)) (decide (k + 1 = 0)) (x.1.drop (k + 1)) = true := by
      rw [hn]; exact normFrom_drop hl
    have next : okStep (prevC x.1 k) (x.1.getD k zeroC) (decide (k = 0)) = true → (∃ k' : Nat, k' ≤ x.1.length ∧ IntKind.i64.wrap ((k : Int) + 1) = (k' : Int) ∧ (0 ≤ (prevC x.1 k').1.2.1 ∧ (prevC x.1 k').1.2.1 ≤ 1099511627776 ∧ 0 ≤ (prevC x.1 k').2.1.2.1 ∧ (prevC x.1 k').2.1.2.1 ≤ 1099511627776) ∧
          normal x.1 = normFrom (prevC x.1 k') (decide (k' = 0)) (x.1.drop k')) ∧ x.1.length - (IntKind.i64.wrap ((k : Int) + 1)).toNat < x.1.length - (k : Int).toNat := by
        intro hok
        refine ⟨⟨k + 1, hl, hw, ?_, ?_⟩, by rw [hw, toNat_cast, toNat_cast]; omega⟩
        · rw [prevC_succ]
          have := okStep_iff.1 hok
          omega
        rw [Bool.eq_iff_iff, key]
        simp only [hok, true_and]
    rw [okStep_iff] at key next
    have e1 : 0 < k → prevC x.1 k = x.1.getD (k - 1) zeroC := fun h => by simp [prevC]; omega
    have e0 : k = 0 → prevC x.1 k = zeroC := fun h => by simp [prevC, h]
    generalize x.1.getD k zeroC = c at *
    simp only [within_iff, within_no, decide_eq_true_eq] at key next ⊢
    have no : ¬ (normal x.1 = true) → false = normal x.1 := eq_false_of
    generalize normal x.1 = nx at *
    simp only [hw] at next ⊢
    rcases Nat.eq_zero_or_pos k with h0 | h0
    · rw [e0 h0] at key next
      simp only [zeroC, wrap_eq] at key next ⊢
      (repeat' (first | apply And.intro | intro _))
      all_goals first
        | omega
        | (refine no fun hh => ?_; have := (key.1 hh).1; omega)
        | (refine (next ?_).1; omega)
        | (refine (next ?_).2; omega)
    · rw [hw' h0, toNat_cast, ← e1 h0]
      simp only [wrap_eq]
      (repeat' (first | apply And.intro | intro _))
      all_goals first
        | omega
        | (refine no fun hh => ?_; have := (key.1 hh).1; omega)
        | (refine (next ?_).1; omega)
        | (refine (next ?_).2; omega)
  · have : k = x.1.length := by omega
    subst this
    rw [hn, List.drop_length]
    rfl

theorem p21 : vc21 := by
  unfold vc21
  simp only [eq_self, true_and, and_true, decide_eq_true_eq, decide_eq_false_iff_not, beq_iff_eq, beq_eq_false_iff_ne, bne_iff_ne, bne_eq_false_iff_eq, Bool.not_eq_true', Bool.not_eq_false', ne_eq, imp_true_iff, implies_true]
  intro x hx
  rw [dflt56]
  refine ⟨fun z => ∃ k : Nat, k ≤ x.1.length ∧ z.1 = x.1.take k ∧ z.2.1 = (k : Int), fun z => x.1.length - z.2.1.toNat, ⟨0, Nat.zero_le _, rfl, rfl⟩, ?_⟩
  rintro a i ⟨k, hk, ha, hi⟩
  simp only at ha hi
  subst hi ha
  refine ⟨fun h => ?_, fun h => ?_⟩
  · have hl : k < x.1.length := by omega
    have hw : IntKind.i64.wrap ((k : Int) + 1) = ((k + 1 : Nat) : Int) := wrap_succ (by omega)
    rw [toNat_cast, hw, maxLen_eq]
    have e : (x.1.take k).length = k := by rw [List.length_take]; omega
    have e2 : [x.1.getD k zeroC].length = 1 := rfl
    rw [e, e2]
    refine ⟨⟨by omega, h⟩, by omega, by omega, ⟨k + 1, hl, ?_, rfl⟩, ?_⟩
    · show _ = List.take (k + 1) x.1
      rw [List.take_succ_eq_append_getElem hl, getD_of _ hl]
    · show x.1.length - (((k + 1 : Nat) : Int)).toNat < x.1.length - (k : Int).toNat
      rw [toNat_cast, toNat_cast]; omega
  · have : k = x.1.length := by omega
    subst this
    rw [List.take_length]

theorem normal_drop {l : List Chg} (h : normal l = true) : ∀ k, k ≤ l.length → normFrom (prevC l k) (decide (k = 0)) (l.drop k) = true
  | 0, _ => h
  | k + 1, hk => ((normFrom_drop (by omega)).1 (normal_drop h k (by omega))).2
theorem normal_ok {l : List Chg} (h : normal l = true) {k : Nat} (hk : k < l.length) :
    (0 ≤ (l.getD k zeroC).1.1 ∧ (l.getD k zeroC).1.1 ≤ (l.getD k zeroC).1.2.1 ∧ (l.getD k zeroC).1.2.1 ≤ 1099511627776) ∧
    (0 ≤ (l.getD k zeroC).2.1.1 ∧ (l.getD k zeroC).2.1.1 ≤ (l.getD k zeroC).2.1.2.1 ∧ (l.getD k zeroC).2.1.2.1 ≤ 1099511627776) ∧
    ¬ ((l.getD k zeroC).1.1 = (l.getD k zeroC).1.2.1 ∧ (l.getD k zeroC).2.1.1 = (l.getD k zeroC).2.1.2.1) ∧
    (l.getD k zeroC).1.1 - (prevC l k).1.2.1 = (l.getD k zeroC).2.1.1 - (prevC l k).2.1.2.1 ∧ (prevC l k).1.2.1 ≤ (l.getD k zeroC).1.1 ∧ (k = 0 ∨ (l.getD k zeroC).1.1 ≠ (prevC l k).1.2.1) := by
  have := okStep_iff.1 ((normFrom_drop hk).1 (normal_drop h k (by omega))).1
  simpa only [decide_eq_true_eq] using this
theorem mapTo_step {l : List Chg} {k : Nat} (h : k < l.length) (p b s : Int) :
    (p < (l.getD k zeroC).1.1 → mapTo p b (l.drop k) s = p + s) ∧
    ((l.getD k zeroC).1.1 ≤ p → p ≤ (l.getD k zeroC).1.2.1 → b = 0 → mapTo p b (l.drop k) s = (l.getD k zeroC).2.1.1) ∧
    ((l.getD k zeroC).1.1 ≤ p → p ≤ (l.getD k zeroC).1.2.1 → b ≠ 0 → mapTo p b (l.drop k) s = (l.getD k zeroC).2.1.2.1) ∧
    ((l.getD k zeroC).1.1 ≤ p → (l.getD k zeroC).1.2.1 < p → mapTo p b (l.drop k) s = mapTo p b (l.drop (k + 1)) ((l.getD k zeroC).2.1.2.1 - (l.getD k zeroC).1.2.1)) := by
  rw [drop_cons zeroC h]
  generalize l.getD k zeroC = c
  simp only [mapTo]
  refine ⟨fun a => if_pos a, fun a b c => ?_, fun a b c => ?_, fun a b => ?_⟩
  · rw [if_neg (by omega), if_pos b, if_pos c]
  · rw [if_neg (by omega), if_pos b, if_neg c]
  · rw [if_neg (by omega), if_neg (by omega)]
theorem refMap_step {l : List Chg} {k : Nat} (h : k < l.length) (p b s : Int) :
    ((l.getD k zeroC).1.1 ≤ p → p ≤ (l.getD k zeroC).1.2.1 → b = 0 → refMap p b (l.drop k) s = (l.getD k zeroC).2.1.1) ∧
    ((l.getD k zeroC).1.1 ≤ p → p ≤ (l.getD k zeroC).1.2.1 → b ≠ 0 → refMap p b (l.drop k) s = (l.getD k zeroC).2.1.2.1) ∧
    ((l.getD k zeroC).1.2.1 < p → refMap p b (l.drop k) s = refMap p b (l.drop (k + 1)) ((l.getD k zeroC).2.1.2.1 - (l.getD k zeroC).1.2.1)) ∧
    (p < (l.getD k zeroC).1.1 → p ≤ (l.getD k zeroC).1.2.1 → refMap p b (l.drop k) s = refMap p b (l.drop (k + 1)) s) := by
  rw [drop_cons zeroC h]
  generalize l.getD k zeroC = c
  simp only [refMap]
  refine ⟨fun a b c => ?_, fun a b c => ?_, fun a => ?_, fun a b => ?_⟩
  · rw [if_pos ⟨a, b⟩, if_pos c]
  · rw [if_pos ⟨a, b⟩, if_neg c]
  · rw [if_neg (by omega), if_pos a]
  · rw [if_neg (by omega), if_neg (by omega)]

theorem p39 : vc39 := by
  unfold vc39
  simp only [eq_self, true_and, and_true, decide_eq_true_eq, decide_eq_false_iff_not, beq_iff_eq, beq_eq_false_iff_ne, bne_iff_ne, bne_eq_false_iff_eq, Bool.not_eq_true', Bool.not_eq_false', ne_eq, imp_true_iff, implies_true]
  rintro ⟨l, p, b, ⟨⟩⟩
  simp only
  rintro ⟨hx, hn, hp0, hp1⟩
  replace hp0 : (0 : Int) ≤ p := hp0
  replace hp1 : p ≤ (1099511627776 : Int) := hp1
  rw [maxLen_eq] at hx
  have dflt57 : Ty.dflt t84 = zeroC := rfl
  rw [dflt57]
  refine ⟨fun z => ∃ k : Nat, k ≤ l.length ∧ z.2.1 = (k : Int) ∧ -1099511627776 ≤ z.1 ∧ z.1 ≤ 1099511627776 ∧ refMap p b l 0 = refMap p b (l.drop k) z.1, fun z => l.length - z.2.1.toNat, ⟨0, Nat.zero_le _, rfl, by simp, by simp, rfl⟩, ?_⟩
  rintro s i ⟨k, hk, hi, hs0, hs1, hm⟩
  simp only at hi hm hs0 hs1
  subst hi
  refine ⟨fun h => ?_, fun h => ?_⟩
  · have hl : k < l.length := by omega
    have hw : IntKind.i64.wrap ((k : Int) + 1) = ((k + 1 : Nat) : Int) := wrap_succ (by omega)
    obtain ⟨q1, q2, q3, q4⟩ := refMap_step hl p b s
    have ok := normal_ok hn hl
    rw [toNat_cast, hw]
    generalize l.getD k zeroC = c at *
    have next : ∀ s', -1099511627776 ≤ s' → s' ≤ 1099511627776 → refMap p b (l.drop k) s = refMap p b (l.drop (k + 1)) s' →
      (∃ k' : Nat, k' ≤ l.length ∧ ((k + 1 : Nat) : Int) = (k' : Int) ∧ -1099511627776 ≤ s' ∧ s' ≤ 1099511627776 ∧ refMap p b l 0 = refMap p b (l.drop k') s') ∧ l.length - (((k + 1 : Nat) : Int)).toNat < l.length - k :=
      fun s' a1 a2 a3 => ⟨⟨k + 1, hl, rfl, a1, a2, hm.trans a3⟩, by rw [toNat_cast]; omega⟩
    have hw2 : IntKind.i64.wrap (c.2.1.2.1 - c.1.2.1) = c.2.1.2.1 - c.1.2.1 := by rw [wrap_eq]; omega
    rw [hw2]
    have hdec : l.length - (((k + 1 : Nat) : Int)).toNat < l.length - (k : Int).toNat := by rw [toNat_cast, toNat_cast]; omega
    (repeat' (first | apply And.intro | intro _))
    all_goals first
      | omega
      | (rw [hm]; symm; first | (apply q1 <;> omega) | (apply q2 <;> omega))
      | (refine (next _ ?_ ?_ ?_).1 <;> first | omega | (apply q3; omega) | (apply q4 <;> omega))
      | exact hdec
  · have : k = l.length := by omega
    subst this
    rw [hm, List.drop_length]
    show _ = p + s
    rw [wrap_eq]; omega

theorem p37 : vc37 := by
  unfold vc37
  simp only [eq_self, true_and, and_true, decide_eq_true_eq, decide_eq_false_iff_not, beq_iff_eq, beq_eq_false_iff_ne, bne_iff_ne, bne_eq_false_iff_eq, Bool.not_eq_true', Bool.not_eq_false', ne_eq, imp_true_iff, implies_true]
  rintro ⟨l, p, b, ⟨⟩⟩
  simp only
  intro hx
  rw [maxLen_eq] at hx
  rw [dflt56]
  refine ⟨hx, fun hn => by simp [mapP, hn], fun hn => ⟨fun h => by simp [mapP, hn, h], fun hp0 => ⟨fun h => ?_, fun hp1 => ?_⟩⟩⟩
  · rw [mapP, if_neg (by simp [hn]), if_pos (by omega)]
  have main : (b = 0 ∨ b = 1) → mapP l p b = (mapTo p b l 0, 0, ()) := fun h => by
    rw [mapP, if_neg (by simp [hn]), if_neg (by omega)]
  have step : ∀ (s : Int) (i : Int), (∃ k : Nat, k ≤ l.length ∧ i = (k : Int) ∧ -1099511627776 ≤ s ∧ s ≤ 1099511627776 ∧ mapTo p b l 0 = mapTo p b (l.drop k) s) → (i < (l.length : Int)) →
      (0 ≤ i ∧ i < (l.length : Int)) ∧ (p < (l.getD i.toNat zeroC).1.1 → IntKind.i64.wrap (p + s) = mapTo p b l 0) ∧ (¬ p < (l.getD i.toNat zeroC).1.1 → p ≤ (l.getD i.toNat zeroC).1.2.1 → b = 0 → (l.getD i.toNat zeroC).2.1.1 = mapTo p b l 0) ∧
      (¬ p < (l.getD i.toNat zeroC).1.1 → p ≤ (l.getD i.toNat zeroC).1.2.1 → b ≠ 0 → (l.getD i.toNat zeroC).2.1.2.1 = mapTo p b l 0) ∧
      (¬ p < (l.getD i.toNat zeroC).1.1 → ¬ p ≤ (l.getD i.toNat zeroC).1.2.1 → (∃ k' : Nat, k' ≤ l.length ∧ IntKind.i64.wrap (i + 1) = (k' : Int) ∧ -1099511627776 ≤ IntKind.i64.wrap ((l.getD i.toNat zeroC).2.1.2.1 - (l.getD i.toNat zeroC).1.2.1) ∧ IntKind.i64.wrap ((l.getD i.toNat zeroC).2.1.2.1 - (l.getD i.toNat zeroC).1.2.1) ≤ 1099511627776 ∧
        mapTo p b l 0 = mapTo p b (l.drop k') (IntKind.i64.wrap ((l.getD i.toNat zeroC).2.1.2.1 - (l.getD i.toNat zeroC).1.2.1))) ∧ l.length - (IntKind.i64.wrap (i + 1)).toNat < l.length - i.toNat) := by
    rintro s i ⟨k, hk, hi, hs0, hs1, hm⟩ h
    subst hi
    have hl : k < l.length := by omega
    have hw : IntKind.i64.wrap ((k : Int) + 1) = ((k + 1 : Nat) : Int) := wrap_succ (by omega)
    obtain ⟨q1, q2, q3, q4⟩ := mapTo_step hl p b s
    have ok := normal_ok hn hl
    rw [toNat_cast, hw]
    generalize l.getD k zeroC = c at *
    have hw2 : IntKind.i64.wrap (c.2.1.2.1 - c.1.2.1) = c.2.1.2.1 - c.1.2.1 := by rw [wrap_eq]; omega
    rw [hw2, hm]
    refine ⟨by omega, fun h => ?_, fun a b c => (q2 (by omega) b c).symm, fun a b c => (q3 (by omega) b c).symm, fun a b => ⟨⟨k + 1, hl, rfl, by omega, by omega, ?_⟩, by rw [toNat_cast]; omega⟩⟩
    · rw [q1 h, wrap_eq]; omega
    · exact q4 (by omega) (by omega)
  have done : ∀ (s : Int) (i : Int), (∃ k : Nat, k ≤ l.length ∧ i = (k : Int) ∧ -1099511627776 ≤ s ∧ s ≤ 1099511627776 ∧ mapTo p b l 0 = mapTo p b (l.drop k) s) → ¬ (i < (l.length : Int)) →
      IntKind.i64.wrap (p + s) = mapTo p b l 0 := by
    rintro s i ⟨k, hk, hi, hs0, hs1, hm⟩ h
    have : k = l.length := by omega
    subst this
    rw [hm, List.drop_length]
    show _ = p + s
    rw [wrap_eq]; omega
  refine ⟨fun hb0 => ⟨fun hb1 => ?_, fun hb1 => ?_⟩, fun hb0 => ?_⟩
  · rw [mapP, if_neg (by simp [hn]), if_pos (by omega)]
  all_goals
    rw [main (by omega)]
    refine ⟨fun z => ∃ k : Nat, k ≤ l.length ∧ z.2.1 = (k : Int) ∧ -1099511627776 ≤ z.1 ∧ z.1 ≤ 1099511627776 ∧ mapTo p b l 0 = mapTo p b (l.drop k) z.1, fun z => l.length - z.2.1.toNat, ⟨0, Nat.zero_le _, rfl, by simp, by simp, rfl⟩, ?_⟩
    intro s i hz
    refine ⟨fun h => ?_, fun h => ?_⟩
    · obtain ⟨r1, r2, r3, r4, r5⟩ := step s i hz h
      simp only [Prod.mk.injEq, and_true]
      (repeat' (first | apply And.intro | intro _))
      all_goals first
        | omega
        | (apply r2 <;> omega)
        | (apply r3 <;> omega)
        | (apply r4 <;> omega)
        | (refine (r5 ?_ ?_).1 <;> omega)
        | (refine (r5 ?_ ?_).2 <;> omega)
        | skip
    · rw [done s i hz h]
end Go.Fr.C13
