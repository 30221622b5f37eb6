/-
  Chapter 13: proofs of the conditions: splices and shifts. Conditions: none.
-/
import Derived.Test.YtepnpmaoodljkaaDoorC13R
namespace Go.Fr.C13
open Go Go.Fr Go.Proofs

/-! ### Maps of inlays by number -/
def keysM (l : List Inl) : List (Int × Inl × Unit) := l.map fun x => (x.1, x, ())
theorem beq3 (i j : Int) : Ty.beq t3 i j = decide (i = j) := by
  by_cases h : i = j
  · subst h; simp [Ty.beq]
  · simp [Ty.beq, h]
theorem mget_keysM (i : Int) : (l : List Inl) → (mget t3 t42 i (keysM l) = none ↔ hasId i l = false) ∧ (Option.isSome (mget t3 t42 i (keysM l)) = hasId i l)
  | [] => by simp [keysM, mget, hasId]
  | x :: r => by
    have ih := mget_keysM i r
    have e : mget t3 t42 i (keysM (x :: r)) = bif Ty.beq t3 i x.1 then some x else mget t3 t42 i (keysM r) := rfl
    rw [e, beq3]
    by_cases h : i = x.1
    · rw [decide_eq_true h]
      simp [hasId, h]
    · have hx : ¬ x.1 = i := fun hh => h hh.symm
      rw [decide_eq_false h]
      simp only [cond_false, hasId, List.any_cons, hx, decide_false, Bool.false_or]
      exact ih
theorem keysM_snoc {l : List Inl} {k : Nat} (h : k < l.length) : keysM (l.take (k + 1)) = keysM (l.take k) ++ [((l.getD k zI).1, l.getD k zI, ())] := by
  rw [take_snoc' h]
  simp [keysM]
theorem mdel_keysM (i : Int) : (l : List Inl) → l.Pairwise (fun a b => a.1 ≠ b.1) → mdel t3 t42 i (keysM l) = keysM (l.filter fun x => !decide (x.1 = i))
  | [], _ => rfl
  | x :: r, h => by
    obtain ⟨h1, h2⟩ := List.pairwise_cons.1 h
    have ih := mdel_keysM i r h2
    have e : mdel t3 t42 i (keysM (x :: r)) = bif Ty.beq t3 i x.1 then keysM r else (x.1, x, ()) :: mdel t3 t42 i (keysM r) := rfl
    rw [e, beq3]
    by_cases hi : i = x.1
    · rw [decide_eq_true hi]
      have : r.filter (fun x => !decide (x.1 = i)) = r := by
        rw [List.filter_eq_self]
        intro y hy
        have := h1 y hy
        simp only [Bool.not_eq_true', decide_eq_false_iff_not]
        intro hh
        exact this (by rw [hh, hi])
      rw [List.filter_cons, if_neg (by simp [hi]), this]
      rfl
    · rw [decide_eq_false hi, List.filter_cons, if_pos (by simp; exact fun hh => hi hh.symm)]
      show (x.1, x, ()) :: mdel t3 t42 i (keysM r) = (x.1, x, ()) :: keysM (r.filter fun x => !decide (x.1 = i))
      rw [ih]
theorem hasId_ids {i : Int} {l : List Inl} : hasId i l = (l.map (·.1)).contains i := by
  rw [Bool.eq_iff_iff, hasId_iff, List.contains_iff_mem, List.mem_map]
theorem nodup_pw {l : List Inl} : ((l.map (·.1)).Nodup) ↔ l.Pairwise (fun a b => a.1 ≠ b.1) := by
  unfold List.Nodup
  rw [List.pairwise_map]
/-- What is left behind some are removed. -/
def left (l : List Inl) (rm : List Int) : List Inl := l.filter fun x => !rm.contains x.1
theorem left_snoc (l : List Inl) (rm : List Int) (i : Int) : left l (rm ++ [i]) = (left l rm).filter fun x => !decide (x.1 = i) := by
  unfold left
  rw [List.filter_filter]
  congr 1
  funext x
  rw [Bool.eq_iff_iff]
  simp
  constructor
  · rintro ⟨h1, h2⟩; exact ⟨h2, h1⟩
  · rintro ⟨h1, h2⟩; exact ⟨h2, h1⟩
theorem left_pw {l : List Inl} (h : l.Pairwise (fun a b => a.1 ≠ b.1)) (rm : List Int) : (left l rm).Pairwise (fun a b => a.1 ≠ b.1) := h.filter _
theorem erase_ids {l : List Inl} (h : l.Pairwise (fun a b => a.1 ≠ b.1)) (i : Int) : (l.map (·.1)).erase i = (l.filter fun x => !decide (x.1 = i)).map (·.1) := by
  have hn := nodup_pw.2 h
  rw [hn.erase_eq_filter]
  rw [List.filter_map]
  congr 1
theorem rm_step {l : List Inl} (h : l.Pairwise (fun a b => a.1 ≠ b.1)) {rm : List Int} {k : Nat} (hk : k < rm.length) :
    rmOk ((left l (rm.take k)).map (·.1)) (rm.drop k) = (hasId (rm.getD k 0) (left l (rm.take k)) && rmOk ((left l (rm.take (k + 1))).map (·.1)) (rm.drop (k + 1))) := by
  rw [drop_cons 0 hk]
  show (((left l (rm.take k)).map (·.1)).contains _ && rmOk (((left l (rm.take k)).map (·.1)).erase _) _) = _
  rw [← hasId_ids, erase_ids (left_pw h _), take_one 0 hk, left_snoc]
theorem left_nil (l : List Inl) : left l [] = l := by
  unfold left
  rw [List.filter_eq_self]
  intro x _
  simp
theorem short_app {a b : List Inl} (h1 : shortL a) (h2 : shortL b) : shortL (a ++ b) := fun x hx => by
  rcases List.mem_append.1 hx with h | h
  · exact h1 x h
  · exact h2 x h
theorem short_filter {a : List Inl} (h : shortL a) (f : Inl → Bool) : shortL (a.filter f) := fun x hx => h x (List.mem_filter.1 hx).1
theorem p16 : vc16 := by
  unfold vc16
  simp only [eq_self, true_and, and_true, decide_eq_true_eq, decide_eq_false_iff_not, beq_iff_eq, beq_eq_false_iff_ne, bne_iff_ne, bne_eq_false_iff_eq, Bool.not_eq_true', Bool.not_eq_false', ne_eq, imp_true_iff, implies_true]
  rintro ⟨s, rm, add, ⟨⟩⟩
  simp only [maxLen_eq, d42, d3]
  rintro ⟨⟨o1, o2, o3, o4, o5⟩, hrm, hadd, hsa⟩
  have pw := nodup_pw.1 o3
  have fin : rmOk ((allI s).map (·.1)) rm = true → spliceI s rm add = newI (lenI s) (left (allI s) rm ++ add) := fun h => by
    unfold spliceI
    rw [if_pos h]
    rfl
  have bad : rmOk ((allI s).map (·.1)) rm = false → (none, (6 : Int), ()) = spliceI s rm add := fun h => by
    unfold spliceI
    rw [if_neg (by rw [h]; decide)]
  generalize allI s = l at o1 o2 pw fin bad ⊢
  refine ⟨o1, ?_⟩
  refine ⟨fun z => ∃ k : Nat, k ≤ l.length ∧ z.1 = (k : Int) ∧ z.2.1 = keysM (l.take k), fun z => l.length - z.1.toNat, ⟨0, Nat.zero_le _, rfl, rfl⟩, ?_⟩
  rintro i m ⟨k, hk, hi, hm⟩
  simp only at hi hm
  subst hi hm
  refine ⟨fun h => ?_, fun h => ?_⟩
  · have hlt : k < l.length := by omega
    have hw : IntKind.i64.wrap ((k : Int) + 1) = ((k + 1 : Nat) : Int) := wrap_succ (by omega)
    have hks := keysM_snoc hlt
    rw [toNat_cast, hw]
    refine ⟨⟨by omega, h⟩, (mget_keysM _ _).1.2 (hasId_no fun j hj e => ?_), ⟨k + 1, hlt, rfl, hks.symm⟩, by simp only [toNat_cast]; omega⟩
    have hjk : j < k := by simp at hj; omega
    have hp := List.pairwise_iff_getElem.1 pw j k (by omega) hlt hjk
    rw [getD_of zI hj, getD_of zI hlt, List.getElem_take] at e
    exact hp e
  have hke : k = l.length := by omega
  subst hke
  rw [List.take_length]
  clear h hk
  refine ⟨fun z => ∃ k : Nat, k ≤ rm.length ∧ z.1 = (k : Int) ∧ z.2.1 = keysM (left l (rm.take k)) ∧ rmOk (l.map (·.1)) rm = rmOk ((left l (rm.take k)).map (·.1)) (rm.drop k), fun z => rm.length - z.1.toNat, ⟨0, Nat.zero_le _, rfl, by rw [List.take_zero, left_nil], by rw [List.take_zero, left_nil]; rfl⟩, ?_⟩
  rintro i m ⟨k, hk, hi, hm, hr⟩
  simp only at hi hm
  subst hi hm
  refine ⟨fun h => ?_, fun h => ?_⟩
  · have hlt : k < rm.length := by omega
    have hw : IntKind.i64.wrap ((k : Int) + 1) = ((k + 1 : Nat) : Int) := wrap_succ (by omega)
    rw [rm_step pw hlt] at hr
    have hgs := (mget_keysM (rm.getD k 0) (left l (rm.take k))).2
    rw [toNat_cast, hw, hgs]
    refine ⟨⟨by omega, h⟩, fun h2 => bad (by rw [hr, h2]; rfl), fun h2 => ⟨⟨k + 1, hlt, rfl, ?_, ?_⟩, by simp only [toNat_cast]; omega⟩⟩
    · rw [mdel_keysM _ _ (left_pw pw _), take_one 0 hlt, left_snoc]
    · rw [hr, h2, Bool.true_and]
  have hke : k = rm.length := by omega
  subst hke
  rw [List.take_length, List.drop_length] at hr
  rw [List.take_length]
  have hr : rmOk (l.map (·.1)) rm = true := hr
  refine ⟨o1, ?_⟩
  refine ⟨fun z => ∃ k : Nat, k ≤ l.length ∧ z.2.1 = (k : Int) ∧ z.1.length ≤ k ∧ z.1 = (l.take k).filter (fun x => !rm.contains x.1), fun z => l.length - z.2.1.toNat, ⟨0, Nat.zero_le _, rfl, Nat.zero_le _, rfl⟩, ?_⟩
  rintro o i ⟨k, hk, hi, hol, ho⟩
  simp only at hi hol ho
  subst hi
  refine ⟨fun h => ?_, fun h => ?_⟩
  · have hlt : k < l.length := by omega
    have hw : IntKind.i64.wrap ((k : Int) + 1) = ((k + 1 : Nat) : Int) := wrap_succ (by omega)
    have hf := filter_one (f := fun x : Inl => !rm.contains x.1) (d := zI) hlt
    have hxm : l.getD k zI ∈ l := by rw [getD_of zI hlt]; exact List.getElem_mem _
    rw [toNat_cast, hw, (mget_keysM (l.getD k zI).1 (left l rm)).2]
    have hh : hasId (l.getD k zI).1 (left l rm) = !rm.contains (l.getD k zI).1 := by
      rw [Bool.eq_iff_iff, hasId_iff]
      constructor
      · rintro ⟨y, hy, e⟩
        obtain ⟨y1, y2⟩ := List.mem_filter.1 hy
        rw [← e]; exact y2
      · intro hc
        exact ⟨_, List.mem_filter.2 ⟨hxm, hc⟩, rfl⟩
    rw [hh]
    generalize l.getD k zI = x at hf ⊢
    simp only [List.length_singleton, toNat_cast]
    refine ⟨⟨by omega, h⟩, fun g => ⟨by omega, by omega, ⟨k + 1, hlt, rfl, by simp; exact hol, ?_⟩, by omega⟩, fun g => ⟨⟨k + 1, hlt, rfl, by omega, ?_⟩, by omega⟩⟩
    · rw [hf, if_pos g, ho]
    · rw [hf, if_neg (by rw [g]; decide), List.append_nil, ho]
  · have hke : k = l.length := by omega
    subst hke
    rw [List.take_length] at ho
    have hsl : shortL o := by rw [ho]; exact short_filter o2 _
    rw [fin hr]
    refine ⟨by omega, by omega, ⟨by simp; omega, short_app hsl hsa⟩, ?_⟩
    rw [ho]
    rfl
theorem p17 : vc17 := by
  unfold vc17
  simp only [eq_self, true_and, and_true, decide_eq_true_eq, decide_eq_false_iff_not, beq_iff_eq, beq_eq_false_iff_ne, bne_iff_ne, bne_eq_false_iff_eq, Bool.not_eq_true', Bool.not_eq_false', ne_eq, imp_true_iff, implies_true]
  rintro ⟨w, rm, add, ⟨⟩⟩
  simp only [maxLen_eq, d42]
  rintro ⟨⟨o1, o2, o3, o4⟩, hrm, hadd, hsa⟩
  have fin : ¬ (((w.2.1).countP (fun x => decide (rm.count x.1 = 1)) : Nat) : Int) < (rm.length : Int) → spliceW w rm add = newW w.1 (w.2.1.filter (fun x => decide (rm.count x.1 = 0)) ++ add) := fun h => by
    unfold spliceW
    rw [if_neg h]
  have bad : (((w.2.1).countP (fun x => decide (rm.count x.1 = 1)) : Nat) : Int) < (rm.length : Int) → ((0 : Int), [], (6 : Int), ()) = spliceW w rm add := fun h => by
    unfold spliceW
    rw [if_pos h]
  generalize w.2.1 = l at o1 o2 fin bad ⊢
  refine ⟨fun z => ∃ k : Nat, k ≤ l.length ∧ z.2.2.1 = (k : Int) ∧ z.1.length ≤ k ∧ z.1 = (l.take k).filter (fun x => decide (rm.count x.1 = 0)) ∧ z.2.1 = (((l.take k).countP (fun x => decide (rm.count x.1 = 1)) : Nat) : Int), fun z => l.length - z.2.2.1.toNat, ⟨0, Nat.zero_le _, rfl, Nat.zero_le _, rfl, rfl⟩, ?_⟩
  rintro o c i ⟨k, hk, hi, hol, ho, hc⟩
  simp only at hi hol ho hc
  subst hi
  have hcl : (l.take k).countP (fun x => decide (rm.count x.1 = 1)) ≤ k := Nat.le_trans List.countP_le_length (by simp; omega)
  refine ⟨fun h => ?_, fun h => ?_⟩
  · have hlt : k < l.length := by omega
    have hw : IntKind.i64.wrap ((k : Int) + 1) = ((k + 1 : Nat) : Int) := wrap_succ (by omega)
    have hwc : IntKind.i64.wrap (c + 1) = c + 1 := wrap_id (by omega) (by omega)
    have hf := filter_one (f := fun x : Inl => decide (rm.count x.1 = 0)) (d := zI) hlt
    have hcs : (l.take (k + 1)).countP (fun x => decide (rm.count x.1 = 1)) = (l.take k).countP (fun x => decide (rm.count x.1 = 1)) + (if rm.count (l.getD k zI).1 = 1 then 1 else 0) := by
      rw [take_snoc' hlt, List.countP_append, List.countP_singleton]
      simp only [decide_eq_true_eq]
    rw [toNat_cast, hw, hwc]
    generalize l.getD k zI = x at hf hcs ⊢
    have et : timesI x.1 rm = (rm.count x.1 : Int) := rfl
    rw [et]
    simp only [List.length_singleton, toNat_cast]
    have d : l.length - (k + 1) < l.length - k := by omega
    refine ⟨⟨by omega, h⟩, by omega, fun h1 => ⟨by omega, by omega, fun h2 => by omega, fun h2 => ⟨⟨k + 1, hlt, rfl, by simp; exact hol, ?_, ?_⟩, d⟩⟩, fun h1 => ⟨fun h2 => ⟨⟨k + 1, hlt, rfl, by omega, ?_, ?_⟩, d⟩, fun h2 => ⟨⟨k + 1, hlt, rfl, by omega, ?_, ?_⟩, d⟩⟩⟩
    · rw [hf, if_pos (decide_eq_true (by omega)), ho]
    · rw [hcs, if_neg (by omega), hc]; rfl
    · rw [hf, if_neg (by rw [decide_eq_true_eq]; omega), List.append_nil, ho]
    · rw [hcs, if_pos (by omega), hc]; omega
    · rw [hf, if_neg (by rw [decide_eq_true_eq]; omega), List.append_nil, ho]
    · rw [hcs, if_neg (by omega), hc]; rfl
  · have hke : k = l.length := by omega
    subst hke
    rw [List.take_length] at ho hc
    subst hc
    have hsl : shortL o := by rw [ho]; exact short_filter o2 _
    refine ⟨bad, fun h => ⟨by omega, by omega, ⟨by simp; omega, short_app hsl hsa⟩, ?_⟩⟩
    rw [fin h, ho]
/-! ### Shifts -/
theorem refMap_before {p b : Int} : ∀ (l : List Chg) (last : Chg) (f : Bool) (s : Int), normFrom last f l = true → p < last.1.2.1 → refMap p b l s = p + s
  | [], _, _, _, _, _ => rfl
  | c :: r, last, f, s, hn, hp => by
    have h := normFrom_cons.1 hn
    have ok := okStep_iff.1 h.1
    rw [refMap, if_neg (by omega), if_neg (by omega)]
    exact refMap_before r c false s h.2 (by omega)
theorem refMap_eq {p b : Int} : ∀ (l : List Chg) (last : Chg) (f : Bool) (s : Int), normFrom last f l = true → mapTo p b l s = refMap p b l s
  | [], _, _, _, _ => rfl
  | c :: r, last, f, s, hn => by
    have h := normFrom_cons.1 hn
    have ok := okStep_iff.1 h.1
    have ih := refMap_eq (p := p) (b := b) r c false (c.2.1.2.1 - c.1.2.1) h.2
    rw [mapTo, refMap]
    by_cases h1 : p < c.1.1
    · rw [if_pos h1, if_neg (by omega), if_neg (by omega), refMap_before r c false s h.2 (by omega)]
    · rw [if_neg h1]
      by_cases h2 : p ≤ c.1.2.1
      · rw [if_pos h2, if_pos (show c.1.1 ≤ p ∧ p ≤ c.1.2.1 from ⟨by omega, h2⟩)]
      · rw [if_neg h2, if_neg (by omega), if_pos (by omega), ih]
theorem mapP_in {p : List Chg} {a b : Int} (hn : normal p = true) (h0 : 0 ≤ a) (h1 : a ≤ 1099511627776) (hb : b = 0 ∨ b = 1) : (mapP p a b).1 = mapTo a b p 0 := by
  rw [mapP, if_neg (by rw [hn]; decide), if_neg (by omega)]
theorem endOf_get {p : List Chg} (h : 0 < p.length) : endOf p = (p.getD (p.length - 1) zeroC).1.2.1 := by
  unfold endOf
  have : p.getLast? = some (p.getD (p.length - 1) zeroC) := by
    rw [List.getLast?_eq_getElem?, List.getD_eq_getElem?_getD, List.getElem?_eq_getElem (by omega)]
    rfl
  rw [this]
theorem end_take {p : List Chg} {k : Nat} (h : k < p.length) : endOf (p.take (k + 1)) = (p.getD k zeroC).1.2.1 := by
  unfold endOf
  rw [take_one zeroC h, List.getLast?_concat]
theorem d79 : Ty.dflt t79 = zeroC := rfl
theorem d84 : Ty.dflt t84 = zeroC := rfl
theorem moved_at (p : List Chg) (l : List Inl) {k : Nat} (h : k < l.length) : ((l.take k).map (moveI p) ++ l.drop k).set k (moveI p (l.getD k zI)) = (l.take (k + 1)).map (moveI p) ++ l.drop (k + 1) := by
  have hl : ((l.take k).map (moveI p)).length = k := by simp; omega
  rw [List.set_append, if_neg (by omega), hl, Nat.sub_self, drop_cons zI h, take_snoc' h]
  simp
theorem short_move {p : List Chg} {l : List Inl} (h : shortL l) : shortL (l.map (moveI p)) := fun x hx => by
  obtain ⟨y, hy, rfl⟩ := List.mem_map.1 hx
  exact h y hy
theorem p19 : vc19 := by
  unfold vc19
  simp only [eq_self, true_and, and_true, decide_eq_true_eq, decide_eq_false_iff_not, beq_iff_eq, beq_eq_false_iff_ne, bne_iff_ne, bne_eq_false_iff_eq, Bool.not_eq_true', Bool.not_eq_false', ne_eq, imp_true_iff, implies_true]
  rintro ⟨s, p, ⟨⟩⟩
  simp only [d42, d79]
  rintro ⟨⟨hl, hsh, _, hn0, hn1⟩, hp⟩
  replace hn1 : lenI s ≤ (1099511627776 : Int) := hn1
  replace hn0 : (0 : Int) ≤ lenI s := hn0
  have hpm : p.length ≤ maxLen := by rw [maxLen_eq]; omega
  have r4 : normal p = false → (none, (4 : Int), ()) = shiftI s p := fun h => by rw [shiftI, if_pos h]
  have r1 : normal p = true → (endOf p > lenI s ∨ w64 (lenI s + delta p) > 1099511627776) → (none, (1 : Int), ()) = shiftI s p := fun h1 h2 => by
    rw [shiftI, if_neg (by rw [h1]; decide), if_pos h2]
  have fin : normal p = true → ¬ endOf p > lenI s → ¬ w64 (lenI s + delta p) > 1099511627776 → shiftI s p = newI (w64 (lenI s + delta p)) ((allI s).map (moveI p)) := fun h1 h2 h3 => by
    rw [shiftI, if_neg (by rw [h1]; decide), if_neg (by omega)]
  have hlast : 0 < p.length → (IntKind.i64.wrap ((p.length : Int) - 1)).toNat = p.length - 1 ∧ (0 ≤ IntKind.i64.wrap ((p.length : Int) - 1) ∧ IntKind.i64.wrap ((p.length : Int) - 1) < (p.length : Int)) := fun h => by
    have : IntKind.i64.wrap ((p.length : Int) - 1) = (p.length : Int) - 1 := by rw [wrap_eq]; omega
    rw [this]
    omega
  have hend0 : ¬ 0 < p.length → endOf p = 0 := fun h => by
    have : p = [] := List.eq_nil_of_length_eq_zero (by omega)
    rw [this]
    rfl
  have loop : normal p = true → ¬ endOf p > lenI s → ¬ w64 (lenI s + delta p) > 1099511627776 → ∃ (Z : Int × List Inl × Unit → Prop), ∃ (μ : Int × List Inl × Unit → Nat), Z (0, allI s, ()) ∧ ∀ (i : Int) (a : List Inl), Z (i, a, ()) →
      (i < ((allI s).length : Int) → (0 ≤ i ∧ i < (a.length : Int)) ∧ (0 ≤ i ∧ i < (a.length : Int)) ∧ p.length ≤ maxLen ∧ (0 ≤ i ∧ i < (a.length : Int)) ∧
        Z (IntKind.i64.wrap (i + 1), a.set i.toNat ((a.getD i.toNat zI).1, (mapP p (a.getD i.toNat zI).2.1 (a.getD i.toNat zI).2.2.1).1, (a.getD i.toNat zI).2.2), ()) ∧
        μ (IntKind.i64.wrap (i + 1), a.set i.toNat ((a.getD i.toNat zI).1, (mapP p (a.getD i.toNat zI).2.1 (a.getD i.toNat zI).2.2.1).1, (a.getD i.toNat zI).2.2), ()) < μ (i, a, ())) ∧
      (¬ i < ((allI s).length : Int) → p.length ≤ maxLen ∧ (a.length ≤ maxLen ∧ shortL a) ∧ newI (IntKind.i64.wrap (lenI s + delta p)) a = shiftI s p) := by
    intro h1 h2 h3
    rw [fin h1 h2 h3]
    generalize allI s = l at hl hsh ⊢
    refine ⟨fun z => ∃ k : Nat, k ≤ l.length ∧ z.1 = (k : Int) ∧ z.2.1 = (l.take k).map (moveI p) ++ l.drop k, fun z => l.length - z.1.toNat, ⟨0, Nat.zero_le _, rfl, rfl⟩, ?_⟩
    rintro i a ⟨k, hk, hi, ha⟩
    simp only at hi ha
    subst hi
    have hal : a.length = l.length := by rw [ha]; simp; omega
    refine ⟨fun h => ?_, fun h => ?_⟩
    · have hlt : k < l.length := by omega
      have hw : IntKind.i64.wrap ((k : Int) + 1) = ((k + 1 : Nat) : Int) := wrap_succ (by omega)
      have hm := moved_at p l hlt
      have hg : a.getD k zI = l.getD k zI := by
        have hl2 : ((l.take k).map (moveI p)).length = k := by simp; omega
        rw [ha, List.getD_eq_getElem?_getD, List.getElem?_append_right (by omega), hl2, Nat.sub_self, drop_cons zI hlt]
        rfl
      rw [toNat_cast, hw, hg]
      refine ⟨⟨by omega, by omega⟩, ⟨by omega, by omega⟩, hpm, ⟨by omega, by omega⟩, ⟨k + 1, hlt, rfl, ?_⟩, by simp only [toNat_cast]; omega⟩
      rw [← hm, ha]
      rfl
    · have hke : k = l.length := by omega
      rw [hke, List.take_length, List.drop_length, List.append_nil] at ha
      rw [maxLen_eq] at hpm ⊢
      refine ⟨hpm, ⟨by omega, by rw [ha]; exact short_move hsh⟩, ?_⟩
      rw [ha]
      rfl
  refine ⟨hpm, r4, fun h1 => ⟨fun h2 => ?_, fun h2 => ?_⟩⟩
  · obtain ⟨q1, q2⟩ := hlast (by omega)
    rw [q1, ← endOf_get (by omega)]
    exact ⟨q2, fun h3 => r1 h1 (.inl h3), fun h3 => ⟨hpm, fun h4 => r1 h1 (.inr h4), fun h4 => ⟨hl, loop h1 h3 h4⟩⟩⟩
  · have h3 : ¬ endOf p > lenI s := by rw [hend0 (by omega)]; omega
    exact ⟨hpm, fun h4 => r1 h1 (.inr h4), fun h4 => ⟨hl, loop h1 h3 h4⟩⟩
theorem moveW_snoc {p : List Chg} {l : List Inl} {k : Nat} (h : k < l.length) : (l.take (k + 1)).map (moveW p) = (l.take k).map (moveW p) ++ [((l.getD k zI).1, refMap (l.getD k zI).2.1 (l.getD k zI).2.2.1 p 0, (l.getD k zI).2.2)] := by
  rw [take_snoc' h, List.map_append]
  rfl
theorem short_moveW {p : List Chg} {l : List Inl} (h : shortL l) : shortL (l.map (moveW p)) := fun x hx => by
  obtain ⟨y, hy, rfl⟩ := List.mem_map.1 hx
  exact h y hy
theorem p20 : vc20 := by
  unfold vc20
  simp only [eq_self, true_and, and_true, decide_eq_true_eq, decide_eq_false_iff_not, beq_iff_eq, beq_eq_false_iff_ne, bne_iff_ne, bne_eq_false_iff_eq, Bool.not_eq_true', Bool.not_eq_false', ne_eq, imp_true_iff, implies_true]
  rintro ⟨w, p, ⟨⟩⟩
  simp only [d42, d84]
  rintro ⟨⟨hl, hsh, hn0, hn1⟩, hb, hp⟩
  replace hn1 : w.1 ≤ (1099511627776 : Int) := hn1
  replace hn0 : (0 : Int) ≤ w.1 := hn0
  replace hb : ∀ m ∈ w.2.1, (0 : Int) ≤ m.2.1 ∧ m.2.1 ≤ (1099511627776 : Int) := hb
  have hpm : p.length ≤ maxLen := by rw [maxLen_eq]; omega
  refine ⟨hpm, fun h => by rw [shiftW, if_pos h], fun hn => ?_⟩
  have r1 : (endOf p > w.1 ∨ w64 (w.1 + delta p) > 1099511627776) → ((0 : Int), [], (1 : Int), ()) = shiftW w p := fun h => by
    rw [shiftW, if_neg (by rw [hn]; decide), if_pos h]
  refine ⟨fun z => ∃ k : Nat, k ≤ p.length ∧ z.2.2.1 = (k : Int) ∧ z.1 = w64 (w.1 + delta (p.take k)) ∧ z.2.1 = endOf (p.take k), fun z => p.length - z.2.2.1.toNat, ⟨0, Nat.zero_le _, rfl, ?_, rfl⟩, ?_⟩
  · show w.1 = w64 (w.1 + 0)
    unfold w64
    rw [wrap_id (by omega) (by omega)]
    omega
  rintro g e i ⟨k, hk, hi, hg, he⟩
  simp only at hi hg he
  subst hi
  refine ⟨fun h => ⟨⟨by omega, h⟩, ?_⟩, fun h => ?_⟩
  · have hlt : k < p.length := by omega
    have hwk : IntKind.i64.wrap ((k : Int) + 1) = ((k + 1 : Nat) : Int) := wrap_succ (by omega)
    have hd := delta_take hlt
    have ht := end_take hlt
    rw [toNat_cast, hwk]
    generalize p.getD k zeroC = c at hd ht ⊢
    refine ⟨⟨k + 1, hlt, rfl, ?_, ht.symm⟩, by simp only [toNat_cast]; omega⟩
    rw [hd, hg]
    unfold w64 size w64
    simp only [wrap_eq]
    omega
  · have hke : k = p.length := by omega
    subst hke
    rw [List.take_length] at hg he
    subst hg he
    refine ⟨fun h1 => r1 (.inl h1), fun h1 => ⟨fun h2 => r1 (.inr h2), fun h2 => ?_⟩⟩
    have fin : shiftW w p = newW (w64 (w.1 + delta p)) (w.2.1.map (moveW p)) := by
      rw [shiftW, if_neg (by rw [hn]; decide), if_neg (fun hh => hh.elim h1 h2)]
    rw [fin]
    generalize w.2.1 = l at hl hsh hb ⊢
    refine ⟨fun z => ∃ k : Nat, k ≤ l.length ∧ z.2.1 = (k : Int) ∧ z.1 = (l.take k).map (moveW p), fun z => l.length - z.2.1.toNat, ⟨0, Nat.zero_le _, rfl, rfl⟩, ?_⟩
    rintro a i ⟨k, hk, hi, ha⟩
    simp only at hi ha
    subst hi
    have hal : a.length = k := by rw [ha]; simp; omega
    refine ⟨fun h => ?_, fun h => ?_⟩
    · have hlt : k < l.length := by omega
      have hw : IntKind.i64.wrap ((k : Int) + 1) = ((k + 1 : Nat) : Int) := wrap_succ (by omega)
      have hm := moveW_snoc (p := p) hlt
      have hbk := hb _ (List.getElem_mem hlt)
      rw [← getD_of zI hlt] at hbk
      rw [toNat_cast, hw]
      rw [maxLen_eq] at hpm ⊢
      simp only [List.length_singleton, toNat_cast]
      exact ⟨⟨by omega, h⟩, ⟨hpm, hn, hbk.1, hbk.2⟩, by omega, by omega, ⟨k + 1, hlt, rfl, by rw [hm, ha]⟩, by omega⟩
    · have hke : k = l.length := by omega
      rw [hke, List.take_length] at ha
      rw [maxLen_eq]
      refine ⟨⟨by omega, by rw [ha]; exact short_moveW hsh⟩, ?_⟩
      rw [ha]
end Go.Fr.C13
