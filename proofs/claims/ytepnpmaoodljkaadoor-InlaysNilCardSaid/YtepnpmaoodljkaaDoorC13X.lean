/-
  Chapter 13: what sets are, in plain Lean. Conditions: none.
-/
import Derived.Test.YtepnpmaoodljkaaDoorC13T
namespace Go.Fr.C13
open Go Go.Fr Go.Proofs

theorem wi_zero {n : Int} {x : Inl} : wrongI n x = 0 ↔ ¬ (x.1 < 1 ∨ x.2.1 < 0 ∨ x.2.1 > n ∨ (x.2.2.1 ≠ 0 ∧ x.2.2.1 ≠ 1)) ∧ ¬ ((decodeL (txt x)).length : Int) > 40 ∧ ¬ ((txt x).size = 0 ∨ hasNL (txt x) = true) := by
  by_cases h1 : x.1 < 1 ∨ x.2.1 < 0 ∨ x.2.1 > n ∨ (x.2.2.1 ≠ 0 ∧ x.2.2.1 ≠ 1)
  · rw [← wi_1 h1]
    constructor
    · intro h; cases h
    · rintro ⟨h, _⟩; exact absurd h1 h
  · by_cases h2 : ((decodeL (txt x)).length : Int) > 40
    · rw [← wi_2 h1 h2]
      constructor
      · intro h; cases h
      · rintro ⟨_, h, _⟩; exact absurd h2 h
    · by_cases h3 : (txt x).size = 0 ∨ hasNL (txt x) = true
      · rw [← wi_4 h1 h2 h3]
        constructor
        · intro h; cases h
        · rintro ⟨_, _, h⟩; exact absurd h3 h
      · rw [← wi_0 h1 h2 h3]
        exact ⟨fun _ => ⟨h1, h2, h3⟩, fun _ => rfl⟩
theorem wi_at {n : Int} {x : Inl} (h : wrongI n x = 0) : 1 ≤ x.1 ∧ 0 ≤ x.2.1 ∧ x.2.1 ≤ n ∧ (x.2.2.1 = 0 ∨ x.2.2.1 = 1) := by
  have := (wi_zero.1 h).1
  omega
theorem nl_clean (s : ByteArray) : hasNL (clean s) = hasNL s := by
  rw [Bool.eq_iff_iff, nl_dec, nl_dec, dec_clean]
theorem size_clean (s : ByteArray) : (clean s).size = 0 ↔ s.size = 0 := by
  rw [← dec_none, ← dec_none, dec_clean]
theorem wi_clean {n : Int} {x : Inl} (h : wrongI n x = 0) : wrongI n (cleanI x) = 0 := by
  obtain ⟨h1, h2, h3⟩ := wi_zero.1 h
  refine wi_zero.2 ⟨h1, ?_, ?_⟩
  · show ¬ ((decodeL (clean (txt x))).length : Int) > 40
    rw [dec_clean]
    exact h2
  · show ¬ ((clean (txt x)).size = 0 ∨ hasNL (clean (txt x)) = true)
    rw [nl_clean, size_clean]
    exact h3
theorem clean_small {n : Int} {x : Inl} (h : wrongI n x = 0) : (txt (cleanI x)).size ≤ 160 := by
  have h2 := (wi_zero.1 h).2.1
  have := encode_size (decodeL (txt x))
  show (encode (decodeL (txt x))).size ≤ 160
  omega
theorem clean_twice (x : Inl) : cleanI (cleanI x) = cleanI x := by
  show (x.1, x.2.1, x.2.2.1, x.2.2.2.1, clean (clean (txt x)), ()) = cleanI x
  rw [clean_clean]
  rfl
theorem errI_zero {n : Int} : (seen l : List Inl) → (∀ x ∈ l, wrongI n x = 0 ∧ hasId x.1 seen = false) → l.Pairwise (fun a b => a.1 ≠ b.1) → errI n seen l = 0
  | _, [], _, _ => rfl
  | seen, x :: r, h, hp => by
    obtain ⟨h1, h2⟩ := h x (List.mem_cons_self ..)
    obtain ⟨p1, p2⟩ := List.pairwise_cons.1 hp
    rw [err_on (ww_0 h1.symm h2).symm]
    refine errI_zero _ r (fun y hy => ⟨(h y (List.mem_cons_of_mem _ hy)).1, ?_⟩) p2
    have g := (h y (List.mem_cons_of_mem _ hy)).2
    simp [hasId] at g ⊢
    exact ⟨g, p1 y hy⟩
theorem wrong_zero {n : Int} {l : List Inl} : wrongN n l = 0 ↔ (0 ≤ n ∧ n ≤ 1099511627776) ∧ (l.length : Int) ≤ 60 ∧ (∀ x ∈ l, wrongI n x = 0) ∧ l.Pairwise (fun a b => a.1 ≠ b.1) := by
  unfold wrongN
  by_cases h1 : n < 0 ∨ n > 1099511627776
  · rw [if_pos h1]
    constructor
    · intro h; cases h
    · intro h; omega
  · rw [if_neg h1]
    by_cases h2 : (l.length : Int) > 60
    · rw [if_pos h2]
      constructor
      · intro h; cases h
      · intro h; omega
    · rw [if_neg h2]
      constructor
      · intro h
        have := errI_ids [] l h
        exact ⟨by omega, by omega, fun x hx => (this.1 x hx).1, this.2⟩
      · rintro ⟨_, _, h3, h4⟩
        exact errI_zero [] l (fun x hx => ⟨h3 x hx, rfl⟩) h4
theorem sort_perm (l : List Inl) : (sortI l).Perm l := sortBy_perm l
theorem sort_len (l : List Inl) : (sortI l).length = l.length := (sort_perm l).length_eq
theorem ids_perm {l m : List Inl} (h : l.Perm m) (hp : l.Pairwise (fun a b => a.1 ≠ b.1)) : m.Pairwise (fun a b => a.1 ≠ b.1) := h.pairwise hp (fun h e => h e.symm)
theorem wrong_perm {n : Int} {l m : List Inl} (h : l.Perm m) (hw : wrongN n l = 0) : wrongN n m = 0 := by
  obtain ⟨h1, h2, h3, h4⟩ := wrong_zero.1 hw
  exact wrong_zero.2 ⟨h1, by rw [← h.length_eq]; exact h2, fun x hx => h3 x (h.mem_iff.2 hx), ids_perm h h4⟩
theorem wrong_clean {n : Int} {l : List Inl} (hw : wrongN n l = 0) : wrongN n (l.map cleanI) = 0 := by
  obtain ⟨h1, h2, h3, h4⟩ := wrong_zero.1 hw
  refine wrong_zero.2 ⟨h1, by rw [List.length_map]; exact h2, fun y hy => ?_, clean_ids h4⟩
  obtain ⟨x, hx, rfl⟩ := List.mem_map.1 hy
  exact wi_clean (h3 x hx)
theorem sort_perm_eq {l m : List Inl} (h : l.Perm m) (hp : l.Pairwise (fun a b => a.1 ≠ b.1)) : sortI l = sortI m := by
  refine one_way (ids_perm h hp) ((sort_perm l).trans h) ?_
  rw [← insI_sort hp]
  exact (insI_perm l).2
theorem sort_id {l : List Inl} (hp : l.Pairwise (fun a b => a.1 ≠ b.1)) (hs : l.Pairwise (fun a b => ¬ cmpL b a < 0)) : sortI l = l := (one_way hp (List.Perm.refl _) hs).symm
theorem sort_sorted {l : List Inl} (hp : l.Pairwise (fun a b => a.1 ≠ b.1)) : (sortI l).Pairwise (fun a b => ¬ cmpL b a < 0) := by
  rw [← insI_sort hp]
  exact (insI_perm l).2
theorem new_fst {n : Int} {l : List Inl} (h : wrongN n l = 0) : newI n l = (some (n, sortI (l.map cleanI), ()), 0, ()) := by rw [newI, if_pos h]
theorem new_bad {n : Int} {l : List Inl} (h : wrongN n l ≠ 0) : newI n l = (none, wrongN n l, ()) := by rw [newI, if_neg h]
theorem newW_fst {n : Int} {l : List Inl} (h : wrongN n l = 0) : newW n l = (n, sortI (l.map cleanI), 0, ()) := by
  rw [newW, if_pos h, insI_sort (clean_ids (wrong_zero.1 h).2.2.2)]
theorem newW_bad {n : Int} {l : List Inl} (h : wrongN n l ≠ 0) : newW n l = (0, [], wrongN n l, ()) := by rw [newW, if_neg h]
/-- A set, and the document's. -/
def Made (s : Option ISet) (w : WSet) : Prop := ∃ n L, s = some (n, L, ()) ∧ w = (n, L, 0, ()) ∧ wrongN n L = 0 ∧ L.map cleanI = L ∧ L.Pairwise (fun a b => ¬ cmpL b a < 0)
theorem made_new {n : Int} {l : List Inl} (h : wrongN n l = 0) : Made (newI n l).1 (newW n l) := by
  rw [new_fst h, newW_fst h]
  have h2 := wrong_clean h
  have ids := clean_ids (wrong_zero.1 h).2.2.2
  refine ⟨n, _, rfl, rfl, wrong_perm (sort_perm _).symm h2, ?_, sort_sorted ids⟩
  conv => rhs; rw [← List.map_id (sortI (l.map cleanI))]
  refine List.map_congr_left fun x hx => ?_
  obtain ⟨y, _, rfl⟩ := List.mem_map.1 ((sort_perm _).mem_iff.1 hx)
  exact clean_twice y
theorem new_is (n : Int) (l : List Inl) : isI (newI n l).1 (newI n l).2.1 (newW n l) = true ∧ ((newI n l).1 = none ∨ ((newI n l).2.1 = 0 ∧ Made (newI n l).1 (newW n l))) := by
  by_cases h : wrongN n l = 0
  · refine ⟨?_, .inr ⟨by rw [new_fst h], made_new h⟩⟩
    rw [new_fst h, newW_fst h]
    simp [isI, sameL, allI, lenI]
  · refine ⟨?_, .inl (by rw [new_bad h])⟩
    rw [new_bad h, newW_bad h]
    simp [isI, h]
theorem made_ok {s : Option ISet} {w : WSet} (h : Made s w) : s.isNone = false ∧ okI s ∧ okW w ∧ w.1 = lenI s ∧ w.2.1 = allI s ∧ w.2.2.1 = 0 ∧ isI s 0 w = true ∧ (allI s).length ≤ 60 ∧ (∀ m ∈ allI s, (0 : Int) ≤ m.2.1 ∧ m.2.1 ≤ (1099511627776 : Int)) := by
  obtain ⟨n, L, rfl, rfl, hw, hc, hs⟩ := h
  obtain ⟨h1, h2, h3, h4⟩ := wrong_zero.1 hw
  have sh : shortL L := fun x hx => by
    have : cleanI x ∈ L.map cleanI := List.mem_map.2 ⟨x, hx, rfl⟩
    obtain ⟨y, hy, e⟩ := List.mem_map.1 (by rw [hc]; exact hx : x ∈ L.map cleanI)
    rw [← e]
    have := clean_small (h3 y hy)
    omega
  have hl : L.length ≤ 60 := by omega
  refine ⟨rfl, ⟨?_, sh, nodup_pw.2 h4, h1.1, h1.2⟩, ⟨?_, sh, h1.1, h1.2⟩, rfl, rfl, rfl, ?_, hl, fun m hm => ?_⟩
  · show L.length ≤ 10000; omega
  · show L.length ≤ 10000; omega
  · simp [isI, sameL, allI, lenI]
  · have := wi_at (h3 m hm)
    omega
/-! ### Splices -/
theorem nodup_len : (A B : List Int) → A.Nodup → (∀ a ∈ A, a ∈ B) → A.length ≤ B.length
  | [], _, _, _ => Nat.zero_le _
  | a :: A, B, h, hs => by
    obtain ⟨h1, h2⟩ := List.nodup_cons.1 h
    have hb := hs a (List.mem_cons_self ..)
    have ih := nodup_len A (B.erase a) h2 fun x hx => by
      have hne : x ≠ a := fun e => h1 (e ▸ hx)
      exact (List.mem_erase_of_ne hne).2 (hs x (List.mem_cons_of_mem _ hx))
    rw [List.length_erase_of_mem hb] at ih
    have : 0 < B.length := List.length_pos_of_mem hb
    simp only [List.length_cons]
    omega
theorem nodup_all : (F R : List Int) → F.Nodup → (∀ a ∈ F, a ∈ R) → R.length ≤ F.length → R.Nodup ∧ ∀ a ∈ R, a ∈ F
  | [], R, _, _, hl => by
    have : R = [] := List.eq_nil_of_length_eq_zero (by simpa using hl)
    subst this
    exact ⟨List.nodup_nil, fun a ha => by cases ha⟩
  | f :: F, R, h, hs, hl => by
    obtain ⟨h1, h2⟩ := List.nodup_cons.1 h
    have hb := hs f (List.mem_cons_self ..)
    have hpos : 0 < R.length := List.length_pos_of_mem hb
    obtain ⟨g1, g2⟩ := nodup_all F (R.erase f) h2 (fun x hx => by
      have hne : x ≠ f := fun e => h1 (e ▸ hx)
      exact (List.mem_erase_of_ne hne).2 (hs x (List.mem_cons_of_mem _ hx))) (by
      rw [List.length_erase_of_mem hb]
      simp only [List.length_cons] at hl
      omega)
    have pm := List.perm_cons_erase hb
    refine ⟨pm.nodup_iff.2 (List.nodup_cons.2 ⟨fun hf => h1 (g2 f hf), g1⟩), fun a ha => ?_⟩
    rcases List.mem_cons.1 (pm.mem_iff.1 ha) with e | ha
    · subst e; exact List.mem_cons_self ..
    · exact List.mem_cons_of_mem _ (g2 a ha)
theorem rmOk_iff : (m rm : List Int) → m.Nodup → (rmOk m rm = true ↔ rm.Nodup ∧ ∀ i ∈ rm, i ∈ m)
  | m, [], _ => by simp [rmOk]
  | m, i :: r, h => by
    have ih := rmOk_iff (m.erase i) r (h.erase i)
    show (m.contains i && rmOk (m.erase i) r) = true ↔ _
    rw [Bool.and_eq_true, List.contains_iff_mem, ih, List.nodup_cons]
    constructor
    · rintro ⟨h1, h2, h3⟩
      refine ⟨⟨fun hi => ?_, h2⟩, fun j hj => ?_⟩
      · have := h3 i hi
        rw [h.mem_erase_iff] at this
        exact this.1 rfl
      · rcases List.mem_cons.1 hj with e | hj
        · subst e; exact h1
        · exact List.mem_of_mem_erase (h3 j hj)
    · rintro ⟨⟨h1, h2⟩, h3⟩
      refine ⟨h3 i (List.mem_cons_self ..), h2, fun j hj => ?_⟩
      have hne : j ≠ i := fun e => h1 (e ▸ hj)
      exact (List.mem_erase_of_ne hne).2 (h3 j (List.mem_cons_of_mem _ hj))
theorem rm_count {l : List Inl} (h : (l.map (·.1)).Nodup) (rm : List Int) : rmOk (l.map (·.1)) rm = true ↔ ¬ ((l.countP (fun x => decide (rm.count x.1 = 1)) : Nat) : Int) < (rm.length : Int) := by
  rw [rmOk_iff _ _ h]
  have e : l.countP (fun x => decide (rm.count x.1 = 1)) = ((l.map (·.1)).filter (fun i => decide (rm.count i = 1))).length := by
    rw [← List.countP_eq_length_filter, List.countP_map]
    rfl
  rw [e]
  generalize l.map (·.1) = m at h ⊢
  constructor
  · rintro ⟨h1, h2⟩
    have := nodup_len rm (m.filter (fun i => decide (rm.count i = 1))) h1 fun i hi => List.mem_filter.2 ⟨h2 i hi, by
      rw [decide_eq_true_eq]
      exact List.nodup_iff_count.1 h1 i |> fun hh => by
        have := List.count_pos_iff.2 hi
        omega⟩
    omega
  · intro hl
    obtain ⟨g1, g2⟩ := nodup_all (m.filter (fun i => decide (rm.count i = 1))) rm (h.filter _) (fun i hi => by
      have := of_decide_eq_true (List.mem_filter.1 hi).2
      exact List.count_pos_iff.1 (by omega)) (by omega)
    exact ⟨g1, fun i hi => (List.mem_filter.1 (g2 i hi)).1⟩
theorem splice_same {s : Option ISet} {w : WSet} (h : Made s w) (rm : List Int) (add : List Inl) :
    (spliceI s rm add = (none, 6, ()) ∧ spliceW w rm add = (0, [], 6, ())) ∨ (rmOk ((allI s).map (·.1)) rm = true ∧ spliceI s rm add = newI (lenI s) (left (allI s) rm ++ add) ∧ spliceW w rm add = newW (lenI s) (left (allI s) rm ++ add)) := by
  obtain ⟨_, o, _, e1, e2, _⟩ := made_ok h
  have hc := rm_count o.2.2.1 rm
  have hf : w.2.1.filter (fun x => decide (rm.count x.1 = 0)) = left (allI s) rm := by
    rw [e2]
    refine List.filter_congr fun x _ => ?_
    rw [Bool.eq_iff_iff]
    simp [List.count_eq_zero]
  unfold spliceI spliceW
  rw [hf, e2, e1]
  by_cases hr : rmOk ((allI s).map (·.1)) rm = true
  · rw [if_pos hr, if_neg (hc.1 hr)]
    exact .inr ⟨hr, rfl, rfl⟩
  · rw [if_neg hr, if_pos (Classical.not_not.1 fun hh => hr (hc.2 hh))]
    exact .inl ⟨rfl, rfl⟩
theorem splice_is {s : Option ISet} {w : WSet} (h : Made s w) (rm : List Int) (add : List Inl) :
    isI (spliceI s rm add).1 (spliceI s rm add).2.1 (spliceW w rm add) = true ∧ ((spliceI s rm add).1 = none ∨ ((spliceI s rm add).2.1 = 0 ∧ Made (spliceI s rm add).1 (spliceW w rm add))) := by
  rcases splice_same h rm add with ⟨h1, h2⟩ | ⟨_, h1, h2⟩
  · rw [h1, h2]
    exact ⟨by simp [isI], .inl rfl⟩
  · rw [h1, h2]
    exact new_is _ _
/-! ### Shifts -/
theorem move_ref {s : Option ISet} {w : WSet} (h : Made s w) {p : List Chg} (hp : normal p = true) : (allI s).map (moveI p) = (allI s).map (moveW p) := by
  obtain ⟨n, L, rfl, rfl, hw, hc, hs⟩ := h
  obtain ⟨h1, h2, h3, h4⟩ := wrong_zero.1 hw
  refine List.map_congr_left fun x hx => ?_
  have ok := wi_at (h3 x hx)
  unfold moveI moveW
  rw [mapP_in hp ok.2.1 (by omega) ok.2.2.2, refMap_eq (p := x.2.1) (b := x.2.2.1) p zeroC true 0 hp]
theorem shift_is {s : Option ISet} {w : WSet} (h : Made s w) (p : List Chg) :
    isI (shiftI s p).1 (shiftI s p).2.1 (shiftW w p) = true ∧ ((shiftI s p).1 = none ∨ ((shiftI s p).2.1 = 0 ∧ Made (shiftI s p).1 (shiftW w p))) := by
  obtain ⟨_, _, _, e1, e2, _⟩ := made_ok h
  unfold shiftI shiftW
  rw [e1, e2]
  cases hn : normal p with
  | false => exact ⟨by simp [isI], .inl rfl⟩
  | true =>
    rw [if_neg (show ¬ (true = false) by decide), if_neg (show ¬ (true = false) by decide), ← move_ref h hn]
    split
    · exact ⟨by simp [isI], .inl rfl⟩
    · exact new_is _ _
end Go.Fr.C13
