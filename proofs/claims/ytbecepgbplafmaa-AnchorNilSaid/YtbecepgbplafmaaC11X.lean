/-
  Chapter 11: where anchors go by a patch. Conditions: none.
-/
import Derived.Test.YtbecepgbplafmaaC11U
namespace Go.Fr.C11
open Go Go.Fr Go.Proofs

/-! ### Patches -/
def lastFrom (last : Chg) : List Chg → Chg
  | [] => last
  | c :: r => lastFrom c r
theorem ok_bounds {last c : Chg} {f : Bool} (h : okStep last c f = true) : 0 ≤ c.1.1 ∧ c.1.1 ≤ c.1.2.1 ∧ c.1.2.1 ≤ 1099511627776 ∧ 0 ≤ c.2.1.1 ∧ c.2.1.1 ≤ c.2.1.2.1 ∧ c.2.1.2.1 ≤ 1099511627776 ∧ c.1.1 - last.1.2.1 = c.2.1.1 - last.2.1.2.1 ∧ last.1.2.1 ≤ c.1.1 := by
  have := okStep_iff.1 h
  omega
theorem last_ge : ∀ (l : List Chg) (last : Chg) (f : Bool), normFrom last f l = true → last.1.2.1 ≤ (lastFrom last l).1.2.1 ∧ last.2.1.2.1 ≤ (lastFrom last l).2.1.2.1
  | [], _, _, _ => ⟨Int.le_refl _, Int.le_refl _⟩
  | c :: r, last, f, h => by
    have h := normFrom_cons.1 h
    have ok := ok_bounds h.1
    have ih := last_ge r c false h.2
    show last.1.2.1 ≤ (lastFrom c r).1.2.1 ∧ last.2.1.2.1 ≤ (lastFrom c r).2.1.2.1
    omega
theorem last_le : ∀ (l : List Chg) (last : Chg) (f : Bool), normFrom last f l = true → last.1.2.1 ≤ 1099511627776 → last.2.1.2.1 ≤ 1099511627776 → (lastFrom last l).1.2.1 ≤ 1099511627776 ∧ (lastFrom last l).2.1.2.1 ≤ 1099511627776
  | [], _, _, _, h1, h2 => ⟨h1, h2⟩
  | c :: r, last, f, h, _, _ => by
    have h := normFrom_cons.1 h
    have ok := ok_bounds h.1
    exact last_le r c false h.2 (by omega) (by omega)
theorem delta_from : ∀ (l : List Chg) (last : Chg) (f : Bool), normFrom last f l = true → 0 ≤ last.1.2.1 → last.1.2.1 ≤ 1099511627776 → 0 ≤ last.2.1.2.1 → last.2.1.2.1 ≤ 1099511627776 →
    l.foldl (fun n c => w64 (n + w64 (size c.2.1 - size c.1))) (last.2.1.2.1 - last.1.2.1) = (lastFrom last l).2.1.2.1 - (lastFrom last l).1.2.1
  | [], _, _, _, _, _, _, _ => rfl
  | c :: r, last, f, h, a1, a2, a3, a4 => by
    have h := normFrom_cons.1 h
    have ok := ok_bounds h.1
    show r.foldl _ (w64 (last.2.1.2.1 - last.1.2.1 + w64 (size c.2.1 - size c.1))) = (lastFrom c r).2.1.2.1 - (lastFrom c r).1.2.1
    have e : w64 (last.2.1.2.1 - last.1.2.1 + w64 (size c.2.1 - size c.1)) = c.2.1.2.1 - c.1.2.1 := by
      unfold size w64
      simp only [wrap_eq]
      omega
    rw [e]
    exact delta_from r c false h.2 (by omega) (by omega) (by omega) (by omega)
theorem delta_last {l : List Chg} (h : normal l = true) : delta l = (lastFrom zeroC l).2.1.2.1 - (lastFrom zeroC l).1.2.1 := delta_from l zeroC true h (by decide) (by decide) (by decide) (by decide)
theorem endOf_last : ∀ (l : List Chg) (last : Chg), l ≠ [] → endOf l = (lastFrom last l).1.2.1
  | [], _, h => absurd rfl h
  | [c], _, _ => rfl
  | c :: d :: r, last, _ => by
    have ih := endOf_last (d :: r) c (by simp)
    unfold endOf at ih ⊢
    rw [List.getLast?_cons_cons]
    exact ih
theorem end_last (l : List Chg) : endOf l = (lastFrom zeroC l).1.2.1 := by
  cases l with
  | nil => rfl
  | cons c r => exact endOf_last _ zeroC (by simp)
theorem last_pos {l : List Chg} (h : normal l = true) : 0 ≤ (lastFrom zeroC l).1.2.1 ∧ 0 ≤ (lastFrom zeroC l).2.1.2.1 ∧ (lastFrom zeroC l).1.2.1 ≤ 1099511627776 ∧ (lastFrom zeroC l).2.1.2.1 ≤ 1099511627776 := by
  have h1 := last_ge l zeroC true h
  have h2 := last_le l zeroC true h (by decide) (by decide)
  exact ⟨h1.1, h1.2, h2.1, h2.2⟩
/-- A place behind a change stays behind it; one in a text stays in it. -/
theorem map_in {b : Int} : ∀ (l : List Chg) (last : Chg) (f : Bool) (a n : Int), normFrom last f l = true → last.1.2.1 ≤ a → a ≤ n → (lastFrom last l).1.2.1 ≤ n →
    last.2.1.2.1 ≤ mapTo a b l (last.2.1.2.1 - last.1.2.1) ∧ mapTo a b l (last.2.1.2.1 - last.1.2.1) ≤ n + ((lastFrom last l).2.1.2.1 - (lastFrom last l).1.2.1)
  | [], last, f, a, n, _, h1, h2, h3 => by
    show _ ≤ a + (last.2.1.2.1 - last.1.2.1) ∧ a + (last.2.1.2.1 - last.1.2.1) ≤ n + (last.2.1.2.1 - last.1.2.1)
    omega
  | c :: r, last, f, a, n, h, h1, h2, h3 => by
    have h := normFrom_cons.1 h
    have ok := ok_bounds h.1
    have lg := last_ge r c false h.2
    have h3 : (lastFrom c r).1.2.1 ≤ n := h3
    have e : lastFrom last (c :: r) = lastFrom c r := rfl
    rw [mapTo, e]
    split
    · omega
    · split
      · split <;> omega
      · have ih := map_in (b := b) r c false a n h.2 (by omega) h2 h3
        omega
theorem map_mono {b1 b2 : Int} (hb : b1 ≤ b2) (hb1 : b1 = 0 ∨ b1 = 1) (hb2 : b2 = 0 ∨ b2 = 1) : ∀ (l : List Chg) (last : Chg) (f : Bool) (a1 a2 : Int), normFrom last f l = true → last.1.2.1 ≤ a1 → a1 ≤ a2 →
    mapTo a1 b1 l (last.2.1.2.1 - last.1.2.1) ≤ mapTo a2 b2 l (last.2.1.2.1 - last.1.2.1)
  | [], last, f, a1, a2, _, h1, h2 => by
    show a1 + _ ≤ a2 + _
    omega
  | c :: r, last, f, a1, a2, h, h1, h2 => by
    have h := normFrom_cons.1 h
    have ok := ok_bounds h.1
    rw [mapTo, mapTo]
    by_cases g1 : a2 < c.1.1
    · rw [if_pos (show a1 < c.1.1 by omega), if_pos g1]
      omega
    · rw [if_neg g1]
      by_cases g2 : a2 ≤ c.1.2.1
      · rw [if_pos g2]
        by_cases g3 : a1 < c.1.1
        · rw [if_pos g3]
          split <;> omega
        · rw [if_neg g3, if_pos (show a1 ≤ c.1.2.1 by omega)]
          split <;> split <;> omega
      · rw [if_neg g2]
        have low := (map_in (b := b2) r c false a2 (a2 + 2199023255552 + (lastFrom c r).1.2.1.natAbs) h.2 (by omega) (by omega) (by omega)).1
        by_cases g3 : a1 < c.1.1
        · rw [if_pos g3]
          omega
        · rw [if_neg g3]
          by_cases g4 : a1 ≤ c.1.2.1
          · rw [if_pos g4]
            split <;> omega
          · rw [if_neg g4]
            exact map_mono hb hb1 hb2 r c false a1 a2 h.2 (by omega) h2
def inv (c : Chg) : Chg := (c.2.1, c.1, ())
theorem ok_inv {last c : Chg} {f : Bool} (h : okStep last c f = true) : okStep (inv last) (inv c) f = true := by
  obtain ⟨a1, b1, c1, d, e, g⟩ := okStep_iff.1 h
  refine okStep_iff.2 ⟨b1, a1, fun hh => c1 ⟨hh.2, hh.1⟩, d.symm, ?_, ?_⟩
  · show last.2.1.2.1 ≤ c.2.1.1
    omega
  · rcases g with g | g
    · exact .inl g
    · refine .inr fun hh => g ?_
      have hh : c.2.1.1 = last.2.1.2.1 := hh
      omega
theorem norm_inv : ∀ (l : List Chg) (last : Chg) (f : Bool), normFrom last f l = true → normFrom (inv last) f (l.map inv) = true
  | [], _, _, _ => rfl
  | c :: r, last, f, h => by
    have h := normFrom_cons.1 h
    exact normFrom_cons.2 ⟨ok_inv h.1, norm_inv r c false h.2⟩
theorem normal_inv {l : List Chg} (h : normal l = true) : normal (invert l) = true := norm_inv l zeroC true h
theorem last_inv : ∀ (l : List Chg) (last : Chg), lastFrom (inv last) (l.map inv) = inv (lastFrom last l)
  | [], _ => rfl
  | c :: r, _ => last_inv r c
theorem map_strict {b : Int} : ∀ (l : List Chg) (last : Chg) (f : Bool) (a : Int), normFrom last f l = true → last.1.2.1 < a → (∀ c ∈ l, ¬ (c.1.1 ≤ a ∧ a ≤ c.1.2.1)) → last.2.1.2.1 < mapTo a b l (last.2.1.2.1 - last.1.2.1)
  | [], last, f, a, _, h1, _ => by
    show _ < a + _
    omega
  | c :: r, last, f, a, h, h1, h2 => by
    have h := normFrom_cons.1 h
    have ok := ok_bounds h.1
    have hc := h2 c (List.mem_cons_self ..)
    rw [mapTo]
    by_cases g : a < c.1.1
    · rw [if_pos g]; omega
    · rw [if_neg g, if_neg (by omega)]
      have := map_strict (b := b) r c false a h.2 (by omega) (fun d hd => h2 d (List.mem_cons_of_mem _ hd))
      omega
/-- What is in no change, nor at one's end, goes back. -/
theorem map_back {b : Int} : ∀ (l : List Chg) (last : Chg) (f : Bool) (a : Int), normFrom last f l = true → (∀ c ∈ l, ¬ (c.1.1 ≤ a ∧ a ≤ c.1.2.1)) →
    mapTo (mapTo a b l (last.2.1.2.1 - last.1.2.1)) b (l.map inv) (last.1.2.1 - last.2.1.2.1) = a
  | [], last, f, a, _, _ => by
    show a + (last.2.1.2.1 - last.1.2.1) + (last.1.2.1 - last.2.1.2.1) = a
    omega
  | c :: r, last, f, a, h, h2 => by
    have h := normFrom_cons.1 h
    have ok := ok_bounds h.1
    have hc := h2 c (List.mem_cons_self ..)
    have h2' : ∀ d ∈ r, ¬ (d.1.1 ≤ a ∧ a ≤ d.1.2.1) := fun d hd => h2 d (List.mem_cons_of_mem _ hd)
    have e : ∀ (q s : Int), mapTo q b (List.map inv (c :: r)) s = if q < c.2.1.1 then q + s else if q ≤ c.2.1.2.1 then (if b = 0 then c.1.1 else c.1.2.1) else mapTo q b (r.map inv) (c.1.2.1 - c.2.1.2.1) := fun _ _ => rfl
    rw [e, mapTo]
    by_cases g : a < c.1.1
    · rw [if_pos g, if_pos (show a + (last.2.1.2.1 - last.1.2.1) < c.2.1.1 by omega)]
      omega
    · rw [if_neg g, if_neg (show ¬ a ≤ c.1.2.1 by omega)]
      have low := map_strict (b := b) r c false a h.2 (by omega) h2'
      rw [if_neg (by omega), if_neg (by omega)]
      exact map_back r c false a h.2 h2'

/-! ### Sets -/
theorem errA_zero {n : Int} : (seen l : List Anc) → (∀ x ∈ l, okA n x = true ∧ hasId x.1 seen = false) → l.Pairwise (fun a b => a.1 ≠ b.1) → errA n seen l = 0
  | _, [], _, _ => rfl
  | seen, x :: r, h, hp => by
    obtain ⟨h1, h2⟩ := h x (List.mem_cons_self ..)
    obtain ⟨p1, p2⟩ := List.pairwise_cons.1 hp
    rw [err_on h1 h2]
    refine errA_zero _ r (fun y hy => ⟨(h y (List.mem_cons_of_mem _ hy)).1, ?_⟩) p2
    have g := (h y (List.mem_cons_of_mem _ hy)).2
    simp [hasId] at g ⊢
    exact ⟨g, p1 y hy⟩
/-- Which anchors make a set. -/
theorem wrong_zero {n : Int} {l : List Anc} : wrongA n l = 0 ↔ (0 ≤ n ∧ n ≤ 1099511627776) ∧ (l.length : Int) ≤ 200 ∧ (∀ x ∈ l, okA n x = true) ∧ l.Pairwise (fun a b => a.1 ≠ b.1) := by
  unfold wrongA
  by_cases h1 : n < 0 ∨ n > 1099511627776
  · rw [if_pos h1]
    constructor
    · intro h; cases h
    · intro h; omega
  · rw [if_neg h1]
    by_cases h2 : (l.length : Int) > 200
    · rw [if_pos h2]
      constructor
      · intro h; cases h
      · intro h; omega
    · rw [if_neg h2]
      constructor
      · intro h
        have := errA_ids [] l h
        exact ⟨by omega, by omega, fun x hx => (this.1 x hx).1, this.2⟩
      · rintro ⟨_, _, h3, h4⟩
        exact errA_zero [] l (fun x hx => ⟨h3 x hx, rfl⟩) h4
theorem sort_perm (l : List Anc) : (sortA l).Perm l := sortBy_perm l
theorem sort_len (l : List Anc) : (sortA l).length = l.length := (sort_perm l).length_eq
theorem ids_perm {l m : List Anc} (h : l.Perm m) (hp : l.Pairwise (fun a b => a.1 ≠ b.1)) : m.Pairwise (fun a b => a.1 ≠ b.1) := h.pairwise hp (fun h e => h e.symm)
theorem wrong_perm {n : Int} {l m : List Anc} (h : l.Perm m) (hw : wrongA n l = 0) : wrongA n m = 0 := by
  obtain ⟨h1, h2, h3, h4⟩ := wrong_zero.1 hw
  exact wrong_zero.2 ⟨h1, by rw [← h.length_eq]; exact h2, fun x hx => h3 x (h.mem_iff.2 hx), ids_perm h h4⟩
theorem sort_perm_eq {l m : List Anc} (h : l.Perm m) (hp : l.Pairwise (fun a b => a.1 ≠ b.1)) : sortA l = sortA m := by
  refine one_way (ids_perm h hp) ((sort_perm l).trans h) ?_
  rw [← insA_sort hp]
  exact (insA_perm l).2
theorem sort_id {l : List Anc} (hp : l.Pairwise (fun a b => a.1 ≠ b.1)) (hs : l.Pairwise (fun a b => ¬ cmpA b a < 0)) : sortA l = l := (one_way hp (List.Perm.refl _) hs).symm
theorem new_fst {n : Int} {l : List Anc} (h : wrongA n l = 0) : newA n l = (some (n, sortA l, keysA l, ()), 0, ()) := by rw [newA, if_pos h]
theorem new_bad {n : Int} {l : List Anc} (h : wrongA n l ≠ 0) : newA n l = (none, wrongA n l, ()) := by rw [newA, if_neg h]
theorem new_code (n : Int) (l : List Anc) : (newA n l).2.1 = wrongA n l := by
  by_cases h : wrongA n l = 0
  · rw [new_fst h, h]
  · rw [new_bad h]
theorem new_size (n : Int) (l : List Anc) : (allA (newA n l).1).length ≤ 200 ∧ 0 ≤ lenA (newA n l).1 ∧ lenA (newA n l).1 ≤ 1099511627776 := by
  by_cases h : wrongA n l = 0
  · have := wrong_zero.1 h
    rw [new_fst h]
    refine ⟨?_, this.1.1, this.1.2⟩
    show (sortA l).length ≤ 200
    rw [sort_len]
    omega
  · rw [new_bad h]
    exact ⟨Nat.zero_le _, Int.le_refl _, by show (0 : Int) ≤ _; decide⟩
theorem shift_size (s : Option ASet) (p : List Chg) : (allA (shiftA s p).1).length ≤ 200 ∧ 0 ≤ lenA (shiftA s p).1 ∧ lenA (shiftA s p).1 ≤ 1099511627776 := by
  unfold shiftA
  have no : (allA (none : Option ASet)).length ≤ 200 ∧ 0 ≤ lenA none ∧ lenA none ≤ 1099511627776 := ⟨Nat.zero_le _, Int.le_refl _, by show (0 : Int) ≤ _; decide⟩
  split
  · exact no
  · split
    · exact no
    · exact new_size _ _
theorem get_of {n : Int} {l : List Anc} {i : Int} (hp : l.Pairwise (fun a b => a.1 ≠ b.1)) {x : Anc} (hx : x ∈ l) (hi : x.1 = i) : getL i (keysA l) = some x := by
  induction l with
  | nil => cases hx
  | cons y r ih =>
    show (if i = y.1 then some y else getL i (keysA r)) = some x
    obtain ⟨p1, p2⟩ := List.pairwise_cons.1 hp
    rcases List.mem_cons.1 hx with e | hx
    · subst e; rw [if_pos hi.symm]
    · rw [if_neg (fun e => p1 x hx (by rw [← e, hi])), ih p2 hx]
theorem moved_ids {p : List Chg} {l : List Anc} (h : l.Pairwise (fun a b => a.1 ≠ b.1)) : (l.map (moveA p)).Pairwise (fun a b => a.1 ≠ b.1) := by
  rw [List.pairwise_map]
  exact h
/-- A set is shifted. -/
theorem shift_ok {n : Int} {l : List Anc} {p : List Chg} (hw : wrongA n l = 0) (hp : normal p = true) (he : endOf p ≤ n) (hg : w64 (n + delta p) ≤ 1099511627776) :
    w64 (n + delta p) = n + delta p ∧ wrongA (n + delta p) (l.map (moveA p)) = 0 ∧ (∀ x ∈ l, (mapP p x.2.1 x.2.2.1).1 = mapTo x.2.1 x.2.2.1 p 0) ∧
    shiftA (newA n l).1 p = (some (n + delta p, sortA (l.map (moveA p)), keysA ((sortA l).map (moveA p)), ()), 0, ()) := by
  obtain ⟨h1, h2, h3, h4⟩ := wrong_zero.1 hw
  have dl := delta_last hp
  have lp := last_pos hp
  rw [end_last] at he
  have e1 : w64 (n + delta p) = n + delta p := by
    unfold w64
    rw [wrap_eq]
    omega
  have hm : ∀ x ∈ l, (mapP p x.2.1 x.2.2.1).1 = mapTo x.2.1 x.2.2.1 p 0 := fun x hx => by
    have ok := okA_iff.1 (h3 x hx)
    exact mapP_in hp ok.1 (by omega) ok.2.2
  have w2 : wrongA (n + delta p) (l.map (moveA p)) = 0 := by
    refine wrong_zero.2 ⟨by omega, by rw [List.length_map]; exact h2, fun y hy => ?_, moved_ids h4⟩
    obtain ⟨x, hx, rfl⟩ := List.mem_map.1 hy
    have ok := okA_iff.1 (h3 x hx)
    have mi := map_in (b := x.2.2.1) p zeroC true x.2.1 n hp ok.1 ok.2.1 he
    have ez : (zeroC.2.1.2.1 - zeroC.1.2.1 : Int) = 0 := rfl
    rw [ez] at mi
    have e0 : zeroC.2.1.2.1 = 0 := rfl
    refine okA_iff.2 ⟨?_, ?_, ok.2.2⟩
    · show 0 ≤ (mapP p x.2.1 x.2.2.1).1
      rw [hm x hx]; omega
    · show (mapP p x.2.1 x.2.2.1).1 ≤ _
      rw [hm x hx, dl]; omega
  refine ⟨e1, w2, hm, ?_⟩
  rw [new_fst hw]
  unfold shiftA
  have e3 : lenA (some (n, sortA l, keysA l, ())) = n := rfl
  have e4 : allA (some (n, sortA l, keysA l, ())) = sortA l := rfl
  rw [e3, e4, if_neg (by rw [hp]; decide), if_neg (by rw [end_last]; omega), e1]
  have pm : ((sortA l).map (moveA p)).Perm (l.map (moveA p)) := (sort_perm l).map _
  rw [new_fst (wrong_perm pm.symm w2), sort_perm_eq pm (moved_ids (ids_perm (sort_perm l).symm h4))]
/-- When a shift is right. -/
theorem shift_zero {n : Int} {l : List Anc} {p : List Chg} (hw : wrongA n l = 0) (h : (shiftA (newA n l).1 p).2.1 = 0) : normal p = true ∧ endOf p ≤ n ∧ w64 (n + delta p) ≤ 1099511627776 := by
  rw [new_fst hw] at h
  unfold shiftA at h
  have e3 : lenA (some (n, sortA l, keysA l, ())) = n := rfl
  rw [e3] at h
  cases hn : normal p with
  | false => rw [if_pos hn] at h; cases h
  | true =>
    rw [if_neg (by rw [hn]; decide)] at h
    by_cases hc : endOf p > n ∨ w64 (n + delta p) > 1099511627776
    · rw [if_pos hc] at h; cases h
    · exact ⟨rfl, by omega, by omega⟩
end Go.Fr.C11
