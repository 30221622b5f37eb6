/-
  Chapter 40: proofs of the conditions: rows are painted. Conditions: none.
-/
import Derived.Test.YtpkdccmpadkmjaaC40W
namespace Go.Fr.C40
open Go Go.Fr Go.Proofs

def zCell : Cell := (0, 0, 0, 0, ())
theorem d68 : Ty.dflt t68 = zCell := rfl
theorem d3 : Ty.dflt t3 = (0 : Int) := rfl
def sty1 (f : Int → Int) (last : Int) (c : Cell) : Int := if c.2.1 = 1 then f c.2.2.2.1 else if c.2.1 = 4 then last else 0
theorem styles_cons (f : Int → Int) (last : Int) (c : Cell) (r : List Cell) : styles f last (c :: r) = sty1 f last c :: styles f (sty1 f last c) r := rfl
theorem styles_len (f : Int → Int) : ∀ (l : List Cell) (last : Int), (styles f last l).length = l.length
  | [], _ => rfl
  | c :: r, last => by rw [styles_cons, List.length_cons, styles_len f r, List.length_cons]
/-- What stands ahead of a place. -/
def ahead (S : List Int) (last : Int) : Nat → Int
  | 0 => last
  | k + 1 => S.getD k 0
theorem styles_get (f : Int → Int) : ∀ (l : List Cell) (last : Int) (k : Nat), k < l.length → (styles f last l).getD k 0 = sty1 f (ahead (styles f last l) last k) (l.getD k zCell)
  | [], _, _, h => by simp at h
  | c :: r, last, 0, _ => rfl
  | c :: r, last, k + 1, h => by
    have ih := styles_get f r (sty1 f last c) k (by simpa using h)
    rw [styles_cons, List.getD_cons_succ, ih, List.getD_cons_succ]
    congr 1
    cases k with
    | zero => rfl
    | succ k => rfl
theorem p18a {S : List Int} {k : Nat} {v : Int} (h : k < S.length) (hv : S.getD k 0 = v) : S.take k ++ [v] = S.take (k + 1) := by
  rw [← hv]
  exact take_snoc 0 h

/-! ### Runs -/
theorem runs_snoc (l : List Int) (x : Int) : runsL (l ++ [x]) = addRun (runsL l) x := by simp [runsL]
theorem runs_take {S : List Int} {k : Nat} (h : k < S.length) : runsL (S.take (k + 1)) = addRun (runsL (S.take k)) (S.getD k 0) := by
  rw [← take_snoc 0 h, runs_snoc]
theorem addRun_new {out : List Run} {x : Int} (h : ∀ r, out.getLast? = some r → r.1 ≠ x) : addRun out x = out ++ [(x, 1, ())] := by
  unfold addRun
  cases hl : out.getLast? with
  | none => rw [List.getLast?_eq_none_iff.1 hl]; rfl
  | some r => simp only; rw [if_neg (h r hl)]
theorem addRun_same (out : List Run) (x n : Int) : addRun (out ++ [(x, n, ())]) x = out ++ [(x, n + 1, ())] := by
  unfold addRun
  rw [List.getLast?_concat]
  simp
theorem addRun_len (out : List Run) (x : Int) : (addRun out x).length ≤ out.length + 1 := by
  unfold addRun
  split
  · rename_i r h
    have : out ≠ [] := fun e => by rw [e] at h; cases h
    have : 0 < out.length := List.length_pos_iff.2 this
    split <;> simp <;> omega
  · simp
theorem runs_len (l : List Int) : (runsL l).length ≤ l.length := by
  have : ∀ k, k ≤ l.length → (runsL (l.take k)).length ≤ k := by
    intro k
    induction k with
    | zero => intro _; exact Nat.le_refl _
    | succ k ih =>
      intro h
      rw [runs_take (by omega)]
      have := addRun_len (runsL (l.take k)) (l.getD k 0)
      have := ih (by omega)
      omega
  have := this l.length (Nat.le_refl _)
  rwa [List.take_length] at this
theorem p18 : vc18 := by
  unfold vc18
  simp only [eq_self, true_and, and_true, decide_eq_true_eq, decide_eq_false_iff_not, beq_iff_eq, beq_eq_false_iff_ne, bne_iff_ne, bne_eq_false_iff_eq, Bool.not_eq_true', Bool.not_eq_false', ne_eq, imp_true_iff, implies_true]
  rintro ⟨s, r, ⟨⟩⟩
  simp only
  rintro ⟨hok, hl⟩
  simp only [d68, d3]
  generalize r.1 = cells at *
  obtain ⟨S, hS⟩ : ∃ S, S = styles (atL (allM s)) 0 cells := ⟨_, rfl⟩
  have hSl : S.length = cells.length := by rw [hS]; exact styles_len _ _ _
  have hSg : ∀ k, k < cells.length → S.getD k 0 = sty1 (atL (allM s)) (ahead S 0 k) (cells.getD k zCell) := fun k hk => by rw [hS]; exact styles_get _ _ _ k hk
  rw [← hS]
  refine ⟨fun z => ∃ k : Nat, k ≤ cells.length ∧ z.2.2.1 = (k : Int) ∧ z.1 = S.take k ∧ z.2.1 = ahead S 0 k, fun z => cells.length - z.2.2.1.toNat, ⟨0, Nat.zero_le _, rfl, rfl, rfl⟩, ?_⟩
  rintro a last i ⟨k, hk, hi, ha, hla⟩
  simp only at hi ha hla
  subst hi ha hla
  refine ⟨fun h => ?_, fun h => ?_⟩
  · have hlt : k < cells.length := by omega
    have hw : IntKind.i64.wrap ((k : Int) + 1) = ((k + 1 : Nat) : Int) := wrap_succ (by omega)
    have hg := hSg k hlt
    rw [toNat_cast, hw]
    have hdec : cells.length - (((k + 1 : Nat) : Int)).toNat < cells.length - k := by rw [toNat_cast]; omega
    have next : ∀ v : Int, S.getD k 0 = v → ((S.take k).length + [v].length) * 8 ≤ 140737488355328 ∧ (S.take k).length + [v].length ≤ maxLen ∧
        (∃ k' : Nat, k' ≤ cells.length ∧ ((k + 1 : Nat) : Int) = (k' : Int) ∧ S.take k ++ [v] = S.take k' ∧ v = ahead S 0 k') ∧ cells.length - (((k + 1 : Nat) : Int)).toNat < cells.length - k := by
      intro v hv
      rw [maxLen_eq, List.length_take, List.length_singleton]
      exact ⟨by omega, by omega, ⟨k + 1, hlt, rfl, p18a (by omega) hv, hv.symm⟩, hdec⟩
    refine ⟨⟨by omega, h⟩, fun g => ⟨hok, next _ (by rw [hg, sty1, if_pos g])⟩, fun g => ⟨fun g2 => next _ (by rw [hg, sty1, if_neg g, if_pos g2]), fun g2 => next _ (by rw [hg, sty1, if_neg g, if_neg g2])⟩⟩
  · have hke : k = cells.length := by omega
    subst hke
    rw [← hSl, List.take_length]
    clear h hk hSg hS
    refine ⟨fun z => ∃ k : Nat, k ≤ S.length ∧ z.1 = (k : Int) ∧ z.2.1 = runsL (S.take k) ∧ ∀ r, z.2.1.getLast? = some r → k < S.length → r.1 ≠ S.getD k 0, fun z => S.length - z.1.toNat, ⟨0, Nat.zero_le _, rfl, rfl, fun r h => by cases h⟩, ?_⟩
    rintro i out ⟨k, hk, hi, hout, hb⟩
    simp only at hi hout hb
    subst hi
    refine ⟨fun h => ?_, fun h => ?_⟩
    · have hlt : k < S.length := by omega
      have hol : out.length ≤ k := by
        rw [hout]
        have := runs_len (S.take k)
        rw [List.length_take] at this
        omega
      rw [toNat_cast]
      refine ⟨fun z => ∃ n : Nat, 1 ≤ n ∧ k + n ≤ S.length ∧ z.1 = (n : Int) ∧ runsL (S.take (k + n)) = out ++ [(S.getD k 0, (n : Int), ())], fun z => S.length - k - z.1.toNat, ⟨1, Nat.le_refl _, hlt, rfl, ?_⟩, ?_⟩
      · rw [runs_take hlt, ← hout, addRun_new fun r hr => hb r hr hlt]
        rfl
      rintro n' ⟨n, hn1, hnk, hn', hrun⟩
      simp only at hn'
      subst hn'
      have hw1 : IntKind.i64.wrap ((k : Int) + (n : Int)) = ((k + n : Nat) : Int) := by rw [wrap_eq]; omega
      have hw2 : IntKind.i64.wrap ((n : Int) + 1) = ((n + 1 : Nat) : Int) := wrap_succ (by omega)
      rw [hw1, hw2, toNat_cast, maxLen_eq]
      simp only [List.length_singleton]
      refine ⟨fun h2 => ⟨⟨by omega, h2⟩, ⟨by omega, h⟩, fun g => ⟨⟨n + 1, by omega, by omega, rfl, ?_⟩, by rw [toNat_cast, toNat_cast]; omega⟩, fun g => ⟨⟨by omega, h⟩, by omega, by omega, ⟨k + n, hnk, rfl, hrun.symm, fun r hr _ => ?_⟩, by rw [toNat_cast]; omega⟩⟩,
        fun h2 => ⟨⟨by omega, h⟩, by omega, by omega, ⟨k + n, hnk, rfl, hrun.symm, fun r hr hlt2 => by omega⟩, by rw [toNat_cast]; omega⟩⟩
      · rw [show k + (n + 1) = k + n + 1 by omega, runs_take (by omega), hrun, g, addRun_same]
        rfl
      · simp only [List.getLast?_concat] at hr
        injection hr with hr
        subst hr
        exact fun e => g e.symm
    · have hke : k = S.length := by omega
      subst hke
      rw [hout, List.take_length]
theorem p29 : vc29 := by
  unfold vc29
  simp only [eq_self, true_and, and_true, decide_eq_true_eq, decide_eq_false_iff_not, beq_iff_eq, beq_eq_false_iff_ne, bne_iff_ne, bne_eq_false_iff_eq, Bool.not_eq_true', Bool.not_eq_false', ne_eq, imp_true_iff, implies_true]
  rintro ⟨w, r, ⟨⟩⟩
  simp only
  rintro ⟨hwl, hl⟩
  simp only [d68]
  generalize r.1 = cells at *
  generalize w.2.1 = l at *
  obtain ⟨S, hS⟩ : ∃ S, S = styles (atL l) 0 cells := ⟨_, rfl⟩
  have hSl : S.length = cells.length := by rw [hS]; exact styles_len _ _ _
  have hSg : ∀ k, k < cells.length → S.getD k 0 = sty1 (atL l) (ahead S 0 k) (cells.getD k zCell) := fun k hk => by rw [hS]; exact styles_get _ _ _ k hk
  rw [← hS]
  -- back to where the tab began
  have back : ∀ (n q i : Nat), i = q + n → i < cells.length → (∀ j, q < j → j ≤ i → (cells.getD j zCell).2.1 = 4) → S.getD i 0 = S.getD q 0 := by
    intro n
    induction n with
    | zero => intro q i e _ _; rw [e]; rfl
    | succ n ih =>
      intro q i e hi hj
      subst e
      have h1 := hSg (q + (n + 1)) hi
      have h4 := hj (q + (n + 1)) (by omega) (Nat.le_refl _)
      rw [h1, sty1, if_neg (by omega), if_pos h4]
      show S.getD (q + n) 0 = _
      exact ih q (q + n) rfl (by omega) fun j a b => hj j a (by omega)
  refine ⟨fun z => ∃ k : Nat, k ≤ cells.length ∧ z.2.1 = (k : Int) ∧ z.1 = S.take k, fun z => cells.length - z.2.1.toNat, ⟨0, Nat.zero_le _, rfl, rfl⟩, ?_⟩
  rintro a i ⟨k, hk, hi, ha⟩
  simp only at hi ha
  subst hi ha
  refine ⟨fun h => ⟨⟨by omega, h⟩, ?_⟩, fun h => ?_⟩
  · have hlt : k < cells.length := by omega
    have hw : IntKind.i64.wrap ((k : Int) + 1) = ((k + 1 : Nat) : Int) := wrap_succ (by omega)
    have hg := hSg k hlt
    rw [toNat_cast, hw]
    have hdec : cells.length - (((k + 1 : Nat) : Int)).toNat < cells.length - k := by rw [toNat_cast]; omega
    have next : ∀ v : Int, S.getD k 0 = v → ((S.take k).length + [v].length) * 8 ≤ 140737488355328 ∧ (S.take k).length + [v].length ≤ maxLen ∧
        (∃ k' : Nat, k' ≤ cells.length ∧ ((k + 1 : Nat) : Int) = (k' : Int) ∧ S.take k ++ [v] = S.take k') ∧ cells.length - (((k + 1 : Nat) : Int)).toNat < cells.length - k := by
      intro v hv
      rw [maxLen_eq, List.length_take, List.length_singleton]
      exact ⟨by omega, by omega, ⟨k + 1, hlt, rfl, p18a (by omega) hv⟩, hdec⟩
    refine ⟨fun z => ∃ q : Nat, q ≤ k ∧ z.1 = (q : Int) ∧ ∀ j, q < j → j ≤ k → (cells.getD j zCell).2.1 = 4, fun z => z.1.toNat, ⟨k, Nat.le_refl _, rfl, fun j a b => by omega⟩, ?_⟩
    rintro q' ⟨q, hqk, hq', hj⟩
    simp only at hq'
    subst hq'
    rw [toNat_cast]
    -- what is found there
    have one : (cells.getD k zCell).2.1 = 1 → q = k := fun g => by
      by_cases e : q = k
      · exact e
      · have := hj k (by omega) (Nat.le_refl _)
        omega
    have v1 : (cells.getD k zCell).2.1 = 1 → S.getD k 0 = atL l (cells.getD q zCell).2.2.2.1 := fun g => by
      rw [one g, hg, sty1, if_pos g]
    have v4 : (cells.getD k zCell).2.1 = 4 → (cells.getD q zCell).2.1 = 1 → S.getD k 0 = atL l (cells.getD q zCell).2.2.2.1 := fun g g1 => by
      rw [back (k - q) q k (by omega) hlt hj, hSg q (by omega), sty1, if_pos g1]
    have v0 : (q = 0 ∨ ¬ (cells.getD q zCell).2.1 = 4) → (cells.getD k zCell).2.1 = 4 → ¬ (cells.getD q zCell).2.1 = 1 → S.getD k 0 = 0 := fun hq g g1 => by
      rw [back (k - q) q k (by omega) hlt hj, hSg q (by omega), sty1, if_neg g1]
      by_cases g4 : (cells.getD q zCell).2.1 = 4
      · rw [if_pos g4]
        rcases hq with hq | hq
        · subst hq; rfl
        · exact absurd g4 hq
      · rw [if_neg g4]
    have vn : ¬ (cells.getD k zCell).2.1 = 1 → ¬ (cells.getD k zCell).2.1 = 4 → S.getD k 0 = 0 := fun g g4 => by
      rw [hg, sty1, if_neg g, if_neg g4]
    refine ⟨fun hq0 => ⟨⟨by omega, by omega⟩, fun g => ?_, fun g => ⟨fun g1 => ⟨⟨by omega, by omega⟩, hwl, next _ (v1 g1)⟩, fun g1 => ⟨fun g4 => ⟨⟨by omega, by omega⟩, fun h1 => ⟨⟨by omega, by omega⟩, hwl, next _ (v4 g4 h1)⟩, fun h1 => next _ (v0 (.inr g) g4 h1)⟩, fun g4 => next _ (vn g1 g4)⟩⟩⟩,
      fun hq0 => ⟨fun g1 => ⟨⟨by omega, by omega⟩, hwl, next _ (v1 g1)⟩, fun g1 => ⟨fun g4 => ⟨⟨by omega, by omega⟩, fun h1 => ⟨⟨by omega, by omega⟩, hwl, next _ (v4 g4 h1)⟩, fun h1 => next _ (v0 (.inl (by omega)) g4 h1)⟩, fun g4 => next _ (vn g1 g4)⟩⟩⟩
    have hw1 : IntKind.i64.wrap ((q : Int) - 1) = ((q - 1 : Nat) : Int) := by rw [wrap_eq]; omega
    rw [hw1]
    refine ⟨⟨q - 1, by omega, rfl, fun j a b => ?_⟩, by show (((q - 1 : Nat) : Int)).toNat < ((q : Nat) : Int).toNat; rw [toNat_cast, toNat_cast]; omega⟩
    by_cases e : j = q
    · subst e; exact g
    · exact hj j (by omega) b
  · have hke : k = cells.length := by omega
    subst hke
    rw [← hSl, List.take_length]
theorem addRun_b {out : List Run} {x : Int} {n : Int} (h0 : 0 ≤ n) (h : ∀ r ∈ out, 0 ≤ r.2.1 ∧ r.2.1 ≤ n) : ∀ r ∈ addRun out x, 0 ≤ r.2.1 ∧ r.2.1 ≤ n + 1 := by
  intro r hr
  unfold addRun at hr
  split at hr
  · rename_i q hq
    have hq := h q (List.mem_of_getLast? hq)
    split at hr
    · rcases List.mem_append.1 hr with hr | hr
      · have := h r ((List.dropLast_sublist out).subset hr)
        omega
      · rw [List.mem_singleton.1 hr]
        show 0 ≤ q.2.1 + 1 ∧ q.2.1 + 1 ≤ n + 1
        omega
    · rcases List.mem_append.1 hr with hr | hr
      · have := h r hr
        omega
      · rw [List.mem_singleton.1 hr]
        show 0 ≤ (1 : Int) ∧ (1 : Int) ≤ n + 1
        omega
  · rw [List.mem_singleton.1 hr]
    show 0 ≤ (1 : Int) ∧ (1 : Int) ≤ n + 1
    omega
theorem d49 : Ty.dflt t49 = ((0, 0, ()) : Run) := rfl
theorem last_get {out : List Run} (h : 0 < out.length) : out.getLast? = some (out.getD (out.length - 1) (0, 0, ())) := by
  rw [List.getLast?_eq_getElem?, List.getD_eq_getElem?_getD, List.getElem?_eq_getElem (by omega)]
  rfl
theorem set_last {out : List Run} (h : 0 < out.length) (r : Run) : out.set (out.length - 1) r = out.dropLast ++ [r] := by
  have e : out = out.dropLast ++ [out.getLast (List.length_pos_iff.1 h)] := (List.dropLast_concat_getLast (List.length_pos_iff.1 h)).symm
  have hl : out.dropLast.length = out.length - 1 := List.length_dropLast
  conv => lhs; rw [e]
  rw [List.set_append_right _ _ (by simp), List.length_append]
  simp
theorem p19 : vc19 := by
  unfold vc19
  simp only [eq_self, true_and, and_true, decide_eq_true_eq, decide_eq_false_iff_not, beq_iff_eq, beq_eq_false_iff_ne, bne_iff_ne, bne_eq_false_iff_eq, Bool.not_eq_true', Bool.not_eq_false', ne_eq, imp_true_iff, implies_true]
  rintro ⟨w, r, ⟨⟩⟩
  simp only
  rintro ⟨hwl, hl⟩
  simp only [d49, d3]
  obtain ⟨S, hS⟩ : ∃ S, S = styles (atL w.2.1) 0 r.1 := ⟨_, rfl⟩
  have hSl : S.length = r.1.length := by rw [hS]; exact styles_len _ _ _
  rw [← hS]
  refine ⟨⟨hwl, hl⟩, fun z => ∃ k : Nat, k ≤ S.length ∧ z.2.1 = (k : Int) ∧ z.1 = runsL (S.take k) ∧ ∀ r ∈ z.1, 0 ≤ r.2.1 ∧ r.2.1 ≤ (k : Int), fun z => S.length - z.2.1.toNat, ⟨0, Nat.zero_le _, rfl, rfl, fun r h => by cases h⟩, ?_⟩
  rintro out i ⟨k, hk, hi, hout, hb⟩
  simp only at hi hout hb
  subst hi
  refine ⟨fun h => ?_, fun h => ?_⟩
  · have hlt : k < S.length := by omega
    have hw : IntKind.i64.wrap ((k : Int) + 1) = ((k + 1 : Nat) : Int) := wrap_succ (by omega)
    have hol : out.length ≤ k := by
      rw [hout]
      have := runs_len (S.take k)
      rw [List.length_take] at this
      omega
    have hrun := runs_take hlt
    rw [← hout] at hrun
    have hdec : S.length - (((k + 1 : Nat) : Int)).toNat < S.length - k := by rw [toNat_cast]; omega
    have hb2 := addRun_b (x := S.getD k 0) (by omega) hb
    rw [toNat_cast, hw, maxLen_eq]
    have next : ∀ z : List Run, addRun out (S.getD k 0) = z → (∃ k' : Nat, k' ≤ S.length ∧ ((k + 1 : Nat) : Int) = (k' : Int) ∧ z = runsL (S.take k') ∧ ∀ r ∈ z, 0 ≤ r.2.1 ∧ r.2.1 ≤ (k' : Int)) ∧ S.length - (((k + 1 : Nat) : Int)).toNat < S.length - k := by
      intro z hz
      subst hz
      exact ⟨⟨k + 1, hlt, rfl, hrun.symm, fun r hr => by have := hb2 r hr; omega⟩, hdec⟩
    by_cases h0 : 0 < out.length
    · have hw1 : IntKind.i64.wrap ((out.length : Int) - 1) = ((out.length - 1 : Nat) : Int) := by rw [wrap_eq]; omega
      rw [hw1, toNat_cast]
      have hlast := last_get h0
      have hmem := hb _ (List.mem_of_getLast? hlast)
      generalize out.getD (out.length - 1) (0, 0, ()) = q at *
      have hw2 : IntKind.i64.wrap (q.2.1 + 1) = q.2.1 + 1 := by rw [wrap_eq]; omega
      rw [hw2]
      refine ⟨⟨by omega, h⟩, fun _ => ⟨⟨by omega, by omega⟩, fun g => ⟨⟨by omega, by omega⟩, ⟨by omega, by omega⟩, next _ ?_⟩, fun g => ⟨by simp only [List.length_singleton]; omega, by simp only [List.length_singleton]; omega, next _ ?_⟩⟩, fun g => by omega⟩
      · unfold addRun
        rw [hlast]
        simp only
        rw [if_pos g, set_last h0, g]
      · exact addRun_new fun r hr => by rw [hlast] at hr; injection hr with hr; subst hr; exact g
    · have he : out = [] := List.eq_nil_of_length_eq_zero (by omega)
      clear hrun hb hb2
      subst he
      have hw1 : IntKind.i64.wrap (((([] : List Run).length : Nat) : Int) - 1) = -1 := by decide
      rw [hw1]
      refine ⟨⟨by omega, h⟩, fun g => by omega, fun _ => ⟨by simp, by simp, next _ rfl⟩⟩
  · have hke : k = S.length := by omega
    subst hke
    rw [hout, List.take_length]
end Go.Fr.C40
