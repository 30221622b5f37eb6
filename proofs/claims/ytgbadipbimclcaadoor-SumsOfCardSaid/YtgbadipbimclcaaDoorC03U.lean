/-
  Chapter 03: the document's sum is the program's; conditions of its function and of the laws. Conditions: none.
-/
import Derived.Test.YtgbadipbimclcaaDoorC03T
namespace Go.Fr.C03
open Go Go.Fr Go.Proofs

theorem encB_len (x : Int) : ((encB x).size : Int) = sizeR x := by
  unfold encB
  have hs : ∀ l : List Int, (bytesOf l).size = l.length := fun l => by simp [bytesOf, ByteArray.size]
  by_cases h : uSize x = 0
  · rw [if_pos h, hs]
    simp [uBytes, sizeR, h]
  · rw [if_neg h, hs]
    unfold sizeR
    rw [if_neg h]
    have h4 : uSize x = 1 ∨ uSize x = 2 ∨ uSize x = 3 ∨ uSize x = 4 := by
      unfold uSize at h ⊢
      repeat' split
      all_goals simp_all
    rcases h4 with e | e | e | e <;> rw [e] <;> simp [uBytes]
/-- The lines ahead of the one that goes on, and that one. -/
structure Lin (s : Sum) (n : List Int) (e : ByteArray) (c : Nat) (d : List Int) (cur : Int) : Prop where
  n : n = d ++ [cur]
  b : s.1 = (e.size : Int)
  r : s.2.1 = (c : Int)
  k : s.2.2.1 = (d.length : Int)
  f : s.2.2.2.1 = d.getD 0 0
  l : s.2.2.2.2.1 = cur
  g : d.foldl longStep (0, 0, 0) = (s.2.2.2.2.2.1, s.2.2.2.2.2.2.1, (d.length : Int))
theorem lin_step {s : Sum} {n : List Int} {e : ByteArray} {c : Nat} {d : List Int} {cur : Int} (h : Lin s n e c d cur) (x : Int) : ∃ d' cur', Lin (addR s x) (lineStep n x) (e ++ encB x) (c + 1) d' cur' := by
  obtain ⟨b, r, k, f, l, lo, ro, ⟨⟩⟩ := s
  obtain ⟨h1, h2, h3, h4, h5, h6, h7⟩ := h
  simp only at h2 h3 h4 h5 h6 h7
  subst h1 h2 h3 h4 h5 h6
  have hsz : ((e ++ encB x).size : Int) = (e.size : Int) + sizeR x := by rw [ByteArray.size_append, ← encB_len x]; omega
  by_cases hx : x = 10
  · subst hx
    refine ⟨d ++ [l], 0, ?_⟩
    refine ⟨by simp [lineStep], ?_, ?_, ?_, ?_, ?_, ?_⟩
    · rw [hsz]; simp [addR, endS]
    · simp [addR, endS]
    · simp [addR, endS]
    · cases d <;> simp [addR, endS]
      omega
    · simp [addR, endS]
    · rw [List.foldl_append, h7]
      by_cases hl : l > lo <;> simp [addR, endS, longStep, hl]
  · refine ⟨d, l + 1, ?_⟩
    refine ⟨?_, ?_, ?_, ?_, ?_, ?_, ?_⟩
    · unfold lineStep
      rw [if_neg hx]
      simp
    · rw [hsz]; simp [addR, hx]
    · simp [addR, hx]
    · simp [addR, hx]
    · simp [addR, hx]
    · simp [addR, hx]
    · rw [h7]; simp [addR, hx]
theorem lin_fold : ∀ (l : List Int) {s : Sum} {n : List Int} {e : ByteArray} {c : Nat} {d : List Int} {cur : Int}, Lin s n e c d cur → ∃ d' cur', Lin (l.foldl addR s) (l.foldl lineStep n) (l.foldl (fun s x => s ++ encB x) e) (c + l.length) d' cur'
  | [], _, _, _, _, d, cur, h => ⟨d, cur, h⟩
  | x :: l, _, _, _, _, _, _, h => by
    obtain ⟨d', cur', h'⟩ := lin_step h x
    obtain ⟨d2, cur2, h2⟩ := lin_fold l h'
    refine ⟨d2, cur2, ?_⟩
    rw [List.length_cons, show ∀ a b : Nat, a + (b + 1) = a + 1 + b from fun a b => by omega]
    exact h2
theorem ref_sum (l : List Int) : refSum l = sumOf l := by
  obtain ⟨d, cur, h⟩ := lin_fold l (s := zSum) (n := [0]) (e := ByteArray.empty) (c := 0) (d := []) (cur := 0) ⟨rfl, rfl, rfl, rfl, rfl, rfl, rfl⟩
  obtain ⟨h1, h2, h3, h4, h5, h6, h7⟩ := h
  have e0 : sumOf l = endS (l.foldl addR zSum) := rfl
  have e1 : linesOf l = d ++ [cur] := h1
  have e2 : encode l = l.foldl (fun s x => s ++ encB x) ByteArray.empty := rfl
  rw [e0]
  unfold refSum
  simp only [e1, e2]
  generalize l.foldl addR zSum = s at *
  obtain ⟨b, r, k, f, la, lo, ro, ⟨⟩⟩ := s
  simp only at h2 h3 h4 h5 h6 h7
  rw [List.foldl_append, h7]
  subst h2 h3 h4 h5 h6
  simp only [endS, List.length_append, List.length_cons, List.length_nil]
  by_cases hl : la > lo <;> cases d <;> simp [longStep, hl] <;> omega
theorem long_succ {n : List Int} {k : Nat} (h : k < n.length) : (n.take (k + 1)).foldl longStep (0, 0, 0) = longStep ((n.take k).foldl longStep (0, 0, 0)) (n.getD k 0) := by
  rw [foldl_take_succ h, getD_of _ h]
theorem p10 : vc10 := by
  unfold vc10
  simp only [eq_self, true_and, and_true, decide_eq_true_eq, decide_eq_false_iff_not, beq_iff_eq, beq_eq_false_iff_ne, bne_iff_ne, bne_eq_false_iff_eq, Bool.not_eq_true', Bool.not_eq_false', ne_eq, imp_true_iff, implies_true]
  rintro ⟨l, ⟨⟩⟩
  simp only
  intro hl
  have inv := lines_inv l l.length (Nat.le_refl _)
  rw [List.take_length] at inv
  obtain ⟨i1, i2, _⟩ := inv
  have d3 : Ty.dflt t3 = (0 : Int) := rfl
  rw [d3]
  have w1 : IntKind.i64.wrap (((linesOf l).length : Int) - 1) = ((linesOf l).length : Int) - 1 := by rw [wrap_eq]; omega
  rw [w1]
  generalize hn : linesOf l = n at *
  refine ⟨hl, hl, by omega, by omega, fun z => ∃ k : Nat, k ≤ n.length ∧ z.1 = (k : Int) ∧ (n.take k).foldl longStep (0, 0, 0) = (z.2.1, z.2.2.1, (k : Int)), fun z => n.length - z.1.toNat, ⟨0, Nat.zero_le _, rfl, rfl⟩, ?_⟩
  rintro i lo ro ⟨k, hk, hi, hs⟩
  simp only at hi hs
  subst hi
  refine ⟨fun h => ?_, fun h => ?_⟩
  · have hlt : k < n.length := by omega
    have hw : IntKind.i64.wrap ((k : Int) + 1) = ((k + 1 : Nat) : Int) := by rw [wrap_eq]; omega
    have step := long_succ hlt
    rw [hs] at step
    rw [toNat_cast, hw]
    generalize n.getD k 0 = x at *
    have hdec : n.length - (((k + 1 : Nat) : Int)).toNat < n.length - (k : Int).toNat := by rw [toNat_cast, toNat_cast]; omega
    refine ⟨by omega, fun hx => ⟨⟨k + 1, hlt, rfl, ?_⟩, hdec⟩, fun hx => ⟨⟨k + 1, hlt, rfl, ?_⟩, hdec⟩⟩
    · rw [step]; simp only [longStep, if_pos hx]; simp
    · rw [step]; simp only [longStep, if_neg hx]; simp
  · have : k = n.length := by omega
    subst this
    rw [List.take_length] at hs
    unfold refSum
    simp only [hn, hs]
    have e : (((n.length : Int) - 1).toNat) = n.length - 1 := by omega
    rw [e]
    rfl
theorem beq27 (s : Sum) : Ty.beq t27 s s = true := beq25 s
theorem p3 : vc3 := by
  unfold vc3
  rintro ⟨a, ⟨⟩⟩
  simp only
  intro la
  rw [ref_sum, beq27]
  refine ⟨fun _ => ⟨trivial, by simp⟩, fun h1 => ?_⟩
  have h1 := of_decide_eq_false h1
  refine ⟨by omega, trivial, by omega, fun _ => ⟨trivial, fun _ => ⟨trivial, by simp⟩, fun h => ?_⟩, fun h => by cases h⟩
  have : Ty.beq t31 ((sumOf a).snd.snd.fst, (sumOf a).snd.snd.snd.snd.fst, ()) ((sumOf a).snd.snd.fst, (sumOf a).snd.snd.snd.snd.fst, ()) = true := by
    show ((sumOf a).snd.snd.fst == (sumOf a).snd.snd.fst && ((sumOf a).snd.snd.snd.snd.fst == (sumOf a).snd.snd.snd.snd.fst && true)) = true
    simp
  rw [this] at h
  cases h
theorem drop_take_split (l : List Int) (i j : Nat) (h : i ≤ j) : l.take j = l.take i ++ (l.take j).drop i := by
  have := (List.take_append_drop i (l.take j)).symm
  rw [List.take_take, Nat.min_eq_left h] at this
  exact this
theorem p6 : vc6 := by
  unfold vc6
  simp only [eq_self, true_and, and_true, decide_eq_true_eq, decide_eq_false_iff_not, beq_iff_eq, beq_eq_false_iff_ne, bne_iff_ne, bne_eq_false_iff_eq, Bool.not_eq_true', Bool.not_eq_false', ne_eq, imp_true_iff, implies_true]
  rintro ⟨l, cuts, ⟨⟩⟩
  simp only
  rintro ⟨ll, lc⟩
  rw [ref_sum]
  have d3 : Ty.dflt t3 = (0 : Int) := rfl
  rw [d3]
  intro h1 h2
  refine ⟨fun z => ∃ k j : Nat, k ≤ l.length ∧ j ≤ cuts.length ∧ z.1 = (k : Int) ∧ z.2.1 = (j : Int) ∧ z.2.2 = sumOf (l.take k), fun z => cuts.length - z.2.1.toNat, ⟨0, 0, Nat.zero_le _, Nat.zero_le _, rfl, rfl, rfl⟩, ?_⟩
  rintro a a1 a2 a3 a4 a5 a6 a7 a8 ⟨k, j, hk, hj, ha, ha1, hs⟩
  simp only at ha ha1 hs
  subst ha ha1
  rw [hs, toNat_cast]
  refine ⟨fun h => ?_, fun h => ?_⟩
  · have hlt : j < cuts.length := by omega
    have hw : IntKind.i64.wrap ((j : Int) + 1) = ((j + 1 : Nat) : Int) := by rw [wrap_eq]; omega
    rw [toNat_cast, hw]
    generalize cuts.getD j 0 = c at *
    have hdec : cuts.length - (((j + 1 : Nat) : Int)).toNat < cuts.length - (j : Int).toNat := by rw [toNat_cast, toNat_cast]; omega
    have w1 : IntKind.i64.wrap ((l.length : Int) - (k : Int)) = (l.length : Int) - (k : Int) := by rw [wrap_eq]; omega
    rw [w1]
    refine ⟨by omega, fun hc => ⟨⟨k, j + 1, hk, by omega, rfl, rfl, rfl⟩, hdec⟩, fun hc => ⟨fun hc2 => ⟨⟨k, j + 1, hk, by omega, rfl, rfl, rfl⟩, hdec⟩, fun hc2 => ?_⟩⟩
    have w2 : IntKind.i64.wrap ((k : Int) + c) = (k : Int) + c := by rw [wrap_eq]; omega
    obtain ⟨m, hm⟩ : ∃ m : Nat, (k : Int) + c = (m : Int) := ⟨((k : Int) + c).toNat, by omega⟩
    rw [w2, hm, toNat_cast]
    have e := drop_take_split l k m (by omega)
    have ok1 := okSum_of (l := l.take k) (by rw [List.length_take]; omega)
    have ok2 := okSum_of (l := (l.take m).drop k) (by rw [List.length_drop, List.length_take]; omega)
    refine ⟨by omega, by rw [List.length_drop, List.length_take]; omega, ⟨ok1, ok2⟩, ⟨m, j + 1, by omega, by omega, rfl, rfl, ?_⟩, hdec⟩
    rw [← sum_append, ← e]
  · have e : l.take k ++ l.drop k = l := List.take_append_drop k l
    have ok1 := okSum_of (l := l.take k) (by rw [List.length_take]; omega)
    have ok2 := okSum_of (l := l.drop k) (by rw [List.length_drop]; omega)
    rw [toNat_cast, ← sum_append, e, beq25]
    refine ⟨by omega, by rw [List.length_drop]; omega, ⟨ok1, ok2⟩, by omega, ?_⟩
    simp
    omega
end Go.Fr.C03
