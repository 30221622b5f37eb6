/-
  Chapter 40: proofs of the conditions: the laws of edges and of painting; nil sets. Conditions: none.
-/
import Derived.Test.YtpkdccmpadkmjaaC40F
namespace Go.Fr.C40
open Go Go.Fr Go.Proofs

theorem d48 : Ty.dflt t48 = ((0, 0, ()) : Run) := rfl
theorem p5 : vc5 := by
  unfold vc5
  simp only [eq_self, true_and, and_true, decide_eq_true_eq, decide_eq_false_iff_not, beq_iff_eq, beq_eq_false_iff_ne, bne_iff_ne, bne_eq_false_iff_eq, Bool.not_eq_true', Bool.not_eq_false', ne_eq, imp_true_iff, implies_true]
  rintro ⟨n, l, r, ⟨⟩⟩
  simp only
  rintro ⟨hl, hr⟩ h4 h5
  rw [isM_new]
  rcases new_cases n l with ⟨e, he, h1, h2⟩ | ⟨h1, h2, h6, h7, h8, h9⟩
  · rw [h1, h2]
    exact ⟨hl, by omega, hl, ⟨by simp [allM], by simp⟩, fun h => (by cases h), fun _ h => by cases h⟩
  · rw [h1, h2]
    have hal : allM (some (n, l, ())) = l := rfl
    rw [hal]
    have hwl : ((n, l, (0 : Int), ()) : WSet).2.1 = l := rfl
    rw [hwl]
    simp only [d48, d49]
    obtain ⟨S, hS⟩ : ∃ S, S = styles (atL l) 0 r.1 := ⟨_, rfl⟩
    have hSl : S.length = r.1.length := by rw [hS]; exact styles_len _ _ _
    rw [← hS]
    have hap := runs_apart S
    have hto := total_runs S
    have hbo := runs_bound S
    have hle := runs_len S
    generalize runsL S = X at *
    have hz := h8
    refine ⟨hl, by omega, hl, ⟨by omega, by omega⟩, fun h => (by cases h), fun _ _ => ⟨⟨okNew h8 h9, by omega⟩, ⟨by omega, by omega⟩, ?_⟩⟩
    refine ⟨fun z => ∃ k : Nat, k ≤ X.length ∧ z.2.1 = (k : Int) ∧ z.1 = total (X.take k) ∧ 0 ≤ z.1 ∧ z.1 ≤ 200 * (k : Int), fun z => X.length - z.2.1.toNat, ⟨0, Nat.zero_le _, rfl, rfl, Int.le_refl _, Int.le_refl _⟩, ?_⟩
    rintro a i ⟨k, hk, hi, ha, ha0, ha1⟩
    simp only at hi ha ha0 ha1
    subst hi
    refine ⟨fun h => ?_, fun h => ?_⟩
    · have hlt : k < X.length := by omega
      have hw : IntKind.i64.wrap ((k : Int) + 1) = ((k + 1 : Nat) : Int) := wrap_succ (by omega)
      have hm : 0 ≤ (X.getD k (0, 0, ())).2.1 ∧ (X.getD k (0, 0, ())).2.1 ≤ (S.length : Int) := hbo _ (by rw [getD_of (0, 0, ()) hlt]; exact List.getElem_mem hlt)
      have htk : total (X.take (k + 1)) = a + (X.getD k (0, 0, ())).2.1 := by
        rw [← take_snoc (0, 0, ()) hlt, total_snoc, ha]
      have hw2 : IntKind.i64.wrap (a + (X.getD k (0, 0, ())).2.1) = a + (X.getD k (0, 0, ())).2.1 := by rw [wrap_eq]; omega
      rw [toNat_cast, hw, hw2]
      have next : (∃ k' : Nat, k' ≤ X.length ∧ ((k + 1 : Nat) : Int) = (k' : Int) ∧ a + (X.getD k (0, 0, ())).2.1 = total (X.take k') ∧ 0 ≤ a + (X.getD k (0, 0, ())).2.1 ∧ a + (X.getD k (0, 0, ())).2.1 ≤ 200 * (k' : Int)) ∧ X.length - (((k + 1 : Nat) : Int)).toNat < X.length - k :=
        ⟨⟨k + 1, hlt, rfl, htk.symm, by omega, by omega⟩, by rw [toNat_cast]; omega⟩
      refine ⟨⟨by omega, h⟩, fun g => by omega, fun _ => ⟨⟨by omega, h⟩, fun g => absurd (by trivial) g, fun _ => ⟨⟨by omega, h⟩, fun g => absurd (by trivial) g, fun _ => ⟨fun g => ?_, fun _ => next⟩⟩⟩⟩
      have hw3 : IntKind.i64.wrap ((k : Int) - 1) = ((k - 1 : Nat) : Int) := by rw [wrap_eq]; omega
      rw [hw3, toNat_cast]
      refine ⟨⟨by omega, by omega⟩, fun g2 => ?_, fun _ => next⟩
      have e1 : X[k - 1]? = some (X.getD (k - 1) (0, 0, ())) := by rw [getD_of (0, 0, ()) (by omega)]; exact List.getElem?_eq_getElem _
      have e2 : X[k - 1 + 1]? = some (X.getD k (0, 0, ())) := by rw [show k - 1 + 1 = k by omega, getD_of (0, 0, ()) hlt]; exact List.getElem?_eq_getElem _
      exact absurd g2 (hap _ _ _ e1 e2)
    · have hke : k = X.length := by omega
      subst hke
      rw [List.take_length] at ha
      refine ⟨fun _ g => absurd (by omega) g, fun g => absurd (by trivial) g⟩
theorem ups_range_mem (f : Int → Int) : ∀ (m : Nat) (a last x : Int), x ∈ ups f last (rangeI a m) ↔ a ≤ x ∧ x < a + (m : Int) ∧ f x ≠ (if x = a then last else f (x - 1))
  | 0, a, last, x => by simp [rangeI, ups]; omega
  | m + 1, a, last, x => by
    rw [rangeI, ups]
    by_cases h : f a = last
    · rw [if_pos h, ups_range_mem f m (a + 1) last x]
      by_cases hx : x = a
      · subst hx
        rw [if_pos rfl]
        constructor
        · rintro ⟨h1, _⟩; omega
        · rintro ⟨_, _, h1⟩; exact absurd h h1
      · rw [if_neg hx]
        by_cases hx1 : x = a + 1
        · subst hx1
          rw [if_pos rfl, show a + 1 - 1 = a by omega, h]
          constructor
          · rintro ⟨_, h2, h3⟩; exact ⟨by omega, by omega, h3⟩
          · rintro ⟨_, h2, h3⟩; exact ⟨by omega, by omega, h3⟩
        · rw [if_neg hx1]
          constructor
          · rintro ⟨_, h2, h3⟩; exact ⟨by omega, by omega, h3⟩
          · rintro ⟨_, h2, h3⟩; exact ⟨by omega, by omega, h3⟩
    · rw [if_neg h, List.mem_cons, ups_range_mem f m (a + 1) (f a) x]
      by_cases hx : x = a
      · subst hx
        rw [if_pos rfl]
        constructor
        · intro _; exact ⟨by omega, by omega, h⟩
        · intro _; exact .inl rfl
      · rw [if_neg hx]
        by_cases hx1 : x = a + 1
        · subst hx1
          rw [if_pos rfl, show a + 1 - 1 = a by omega]
          constructor
          · rintro (h1 | ⟨_, h2, h3⟩)
            · omega
            · exact ⟨by omega, by omega, h3⟩
          · rintro ⟨_, h2, h3⟩; exact .inr ⟨by omega, by omega, h3⟩
        · rw [if_neg hx1]
          constructor
          · rintro (h1 | ⟨_, h2, h3⟩)
            · omega
            · exact ⟨by omega, by omega, h3⟩
          · rintro ⟨_, h2, h3⟩; exact .inr ⟨by omega, by omega, h3⟩
theorem ups_le (f : Int → Int) : ∀ (l : List Int) (last : Int), (ups f last l).length ≤ l.length
  | [], _ => Nat.le_refl _
  | a :: l, last => by
    rw [ups]
    split
    · have := ups_le f l last; simp; omega
    · have := ups_le f l (f a); simp; omega
theorem refEdges_eq (n : Int) (l : List Mark) : refEdges n l = ups (atL l) 0 (rangeI 0 (n + 1).toNat) := by
  unfold refEdges
  rw [List.range_eq_range']
  exact congrArg _ (rangeI_eq _ 0)
theorem p4 : vc4 := by
  unfold vc4
  simp only [bne4]
  simp only [eq_self, true_and, and_true, decide_eq_true_eq, decide_eq_false_iff_not, beq_iff_eq, beq_eq_false_iff_ne, bne_iff_ne, bne_eq_false_iff_eq, Bool.not_eq_true', Bool.not_eq_false', ne_eq, imp_true_iff, implies_true]
  rintro ⟨n, l, ⟨⟩⟩
  simp only
  intro hl h4 h5
  rw [isM_new]
  rcases new_cases n l with ⟨e, he, h1, h2⟩ | ⟨h1, h2, h6, h7, h8, h9⟩
  · rw [h1, h2]
    exact ⟨hl, by omega, hl, ⟨by simp [allM], by simp⟩, fun h => (by cases h), fun _ h => by cases h⟩
  · rw [h1, h2]
    have hal : allM (some (n, l, ())) = l := rfl
    simp only [hal, d3]
    have hE := edges_eq h6 h9
    have hok := okNew h8 h9
    have hmem := ups_range_mem (atL l) (n + 1).toNat 0 0
    rw [← refEdges_eq, ← hE] at hmem
    have hlen : (edgesL l).length ≤ 301 := by
      rw [hE]
      unfold refEdges
      refine Nat.le_trans (ups_le _ _ _) ?_
      rw [List.length_map, List.length_range]
      omega
    rw [← hE]
    generalize edgesL l = E at *
    refine ⟨hl, by omega, hl, ⟨by omega, by omega⟩, fun h => (by cases h), fun _ _ => ⟨hok, ?_⟩⟩
    refine ⟨fun z => ∃ k : Nat, (k : Int) ≤ n + 1 ∧ z.2.1 = (k : Int) ∧ z.1 = (if (k : Int) = 0 then 0 else atL l ((k : Int) - 1)), fun z => (n + 1).toNat - z.2.1.toNat, ⟨0, by omega, rfl, rfl⟩, ?_⟩
    rintro last at_ ⟨k, hk, hi, hla⟩
    simp only at hi hla
    subst hi hla
    refine ⟨fun h => ?_, fun h => ?_⟩
    · have hw : IntKind.i64.wrap ((k : Int) + 1) = ((k + 1 : Nat) : Int) := wrap_succ (by omega)
      rw [hw]
      refine ⟨fun z => ∃ q : Nat, q ≤ E.length ∧ z.2.1 = (q : Int) ∧ (z.1 = true ↔ (k : Int) ∈ E.take q), fun z => E.length - z.2.1.toNat, ⟨0, Nat.zero_le _, rfl, by simp⟩, ?_⟩
      rintro edge i ⟨q, hq, hi, hed⟩
      simp only at hi hed
      subst hi
      refine ⟨fun h2 => ?_, fun h2 => ?_⟩
      · have hlt : q < E.length := by omega
        have hw2 : IntKind.i64.wrap ((q : Int) + 1) = ((q + 1 : Nat) : Int) := wrap_succ (by omega)
        rw [toNat_cast, hw2]
        have htk := take_snoc 0 hlt
        have hdec : E.length - (((q + 1 : Nat) : Int)).toNat < E.length - q := by rw [toNat_cast]; omega
        refine ⟨⟨by omega, h2⟩, fun g => ⟨⟨q + 1, hlt, rfl, ?_⟩, hdec⟩, fun g => ⟨⟨q + 1, hlt, rfl, ?_⟩, hdec⟩⟩
        · rw [← htk]
          exact ⟨fun _ => List.mem_append_left _ (hed.1 g), fun _ => rfl⟩
        · rw [← htk, List.mem_append, List.mem_singleton]
          have hno : ¬ (k : Int) ∈ E.take q := fun hm => by rw [hed.2 hm] at g; cases g
          simp only [beq_iff_eq]
          exact ⟨fun h => .inr h.symm, fun h => h.elim (fun h => absurd h hno) fun h => h.symm⟩
      · have hqe : q = E.length := by omega
        subst hqe
        rw [List.take_length] at hed
        have hb : (edge == (atL l (k : Int) != (if (k : Int) = 0 then 0 else atL l ((k : Int) - 1)))) = true := by
          rw [beq_iff_eq, Bool.eq_iff_iff, hed, hmem, bne_iff_ne]
          exact ⟨fun h => h.2.2, fun h => ⟨by omega, by omega, h⟩⟩
        refine ⟨hok, fun g => ?_, fun _ => ⟨hok, ⟨k + 1, by omega, rfl, ?_⟩, ?_⟩⟩
        · have hb2 := hb
          simp only [beq_iff_eq] at hb2
          first
            | exact absurd hb2 g
            | (rw [hb] at g; cases g)
        · rw [if_neg (by omega), show ((k + 1 : Nat) : Int) - 1 = (k : Int) by omega]
        · show (n + 1).toNat - (((k + 1 : Nat) : Int)).toNat < (n + 1).toNat - (k : Int).toNat
          rw [toNat_cast, toNat_cast]
          omega
    · rw [maxLen_eq]
      exact ⟨⟨by show l.length ≤ 10000; omega, h6, by omega⟩, ⟨by omega, by show E.length ≤ _; omega⟩, fun g => absurd (by trivial) g⟩
theorem p7 : vc7 := by
  unfold vc7
  simp only [eq_self, true_and, and_true, decide_eq_true_eq, decide_eq_false_iff_not, beq_iff_eq, beq_eq_false_iff_ne, bne_iff_ne, bne_eq_false_iff_eq, Bool.not_eq_true', Bool.not_eq_false', ne_eq, imp_true_iff, implies_true]
  rintro ⟨p, r, ⟨⟩⟩
  simp only
  intro hr h4
  have hs : shiftM none [] = (some (0, [], ()), 0, ()) := by kernel_rfl
  have ha : allM none = [] := rfl
  have hok : okSet none := ⟨by simp [allM], fun m hm => by cases hm⟩
  have hat : ∀ x, atL [] x = 0 := fun x => rfl
  have hed : edgesL [] = [] := by simp [edgesL, points, sortL, compactL, ups]
  have hst := styles_zero (atL []) hat r.1
  simp only [hs, ha, hst, hat, hed, d48]
  have hz : sizeM none = 0 := rfl
  rw [hz]
  refine ⟨⟨hok, by decide, by decide, by decide⟩, ⟨hok, by omega⟩, fun h0 => ?_, fun h0 => ?_⟩
  · have : r.1.length = 0 := by omega
    rw [this]
    refine ⟨fun _ => ⟨fun _ => ⟨fun _ => ⟨hok, fun _ => ⟨by simp, fun _ => ⟨hok, fun h => absurd (by trivial) h⟩, fun h => absurd (by trivial) h⟩, fun h => absurd (by trivial) h⟩, fun h => by cases h⟩, fun h => absurd (by trivial) h⟩, fun h => absurd (by trivial) h⟩
  · obtain ⟨m, hm⟩ : ∃ m, r.1.length = m + 1 := ⟨r.1.length - 1, by omega⟩
    rw [hm, runs_zero]
    refine ⟨fun _ => ⟨⟨by decide, by simp⟩, fun _ => ⟨⟨by decide, by simp⟩, fun _ => ⟨fun _ => ⟨fun _ => ⟨hok, fun _ => ⟨by simp, fun _ => ⟨hok, fun h => absurd (by trivial) h⟩, fun h => absurd (by trivial) h⟩, fun h => absurd (by trivial) h⟩, fun h => absurd (by simp) h⟩, fun h => by cases h⟩, fun h => absurd (by trivial) h⟩, fun h => absurd (by trivial) h⟩, fun h => absurd (by trivial) h⟩
end Go.Fr.C40
