/-
  Chapter 20: the document's rows. Conditions: none.
-/
import Derived.Test.YtkgplompdnjodaaC20R
namespace Go.Fr.C20
open Go Go.Fr Go.Proofs

theorem behind_at {l : List Cell} {at_ m : Nat} (n : Int) (h : l.drop at_ ≠ []) (hm : 1 ≤ m) : behind n ((l.drop at_).take m) = List.replicate n.toNat (inCell (l.getD at_ zCell).2.2.2.1) ++ (l.drop at_).take m := by
  have hlt : at_ < l.length := by
    rcases Nat.lt_or_ge at_ l.length with g | g
    · exact g
    · exact absurd (List.drop_eq_nil_of_le g) h
  unfold behind
  obtain ⟨k, rfl⟩ : ∃ k, m = k + 1 := ⟨m - 1, by omega⟩
  rw [drop_cons zCell hlt]
  simp
/-- The loop over the numbers of cells. -/
theorem rows_loop {l : List Cell} {hg : Int} {T : List Int} {R : List (List Cell)} (hl : l.length ≤ 200) (h0 : 0 ≤ hg) (h8 : hg ≤ 8) (hT : Cuts T l) (hTl : T.length ≤ l.length + 1) (hR : R = cutRows hg 0 T l) :
    ∃ (Z : List (List Cell) × Int × Int × Unit → Prop), ∃ (μ : List (List Cell) × Int × Int × Unit → Nat), Z ([], (0 : Int), (0 : Int), ()) ∧ ∀ (a : List (List Cell)) (b c : Int), Z (a, b, c, ()) →
      (c < (T.length : Int) → ((0 : Int) ≤ c ∧ c < (T.length : Int)) ∧
        ∃ (Z_1 : List Cell × Int × Unit → Prop), ∃ (μ_1 : List Cell × Int × Unit → Nat), Z_1 ([], (0 : Int), ()) ∧ ∀ (r : List Cell) (j : Int), Z_1 (r, j, ()) →
          (c > 0 → (j < hg → ((0 : Int) ≤ b ∧ b < (l.length : Int)) ∧
              (r.length + [((32 : Int), (5 : Int), (1 : Int), (l.getD b.toNat (Ty.dflt t38)).snd.snd.snd)].length) * 32 ≤ 140737488355328 ∧
              r.length + [((32 : Int), (5 : Int), (1 : Int), (l.getD b.toNat (Ty.dflt t38)).snd.snd.snd)].length ≤ maxLen ∧
              Z_1 (r ++ [((32 : Int), (5 : Int), (1 : Int), (l.getD b.toNat (Ty.dflt t38)).snd.snd.snd)], IntKind.i64.wrap (j + 1), ()) ∧
              μ_1 (r ++ [((32 : Int), (5 : Int), (1 : Int), (l.getD b.toNat (Ty.dflt t38)).snd.snd.snd)], IntKind.i64.wrap (j + 1), ()) < μ_1 (r, j, ())) ∧
            (¬ j < hg → ((0 : Int) ≤ b ∧ b ≤ IntKind.i64.wrap (b + T.getD c.toNat (Ty.dflt t3)) ∧ IntKind.i64.wrap (b + T.getD c.toNat (Ty.dflt t3)) ≤ (l.length : Int)) ∧
              (r.length + (List.drop b.toNat (List.take (IntKind.i64.wrap (b + T.getD c.toNat (Ty.dflt t3))).toNat l)).length) * 32 ≤ 140737488355328 ∧
              r.length + (List.drop b.toNat (List.take (IntKind.i64.wrap (b + T.getD c.toNat (Ty.dflt t3))).toNat l)).length ≤ maxLen ∧
              (a.length + [r ++ List.drop b.toNat (List.take (IntKind.i64.wrap (b + T.getD c.toNat (Ty.dflt t3))).toNat l)].length) * 24 ≤ 140737488355328 ∧
              a.length + [r ++ List.drop b.toNat (List.take (IntKind.i64.wrap (b + T.getD c.toNat (Ty.dflt t3))).toNat l)].length ≤ maxLen ∧
              Z (a ++ [r ++ List.drop b.toNat (List.take (IntKind.i64.wrap (b + T.getD c.toNat (Ty.dflt t3))).toNat l)], IntKind.i64.wrap (b + T.getD c.toNat (Ty.dflt t3)), IntKind.i64.wrap (c + 1), ()) ∧
              μ (a ++ [r ++ List.drop b.toNat (List.take (IntKind.i64.wrap (b + T.getD c.toNat (Ty.dflt t3))).toNat l)], IntKind.i64.wrap (b + T.getD c.toNat (Ty.dflt t3)), IntKind.i64.wrap (c + 1), ()) < μ (a, b, c, ()))) ∧
          (¬ c > 0 → ((0 : Int) ≤ b ∧ b ≤ IntKind.i64.wrap (b + T.getD c.toNat (Ty.dflt t3)) ∧ IntKind.i64.wrap (b + T.getD c.toNat (Ty.dflt t3)) ≤ (l.length : Int)) ∧
              (r.length + (List.drop b.toNat (List.take (IntKind.i64.wrap (b + T.getD c.toNat (Ty.dflt t3))).toNat l)).length) * 32 ≤ 140737488355328 ∧
              r.length + (List.drop b.toNat (List.take (IntKind.i64.wrap (b + T.getD c.toNat (Ty.dflt t3))).toNat l)).length ≤ maxLen ∧
              (a.length + [r ++ List.drop b.toNat (List.take (IntKind.i64.wrap (b + T.getD c.toNat (Ty.dflt t3))).toNat l)].length) * 24 ≤ 140737488355328 ∧
              a.length + [r ++ List.drop b.toNat (List.take (IntKind.i64.wrap (b + T.getD c.toNat (Ty.dflt t3))).toNat l)].length ≤ maxLen ∧
              Z (a ++ [r ++ List.drop b.toNat (List.take (IntKind.i64.wrap (b + T.getD c.toNat (Ty.dflt t3))).toNat l)], IntKind.i64.wrap (b + T.getD c.toNat (Ty.dflt t3)), IntKind.i64.wrap (c + 1), ()) ∧
              μ (a ++ [r ++ List.drop b.toNat (List.take (IntKind.i64.wrap (b + T.getD c.toNat (Ty.dflt t3))).toNat l)], IntKind.i64.wrap (b + T.getD c.toNat (Ty.dflt t3)), IntKind.i64.wrap (c + 1), ()) < μ (a, b, c, ()))) ∧
      (¬ c < (T.length : Int) → a = R) := by
  subst hR
  obtain ⟨hn, rfl⟩ : ∃ hn : Nat, hg = (hn : Int) := ⟨hg.toNat, by omega⟩
  have d3' : Ty.dflt t3 = (0 : Int) := rfl
  rw [d3', d38, maxLen_eq]
  refine ⟨fun z => ∃ k at_ : Nat, k ≤ T.length ∧ z.2.2.1 = (k : Int) ∧ z.2.1 = (at_ : Int) ∧ Cur2 T l k at_ ∧ cutRows hn 0 T l = z.1 ++ cutRows hn k (T.drop k) (l.drop at_) ∧ z.1.length = k, fun z => T.length - z.2.2.1.toNat,
    ⟨0, 0, Nat.zero_le _, rfl, rfl, cur2_0 hT, rfl, rfl⟩, ?_⟩
  rintro a b i ⟨k, at_, hk, hi, hb, hc, hs, ho⟩
  simp only at hi hb hs ho
  subst hi hb
  simp only [toNat_cast]
  refine ⟨fun g => ⟨by omega, ?_⟩, fun g => ?_⟩
  · have hlt : k < T.length := by omega
    have hw2 : IntKind.i64.wrap ((k : Int) + 1) = ((k + 1 : Nat) : Int) := wrap_succ (by omega)
    obtain ⟨m, m1, m2, m3, m4, m5⟩ := cur2_step hc hlt
    have w1 : IntKind.i64.wrap ((at_ : Int) + (m : Int)) = ((at_ + m : Nat) : Int) := by rw [wrap_eq]; omega
    rw [cut_step hlt, m1, toNat_cast] at hs
    simp only [m1, hw2, w1, toNat_cast]
    have er : (l.take (at_ + m)).drop at_ = (l.drop at_).take m := by rw [List.drop_take]; congr 1; omega
    have e1 : ∀ c : List Cell, [c].length = 1 := fun _ => rfl
    have e1' : ∀ c : Cell, [c].length = 1 := fun _ => rfl
    simp only [er, e1]
    have hdec : T.length - (((k + 1 : Nat) : Int)).toNat < T.length - (k : Int).toNat := by rw [toNat_cast, toNat_cast]; omega
    have hrl : ((l.drop at_).take m).length = m := by rw [List.length_take, List.length_drop]; omega
    -- a row is ready
    have fin : ∀ r : List Cell, r.length ≤ 8 → r ++ (l.drop at_).take m = behind (if k = 0 then 0 else (hn : Int)) ((l.drop at_).take m) →
        (0 ≤ (at_ : Int) ∧ (at_ : Int) ≤ ((at_ + m : Nat) : Int) ∧ ((at_ + m : Nat) : Int) ≤ (l.length : Int)) ∧ (r.length + ((l.drop at_).take m).length) * 32 ≤ 140737488355328 ∧ r.length + ((l.drop at_).take m).length ≤ 9223372036854775807 ∧ (a.length + 1) * 24 ≤ 140737488355328 ∧ a.length + 1 ≤ 9223372036854775807 ∧
        (∃ k' at' : Nat, k' ≤ T.length ∧ ((k + 1 : Nat) : Int) = (k' : Int) ∧ ((at_ + m : Nat) : Int) = (at' : Int) ∧ Cur2 T l k' at' ∧ cutRows hn 0 T l = (a ++ [r ++ (l.drop at_).take m]) ++ cutRows hn k' (T.drop k') (l.drop at') ∧ (a ++ [r ++ (l.drop at_).take m]).length = k') ∧ T.length - (((k + 1 : Nat) : Int)).toNat < T.length - (k : Int).toNat := by
      intro r hr he
      rw [hrl]
      refine ⟨by omega, by omega, by omega, by omega, by omega, ⟨k + 1, at_ + m, hlt, rfl, rfl, m5, ?_, by simp [ho]⟩, hdec⟩
      rw [he, hs]
      simp
    refine ⟨fun z => ∃ j : Nat, j ≤ hn ∧ (k = 0 → j = 0) ∧ z.2.1 = (j : Int) ∧ z.1 = List.replicate j (inCell (l.getD at_ zCell).2.2.2.1), fun z => hn - z.2.1.toNat, ⟨0, Nat.zero_le _, fun _ => rfl, rfl, rfl⟩, ?_⟩
    rintro r j ⟨n, n1, n2, hj, hr⟩
    simp only at hj hr
    subst hj hr
    refine ⟨fun gk => ⟨fun gj => ?_, fun gj => ?_⟩, fun gk => ?_⟩
    · have hne := m4 (by omega)
      have hlen : at_ < l.length := by
        rcases Nat.lt_or_ge at_ l.length with g' | g'
        · exact g'
        · exact absurd (List.drop_eq_nil_of_le g') hne
      have hw3 : IntKind.i64.wrap ((n : Int) + 1) = ((n + 1 : Nat) : Int) := wrap_succ (by omega)
      rw [hw3, List.length_replicate]
      refine ⟨by omega, by simp only [List.length_cons, List.length_nil]; omega, by simp only [List.length_cons, List.length_nil]; omega, ⟨n + 1, by omega, fun e => by omega, rfl, rep_succ n _⟩, ?_⟩
      show hn - (((n + 1 : Nat) : Int)).toNat < hn - (n : Int).toNat
      rw [toNat_cast, toNat_cast]; omega
    · have hne := m4 (by omega)
      have : n = hn := by omega
      subst this
      refine fin _ (by rw [List.length_replicate]; omega) ?_
      rw [if_neg (by omega), behind_at _ hne (m3 hne), toNat_cast]
    · have : n = 0 := n2 (by omega)
      subst this
      refine fin _ (by simp) ?_
      rw [if_pos (by omega)]
      rfl
  · rw [cut_end (by omega), List.append_nil] at hs
    rw [hs]
theorem p15 : vc15 := by
  unfold vc15
  simp only [eq_self, true_and, and_true, decide_eq_true_eq, decide_eq_false_iff_not, beq_iff_eq, beq_eq_false_iff_ne, bne_iff_ne, bne_eq_false_iff_eq, Bool.not_eq_true', Bool.not_eq_false', ne_eq, imp_true_iff, implies_true]
  rintro ⟨l, w, ⟨⟩⟩
  simp only
  rintro ⟨hl, h0, h2⟩
  have h1 := hl.1
  have b := hang_bd hl w
  have w1 : IntKind.i64.wrap (w - hang l w) = w - hang l w := by rw [wrap_eq]; omega
  rw [w1]
  refine ⟨hl, fun g => ⟨hl, ?_⟩, fun g => ?_⟩
  · have e : wtakes l w = allR l w (w - hang l w) := by unfold wtakes; rw [if_neg (by omega)]
    rw [← e]
    exact rows_loop h1 b.1 b.2.1 wtakes_cuts (wtakes_len l w) rfl
  · have e : wtakes l w = [(l.length : Int)] := by unfold wtakes; rw [if_pos (by omega)]
    rw [← e]
    exact rows_loop h1 b.1 b.2.1 wtakes_cuts (wtakes_len l w) rfl
end Go.Fr.C20
