/-
  Chapter 15: the law FoldsHide. Conditions: none.
-/
import Derived.Test.YtmjhpfbpidlbcaaC15F
namespace Go.Fr.C15
open Go Go.Fr Go.Proofs

/-- Hidden spans are apart, or touch; each rune of one is in a fold; each fold is in one. -/
structure HidInv (seen out : List Span) : Prop where
  apart : out.Pairwise fun a b => a.2.1 ≤ b.1
  some_ : ∀ a ∈ out, a.1 < a.2.1
  rune : ∀ a ∈ out, ∀ t, a.1 ≤ t → t < a.2.1 → ∃ y ∈ seen, y.1 ≤ t ∧ t < y.2.1
  within : ∀ y ∈ seen, ∃ a ∈ out, a.1 ≤ y.1 ∧ y.2.1 ≤ a.2.1
  first : ∀ a ∈ out, ∃ y ∈ seen, y.1 = a.1
theorem HidInv.step {seen out : List Span} (h : HidInv seen out) {x : Span} (hx : x.1 < x.2.1) (ho : ∀ y ∈ seen, y.1 ≤ x.1) : HidInv (seen ++ [x]) (hideStep out x) := by
  have hseen : ∀ y, y ∈ seen → y ∈ seen ++ [x] := fun y hy => List.mem_append_left _ hy
  have hxs : x ∈ seen ++ [x] := List.mem_append_right _ (List.mem_singleton.2 rfl)
  have hfirst : ∀ a ∈ out, a.1 ≤ x.1 := fun a ha => by
    obtain ⟨y, hy, e⟩ := h.first a ha
    have := ho y hy
    omega
  have add : (∀ a ∈ out, a.2.1 ≤ x.1) → HidInv (seen ++ [x]) (out ++ [x]) := fun hap => by
    refine ⟨List.pairwise_append.2 ⟨h.apart, List.pairwise_singleton _ _, fun a ha b hb => by rw [List.mem_singleton.1 hb]; exact hap a ha⟩, ?_, ?_, ?_, ?_⟩
    · intro a ha
      rcases List.mem_append.1 ha with ha | ha
      · exact h.some_ a ha
      · rw [List.mem_singleton.1 ha]; exact hx
    · intro a ha t h1 h2
      rcases List.mem_append.1 ha with ha | ha
      · obtain ⟨y, q1, q2⟩ := h.rune a ha t h1 h2
        exact ⟨y, hseen y q1, q2⟩
      · rw [List.mem_singleton.1 ha] at h1 h2
        exact ⟨x, hxs, h1, h2⟩
    · intro y hy
      rcases List.mem_append.1 hy with hy | hy
      · obtain ⟨a, q1, q2⟩ := h.within y hy
        exact ⟨a, List.mem_append_left _ q1, q2⟩
      · rw [List.mem_singleton.1 hy]
        exact ⟨x, List.mem_append_right _ (List.mem_singleton.2 rfl), Int.le_refl _, Int.le_refl _⟩
    · intro a ha
      rcases List.mem_append.1 ha with ha | ha
      · obtain ⟨y, q1, q2⟩ := h.first a ha
        exact ⟨y, hseen y q1, q2⟩
      · rw [List.mem_singleton.1 ha]
        exact ⟨x, hxs, rfl⟩
  unfold hideStep
  split
  · rename_i u hu
    obtain ⟨pre, rfl⟩ : ∃ pre, out = pre ++ [u] := by
      obtain ⟨hne, e⟩ := List.getLast?_eq_some_iff.1 hu
      exact ⟨hne, e⟩
    have hum : u ∈ pre ++ [u] := List.mem_append_right _ (List.mem_singleton.2 rfl)
    have hap := List.pairwise_append.1 h.apart
    have hpre : ∀ a ∈ pre, a.2.1 ≤ u.1 := fun a ha => hap.2.2 a ha u (List.mem_singleton.2 rfl)
    have hu2 := h.some_ u hum
    have hux := hfirst u hum
    split
    · rename_i hlt
      rw [List.dropLast_concat]
      obtain ⟨v, hv⟩ : ∃ v : Span, v = (u.1, if u.2.1 < x.2.1 then x.2.1 else u.2.1, ()) := ⟨_, rfl⟩
      have v1 : v.1 = u.1 := by rw [hv]
      have v2 : u.2.1 ≤ v.2.1 ∧ x.2.1 ≤ v.2.1 ∧ (v.2.1 = u.2.1 ∨ v.2.1 = x.2.1) := by
        rw [hv]
        simp only
        split <;> omega
      rw [← hv]
      refine ⟨List.pairwise_append.2 ⟨hap.1, List.pairwise_singleton _ _, fun a ha b hb => by rw [List.mem_singleton.1 hb, v1]; exact hpre a ha⟩, ?_, ?_, ?_, ?_⟩
      · intro a ha
        rcases List.mem_append.1 ha with ha | ha
        · exact h.some_ a (List.mem_append_left _ ha)
        · rw [List.mem_singleton.1 ha]; omega
      · intro a ha t h1 h2
        rcases List.mem_append.1 ha with ha | ha
        · obtain ⟨y, q1, q2⟩ := h.rune a (List.mem_append_left _ ha) t h1 h2
          exact ⟨y, hseen y q1, q2⟩
        · rw [List.mem_singleton.1 ha] at h1 h2
          by_cases ht : t < u.2.1
          · obtain ⟨y, q1, q2⟩ := h.rune u hum t (by omega) ht
            exact ⟨y, hseen y q1, q2⟩
          · exact ⟨x, hxs, by omega, by omega⟩
      · intro y hy
        rcases List.mem_append.1 hy with hy | hy
        · obtain ⟨a, q1, q2, q3⟩ := h.within y hy
          rcases List.mem_append.1 q1 with q1 | q1
          · exact ⟨a, List.mem_append_left _ q1, q2, q3⟩
          · rw [List.mem_singleton.1 q1] at q2 q3
            exact ⟨v, List.mem_append_right _ (List.mem_singleton.2 rfl), by omega, by omega⟩
        · rw [List.mem_singleton.1 hy]
          exact ⟨v, List.mem_append_right _ (List.mem_singleton.2 rfl), by omega, by omega⟩
      · intro a ha
        rcases List.mem_append.1 ha with ha | ha
        · obtain ⟨y, q1, q2⟩ := h.first a (List.mem_append_left _ ha)
          exact ⟨y, hseen y q1, q2⟩
        · rw [List.mem_singleton.1 ha]
          obtain ⟨y, q1, q2⟩ := h.first u hum
          exact ⟨y, hseen y q1, by omega⟩
    · rename_i hge
      refine add fun a ha => ?_
      rcases List.mem_append.1 ha with ha | ha
      · have := hpre a ha
        omega
      · rw [List.mem_singleton.1 ha]; omega
  · rename_i hnone
    have : out = [] := List.getLast?_eq_none_iff.1 hnone
    subst this
    exact add fun a ha => by cases ha
theorem hid_all : (l seen out : List Span) → HidInv seen out → (∀ x ∈ l, x.1 < x.2.1) → l.Pairwise (fun a b => a.1 ≤ b.1) → (∀ y ∈ seen, ∀ x ∈ l, y.1 ≤ x.1) → HidInv (seen ++ l) (l.foldl hideStep out)
  | [], seen, out, h, _, _, _ => by simpa using h
  | x :: r, seen, out, h, hv, hp, hs => by
    have hp := List.pairwise_cons.1 hp
    have := hid_all r (seen ++ [x]) (hideStep out x) (h.step (hv x (List.mem_cons_self ..)) fun y hy => hs y hy x (List.mem_cons_self ..)) (fun y hy => hv y (List.mem_cons_of_mem _ hy)) hp.2 fun y hy z hz => by
      rcases List.mem_append.1 hy with hy | hy
      · exact hs y hy z (List.mem_cons_of_mem _ hz)
      · rw [List.mem_singleton.1 hy]
        exact hp.1 z hz
    simpa using this
theorem hid_of {l : List Span} (h : RightL l) : HidInv l (hideL l) := by
  have := hid_all l [] [] ⟨List.Pairwise.nil, fun a ha => (by cases ha), fun a ha => (by cases ha), fun a ha => (by cases ha), fun a ha => (by cases ha)⟩ h.2.2 h.2.1 fun y hy => by cases hy
  simpa [hideL] using this
/-- Each fold is in one hidden span, and in no other. -/
def holdsF (y a : Span) : Bool := decide (a.1 ≤ y.1) && decide (y.2.1 ≤ a.2.1)
theorem once (y : Span) (hy : y.1 < y.2.1) : (out : List Span) → out.Pairwise (fun a b => a.2.1 ≤ b.1) → (∃ a ∈ out, a.1 ≤ y.1 ∧ y.2.1 ≤ a.2.1) → (out.filter (holdsF y)).length = 1
  | [], _, ⟨a, ha, _⟩ => by cases ha
  | u :: r, hp, ⟨a, ha, h1, h2⟩ => by
    have hq := List.pairwise_cons.1 hp
    by_cases hu : holdsF y u = true
    · rw [List.filter_cons_of_pos hu]
      have hu' : u.1 ≤ y.1 ∧ y.2.1 ≤ u.2.1 := by
        unfold holdsF at hu
        simpa using hu
      have : r.filter (holdsF y) = [] := by
        rw [List.filter_eq_nil_iff]
        intro b hb hh
        unfold holdsF at hh
        simp at hh
        have := hq.1 b hb
        omega
      rw [this]
      rfl
    · rw [List.filter_cons_of_neg hu]
      refine once y hy r hq.2 ?_
      rcases List.mem_cons.1 ha with e | ha
      · subst e
        exact absurd (by unfold holdsF; simp [h1, h2]) hu
      · exact ⟨a, ha, h1, h2⟩
theorem p3 : vc3 := by
  unfold vc3
  simp only [eq_self, true_and, and_true, decide_eq_true_eq, decide_eq_false_iff_not, beq_iff_eq, beq_eq_false_iff_ne, bne_iff_ne, bne_eq_false_iff_eq, Bool.not_eq_true', Bool.not_eq_false', ne_eq, imp_true_iff, implies_true]
  rintro ⟨n, l, ⟨⟩⟩
  simp only [maxLen_eq, d33]
  intro hl h1 h2
  have hconf : isF (newF n l).1 (newF n l).2.1 (newW n l) = true := (made_of n l).1
  have hi := isF_iff.1 hconf
  refine ⟨by omega, fun h3 => ⟨by omega, fun h4 => (h3 (hi.1.trans h4)).elim⟩, fun h3 => ⟨fun h4 => ⟨by omega, fun h5 => ((hi.2.1.1 h4) h5).elim⟩, fun h4 => ?_⟩⟩
  obtain ⟨_, m2, _, mh, _⟩ := made_of n l
  have hm : Made (newF n l).1 (newW n l) := by
    rcases m2 with h5 | ⟨_, h5⟩
    · rw [h5] at h4; cases h4
    · exact h5
  obtain ⟨_, _, _, _, _, e2, _, e4, hr, _⟩ := hm.ok
  have hinv := hid_of hr
  rw [← e4] at hinv
  have hval : ∀ y ∈ l, y.1 < y.2.1 ∧ 0 ≤ y.1 ∧ y.2.1 ≤ n := by
    rcases new_cases n l with ⟨e, he, q1, _⟩ | ⟨_, _, _, _, _, q6⟩
    · rw [q1] at h4; cases h4
    · intro y hy
      have := okS_iff.1 (q6 y hy)
      omega
  have hmem : ∀ y, y ∈ (newW n l).2.1 ↔ y ∈ l := by
    rcases new_cases n l with ⟨e, he, q1, _⟩ | ⟨_, q2, _⟩
    · rw [q1] at h4; cases h4
    · intro y
      rw [q2]
      exact sort_mem
  have rune : ∀ a ∈ hidF (newF n l).1, ∀ t, a.1 ≤ t → t < a.2.1 → ∃ y ∈ l, y.1 ≤ t ∧ t < y.2.1 := fun a ha t g1 g2 => by
    obtain ⟨y, q1, q2⟩ := hinv.rune a ha t g1 g2
    exact ⟨y, (hmem y).1 q1, q2⟩
  have wth : ∀ y ∈ l, ∃ a ∈ hidF (newF n l).1, a.1 ≤ y.1 ∧ y.2.1 ≤ a.2.1 := fun y hy => hinv.within y ((hmem y).2 hy)
  have hap := hinv.apart
  have hso := hinv.some_
  have hfi : ∀ a ∈ hidF (newF n l).1, 0 ≤ a.1 := fun a ha => by
    obtain ⟨y, q1, q2⟩ := hinv.first a ha
    have := hval y ((hmem y).1 q1)
    omega
  clear hinv hmem e2 e4 hr hm m2 hi hconf
  generalize hidF (newF n l).1 = h at *
  refine ⟨by omega, ?_⟩
  refine ⟨fun z => ∃ k : Nat, k ≤ h.length ∧ z.2.1 = (k : Int) ∧ ∀ j, k ≤ j → j < h.length → z.1 ≤ (h.getD j zS).1, fun z => h.length - z.2.1.toNat, ⟨0, Nat.zero_le _, rfl, fun j _ hj => by rw [getD_of zS hj]; exact hfi _ (List.getElem_mem _)⟩, ?_⟩
  rintro last i ⟨k, hk, hi, hla⟩
  simp only at hi hla
  subst hi
  simp only [toNat_cast]
  refine ⟨fun h5 => ?_, fun h5 => ?_⟩
  · have hk' : k < h.length := by omega
    have hwk : IntKind.i64.wrap ((k : Int) + 1) = ((k + 1 : Nat) : Int) := wrap_succ (by omega)
    have hmemk : h.getD k zS ∈ h := by rw [getD_of zS hk']; exact List.getElem_mem _
    have g1 := hla k (Nat.le_refl _) hk'
    have g2 := hso _ hmemk
    have g3 := hfi _ hmemk
    have g4 := rune _ hmemk
    have g5 : ∀ j, k + 1 ≤ j → j < h.length → (h.getD k zS).2.1 ≤ (h.getD j zS).1 := fun j hj1 hj2 => by
      rw [getD_of zS hk', getD_of zS hj2]
      exact List.pairwise_iff_getElem.1 hap k j hk' hj2 (by omega)
    have g6 : (h.getD k zS).2.1 ≤ 400 := by
      obtain ⟨y, q1, q2, q3⟩ := g4 ((h.getD k zS).2.1 - 1) (by omega) (by omega)
      have := hval y q1
      omega
    obtain ⟨u, hu⟩ : ∃ u : Span, h.getD k zS = u := ⟨_, rfl⟩
    simp only [hu] at g1 g2 g3 g4 g5 g6 ⊢
    rw [hwk, toNat_cast]
    refine ⟨by omega, fun h6 => by omega, fun _ => ⟨fun h6 => by omega, fun _ => ?_⟩⟩
    refine ⟨fun z => u.1 ≤ z.1 ∧ z.1 ≤ u.2.1, fun z => (u.2.1 - z.1).toNat, ⟨Int.le_refl _, by omega⟩, ?_⟩
    rintro t ⟨ht1, ht2⟩
    simp only at ht1 ht2
    refine ⟨fun h6 => ?_, fun h6 => ⟨⟨k + 1, hk', rfl, g5⟩, by omega⟩⟩
    have hwt : IntKind.i64.wrap (t + 1) = t + 1 := wrap_id (by omega) (by omega)
    rw [hwt]
    refine ⟨fun z => ∃ j : Nat, j ≤ l.length ∧ z.2.1 = (j : Int) ∧ (z.1 = true ↔ ∃ m, m < j ∧ (l.getD m zS).1 ≤ t ∧ t < (l.getD m zS).2.1), fun z => l.length - z.2.1.toNat, ⟨0, Nat.zero_le _, rfl, by simp⟩, ?_⟩
    rintro in_ j0 ⟨j, hj, hj0, hin⟩
    simp only at hj0 hin
    subst hj0
    simp only [toNat_cast]
    refine ⟨fun h7 => ?_, fun h7 => ?_⟩
    · have hjl : j < l.length := by omega
      have hwj : IntKind.i64.wrap ((j : Int) + 1) = ((j + 1 : Nat) : Int) := wrap_succ (by omega)
      rw [hwj, toNat_cast]
      have keep : ∀ b : Prop, (b ↔ in_ = true ∨ ((l.getD j zS).1 ≤ t ∧ t < (l.getD j zS).2.1)) → (∃ j' : Nat, j' ≤ l.length ∧ ((j + 1 : Nat) : Int) = (j' : Int) ∧ (b ↔ ∃ m, m < j' ∧ (l.getD m zS).1 ≤ t ∧ t < (l.getD m zS).2.1)) ∧ l.length - (j + 1) < l.length - j := fun b hb => by
        refine ⟨⟨j + 1, hjl, rfl, hb.trans ⟨fun q => ?_, fun q => ?_⟩⟩, by omega⟩
        · rcases q with q | q
          · obtain ⟨m, q1, q2⟩ := hin.1 q
            exact ⟨m, by omega, q2⟩
          · exact ⟨j, by omega, q⟩
        · obtain ⟨m, q1, q2⟩ := q
          by_cases e : m = j
          · subst e; exact .inr q2
          · exact .inl (hin.2 ⟨m, by omega, q2⟩)
      refine ⟨by omega, fun h8 => keep _ ?_, fun h8 => ⟨fun h9 => keep _ ?_, fun h9 => keep _ ?_⟩⟩
      · simp [h8]
      · rw [h8]
        constructor
        · intro q
          exact .inr ⟨h9, by simpa using q⟩
        · rintro (q | q)
          · cases q
          · simpa using q.2
      · rw [h8]
        simp only [Bool.false_eq_true, false_or]
        exact ⟨fun q => q.elim, fun q => absurd q.1 h9⟩
    · have hjl : j = l.length := by omega
      subst hjl
      obtain ⟨y, q1, q2, q3⟩ := g4 t ht1 h6
      obtain ⟨m, hm1, hm2⟩ := List.getElem_of_mem q1
      have hyes : in_ = true := hin.2 ⟨m, hm1, by rw [getD_of zS hm1, hm2]; exact ⟨q2, q3⟩⟩
      refine ⟨fun h8 => (by rw [hyes] at h8; cases h8), fun _ => ⟨⟨by omega, by omega⟩, by omega⟩⟩
  · refine ⟨fun z => ∃ k : Nat, k ≤ l.length ∧ z.1 = (k : Int), fun z => l.length - z.1.toNat, ⟨0, Nat.zero_le _, rfl⟩, ?_⟩
    rintro i ⟨q, hq, hi⟩
    simp only at hi
    subst hi
    simp only [toNat_cast]
    intro h6
    have hq' : q < l.length := by omega
    have hwq : IntKind.i64.wrap ((q : Int) + 1) = ((q + 1 : Nat) : Int) := wrap_succ (by omega)
    have hmemq : l.getD q zS ∈ l := by rw [getD_of zS hq']; exact List.getElem_mem _
    have g1 := once _ (hval _ hmemq).1 h hap (wth _ hmemq)
    obtain ⟨y, hy⟩ : ∃ y : Span, l.getD q zS = y := ⟨_, rfl⟩
    simp only [hy] at g1 ⊢
    rw [hwq, toNat_cast]
    refine ⟨by omega, ?_⟩
    refine ⟨fun z => ∃ j : Nat, j ≤ h.length ∧ z.2.1 = (j : Int) ∧ z.1 = (((h.take j).filter (holdsF y)).length : Int), fun z => h.length - z.2.1.toNat, ⟨0, Nat.zero_le _, rfl, rfl⟩, ?_⟩
    rintro c j0 ⟨j, hj, hj0, hc⟩
    simp only at hj0 hc
    subst hj0
    simp only [toNat_cast]
    refine ⟨fun h7 => ?_, fun h7 => ?_⟩
    · have hjl : j < h.length := by omega
      have hwj : IntKind.i64.wrap ((j : Int) + 1) = ((j + 1 : Nat) : Int) := wrap_succ (by omega)
      have hf := filter_one (f := holdsF y) (d := zS) hjl
      have hfl : ((h.take j).filter (holdsF y)).length ≤ j := by
        refine Nat.le_trans (List.length_filter_le ..) ?_
        rw [List.length_take]; omega
      have hwc : IntKind.i64.wrap (c + 1) = c + 1 := by rw [hc]; exact wrap_id (by omega) (by omega)
      rw [hwj, toNat_cast, hwc]
      have no : ¬ ((h.getD j zS).1 ≤ y.1 ∧ y.2.1 ≤ (h.getD j zS).2.1) → (∃ j' : Nat, j' ≤ h.length ∧ ((j + 1 : Nat) : Int) = (j' : Int) ∧ c = (((h.take j').filter (holdsF y)).length : Int)) ∧ h.length - (j + 1) < h.length - j := fun hn => by
        refine ⟨⟨j + 1, hjl, rfl, ?_⟩, by omega⟩
        rw [hf, if_neg (fun hh => hn (by unfold holdsF at hh; rw [Bool.and_eq_true, decide_eq_true_eq, decide_eq_true_eq] at hh; exact hh)), List.append_nil, hc]
      refine ⟨by omega, fun h8 => ⟨fun h9 => ⟨⟨j + 1, hjl, rfl, ?_⟩, by omega⟩, fun h9 => no (fun hh => h9 hh.2)⟩, fun h8 => no (fun hh => h8 hh.1)⟩
      rw [hf, if_pos (by unfold holdsF; rw [decide_eq_true h8, decide_eq_true h9]; rfl), List.length_append, hc]
      simp
    · have hjl : j = h.length := by omega
      subst hjl
      rw [List.take_length, g1] at hc
      exact ⟨fun h8 => (h8 hc).elim, fun _ => ⟨⟨q + 1, hq', rfl⟩, by omega⟩⟩
end Go.Fr.C15
