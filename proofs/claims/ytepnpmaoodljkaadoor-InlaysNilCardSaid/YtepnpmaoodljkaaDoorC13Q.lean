/-
  Chapter 13: proofs of the conditions: small functions. Conditions: none.
-/
import Derived.Test.YtepnpmaoodljkaaDoorC13P
import Derived.Test.YtepnpmaoodljkaaDoorC13U
import Derived.Test.YtepnpmaoodljkaaDoorC13N
import Derived.Test.YtepnpmaoodljkaaDoorC13S
import Derived.Test.YtepnpmaoodljkaaDoorFrX4
namespace Go.Fr.C13
open Go Go.Fr Go.Proofs

/-! ### Line breaks -/
theorem decode_nl (s : ByteArray) (i : Nat) : ((Utf8.decode s i).1 = 10 ↔ byt s i = 10) ∧ ∀ k, 1 ≤ k → k < (Utf8.decode s i).2 → byt s (i + k) ≠ 10 := by
  have b0 := byt_lt s i
  rw [decode_eq]
  have fin : ∀ k : Nat, 1 ≤ k → k < 4 → (byt s (i + 1) / 64 = 2) → (k < 3 → k = 2 → byt s (i + 2) / 64 = 2) → (k = 3 → byt s (i + 3) / 64 = 2) → byt s (i + k) ≠ 10 := by
    intro k h1 h2 h3 h4 h5
    have : k = 1 ∨ k = 2 ∨ k = 3 := by omega
    rcases this with e | e | e
    · subst e; omega
    · subst e; have := h4 (by omega) rfl; omega
    · subst e; have := h5 rfl; omega
  split
  · exact ⟨Iff.rfl, fun k h1 h2 => by simp only at h2; omega⟩
  · split
    · rename_i h
      split
      · exact ⟨by simp only; omega, fun k h1 h2 => fin k h1 (by simp only at h2; omega) h.2.2 (fun _ _ => by simp only at h2; omega) (fun _ => by simp only at h2; omega)⟩
      · exact ⟨by simp only; omega, fun k h1 h2 => by simp only at h2; omega⟩
    · split
      · rename_i h
        split
        · exact ⟨by simp only; omega, fun k h1 h2 => fin k h1 (by simp only at h2; omega) h.2.1.2 (fun _ _ => h.2.2.2) (fun _ => by simp only at h2; omega)⟩
        · exact ⟨by simp only; omega, fun k h1 h2 => by simp only at h2; omega⟩
      · split
        · rename_i h
          split
          · exact ⟨by simp only; omega, fun k h1 h2 => fin k h1 (by simp only at h2; omega) h.2.1.2 (fun _ _ => h.2.2.1.2) (fun _ => h.2.2.2.2)⟩
          · exact ⟨by simp only; omega, fun k h1 h2 => by simp only at h2; omega⟩
        · exact ⟨by simp only; omega, fun k h1 h2 => by simp only at h2; omega⟩
theorem nl_at (s : ByteArray) : ∀ (f p : Nat), s.size ≤ p + f → ((10 : Int) ∈ decAt s p ↔ ∃ q, p ≤ q ∧ q < s.size ∧ byt s q = 10)
  | 0, p, h => by
    rw [decAt_end (by omega)]
    constructor
    · intro h; cases h
    · rintro ⟨q, h1, h2, _⟩; omega
  | f + 1, p, h => by
    by_cases hp : p < s.size
    · have hw := decode_width s p hp
      obtain ⟨g1, g2⟩ := decode_nl s p
      have ih := nl_at s f (p + (Utf8.decode s p).2) (by omega)
      rw [decAt_step hp, List.mem_cons, ih]
      constructor
      · rintro (e | ⟨q, h1, h2, h3⟩)
        · exact ⟨p, Nat.le_refl _, hp, g1.1 (by omega)⟩
        · exact ⟨q, by omega, h2, h3⟩
      · rintro ⟨q, h1, h2, h3⟩
        by_cases e : q < p + (Utf8.decode s p).2
        · by_cases e0 : q = p
          · subst e0
            exact .inl (by have := g1.2 h3; omega)
          · have := g2 (q - p) (by omega) (by omega)
            rw [show p + (q - p) = q by omega] at this
            exact absurd h3 this
        · exact .inr ⟨q, by omega, h2, h3⟩
    · rw [decAt_end (by omega)]
      constructor
      · intro h; cases h
      · rintro ⟨q, h1, h2, _⟩; omega
theorem nl_byt (s : ByteArray) : hasNL s = true ↔ ∃ q, q < s.size ∧ byt s q = 10 := by
  unfold hasNL
  rw [List.contains_iff_mem]
  have hg : ∀ q, q < s.size → ∀ h : q < s.data.toList.length, s.data.toList[q] = s.get! q := fun q hq h => by
    show s.data.toList[q] = s.data[q]!
    rw [getElem!_pos s.data q (by simpa using h)]
    simp
  constructor
  · intro h
    obtain ⟨q, hq, e⟩ := List.getElem_of_mem h
    have hq' : q < s.size := by simpa using hq
    refine ⟨q, hq', ?_⟩
    unfold byt
    rw [← hg q hq' hq, e]
    rfl
  · rintro ⟨q, hq, e⟩
    have hq' : q < s.data.toList.length := by simpa using hq
    unfold byt at e
    have : s.get! q = 10 := UInt8.toNat_inj.1 e
    rw [← this, ← hg q hq hq']
    exact List.getElem_mem _
theorem nl_dec (s : ByteArray) : hasNL s = true ↔ (10 : Int) ∈ decodeL s := by
  rw [nl_byt]
  show _ ↔ (10 : Int) ∈ decAt s 0
  rw [nl_at s s.size 0 (by omega)]
  constructor
  · rintro ⟨q, h1, h2⟩; exact ⟨q, Nat.zero_le _, h1, h2⟩
  · rintro ⟨q, _, h1, h2⟩; exact ⟨q, h1, h2⟩
theorem dec_none (s : ByteArray) : (decodeL s).length = 0 ↔ s.size = 0 := by
  constructor
  · intro h
    by_cases hp : 0 < s.size
    · have : decodeL s = decAt s 0 := rfl
      rw [this, decAt_step hp] at h
      cases h
    · omega
  · intro h
    have : decodeL s = decAt s 0 := rfl
    rw [this, decAt_end (by omega)]
    rfl
theorem empty_iff (s : ByteArray) : s.toList = (ByteArray.mk #[]).toList ↔ s.size = 0 := by
  constructor
  · intro h
    have := toList_inj h
    rw [this]
    rfl
  · intro h
    have : s = ByteArray.mk #[] := by
      cases s with
      | mk d =>
        have : d.size = 0 := h
        rw [Array.size_eq_zero_iff.1 this]
    rw [this]

/-! ### What is wrong with an inlay -/
theorem wi_1 {n : Int} {x : Inl} (h : x.1 < 1 ∨ x.2.1 < 0 ∨ x.2.1 > n ∨ (x.2.2.1 ≠ 0 ∧ x.2.2.1 ≠ 1)) : (1 : Int) = wrongI n x := by
  unfold wrongI
  rw [if_pos h]
theorem wi_2 {n : Int} {x : Inl} (h : ¬ (x.1 < 1 ∨ x.2.1 < 0 ∨ x.2.1 > n ∨ (x.2.2.1 ≠ 0 ∧ x.2.2.1 ≠ 1))) (h2 : ((decodeL (txt x)).length : Int) > 40) : (2 : Int) = wrongI n x := by
  unfold wrongI
  rw [if_neg h, if_pos h2]
theorem wi_4 {n : Int} {x : Inl} (h : ¬ (x.1 < 1 ∨ x.2.1 < 0 ∨ x.2.1 > n ∨ (x.2.2.1 ≠ 0 ∧ x.2.2.1 ≠ 1))) (h2 : ¬ ((decodeL (txt x)).length : Int) > 40) (h3 : (txt x).size = 0 ∨ hasNL (txt x) = true) : (4 : Int) = wrongI n x := by
  unfold wrongI
  rw [if_neg h, if_neg h2, if_pos h3]
theorem wi_0 {n : Int} {x : Inl} (h : ¬ (x.1 < 1 ∨ x.2.1 < 0 ∨ x.2.1 > n ∨ (x.2.2.1 ≠ 0 ∧ x.2.2.1 ≠ 1))) (h2 : ¬ ((decodeL (txt x)).length : Int) > 40) (h3 : ¬ ((txt x).size = 0 ∨ hasNL (txt x) = true)) : (0 : Int) = wrongI n x := by
  unfold wrongI
  rw [if_neg h, if_neg h2, if_neg h3]
theorem p23 : vc23 := by
  unfold vc23
  simp only [eq_self, true_and, and_true, decide_eq_true_eq, decide_eq_false_iff_not, beq_iff_eq, beq_eq_false_iff_ne, bne_iff_ne, bne_eq_false_iff_eq, Bool.not_eq_true', Bool.not_eq_false', ne_eq, imp_true_iff, implies_true]
  rintro ⟨n, x, ⟨⟩⟩
  simp only [maxLen_eq, empty_iff]
  intro hs
  have et : x.2.2.2.2.1 = txt x := rfl
  rw [et]
  have f : ¬ x.1 < 1 → ¬ x.2.1 < 0 → ¬ x.2.1 > n → ¬ (x.2.2.1 ≠ 0 ∧ x.2.2.1 ≠ 1) → ¬ (x.1 < 1 ∨ x.2.1 < 0 ∨ x.2.1 > n ∨ (x.2.2.1 ≠ 0 ∧ x.2.2.1 ≠ 1)) := by
    intro a b c d h
    rcases h with h | h | h | h
    · exact a h
    · exact b h
    · exact c h
    · exact d h
  have tail : ¬ (x.1 < 1 ∨ x.2.1 < 0 ∨ x.2.1 > n ∨ (x.2.2.1 ≠ 0 ∧ x.2.2.1 ≠ 1)) → (txt x).size ≤ 9223372036854775807 ∧ (((decodeL (txt x)).length : Int) > 40 → (2 : Int) = wrongI n x) ∧ (¬ ((decodeL (txt x)).length : Int) > 40 →
      ((txt x).size = 0 → (4 : Int) = wrongI n x) ∧ (¬ (txt x).size = 0 → (hasNL (txt x) = true → (4 : Int) = wrongI n x) ∧ (hasNL (txt x) = false → (0 : Int) = wrongI n x))) := fun g =>
    ⟨hs, fun h => wi_2 g h, fun h => ⟨fun h2 => wi_4 g h (.inl h2), fun h2 => ⟨fun h3 => wi_4 g h (.inr h3), fun h3 => wi_0 g h (fun hh => hh.elim h2 (fun hh => by rw [hh] at h3; cases h3))⟩⟩⟩
  exact ⟨fun h => wi_1 (.inl h), fun a => ⟨fun h => wi_1 (.inr (.inl h)), fun b => ⟨fun h => wi_1 (.inr (.inr (.inl h))), fun c => ⟨fun d => ⟨fun e => wi_1 (.inr (.inr (.inr ⟨d, e⟩))), fun e => tail (f a b c (fun hh => hh.2 e))⟩, fun d => tail (f a b c (fun hh => hh.1 d))⟩⟩⟩⟩
def zI : Inl := (0, 0, 0, 0, ByteArray.empty, ())
theorem d42 : Ty.dflt t42 = zI := rfl
theorem d3 : Ty.dflt t3 = (0 : Int) := rfl
theorem ww_1 {n : Int} {l : List Inl} {x : Inl} {e : Int} (h : e = wrongI n x) (he : e ≠ 0) : e = wrongW n l x := by
  unfold wrongW
  rw [if_pos (by rw [← h]; exact he), h]
theorem ww_8 {n : Int} {l : List Inl} {x : Inl} (h : (0 : Int) = wrongI n x) (he : hasId x.1 l = true) : (8 : Int) = wrongW n l x := by
  unfold wrongW
  rw [if_neg (by rw [← h]; decide), if_pos he]
theorem ww_0 {n : Int} {l : List Inl} {x : Inl} (h : (0 : Int) = wrongI n x) (he : hasId x.1 l = false) : (0 : Int) = wrongW n l x := by
  unfold wrongW
  rw [if_neg (by rw [← h]; decide), if_neg (by rw [he]; decide)]
theorem hasId_iff {i : Int} {l : List Inl} : hasId i l = true ↔ ∃ x ∈ l, x.1 = i := by simp [hasId]
theorem hasId_of {i : Int} {l : List Inl} {j : Nat} (hj : j < l.length) (h : (l.getD j zI).1 = i) : hasId i l = true :=
  hasId_iff.2 ⟨l.getD j zI, by rw [getD_of zI hj]; exact List.getElem_mem _, h⟩
theorem hasId_no {i : Int} {l : List Inl} (h : ∀ j, j < l.length → (l.getD j zI).1 ≠ i) : hasId i l = false := by
  cases hc : hasId i l with
  | false => rfl
  | true =>
    obtain ⟨x, hx, e⟩ := hasId_iff.1 hc
    obtain ⟨j, hj, he⟩ := List.getElem_of_mem hx
    exact absurd (by rw [getD_of zI hj, he]; exact e) (h j hj)
theorem p27 : vc27 := by
  unfold vc27
  simp only [eq_self, true_and, and_true, decide_eq_true_eq, decide_eq_false_iff_not, beq_iff_eq, beq_eq_false_iff_ne, bne_iff_ne, bne_eq_false_iff_eq, Bool.not_eq_true', Bool.not_eq_false', ne_eq, imp_true_iff, implies_true]
  rintro ⟨n, l, x, ⟨⟩⟩
  simp only [maxLen_eq, d42, d21]
  rintro ⟨hl, hs⟩
  have et : x.2.2.2.2.1 = txt x := rfl
  rw [et]
  have dl := decL_len (txt x)
  have f : ¬ x.1 < 1 → ¬ x.2.1 < 0 → ¬ x.2.1 > n → ¬ (x.2.2.1 ≠ 0 ∧ x.2.2.1 ≠ 1) → ¬ (x.1 < 1 ∨ x.2.1 < 0 ∨ x.2.1 > n ∨ (x.2.2.1 ≠ 0 ∧ x.2.2.1 ≠ 1)) := by
    intro a b c d h
    rcases h with h | h | h | h
    · exact a h
    · exact b h
    · exact c h
    · exact d h
  have o1 : (x.1 < 1 ∨ x.2.1 < 0 ∨ x.2.1 > n ∨ (x.2.2.1 ≠ 0 ∧ x.2.2.1 ≠ 1)) → (1 : Int) = wrongW n l x := fun h => ww_1 (wi_1 h) (by decide)
  have tail : ¬ (x.1 < 1 ∨ x.2.1 < 0 ∨ x.2.1 > n ∨ (x.2.2.1 ≠ 0 ∧ x.2.2.1 ≠ 1)) → (txt x).size ≤ 1000000000 ∧ (((decodeL (txt x)).length : Int) > 40 → (2 : Int) = wrongW n l x) ∧ (¬ ((decodeL (txt x)).length : Int) > 40 →
      (((decodeL (txt x)).length : Int) = 0 → (4 : Int) = wrongW n l x) ∧ (¬ ((decodeL (txt x)).length : Int) = 0 → ∃ (Z : Int × Unit → Prop), ∃ (μ : Int × Unit → Nat), Z (0, ()) ∧ ∀ a : Int, Z (a, ()) →
        (a < ((decodeL (txt x)).length : Int) → (0 ≤ a ∧ a < ((decodeL (txt x)).length : Int)) ∧ ((decodeL (txt x)).getD a.toNat 0 = 10 → (4 : Int) = wrongW n l x) ∧ (¬ (decodeL (txt x)).getD a.toNat 0 = 10 → Z (IntKind.i64.wrap (a + 1), ()) ∧ μ (IntKind.i64.wrap (a + 1), ()) < μ (a, ()))) ∧
        (¬ a < ((decodeL (txt x)).length : Int) → ∃ (Z : Int × Unit → Prop), ∃ (μ : Int × Unit → Nat), Z (0, ()) ∧ ∀ a : Int, Z (a, ()) →
          (a < (l.length : Int) → (0 ≤ a ∧ a < (l.length : Int)) ∧ ((l.getD a.toNat zI).1 = x.1 → (8 : Int) = wrongW n l x) ∧ (¬ (l.getD a.toNat zI).1 = x.1 → Z (IntKind.i64.wrap (a + 1), ()) ∧ μ (IntKind.i64.wrap (a + 1), ()) < μ (a, ()))) ∧
          (¬ a < (l.length : Int) → (0 : Int) = wrongW n l x)))) := by
    intro g
    refine ⟨hs, fun h => ww_1 (wi_2 g h) (by decide), fun h => ⟨fun h2 => ww_1 (wi_4 g h (.inl ((dec_none _).1 (by omega)))) (by decide), fun h2 => ?_⟩⟩
    have hne : ¬ (txt x).size = 0 := fun e => h2 (by have := (dec_none (txt x)).2 e; omega)
    have hnl := nl_dec (txt x)
    have h' := h
    generalize decodeL (txt x) = r at dl h h2 hnl ⊢
    refine ⟨fun z => ∃ k : Nat, k ≤ r.length ∧ z.1 = (k : Int) ∧ ∀ j, j < k → r.getD j 0 ≠ 10, fun z => r.length - z.1.toNat, ⟨0, Nat.zero_le _, rfl, fun j hj => by omega⟩, ?_⟩
    rintro i ⟨k, hk, hi, hno⟩
    simp only at hi
    subst hi
    refine ⟨fun h3 => ⟨⟨by omega, h3⟩, fun h4 => ?_, fun h4 => ?_⟩, fun h3 => ?_⟩
    · rw [toNat_cast] at h4
      have hlt : k < r.length := by omega
      refine ww_1 (wi_4 g h' (.inr (hnl.2 ?_))) (by decide)
      rw [← h4, getD_of 0 hlt]
      exact List.getElem_mem _
    · have hw : IntKind.i64.wrap ((k : Int) + 1) = ((k + 1 : Nat) : Int) := wrap_succ (by omega)
      rw [toNat_cast] at h4
      rw [hw]
      refine ⟨⟨k + 1, by omega, rfl, fun j hj => ?_⟩, by simp only [toNat_cast]; omega⟩
      by_cases e : j = k
      · subst e; exact h4
      · exact hno j (by omega)
    · have hke : k = r.length := by omega
      subst hke
      have w0 : (0 : Int) = wrongI n x := wi_0 g h' (fun hh => hh.elim hne fun hh => by
        have := hnl.1 hh
        obtain ⟨j, hj, e⟩ := List.getElem_of_mem this
        exact hno j hj (by rw [getD_of 0 hj]; exact e))
      refine ⟨fun z => ∃ k : Nat, k ≤ l.length ∧ z.1 = (k : Int) ∧ ∀ j, j < k → (l.getD j zI).1 ≠ x.1, fun z => l.length - z.1.toNat, ⟨0, Nat.zero_le _, rfl, fun j hj => by omega⟩, ?_⟩
      rintro i ⟨k, hk, hi, hno⟩
      simp only at hi
      subst hi
      refine ⟨fun h3 => ⟨⟨by omega, h3⟩, fun h4 => ?_, fun h4 => ?_⟩, fun h3 => ?_⟩
      · rw [toNat_cast] at h4
        exact ww_8 w0 (hasId_of (by omega) h4)
      · have hw : IntKind.i64.wrap ((k : Int) + 1) = ((k + 1 : Nat) : Int) := wrap_succ (by omega)
        rw [toNat_cast] at h4
        rw [hw]
        refine ⟨⟨k + 1, by omega, rfl, fun j hj => ?_⟩, by simp only [toNat_cast]; omega⟩
        by_cases e : j = k
        · subst e; exact h4
        · exact hno j (by omega)
      · exact ww_0 w0 (hasId_no fun j hj => hno j (by omega))
  exact ⟨fun h => o1 (.inl h), fun a => ⟨fun h => o1 (.inr (.inl h)), fun b => ⟨fun h => o1 (.inr (.inr (.inl h))), fun c => ⟨fun d => ⟨fun e => o1 (.inr (.inr (.inr ⟨d, e⟩))), fun e => tail (f a b c (fun hh => hh.2 e))⟩, fun d => tail (f a b c (fun hh => hh.1 d))⟩⟩⟩⟩
theorem p30 : vc30 := by
  unfold vc30
  simp only [eq_self, true_and, and_true, decide_eq_true_eq, decide_eq_false_iff_not, beq_iff_eq, beq_eq_false_iff_ne, bne_iff_ne, bne_eq_false_iff_eq, Bool.not_eq_true', Bool.not_eq_false', ne_eq, imp_true_iff, implies_true]
  rintro ⟨a, b, ⟨⟩⟩
  simp only [true_imp_iff]
  unfold aheadI
  refine ⟨fun h => by rw [if_pos h], fun h => ⟨fun h2 => by rw [if_neg (fun hh => hh h), if_pos h2], fun h2 => by rw [if_neg (fun hh => hh h), if_neg (fun hh => hh h2)]⟩⟩
theorem p33 : vc33 := by
  unfold vc33
  simp only [eq_self, true_and, and_true, decide_eq_true_eq, decide_eq_false_iff_not, beq_iff_eq, beq_eq_false_iff_ne, bne_iff_ne, bne_eq_false_iff_eq, Bool.not_eq_true', Bool.not_eq_false', ne_eq, imp_true_iff, implies_true]
  rintro ⟨n, l, ⟨⟩⟩
  simp only [maxLen_eq, d3]
  intro hl
  refine ⟨fun z => ∃ k : Nat, k ≤ l.length ∧ z.2.1 = (k : Int) ∧ z.1 = ((l.take k).count n : Int), fun z => l.length - z.2.1.toNat, ⟨0, Nat.zero_le _, rfl, rfl⟩, ?_⟩
  rintro c i ⟨k, hk, hi, hc⟩
  simp only at hi hc
  subst hi
  have hcl : (l.take k).count n ≤ k := Nat.le_trans List.count_le_length (by simp; omega)
  refine ⟨fun h => ⟨⟨by omega, h⟩, ?_⟩, fun h => ?_⟩
  · have hlt : k < l.length := by omega
    have hw : IntKind.i64.wrap ((k : Int) + 1) = ((k + 1 : Nat) : Int) := wrap_succ (by omega)
    have ht := take_one (0 : Int) hlt
    rw [toNat_cast, hw]
    have hwc : IntKind.i64.wrap (c + 1) = c + 1 := wrap_id (by omega) (by omega)
    refine ⟨fun e => ⟨⟨k + 1, hlt, rfl, ?_⟩, by simp only [toNat_cast]; omega⟩, fun e => ⟨⟨k + 1, hlt, rfl, ?_⟩, by simp only [toNat_cast]; omega⟩⟩
    · rw [hwc, hc, ht, List.count_append, e]
      simp
    · rw [hc, ht, List.count_append]
      simp only [List.count_singleton, beq_iff_eq]
      rw [if_neg e]
      simp
  · have hke : k = l.length := by omega
    rw [hc, hke, List.take_length]
    rfl
theorem beqB (a b : ByteArray) : (a == b) = true ↔ a = b := by
  cases a with
  | mk d =>
    cases b with
    | mk e =>
      show (d == e) = true ↔ _
      simp
theorem beqI (a b : Inl) : Ty.beq t42 a b = true ↔ a = b := by
  obtain ⟨a1, a2, a3, a4, a5, ⟨⟩⟩ := a
  obtain ⟨b1, b2, b3, b4, b5, ⟨⟩⟩ := b
  show (a1 == b1 && (a2 == b2 && (a3 == b3 && (a4 == b4 && (a5 == b5 && true))))) = true ↔ _
  simp [beqB]
theorem beqI_f (a b : Inl) : Ty.beq t42 a b = false ↔ a ≠ b := by
  cases h : Ty.beq t42 a b with
  | true => simp [(beqI a b).1 h]
  | false =>
    refine ⟨fun _ e => ?_, fun _ => rfl⟩
    rw [(beqI a b).2 e] at h
    cases h
theorem take_snoc' {l : List Inl} {k : Nat} (h : k < l.length) : l.take (k + 1) = l.take k ++ [l.getD k zI] := by
  rw [List.take_succ_eq_append_getElem h, getD_of zI h]
theorem p13 : vc13 := by
  unfold vc13
  simp only [eq_self, true_and, and_true, decide_eq_true_eq, decide_eq_false_iff_not, beq_iff_eq, beq_eq_false_iff_ne, bne_iff_ne, bne_eq_false_iff_eq, Bool.not_eq_true', Bool.not_eq_false', ne_eq, imp_true_iff, implies_true]
  rintro ⟨a, b, ⟨⟩⟩
  simp only [maxLen_eq, d42, sameL]
  rintro ⟨ha, hb⟩
  refine ⟨fun z => ∃ k : Nat, k ≤ a.length ∧ z.1 = (k : Int) ∧ k ≤ b.length ∧ a.take k = b.take k, fun z => a.length - z.1.toNat, ⟨0, Nat.zero_le _, rfl, Nat.zero_le _, rfl⟩, ?_⟩
  rintro i ⟨k, hk, hi, hkb, he⟩
  simp only at hi
  subst hi
  refine ⟨fun h1 => ⟨fun h2 => ?_, fun h2 => ?_⟩, fun h1 => ?_⟩
  · exact (decide_eq_false fun e => by rw [e] at h1; omega).symm
  · have hka : k < a.length := by omega
    have hkb' : k < b.length := by omega
    have hw : IntKind.i64.wrap ((k : Int) + 1) = ((k + 1 : Nat) : Int) := wrap_succ (by omega)
    rw [toNat_cast, hw]
    refine ⟨⟨by omega, h1⟩, ⟨by omega, by omega⟩, fun h3 => ?_, fun h3 => ?_⟩
    · have h3 := (beqI_f _ _).1 h3
      exact (decide_eq_false fun e => h3 (by rw [e])).symm
    · have h3 := (beqI _ _).1 h3
      refine ⟨⟨k + 1, hka, rfl, hkb', ?_⟩, by simp only [toNat_cast]; omega⟩
      rw [take_snoc' hka, take_snoc' hkb', he, h3]
  · have hke : k = a.length := by omega
    subst hke
    rw [List.take_length] at he
    rw [he]
    by_cases hl : b.length = a.length
    · rw [show b.take a.length = b from by rw [← hl, List.take_length]]
      simp
    · have h1 : ((((b.take a.length).length : Nat) : Int) == (b.length : Int)) = false := by
        rw [List.length_take]
        simp only [beq_eq_false_iff_ne, ne_eq]
        omega
      rw [h1]
      refine (decide_eq_false fun e => ?_).symm
      have := congrArg List.length e
      rw [List.length_take] at this
      omega
theorem beq4 (a b : Bool) : Ty.beq t4 a b = (a == b) := rfl
theorem p12 : vc12 := by
  unfold vc12
  simp only [eq_self, true_and, and_true, decide_eq_true_eq, decide_eq_false_iff_not, beq_iff_eq, beq_eq_false_iff_ne, bne_iff_ne, bne_eq_false_iff_eq, Bool.not_eq_true', Bool.not_eq_false', ne_eq, imp_true_iff, implies_true]
  rintro ⟨s, e, ⟨wn, wl, we, ⟨⟩⟩, ⟨⟩⟩
  simp only [maxLen_eq, beq4, isI]
  rintro ⟨h1, h2⟩
  have e1 : (we != 0) = decide (we ≠ 0) := by by_cases h : we = 0 <;> simp [h]
  rw [e1]
  refine ⟨fun h => by rw [decide_eq_false h]; rfl, fun h => ?_⟩
  rw [decide_eq_true h]
  simp only [Bool.true_and]
  refine ⟨fun h3 => by rw [h3]; rfl, fun h3 => ?_⟩
  rw [h3]
  simp only [Bool.true_and]
  refine ⟨fun h4 => by rw [h4]; rfl, fun h4 => ⟨h1, ⟨by omega, by omega⟩, fun h5 => ?_, fun h5 => ?_⟩⟩
  · rw [h4, h5]
    simp only [Bool.false_or, Bool.true_and]
    by_cases h6 : lenI s = wn <;> simp [h6]
  · rw [h4, h5]
    rfl
theorem inI_t {f t : Int} {x : Inl} : inI f t x = true ↔ f ≤ x.2.1 ∧ x.2.1 ≤ t := by simp [inI]
theorem inI_f {f t : Int} {x : Inl} : inI f t x = false ↔ ¬ (f ≤ x.2.1 ∧ x.2.1 ≤ t) := by
  cases h : inI f t x with
  | true => have := inI_t.1 h; simp; omega
  | false =>
    refine ⟨fun _ h2 => ?_, fun _ => rfl⟩
    rw [inI_t.2 h2] at h
    cases h
theorem p15 : vc15 := by
  unfold vc15
  simp only [eq_self, true_and, and_true, decide_eq_true_eq, decide_eq_false_iff_not, beq_iff_eq, beq_eq_false_iff_ne, bne_iff_ne, bne_eq_false_iff_eq, Bool.not_eq_true', Bool.not_eq_false', ne_eq, imp_true_iff, implies_true]
  rintro ⟨w, f, t, ⟨⟩⟩
  simp only [maxLen_eq, d42]
  intro hl
  generalize w.2.1 = l at hl ⊢
  refine ⟨fun z => ∃ k : Nat, k ≤ l.length ∧ z.2.1 = (k : Int) ∧ z.1.length ≤ k ∧ z.1 = (l.take k).filter (inI f t), fun z => l.length - z.2.1.toNat, ⟨0, Nat.zero_le _, rfl, Nat.zero_le _, rfl⟩, ?_⟩
  rintro o i ⟨k, hk, hi, hol, ho⟩
  simp only at hi hol ho
  subst hi
  refine ⟨fun h => ⟨⟨by omega, h⟩, ?_⟩, fun h => ?_⟩
  · have hlt : k < l.length := by omega
    have hw : IntKind.i64.wrap ((k : Int) + 1) = ((k + 1 : Nat) : Int) := wrap_succ (by omega)
    have hf := filter_one (f := inI f t) (d := zI) hlt
    rw [toNat_cast, hw]
    generalize l.getD k zI = x at hf ⊢
    simp only [List.length_singleton, toNat_cast]
    have off : inI f t x = false → (∃ k' : Nat, k' ≤ l.length ∧ ((k + 1 : Nat) : Int) = (k' : Int) ∧ o.length ≤ k' ∧ o = (l.take k').filter (inI f t)) ∧ l.length - (k + 1) < l.length - k := fun g =>
      ⟨⟨k + 1, hlt, rfl, by omega, by rw [hf, if_neg (by rw [g]; decide), List.append_nil, ho]⟩, by omega⟩
    refine ⟨fun h1 => ⟨fun h2 => ⟨by omega, by omega, ⟨k + 1, hlt, rfl, by simp; exact hol, ?_⟩, by omega⟩, fun h2 => off (inI_f.2 (by omega))⟩, fun h1 => off (inI_f.2 (by omega))⟩
    rw [hf, if_pos (inI_t.2 ⟨h1, h2⟩), ho]
  · have hke : k = l.length := by omega
    rw [ho, hke, List.take_length]
theorem long_no {l : List Inl} (h : longI l = false) : l.length ≤ 100 ∧ ∀ x ∈ l, (txt x).size ≤ 400 := by
  unfold longI at h
  simp only [Bool.or_eq_false_iff, decide_eq_false_iff_not, List.any_eq_false, decide_eq_true_eq] at h
  refine ⟨by omega, fun x hx => ?_⟩
  have := h.2 x hx
  omega
theorem p8 : vc8 := by
  unfold vc8
  simp only [eq_self, true_and, and_true, decide_eq_true_eq, decide_eq_false_iff_not, beq_iff_eq, beq_eq_false_iff_ne, bne_iff_ne, bne_eq_false_iff_eq, Bool.not_eq_true', Bool.not_eq_false', ne_eq, imp_true_iff, implies_true]
  rintro ⟨l, ⟨⟩⟩
  simp only [maxLen_eq, d42]
  intro hl
  refine ⟨fun h => by simp [longI, h], fun h => ?_⟩
  refine ⟨fun z => ∃ k : Nat, k ≤ l.length ∧ z.1 = (k : Int) ∧ ∀ j, j < k → ¬ (((txt (l.getD j zI)).size : Int) > 400), fun z => l.length - z.1.toNat, ⟨0, Nat.zero_le _, rfl, fun j hj => by omega⟩, ?_⟩
  rintro i ⟨k, hk, hi, hno⟩
  simp only at hi
  subst hi
  refine ⟨fun h1 => ⟨⟨by omega, h1⟩, fun h2 => ?_, fun h2 => ?_⟩, fun h1 => ?_⟩
  · rw [toNat_cast] at h2
    have hlt : k < l.length := by omega
    have hm : l.getD k zI ∈ l := by rw [getD_of zI hlt]; exact List.getElem_mem _
    unfold longI
    rw [List.any_eq_true.2 ⟨_, hm, decide_eq_true h2⟩, Bool.or_true]
  · rw [toNat_cast] at h2
    have hw : IntKind.i64.wrap ((k : Int) + 1) = ((k + 1 : Nat) : Int) := wrap_succ (by omega)
    rw [hw]
    refine ⟨⟨k + 1, by omega, rfl, fun j hj => ?_⟩, by simp only [toNat_cast]; omega⟩
    by_cases e : j = k
    · subst e; exact h2
    · exact hno j (by omega)
  · have hke : k = l.length := by omega
    subst hke
    unfold longI
    rw [decide_eq_false h, Bool.false_or]
    symm
    rw [List.any_eq_false]
    intro x hx
    obtain ⟨j, hj, e⟩ := List.getElem_of_mem hx
    have := hno j hj
    rw [getD_of zI hj, e] at this
    simpa using this
end Go.Fr.C13
