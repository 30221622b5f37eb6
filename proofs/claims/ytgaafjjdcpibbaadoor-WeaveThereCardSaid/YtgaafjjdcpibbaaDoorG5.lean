/-
  Texts on which the proofs of the seat's statements stand: a symbolic walk, its soundness, the functions' conditions and their proofs (5). Conditions: none.
-/
import Derived.Test.YtgaafjjdcpibbaaDoorG4
namespace Go.Fr.C14
open Go Go.Fr Go.Proofs
theorem decode_nl (s : ByteArray) (i : Nat) : ((Utf8.decode s i).1 = 10 ↔ byt s i = 10) ∧ ∀ k, 1 ≤ k → k < (Utf8.decode s i).2 → byt s (i + k) ≠ 10 := by
  have b0 := byt_lt s i
  rw [decode_eq]
  have fin : ∀ k : Nat, 1 ≤ k → k < 4 → (byt s (i + 1) / 64 = 2) → (k < 3 → k = 2 → byt s (i + 2) / 64 = 2) → (k = 3 → byt s (i + 3) / 64 = 2) → byt s (i + k) ≠ 10 := by
    intro k h1 h2 h3 h4 h5
    have : k = 1 ∨ k = 2 ∨ k = 3 := by omega
    rcases this with e | e | e
    · subst e; omega
    · subst e; have := h4 (by omega) rfl; omega
    · subst e; have := h5 rfl; omega
  split
  · exact ⟨Iff.rfl, fun k h1 h2 => by simp only at h2; omega⟩
  · split
    · rename_i h
      split
      · exact ⟨by simp only; omega, fun k h1 h2 => fin k h1 (by simp only at h2; omega) h.2.2 (fun _ _ => by simp only at h2; omega) (fun _ => by simp only at h2; omega)⟩
      · exact ⟨by simp only; omega, fun k h1 h2 => by simp only at h2; omega⟩
    · split
      · rename_i h
        split
        · exact ⟨by simp only; omega, fun k h1 h2 => fin k h1 (by simp only at h2; omega) h.2.1.2 (fun _ _ => h.2.2.2) (fun _ => by simp only at h2; omega)⟩
        · exact ⟨by simp only; omega, fun k h1 h2 => by simp only at h2; omega⟩
      · split
        · rename_i h
          split
          · exact ⟨by simp only; omega, fun k h1 h2 => fin k h1 (by simp only at h2; omega) h.2.1.2 (fun _ _ => h.2.2.1.2) (fun _ => h.2.2.2.2)⟩
          · exact ⟨by simp only; omega, fun k h1 h2 => by simp only at h2; omega⟩
        · exact ⟨by simp only; omega, fun k h1 h2 => by simp only at h2; omega⟩
theorem nl_at (s : ByteArray) : ∀ (f p : Nat), s.size ≤ p + f → ((10 : Int) ∈ decAt s p ↔ ∃ q, p ≤ q ∧ q < s.size ∧ byt s q = 10)
  | 0, p, h => by
    rw [decAt_end (by omega)]
    constructor
    · intro h; cases h
    · rintro ⟨q, h1, h2, _⟩; omega
  | f + 1, p, h => by
    by_cases hp : p < s.size
    · have hw := decode_width s p hp
      obtain ⟨g1, g2⟩ := decode_nl s p
      have ih := nl_at s f (p + (Utf8.decode s p).2) (by omega)
      rw [decAt_step hp, List.mem_cons, ih]
      constructor
      · rintro (e | ⟨q, h1, h2, h3⟩)
        · exact ⟨p, Nat.le_refl _, hp, g1.1 (by omega)⟩
        · exact ⟨q, by omega, h2, h3⟩
      · rintro ⟨q, h1, h2, h3⟩
        by_cases e : q < p + (Utf8.decode s p).2
        · by_cases e0 : q = p
          · subst e0
            exact .inl (by have := g1.2 h3; omega)
          · have := g2 (q - p) (by omega) (by omega)
            rw [show p + (q - p) = q by omega] at this
            exact absurd h3 this
        · exact .inr ⟨q, by omega, h2, h3⟩
    · rw [decAt_end (by omega)]
      constructor
      · intro h; cases h
      · rintro ⟨q, h1, h2, _⟩; omega
theorem nl_byt (s : ByteArray) : hasNL s = true ↔ ∃ q, q < s.size ∧ byt s q = 10 := by
  unfold hasNL
  rw [List.contains_iff_mem]
  have hg : ∀ q, q < s.size → ∀ h : q < s.data.toList.length, s.data.toList[q] = s.get! q := fun q hq h => by
    show s.data.toList[q] = s.data[q]!
    rw [getElem!_pos s.data q (by simpa using h)]
    simp
  constructor
  · intro h
    obtain ⟨q, hq, e⟩ := List.getElem_of_mem h
    have hq' : q < s.size := by simpa using hq
    refine ⟨q, hq', ?_⟩
    unfold byt
    rw [← hg q hq' hq, e]
    rfl
  · rintro ⟨q, hq, e⟩
    have hq' : q < s.data.toList.length := by simpa using hq
    unfold byt at e
    have : s.get! q = 10 := UInt8.toNat_inj.1 e
    rw [← this, ← hg q hq hq']
    exact List.getElem_mem _
theorem nl_dec (s : ByteArray) : hasNL s = true ↔ (10 : Int) ∈ decodeL s := by
  rw [nl_byt]
  show _ ↔ (10 : Int) ∈ decAt s 0
  rw [nl_at s s.size 0 (by omega)]
  constructor
  · rintro ⟨q, h1, h2⟩; exact ⟨q, Nat.zero_le _, h1, h2⟩
  · rintro ⟨q, _, h1, h2⟩; exact ⟨q, h1, h2⟩
theorem dec_none (s : ByteArray) : (decodeL s).length = 0 ↔ s.size = 0 := by
  constructor
  · intro h
    by_cases hp : 0 < s.size
    · have : decodeL s = decAt s 0 := rfl
      rw [this, decAt_step hp] at h
      cases h
    · omega
  · intro h
    have : decodeL s = decAt s 0 := rfl
    rw [this, decAt_end (by omega)]
    rfl
theorem empty_iff (s : ByteArray) : s.toList = (ByteArray.mk #[]).toList ↔ s.size = 0 := by
  constructor
  · intro h
    have := toList_inj h
    rw [this]
    rfl
  · intro h
    have : s = ByteArray.mk #[] := by
      cases s with
      | mk d =>
        have : d.size = 0 := h
        rw [Array.size_eq_zero_iff.1 this]
    rw [this]
theorem wi_1 {n : Int} {x : Inl} (h : x.1 < 1 ∨ x.2.1 < 0 ∨ x.2.1 > n ∨ (x.2.2.1 ≠ 0 ∧ x.2.2.1 ≠ 1)) : (1 : Int) = wrongI n x := by
  unfold wrongI
  rw [if_pos h]
theorem wi_2 {n : Int} {x : Inl} (h : ¬ (x.1 < 1 ∨ x.2.1 < 0 ∨ x.2.1 > n ∨ (x.2.2.1 ≠ 0 ∧ x.2.2.1 ≠ 1))) (h2 : ((decodeL (txt x)).length : Int) > 40) : (2 : Int) = wrongI n x := by
  unfold wrongI
  rw [if_neg h, if_pos h2]
theorem wi_4 {n : Int} {x : Inl} (h : ¬ (x.1 < 1 ∨ x.2.1 < 0 ∨ x.2.1 > n ∨ (x.2.2.1 ≠ 0 ∧ x.2.2.1 ≠ 1))) (h2 : ¬ ((decodeL (txt x)).length : Int) > 40) (h3 : (txt x).size = 0 ∨ hasNL (txt x) = true) : (4 : Int) = wrongI n x := by
  unfold wrongI
  rw [if_neg h, if_neg h2, if_pos h3]
theorem wi_0 {n : Int} {x : Inl} (h : ¬ (x.1 < 1 ∨ x.2.1 < 0 ∨ x.2.1 > n ∨ (x.2.2.1 ≠ 0 ∧ x.2.2.1 ≠ 1))) (h2 : ¬ ((decodeL (txt x)).length : Int) > 40) (h3 : ¬ ((txt x).size = 0 ∨ hasNL (txt x) = true)) : (0 : Int) = wrongI n x := by
  unfold wrongI
  rw [if_neg h, if_neg h2, if_neg h3]
theorem p22 : vc22 := by
  unfold vc22
  simp only [eq_self, true_and, and_true, decide_eq_true_eq, decide_eq_false_iff_not, beq_iff_eq, beq_eq_false_iff_ne, bne_iff_ne, bne_eq_false_iff_eq, Bool.not_eq_true', Bool.not_eq_false', ne_eq, imp_true_iff, implies_true]
  rintro ⟨n, x, ⟨⟩⟩
  simp only [maxLen_eq, empty_iff]
  intro hs
  have et : x.2.2.2.2.1 = txt x := rfl
  rw [et]
  have f : ¬ x.1 < 1 → ¬ x.2.1 < 0 → ¬ x.2.1 > n → ¬ (x.2.2.1 ≠ 0 ∧ x.2.2.1 ≠ 1) → ¬ (x.1 < 1 ∨ x.2.1 < 0 ∨ x.2.1 > n ∨ (x.2.2.1 ≠ 0 ∧ x.2.2.1 ≠ 1)) := by
    intro a b c d h
    rcases h with h | h | h | h
    · exact a h
    · exact b h
    · exact c h
    · exact d h
  have tail : ¬ (x.1 < 1 ∨ x.2.1 < 0 ∨ x.2.1 > n ∨ (x.2.2.1 ≠ 0 ∧ x.2.2.1 ≠ 1)) → (txt x).size ≤ 9223372036854775807 ∧ (((decodeL (txt x)).length : Int) > 40 → (2 : Int) = wrongI n x) ∧ (¬ ((decodeL (txt x)).length : Int) > 40 →
      ((txt x).size = 0 → (4 : Int) = wrongI n x) ∧ (¬ (txt x).size = 0 → (hasNL (txt x) = true → (4 : Int) = wrongI n x) ∧ (hasNL (txt x) = false → (0 : Int) = wrongI n x))) := fun g =>
    ⟨hs, fun h => wi_2 g h, fun h => ⟨fun h2 => wi_4 g h (.inl h2), fun h2 => ⟨fun h3 => wi_4 g h (.inr h3), fun h3 => wi_0 g h (fun hh => hh.elim h2 (fun hh => by rw [hh] at h3; cases h3))⟩⟩⟩
  exact ⟨fun h => wi_1 (.inl h), fun a => ⟨fun h => wi_1 (.inr (.inl h)), fun b => ⟨fun h => wi_1 (.inr (.inr (.inl h))), fun c => ⟨fun d => ⟨fun e => wi_1 (.inr (.inr (.inr ⟨d, e⟩))), fun e => tail (f a b c (fun hh => hh.2 e))⟩, fun d => tail (f a b c (fun hh => hh.1 d))⟩⟩⟩⟩
def zI : Inl := (0, 0, 0, 0, ByteArray.empty, ())
theorem d42 : Ty.dflt t57 = zI := rfl
theorem d3 : Ty.dflt t3 = (0 : Int) := rfl
theorem ww_1 {n : Int} {l : List Inl} {x : Inl} {e : Int} (h : e = wrongI n x) (he : e ≠ 0) : e = wrongW n l x := by
  unfold wrongW
  rw [if_pos (by rw [← h]; exact he), h]
theorem ww_8 {n : Int} {l : List Inl} {x : Inl} (h : (0 : Int) = wrongI n x) (he : hasId x.1 l = true) : (8 : Int) = wrongW n l x := by
  unfold wrongW
  rw [if_neg (by rw [← h]; decide), if_pos he]
theorem ww_0 {n : Int} {l : List Inl} {x : Inl} (h : (0 : Int) = wrongI n x) (he : hasId x.1 l = false) : (0 : Int) = wrongW n l x := by
  unfold wrongW
  rw [if_neg (by rw [← h]; decide), if_neg (by rw [he]; decide)]
theorem hasId_iff {i : Int} {l : List Inl} : hasId i l = true ↔ ∃ x ∈ l, x.1 = i := by simp [hasId]
theorem hasId_of {i : Int} {l : List Inl} {j : Nat} (hj : j < l.length) (h : (l.getD j zI).1 = i) : hasId i l = true :=
  hasId_iff.2 ⟨l.getD j zI, by rw [getD_of zI hj]; exact List.getElem_mem _, h⟩
theorem hasId_no {i : Int} {l : List Inl} (h : ∀ j, j < l.length → (l.getD j zI).1 ≠ i) : hasId i l = false := by
  cases hc : hasId i l with
  | false => rfl
  | true =>
    obtain ⟨x, hx, e⟩ := hasId_iff.1 hc
    obtain ⟨j, hj, he⟩ := List.getElem_of_mem hx
    exact absurd (by rw [getD_of zI hj, he]; exact e) (h j hj)
theorem p26 : vc26 := by
  unfold vc26
  simp only [eq_self, true_and, and_true, decide_eq_true_eq, decide_eq_false_iff_not, beq_iff_eq, beq_eq_false_iff_ne, bne_iff_ne, bne_eq_false_iff_eq, Bool.not_eq_true', Bool.not_eq_false', ne_eq, imp_true_iff, implies_true]
  rintro ⟨n, l, x, ⟨⟩⟩
  simp only [maxLen_eq, d42, d21]
  rintro ⟨hl, hs⟩
  have et : x.2.2.2.2.1 = txt x := rfl
  rw [et]
  have dl := decL_len (txt x)
  have f : ¬ x.1 < 1 → ¬ x.2.1 < 0 → ¬ x.2.1 > n → ¬ (x.2.2.1 ≠ 0 ∧ x.2.2.1 ≠ 1) → ¬ (x.1 < 1 ∨ x.2.1 < 0 ∨ x.2.1 > n ∨ (x.2.2.1 ≠ 0 ∧ x.2.2.1 ≠ 1)) := by
    intro a b c d h
    rcases h with h | h | h | h
    · exact a h
    · exact b h
    · exact c h
    · exact d h
  have o1 : (x.1 < 1 ∨ x.2.1 < 0 ∨ x.2.1 > n ∨ (x.2.2.1 ≠ 0 ∧ x.2.2.1 ≠ 1)) → (1 : Int) = wrongW n l x := fun h => ww_1 (wi_1 h) (by decide)
  have tail : ¬ (x.1 < 1 ∨ x.2.1 < 0 ∨ x.2.1 > n ∨ (x.2.2.1 ≠ 0 ∧ x.2.2.1 ≠ 1)) → (txt x).size ≤ 1000000000 ∧ (((decodeL (txt x)).length : Int) > 40 → (2 : Int) = wrongW n l x) ∧ (¬ ((decodeL (txt x)).length : Int) > 40 →
      (((decodeL (txt x)).length : Int) = 0 → (4 : Int) = wrongW n l x) ∧ (¬ ((decodeL (txt x)).length : Int) = 0 → ∃ (Z : Int × Unit → Prop), ∃ (μ : Int × Unit → Nat), Z (0, ()) ∧ ∀ a : Int, Z (a, ()) →
        (a < ((decodeL (txt x)).length : Int) → (0 ≤ a ∧ a < ((decodeL (txt x)).length : Int)) ∧ ((decodeL (txt x)).getD a.toNat 0 = 10 → (4 : Int) = wrongW n l x) ∧ (¬ (decodeL (txt x)).getD a.toNat 0 = 10 → Z (IntKind.i64.wrap (a + 1), ()) ∧ μ (IntKind.i64.wrap (a + 1), ()) < μ (a, ()))) ∧
        (¬ a < ((decodeL (txt x)).length : Int) → ∃ (Z : Int × Unit → Prop), ∃ (μ : Int × Unit → Nat), Z (0, ()) ∧ ∀ a : Int, Z (a, ()) →
          (a < (l.length : Int) → (0 ≤ a ∧ a < (l.length : Int)) ∧ ((l.getD a.toNat zI).1 = x.1 → (8 : Int) = wrongW n l x) ∧ (¬ (l.getD a.toNat zI).1 = x.1 → Z (IntKind.i64.wrap (a + 1), ()) ∧ μ (IntKind.i64.wrap (a + 1), ()) < μ (a, ()))) ∧
          (¬ a < (l.length : Int) → (0 : Int) = wrongW n l x)))) := by
    intro g
    refine ⟨hs, fun h => ww_1 (wi_2 g h) (by decide), fun h => ⟨fun h2 => ww_1 (wi_4 g h (.inl ((dec_none _).1 (by omega)))) (by decide), fun h2 => ?_⟩⟩
    have hne : ¬ (txt x).size = 0 := fun e => h2 (by have := (dec_none (txt x)).2 e; omega)
    have hnl := nl_dec (txt x)
    have h' := h
    generalize decodeL (txt x) = r at dl h h2 hnl ⊢
    refine ⟨fun z => ∃ k : Nat, k ≤ r.length ∧ z.1 = (k : Int) ∧ ∀ j, j < k → r.getD j 0 ≠ 10, fun z => r.length - z.1.toNat, ⟨0, Nat.zero_le _, rfl, fun j hj => by omega⟩, ?_⟩
    rintro i ⟨k, hk, hi, hno⟩
    simp only at hi
    subst hi
    refine ⟨fun h3 => ⟨⟨by omega, h3⟩, fun h4 => ?_, fun h4 => ?_⟩, fun h3 => ?_⟩
    · rw [toNat_cast] at h4
      have hlt : k < r.length := by omega
      refine ww_1 (wi_4 g h' (.inr (hnl.2 ?_))) (by decide)
      rw [← h4, getD_of 0 hlt]
      exact List.getElem_mem _
    · have hw : IntKind.i64.wrap ((k : Int) + 1) = ((k + 1 : Nat) : Int) := wrap_succ (by omega)
      rw [toNat_cast] at h4
      rw [hw]
      refine ⟨⟨k + 1, by omega, rfl, fun j hj => ?_⟩, by simp only [toNat_cast]; omega⟩
      by_cases e : j = k
      · subst e; exact h4
      · exact hno j (by omega)
    · have hke : k = r.length := by omega
      subst hke
      have w0 : (0 : Int) = wrongI n x := wi_0 g h' (fun hh => hh.elim hne fun hh => by
        have := hnl.1 hh
        obtain ⟨j, hj, e⟩ := List.getElem_of_mem this
        exact hno j hj (by rw [getD_of 0 hj]; exact e))
      refine ⟨fun z => ∃ k : Nat, k ≤ l.length ∧ z.1 = (k : Int) ∧ ∀ j, j < k → (l.getD j zI).1 ≠ x.1, fun z => l.length - z.1.toNat, ⟨0, Nat.zero_le _, rfl, fun j hj => by omega⟩, ?_⟩
      rintro i ⟨k, hk, hi, hno⟩
      simp only at hi
      subst hi
      refine ⟨fun h3 => ⟨⟨by omega, h3⟩, fun h4 => ?_, fun h4 => ?_⟩, fun h3 => ?_⟩
      · rw [toNat_cast] at h4
        exact ww_8 w0 (hasId_of (by omega) h4)
      · have hw : IntKind.i64.wrap ((k : Int) + 1) = ((k + 1 : Nat) : Int) := wrap_succ (by omega)
        rw [toNat_cast] at h4
        rw [hw]
        refine ⟨⟨k + 1, by omega, rfl, fun j hj => ?_⟩, by simp only [toNat_cast]; omega⟩
        by_cases e : j = k
        · subst e; exact h4
        · exact hno j (by omega)
      · exact ww_0 w0 (hasId_no fun j hj => hno j (by omega))
  exact ⟨fun h => o1 (.inl h), fun a => ⟨fun h => o1 (.inr (.inl h)), fun b => ⟨fun h => o1 (.inr (.inr (.inl h))), fun c => ⟨fun d => ⟨fun e => o1 (.inr (.inr (.inr ⟨d, e⟩))), fun e => tail (f a b c (fun hh => hh.2 e))⟩, fun d => tail (f a b c (fun hh => hh.1 d))⟩⟩⟩⟩
theorem p29 : vc29 := by
  unfold vc29
  simp only [eq_self, true_and, and_true, decide_eq_true_eq, decide_eq_false_iff_not, beq_iff_eq, beq_eq_false_iff_ne, bne_iff_ne, bne_eq_false_iff_eq, Bool.not_eq_true', Bool.not_eq_false', ne_eq, imp_true_iff, implies_true]
  rintro ⟨a, b, ⟨⟩⟩
  simp only [true_imp_iff]
  unfold aheadI
  refine ⟨fun h => by rw [if_pos h], fun h => ⟨fun h2 => by rw [if_neg (fun hh => hh h), if_pos h2], fun h2 => by rw [if_neg (fun hh => hh h), if_neg (fun hh => hh h2)]⟩⟩
theorem take_snoc' {l : List Inl} {k : Nat} (h : k < l.length) : l.take (k + 1) = l.take k ++ [l.getD k zI] := by
  rw [List.take_succ_eq_append_getElem h, getD_of zI h]
theorem inI_t {f t : Int} {x : Inl} : inI f t x = true ↔ f ≤ x.2.1 ∧ x.2.1 ≤ t := by simp [inI]
theorem inI_f {f t : Int} {x : Inl} : inI f t x = false ↔ ¬ (f ≤ x.2.1 ∧ x.2.1 ≤ t) := by
  cases h : inI f t x with
  | true => have := inI_t.1 h; simp; omega
  | false =>
    refine ⟨fun _ h2 => ?_, fun _ => rfl⟩
    rw [inI_t.2 h2] at h
    cases h
end Go.Fr.C14
namespace Go.Fr.C14
open Go Go.Fr Go.Proofs
theorem p54 : vc54 := by
  unfold vc54
  simp only [eq_self, true_and, and_true, decide_eq_true_eq, decide_eq_false_iff_not, beq_iff_eq, beq_eq_false_iff_ne, bne_iff_ne, bne_eq_false_iff_eq, Bool.not_eq_true', Bool.not_eq_false', ne_eq, imp_true_iff, implies_true]
  rintro ⟨a, b, ⟨⟩⟩
  simp only [not_true, false_imp_iff, true_and, true_imp_iff]
  unfold cmpI
  refine ⟨fun h => by rw [if_pos h], fun h => ⟨fun h2 => by rw [if_neg h, if_pos h2], fun h2 => by rw [if_neg h, if_neg h2]⟩⟩
theorem firstNZ_drop {l : List Int} {k : Nat} (h : ∀ j, j < k → l.getD j 0 = 0) (hk : k ≤ l.length) : firstNZ l = firstNZ (l.drop k) := by
  induction k with
  | zero => rfl
  | succ k ih =>
    rw [ih (fun j hj => h j (by omega)) (by omega), drop_cons 0 (show k < l.length by omega)]
    show (if l.getD k 0 = 0 then firstNZ (l.drop (k + 1)) else l.getD k 0) = _
    rw [if_pos (h k (by omega))]
theorem p53 : vc53 := by
  unfold vc53
  simp only [eq_self, true_and, and_true, decide_eq_true_eq, decide_eq_false_iff_not, beq_iff_eq, beq_eq_false_iff_ne, bne_iff_ne, bne_eq_false_iff_eq, Bool.not_eq_true', Bool.not_eq_false', ne_eq, imp_true_iff, implies_true]
  rintro ⟨l, ⟨⟩⟩
  simp only [maxLen_eq, d3]
  intro hl
  refine ⟨fun z => ∃ k : Nat, k ≤ l.length ∧ z.1 = (k : Int) ∧ ∀ j, j < k → l.getD j 0 = 0, fun z => l.length - z.1.toNat, ⟨0, Nat.zero_le _, rfl, fun j hj => by omega⟩, ?_⟩
  rintro a ⟨k, hk, rfl, hz⟩
  simp only [toNat_cast]
  refine ⟨fun h1 => ⟨by omega, fun h2 => ?_, fun h2 => ?_⟩, fun h1 => ?_⟩
  · rw [firstNZ_drop hz hk, drop_cons 0 (show k < l.length by omega)]
    simp only [firstNZ]
    rw [if_neg h2]
  · have hw : IntKind.i64.wrap ((k : Int) + 1) = ((k + 1 : Nat) : Int) := wrap_succ (by omega)
    rw [hw, toNat_cast]
    refine ⟨⟨k + 1, by omega, rfl, fun j hj => ?_⟩, by omega⟩
    by_cases e : j = k
    · subst e; exact h2
    · exact hz j (by omega)
  · rw [firstNZ_drop hz hk, show k = l.length by omega, List.drop_length]
    rfl
theorem p25 : vc25 := by
  unfold vc25
  intro x _
  refine ⟨trivial, trivial, trivial, by simp [maxLen_eq], rfl⟩
theorem p63 : vc63 := by
  unfold vc63
  try simp only [eq_self, true_and, and_true, decide_eq_true_eq, decide_eq_false_iff_not, beq_iff_eq, beq_eq_false_iff_ne, bne_iff_ne, bne_eq_false_iff_eq, Bool.not_eq_true', Bool.not_eq_false', ne_eq, imp_true_iff, implies_true]
  rintro ⟨l, ⟨⟩⟩
  simp only [maxLen_eq]
  intro h c hc
  refine ⟨fun h1 => ?_, fun h1 => ⟨by omega, by omega, by simp⟩⟩
  exact (List.eq_nil_of_length_eq_zero (hc h1)).symm
theorem pO63 : vcO63 := by
  unfold vcO63
  try simp only [eq_self, true_and, and_true, decide_eq_true_eq, decide_eq_false_iff_not, beq_iff_eq, beq_eq_false_iff_ne, bne_iff_ne, bne_eq_false_iff_eq, Bool.not_eq_true', Bool.not_eq_false', ne_eq, imp_true_iff, implies_true]
  rintro ⟨l, ⟨⟩⟩
  simp only [maxLen_eq]
  intro h c hc
  refine ⟨fun h1 => ?_, fun h1 => ⟨by omega, by omega, by simp⟩⟩
  exact (List.eq_nil_of_length_eq_zero (hc h1)).symm
theorem p33 : vc33 := by
  unfold vc33
  try simp only [eq_self, true_and, and_true, decide_eq_true_eq, decide_eq_false_iff_not, beq_iff_eq, beq_eq_false_iff_ne, bne_iff_ne, bne_eq_false_iff_eq, Bool.not_eq_true', Bool.not_eq_false', ne_eq, imp_true_iff, implies_true]
  rintro ⟨s, ⟨⟩⟩
  simp only
  intro h
  cases s with
  | none => exact ⟨fun _ => rfl, fun h => by cases h⟩
  | some s => exact ⟨fun h => (by cases h), fun _ => ⟨rfl, h, rfl⟩⟩
theorem pO33 : vcO33 := by
  unfold vcO33
  try simp only [eq_self, true_and, and_true, decide_eq_true_eq, decide_eq_false_iff_not, beq_iff_eq, beq_eq_false_iff_ne, bne_iff_ne, bne_eq_false_iff_eq, Bool.not_eq_true', Bool.not_eq_false', ne_eq, imp_true_iff, implies_true]
  rintro ⟨s, ⟨⟩⟩
  simp only
  intro h
  cases s with
  | none => exact ⟨fun _ => rfl, fun h => by cases h⟩
  | some s => exact ⟨fun h => (by cases h), fun _ => ⟨rfl, h, rfl⟩⟩
theorem p32 : vc32 := by
  unfold vc32
  try simp only [eq_self, true_and, and_true, decide_eq_true_eq, decide_eq_false_iff_not, beq_iff_eq, beq_eq_false_iff_ne, bne_iff_ne, bne_eq_false_iff_eq, Bool.not_eq_true', Bool.not_eq_false', ne_eq, imp_true_iff, implies_true]
  rintro ⟨s, ⟨⟩⟩ -
  simp only
  cases s with
  | none => exact ⟨fun _ => rfl, fun h => by cases h⟩
  | some s => exact ⟨fun h => (by cases h), fun _ => ⟨rfl, rfl⟩⟩
theorem err_bad {n : Int} {seen : List Inl} {x : Inl} {r : List Inl} (h : wrongW n seen x ≠ 0) : errI n seen (x :: r) = wrongW n seen x := by
  show (if wrongW n seen x ≠ 0 then wrongW n seen x else errI n (seen ++ [x]) r) = _
  rw [if_pos h]
theorem err_on {n : Int} {seen : List Inl} {x : Inl} {r : List Inl} (h : wrongW n seen x = 0) : errI n seen (x :: r) = errI n (seen ++ [x]) r := by
  show (if wrongW n seen x ≠ 0 then wrongW n seen x else errI n (seen ++ [x]) r) = _
  rw [if_neg (by rw [h]; decide)]
theorem wrong_err {n : Int} {l : List Inl} {e : Int} (h0 : ¬ n < 0) (h1 : ¬ n > 1099511627776) (h2 : ¬ (l.length : Int) > 60) (he : errI n [] l = e) : e = wrongN n l := by
  unfold wrongN
  rw [if_neg (by omega), if_neg h2, he]
theorem new_err {n : Int} {l : List Inl} {e : Int} (he : e = wrongN n l) (hne : e ≠ 0) : (none, e, ()) = newI n l := by
  unfold newI
  rw [← he, if_neg hne]
theorem newW_err {n : Int} {l : List Inl} {e : Int} (he : e = wrongN n l) (hne : e ≠ 0) : (0, [], e, ()) = newW n l := by
  unfold newW
  rw [← he, if_neg hne]
theorem wrong_n {n : Int} {l : List Inl} (h : n < 0 ∨ n > 1099511627776) : (1 : Int) = wrongN n l := by
  unfold wrongN
  rw [if_pos h]
theorem wrong_5 {n : Int} {l : List Inl} (h0 : ¬ n < 0) (h1 : ¬ n > 1099511627776) (h2 : (l.length : Int) > 60) : (5 : Int) = wrongN n l := by
  unfold wrongN
  rw [if_neg (by omega), if_pos h2]
theorem errI_ids {n : Int} : (seen l : List Inl) → errI n seen l = 0 → (∀ x ∈ l, wrongI n x = 0 ∧ hasId x.1 seen = false) ∧ l.Pairwise (fun a b => a.1 ≠ b.1)
  | _, [], _ => ⟨fun x hx => (by cases hx), List.Pairwise.nil⟩
  | seen, x :: r, h => by
    by_cases hw : wrongW n seen x = 0
    · rw [err_on hw] at h
      have h1 : wrongI n x = 0 := by
        unfold wrongW at hw
        by_cases g : wrongI n x = 0
        · exact g
        · rw [if_pos g] at hw; exact hw
      have h2 : hasId x.1 seen = false := by
        unfold wrongW at hw
        rw [if_neg (by rw [h1]; decide)] at hw
        cases hc : hasId x.1 seen with
        | false => rfl
        | true => rw [hc, if_pos rfl] at hw; cases hw
      obtain ⟨g1, g2⟩ := errI_ids (seen ++ [x]) r h
      have part : ∀ y ∈ r, hasId y.1 seen = false ∧ x.1 ≠ y.1 := fun y hy => by
        have := (g1 y hy).2
        simp [hasId] at this
        refine ⟨?_, this.2⟩
        simp [hasId]
        exact this.1
      refine ⟨fun y hy => ?_, List.pairwise_cons.2 ⟨fun y hy => (part y hy).2, g2⟩⟩
      rcases List.mem_cons.1 hy with e | hy
      · subst e; exact ⟨h1, h2⟩
      · exact ⟨(g1 y hy).1, (part y hy).1⟩
    · rw [err_bad hw] at h
      exact absurd h hw
theorem ids_one {l : List Inl} (h : l.Pairwise (fun a b => a.1 ≠ b.1)) {x y : Inl} (hx : x ∈ l) (hy : y ∈ l) (e : x.1 = y.1) : x = y := by
  obtain ⟨i, hi, h1⟩ := List.getElem_of_mem hx
  obtain ⟨j, hj, h2⟩ := List.getElem_of_mem hy
  rcases Nat.lt_trichotomy i j with g | g | g
  · have := List.pairwise_iff_getElem.1 h i j hi hj g
    rw [h1, h2] at this
    exact absurd e this
  · subst g; rw [← h1, ← h2]
  · have := List.pairwise_iff_getElem.1 h j i hj hi g
    rw [h1, h2] at this
    exact absurd e.symm this
theorem one_way {l ys : List Inl} (h : l.Pairwise (fun a b => a.1 ≠ b.1)) (hp : ys.Perm l) (hs : ys.Pairwise (fun a b => ¬ cmpL b a < 0)) : ys = sortI l :=
  sort_one_way swoL (fun x hx y hy h1 h2 => ids_one h hx hy (alikeL h1 h2)) hp hs
theorem clean_ids {l : List Inl} (h : l.Pairwise (fun a b => a.1 ≠ b.1)) : (l.map cleanI).Pairwise (fun a b => a.1 ≠ b.1) := by
  rw [List.pairwise_map]
  exact h
def keysU (l : List Inl) : List (Int × Unit × Unit) := l.map fun x => (x.1, (), ())
theorem mget_keysU (i : Int) : (l : List Inl) → (mget t3 t62 i (keysU l) = none ↔ hasId i l = false) ∧ (Option.isSome (mget t3 t62 i (keysU l)) = true ↔ hasId i l = true)
  | [] => by simp [keysU, mget, hasId]
  | x :: r => by
    have ih := mget_keysU i r
    have e : mget t3 t62 i (keysU (x :: r)) = bif Ty.beq t3 i x.1 then some () else mget t3 t62 i (keysU r) := rfl
    rw [e]
    by_cases h : i = x.1
    · rw [show Ty.beq t3 i x.1 = true from by simp [Ty.beq, h]]
      simp [hasId, h]
    · rw [show Ty.beq t3 i x.1 = false from by simp [Ty.beq, h]]
      have hx : ¬ x.1 = i := fun hh => h hh.symm
      simp only [cond_false, hasId, List.any_cons, hx, decide_false, Bool.false_or]
      exact ih
theorem keysU_snoc {l : List Inl} {k : Nat} (h : k < l.length) : keysU (l.take (k + 1)) = keysU (l.take k) ++ [((l.getD k zI).1, (), ())] := by
  rw [take_snoc' h]
  simp [keysU]
theorem clean_snoc {l : List Inl} {k : Nat} (h : k < l.length) : (l.take (k + 1)).map cleanI = (l.take k).map cleanI ++ [((l.getD k zI).1, (l.getD k zI).2.1, (l.getD k zI).2.2.1, (l.getD k zI).2.2.2.1, clean (txt (l.getD k zI)), ())] := by
  rw [take_snoc' h, List.map_append]
  rfl
theorem p9 : vc9 := by
  unfold vc9
  simp only [eq_self, true_and, and_true, decide_eq_true_eq, decide_eq_false_iff_not, beq_iff_eq, beq_eq_false_iff_ne, bne_iff_ne, bne_eq_false_iff_eq, Bool.not_eq_true', Bool.not_eq_false', ne_eq, imp_true_iff, implies_true]
  rintro ⟨n, l, ⟨⟩⟩
  simp only [maxLen_eq, d42]
  rintro ⟨hlm, hsh⟩
  have w1 : (n < 0 ∨ n > 1099511627776) → (none, (1 : Int), ()) = newI n l := fun h => new_err (wrong_n h) (by decide)
  refine ⟨fun h0 => w1 (.inl h0), fun h0 => ⟨fun h1 => w1 (.inr h1), fun h1 => ⟨fun h2 => new_err (wrong_5 h0 h1 h2) (by decide), fun h2 => ?_⟩⟩⟩
  refine ⟨fun z => ∃ k : Nat, k ≤ l.length ∧ z.1 = (k : Int) ∧ z.2.1 = keysU (l.take k) ∧ z.2.2.1 = (l.take k).map cleanI ∧ errI n [] l = errI n (l.take k) (l.drop k), fun z => l.length - z.1.toNat, ⟨0, Nat.zero_le _, rfl, rfl, rfl, rfl⟩, ?_⟩
  rintro i m o ⟨k, hk, hi, hm, ho, he⟩
  simp only at hi hm ho
  subst hi hm
  have hol : o.length = k := by rw [ho]; simp; omega
  refine ⟨fun h3 => ?_, fun h3 => ?_⟩
  · have hk' : k < l.length := by omega
    have hd := drop_cons zI hk'
    have htk := take_snoc' hk'
    have hks := keysU_snoc hk'
    have hcs := clean_snoc hk'
    have hsx := hsh _ (List.getElem_mem hk')
    rw [← getD_of zI hk'] at hsx
    rw [hd] at he
    rw [toNat_cast]
    generalize hx : l.getD k zI = x at he htk hks hcs hsx ⊢
    have hwk : IntKind.i64.wrap ((k : Int) + 1) = ((k + 1 : Nat) : Int) := wrap_succ (by omega)
    obtain ⟨g1, g2⟩ := mget_keysU x.1 (l.take k)
    have et : x.2.2.2.2.1 = txt x := rfl
    rw [hwk, et]
    simp only [List.length_singleton, toNat_cast]
    have bad : ¬ wrongI n x = 0 → (none, wrongI n x, ()) = newI n l := fun h => by
      have e : wrongW n (l.take k) x = wrongI n x := (ww_1 rfl h).symm
      exact new_err (wrong_err h0 h1 h2 (he.trans ((err_bad (by rw [e]; exact h)).trans e))) h
    have same : wrongI n x = 0 → Option.isSome (mget t3 t62 x.1 (keysU (l.take k))) = true → (none, (8 : Int), ()) = newI n l := fun h hs => by
      have e : wrongW n (l.take k) x = 8 := (ww_8 h.symm (g2.1 hs)).symm
      exact new_err (wrong_err h0 h1 h2 (he.trans ((err_bad (by rw [e]; decide)).trans e))) (by decide)
    refine ⟨⟨by omega, h3⟩, by omega, bad, fun h4 => ⟨same h4, fun h5 => ?_⟩⟩
    have hno : hasId x.1 (l.take k) = false := by
      cases hc : hasId x.1 (l.take k) with
      | false => rfl
      | true => rw [g2.2 hc] at h5; cases h5
    have Zf : ∃ k' : Nat, k' ≤ l.length ∧ ((k + 1 : Nat) : Int) = (k' : Int) ∧ keysU (l.take k) ++ [(x.1, (), ())] = keysU (l.take k') ∧ o ++ [(x.1, x.2.1, x.2.2.1, x.2.2.2.1, clean (txt x), ())] = (l.take k').map cleanI ∧ errI n [] l = errI n (l.take k') (l.drop k') :=
      ⟨k + 1, hk', rfl, hks.symm, by rw [hcs, ho], by rw [he, err_on (ww_0 h4.symm hno).symm, htk]⟩
    have f1 : (o.length + 1) * 48 ≤ 140737488355328 := by omega
    have f2 : o.length + 1 ≤ 9223372036854775807 := by omega
    have f3 : l.length - (k + 1) < l.length - k := by omega
    exact ⟨g1.2 hno, by omega, ⟨f1, f2, Zf, f3⟩, ⟨f1, f2, Zf, f3⟩, f1, f2, Zf, f3⟩
  · have hke : k = l.length := by omega
    subst hke
    rw [List.take_length, List.drop_length] at he
    rw [List.take_length] at ho
    have he : errI n [] l = 0 := he
    refine ⟨by omega, ?_⟩
    rintro ys ⟨hp, hs⟩
    have hw : wrongN n l = 0 := (wrong_err h0 h1 h2 he).symm
    unfold newI
    rw [ho] at hp
    rw [if_pos hw, ← one_way (clean_ids (errI_ids [] l he).2) hp hs]
theorem insI1_lt {x y : Inl} {r : List Inl} (h : aheadI x y = true) : insI1 x (y :: r) = x :: y :: r := by
  unfold insI1
  rw [if_pos h]
theorem insI1_ge {x y : Inl} {r : List Inl} (h : aheadI x y = false) : insI1 x (y :: r) = y :: insI1 x r := by
  conv => lhs; unfold insI1
  rw [if_neg (by rw [h]; decide)]
theorem insI1_by (x : Inl) : (l : List Inl) → insI1 x l = insBy cmpL x l
  | [] => rfl
  | y :: r => by
    have e : insBy cmpL x (y :: r) = if cmpL x y < 0 then x :: y :: r else y :: insBy cmpL x r := rfl
    rw [e, ← insI1_by x r]
    by_cases h : cmpL x y < 0
    · rw [if_pos h, insI1_lt (ahead_lt.2 h)]
    · rw [if_neg h, insI1_ge (by cases hc : aheadI x y with | false => rfl | true => exact absurd (ahead_lt.1 hc) h)]
theorem insI_by (l : List Inl) : insI l = l.foldl (fun o x => insBy cmpL x o) [] := by
  unfold insI
  congr 1
  funext o x
  exact insI1_by x o
theorem insI1_len (x : Inl) (l : List Inl) : (insI1 x l).length = l.length + 1 := by
  rw [insI1_by]
  have := (insBy_perm (cf := cmpL) x l).length_eq
  simpa using this
theorem insI_perm (l : List Inl) : (insI l).Perm l ∧ (insI l).Pairwise (fun a b => ¬ cmpL b a < 0) := by
  rw [insI_by]
  have := ins_all swoL l [] List.Pairwise.nil
  simpa using this
theorem insI_len (l : List Inl) : (insI l).length = l.length := (insI_perm l).1.length_eq
theorem insI_sort {l : List Inl} (h : l.Pairwise (fun a b => a.1 ≠ b.1)) : insI l = sortI l := one_way h (insI_perm l).1 (insI_perm l).2
theorem insI_snoc {l : List Inl} {k : Nat} (h : k < l.length) : insI ((l.take (k + 1)).map cleanI) = insI1 (cleanI (l.getD k zI)) (insI ((l.take k).map cleanI)) := by
  rw [take_snoc' h, List.map_append]
  simp [insI]
theorem p10 : vc10 := by
  unfold vc10
  simp only [eq_self, true_and, and_true, decide_eq_true_eq, decide_eq_false_iff_not, beq_iff_eq, beq_eq_false_iff_ne, bne_iff_ne, bne_eq_false_iff_eq, Bool.not_eq_true', Bool.not_eq_false', ne_eq, imp_true_iff, implies_true]
  rintro ⟨n, l, ⟨⟩⟩
  simp only [maxLen_eq, d42]
  rintro ⟨hlm, hsh⟩
  have w1 : (n < 0 ∨ n > 1099511627776) → ((0 : Int), [], (1 : Int), ()) = newW n l := fun h => newW_err (wrong_n h) (by decide)
  refine ⟨fun h0 => w1 (.inl h0), fun h0 => ⟨fun h1 => w1 (.inr h1), fun h1 => ⟨fun h2 => newW_err (wrong_5 h0 h1 h2) (by decide), fun h2 => ?_⟩⟩⟩
  refine ⟨fun z => ∃ k : Nat, k ≤ l.length ∧ z.2.1 = (k : Int) ∧ z.1 = insI ((l.take k).map cleanI) ∧ errI n [] l = errI n (l.take k) (l.drop k), fun z => l.length - z.2.1.toNat, ⟨0, Nat.zero_le _, rfl, rfl, rfl⟩, ?_⟩
  rintro out i ⟨j, hk, hi, ho, he⟩
  simp only at hi ho
  subst hi
  refine ⟨fun h3 => ?_, fun h3 => ?_⟩
  · have hk' : j < l.length := by omega
    have hd := drop_cons zI hk'
    have htk := take_snoc' hk'
    have hlt : (l.take j).length = j := by simp; omega
    have hol : out.length = j := by rw [ho, insI_len, List.length_map, hlt]
    have hlast := insI_snoc hk'
    rw [← ho] at hlast
    have hsx := hsh _ (List.getElem_mem hk')
    rw [← getD_of zI hk'] at hsx
    rw [hd] at he
    have hwk : IntKind.i64.wrap ((j : Int) + 1) = ((j + 1 : Nat) : Int) := wrap_succ (by omega)
    rw [toNat_cast, hol, hlt, hwk]
    generalize l.getD j zI = x at he htk hlast hsx ⊢
    have dl := decL_len (txt x)
    have ec : ((x.1, x.2.1, x.2.2.1, x.2.2.2.1, encode (decodeL x.2.2.2.2.1), ()) : Inl) = cleanI x := rfl
    have et : x.2.2.2.2.1 = txt x := rfl
    rw [ec, et]
    refine ⟨⟨by omega, h3⟩, ⟨by omega, by omega⟩, ⟨by omega, by omega⟩, fun h4 => ?_, fun h4 => ⟨by omega, by omega, ?_⟩⟩
    · exact newW_err (wrong_err h0 h1 h2 (he.trans (err_bad h4))) h4
    have he2 : errI n [] l = errI n (l.take (j + 1)) (l.drop (j + 1)) := by rw [he, err_on h4, htk]
    generalize cleanI x = x at hlast ⊢
    have fin : ∀ o : List Inl, o = insI1 x out → (∃ k' : Nat, k' ≤ l.length ∧ ((j + 1 : Nat) : Int) = (k' : Int) ∧ o = insI ((l.take k').map cleanI) ∧ errI n [] l = errI n (l.take k') (l.drop k')) ∧ l.length - (((j + 1 : Nat) : Int)).toNat < l.length - ((j : Int)).toNat :=
      fun o hoo => ⟨⟨j + 1, hk', rfl, by rw [hlast, hoo], he2⟩, by rw [toNat_cast, toNat_cast]; omega⟩
    refine ⟨fun z => ∃ m : Nat, m ≤ j ∧ z.2.2.1 = (m : Int) ∧ z.1.length ≤ j + 1 ∧ (z.2.1 = true → z.1 ++ out.drop m = insI1 x out) ∧ (z.2.1 = false → z.1 = out.take m ∧ insI1 x out = out.take m ++ insI1 x (out.drop m)), fun z => j - z.2.2.1.toNat,
      ⟨0, Nat.zero_le _, rfl, Nat.zero_le _, fun h => (by cases h), fun _ => ⟨rfl, rfl⟩⟩, ?_⟩
    rintro nx put i ⟨m, hm, hi, hnl, ht, hf⟩
    simp only at hi hnl ht hf
    subst hi
    refine ⟨fun h8 => ?_, fun h8 => ?_⟩
    · have hm' : m < out.length := by omega
      have hdm := drop_cons zI hm'
      have htm := take_snoc' (l := out) hm'
      rw [toNat_cast]
      generalize hy : out.getD m zI = y at hdm htm ⊢
      have hwm : IntKind.i64.wrap ((m : Int) + 1) = ((m + 1 : Nat) : Int) := wrap_succ (by omega)
      rw [hwm]
      have nlen : put = false → nx.length = m := fun h => by rw [(hf h).1]; simp; omega
      have tlen : put = true → nx.length = m + 1 := fun h => by
        have := congrArg List.length (ht h)
        rw [insI1_len, List.length_append, List.length_drop] at this
        omega
      have goPut : put = false → aheadI x y = true → (∃ m' : Nat, m' ≤ j ∧ ((m + 1 : Nat) : Int) = (m' : Int) ∧ (nx ++ [x] ++ [y]).length ≤ j + 1 ∧ (True → nx ++ [x] ++ [y] ++ out.drop m' = insI1 x out) ∧ (true = false → nx ++ [x] ++ [y] = out.take m' ∧ insI1 x out = out.take m' ++ insI1 x (out.drop m'))) ∧ j - (((m + 1 : Nat) : Int)).toNat < j - ((m : Int)).toNat := by
        intro hp hl
        obtain ⟨q1, q2⟩ := hf hp
        refine ⟨⟨m + 1, by omega, rfl, by have := nlen hp; simp; omega, fun _ => ?_, fun h => by cases h⟩, by rw [toNat_cast, toNat_cast]; omega⟩
        rw [q2, hdm, insI1_lt hl, q1]
        simp
      have goOn : put = false → aheadI x y = false → (∃ m' : Nat, m' ≤ j ∧ ((m + 1 : Nat) : Int) = (m' : Int) ∧ (nx ++ [y]).length ≤ j + 1 ∧ (put = true → nx ++ [y] ++ out.drop m' = insI1 x out) ∧ (put = false → nx ++ [y] = out.take m' ∧ insI1 x out = out.take m' ++ insI1 x (out.drop m'))) ∧ j - (((m + 1 : Nat) : Int)).toNat < j - ((m : Int)).toNat := by
        intro hp hl
        obtain ⟨q1, q2⟩ := hf hp
        refine ⟨⟨m + 1, by omega, rfl, by have := nlen hp; simp; omega, fun h => (by rw [hp] at h; cases h), fun _ => ⟨by rw [htm, q1], ?_⟩⟩, by rw [toNat_cast, toNat_cast]; omega⟩
        rw [q2, hdm, insI1_ge hl, htm]
        simp
      have goTail : put = true → (∃ m' : Nat, m' ≤ j ∧ ((m + 1 : Nat) : Int) = (m' : Int) ∧ (nx ++ [y]).length ≤ j + 1 ∧ (put = true → nx ++ [y] ++ out.drop m' = insI1 x out) ∧ (put = false → nx ++ [y] = out.take m' ∧ insI1 x out = out.take m' ++ insI1 x (out.drop m'))) ∧ j - (((m + 1 : Nat) : Int)).toNat < j - ((m : Int)).toNat := by
        intro hp
        refine ⟨⟨m + 1, by omega, rfl, by have := tlen hp; simp; omega, fun _ => ?_, fun h => (by rw [hp] at h; cases h)⟩, by rw [toNat_cast, toNat_cast]; omega⟩
        rw [← ht hp, hdm]
        simp
      simp only [List.length_append, List.length_singleton, List.length_cons, List.length_nil]
      simp only [List.length_append, List.length_singleton, List.length_cons, List.length_nil] at goPut goOn goTail
      refine ⟨⟨by omega, h8⟩, fun h9 => ⟨fun h10 => ⟨by omega, by omega, by omega, by omega, goPut h9 h10⟩, fun h10 => ⟨by omega, by omega, goOn h9 h10⟩⟩, fun h9 => ⟨by omega, by omega, goTail h9⟩⟩
    · have hmj : m = out.length := by omega
      have hm2 : m = j := by omega
      subst hm2
      refine ⟨fun h9 => ?_, fun h9 => ?_⟩
      · obtain ⟨q1, q2⟩ := hf h9
        have e1 : nx ++ [x] = insI1 x out := by
          rw [q2, q1, hmj, List.drop_length]
          rfl
        refine ⟨by simp; omega, by simp; omega, ?_⟩
        exact fin _ e1
      · have e1 : nx = insI1 x out := by
          rw [← ht h9, hmj, List.drop_length, List.append_nil]
        exact fin _ e1
  · have hke : j = l.length := by omega
    subst hke
    rw [List.take_length] at ho he
    rw [List.drop_length] at he
    have hw : wrongN n l = 0 := (wrong_err h0 h1 h2 he).symm
    unfold newW
    rw [if_pos hw, ho]
theorem p44 : vc44 := by
  unfold vc44
  simp only [eq_self, true_and, and_true, decide_eq_true_eq, decide_eq_false_iff_not, beq_iff_eq, beq_eq_false_iff_ne, bne_iff_ne, bne_eq_false_iff_eq, Bool.not_eq_true', Bool.not_eq_false', ne_eq, imp_true_iff, implies_true]
  rintro ⟨s, f, t, ⟨⟩⟩
  simp only [maxLen_eq, d42]
  intro hl
  refine ⟨hl, ?_⟩
  generalize allI s = xs at hl ⊢
  have second : ∀ (a : List Inl) (i j : Int), (∃ i' j' : Nat, i = (i' : Int) ∧ j = (j' : Int) ∧ DelI (inI f t) zI xs a i' j') →
      (j < (a.length : Int) → (0 ≤ j ∧ j < (a.length : Int)) ∧
        (inI f t (a.getD j.toNat zI) = true → (0 ≤ i ∧ i < (a.length : Int)) ∧ (∃ i' j' : Nat, IntKind.i64.wrap (i + 1) = (i' : Int) ∧ IntKind.i64.wrap (j + 1) = (j' : Int) ∧ DelI (inI f t) zI xs (a.set i.toNat (a.getD j.toNat zI)) i' j') ∧ xs.length - (IntKind.i64.wrap (j + 1)).toNat < xs.length - j.toNat) ∧
        (inI f t (a.getD j.toNat zI) = false → (∃ i' j' : Nat, i = (i' : Int) ∧ IntKind.i64.wrap (j + 1) = (j' : Int) ∧ DelI (inI f t) zI xs a i' j') ∧ xs.length - (IntKind.i64.wrap (j + 1)).toNat < xs.length - j.toNat)) ∧
      (¬ j < (a.length : Int) → (0 ≤ i ∧ i < (a.length : Int)) ∧ (0 ≤ i ∧ i ≤ ((a.take i.toNat ++ List.replicate (a.length - i.toNat) zI).length : Int)) ∧ (a.take i.toNat ++ List.replicate (a.length - i.toNat) zI).take i.toNat = xs.filter (inI f t)) := by
    rintro a i j ⟨i', j', rfl, rfl, hd⟩
    have hd' := hd
    obtain ⟨h1, h2, h3, h4, h5⟩ := hd'
    refine ⟨fun h => ?_, fun h => ?_⟩
    · have hw : IntKind.i64.wrap ((j' : Int) + 1) = ((j' + 1 : Nat) : Int) := wrap_succ (by omega)
      have hw2 : IntKind.i64.wrap ((i' : Int) + 1) = ((i' + 1 : Nat) : Int) := wrap_succ (by omega)
      rw [toNat_cast, toNat_cast, hw, hw2]
      have hlt : j' < xs.length := by omega
      refine ⟨⟨by omega, h⟩, fun g => ⟨⟨by omega, by omega⟩, ⟨i' + 1, j' + 1, rfl, rfl, hd.keep hlt g⟩, by rw [toNat_cast]; omega⟩, fun g => ⟨⟨i', j' + 1, rfl, rfl, hd.drop hlt g⟩, by rw [toNat_cast]; omega⟩⟩
    · have hj : j' = xs.length := by omega
      subst hj
      rw [toNat_cast, List.length_append, List.length_take, List.length_replicate]
      exact ⟨⟨by omega, by omega⟩, ⟨by omega, by omega⟩, hd.last zI⟩
  refine ⟨fun z => ∃ k : Nat, k ≤ xs.length ∧ z.1 = (k : Int) ∧ ∀ j, j < k → inI f t (xs.getD j zI) = true, fun z => xs.length - z.1.toNat, ⟨0, Nat.zero_le _, rfl, fun j hj => by omega⟩, ?_⟩
  rintro i ⟨k, hk, hi, hs⟩
  simp only at hi
  subst hi
  refine ⟨fun h => ?_, fun h => ?_⟩
  · have hlt : k < xs.length := by omega
    have hw : IntKind.i64.wrap ((k : Int) + 1) = ((k + 1 : Nat) : Int) := wrap_succ (by omega)
    rw [toNat_cast, hw]
    have next : inI f t (xs.getD k zI) = true → (∃ k' : Nat, k' ≤ xs.length ∧ ((k + 1 : Nat) : Int) = (k' : Int) ∧ ∀ j, j < k' → inI f t (xs.getD j zI) = true) ∧ xs.length - (((k + 1 : Nat) : Int)).toNat < xs.length - (k : Int).toNat := fun g =>
      ⟨⟨k + 1, hlt, rfl, fun j hj => by
        by_cases e : j = k
        · subst e; exact g
        · exact hs j (by omega)⟩, by rw [toNat_cast, toNat_cast]; omega⟩
    have out : inI f t (xs.getD k zI) = false → ∃ (Z : List Inl × Int × Int × Unit → Prop), ∃ (μ : List Inl × Int × Int × Unit → Nat), Z (xs, (k : Int), ((k + 1 : Nat) : Int), ()) ∧ ∀ (a : List Inl) (i j : Int), Z (a, i, j, ()) →
        (j < (a.length : Int) → (0 ≤ j ∧ j < (a.length : Int)) ∧
          ((a.getD j.toNat zI).2.1 < f → (True → Z (a, i, IntKind.i64.wrap (j + 1), ()) ∧ μ (a, i, IntKind.i64.wrap (j + 1), ()) < μ (a, i, j, ()))) ∧
          (¬ (a.getD j.toNat zI).2.1 < f → (¬ (a.getD j.toNat zI).2.1 > t → (0 ≤ i ∧ i < (a.length : Int)) ∧ Z (a.set i.toNat (a.getD j.toNat zI), IntKind.i64.wrap (i + 1), IntKind.i64.wrap (j + 1), ()) ∧ μ (a.set i.toNat (a.getD j.toNat zI), IntKind.i64.wrap (i + 1), IntKind.i64.wrap (j + 1), ()) < μ (a, i, j, ())) ∧
            ((a.getD j.toNat zI).2.1 > t → Z (a, i, IntKind.i64.wrap (j + 1), ()) ∧ μ (a, i, IntKind.i64.wrap (j + 1), ()) < μ (a, i, j, ())))) ∧
        (¬ j < (a.length : Int) → (0 ≤ i ∧ i < (a.length : Int)) ∧ (0 ≤ i ∧ i ≤ ((a.take i.toNat ++ List.replicate (a.length - i.toNat) zI).length : Int)) ∧ (a.take i.toNat ++ List.replicate (a.length - i.toNat) zI).take i.toNat = xs.filter (inI f t)) := fun g => by
      refine ⟨fun z => ∃ i' j' : Nat, z.2.1 = (i' : Int) ∧ z.2.2.1 = (j' : Int) ∧ DelI (inI f t) zI xs z.1 i' j', fun z => xs.length - z.2.2.1.toNat, ⟨k, k + 1, rfl, rfl, DelI.init hlt hs g⟩, fun a i j hz => ?_⟩
      obtain ⟨s1, s2⟩ := second a i j hz
      refine ⟨fun h => ?_, s2⟩
      obtain ⟨q1, q2, q3⟩ := s1 h
      exact ⟨q1, fun g1 => fun _ => q3 (inI_f.2 (by omega)), fun g1 => ⟨fun g2 => q2 (inI_t.2 (by omega)), fun g2 => q3 (inI_f.2 (by omega))⟩⟩
    refine ⟨⟨by omega, h⟩, fun g1 => ⟨fun g2 => by omega, fun _ => ?_⟩, fun g1 => ⟨fun g2 => ⟨fun g3 => by omega, fun _ => ?_⟩, fun g2 => next (inI_t.2 (by omega))⟩⟩
    · obtain ⟨Z, μ, z0, hz⟩ := out (inI_f.2 (by omega))
      refine ⟨Z, μ, z0, fun a i j hZ => ?_⟩
      obtain ⟨s1, s2⟩ := hz a i j hZ
      exact ⟨fun h => ⟨(s1 h).1, fun g => ⟨fun hh => absurd hh (by decide), (s1 h).2.1 g⟩, (s1 h).2.2⟩, s2⟩
    · obtain ⟨Z, μ, z0, hz⟩ := out (inI_f.2 (by omega))
      refine ⟨Z, μ, z0, fun a i j hZ => ?_⟩
      obtain ⟨s1, s2⟩ := hz a i j hZ
      exact ⟨fun h => ⟨(s1 h).1, fun g => ⟨fun hh => absurd hh (by decide), (s1 h).2.1 g⟩, (s1 h).2.2⟩, s2⟩
  · have hke : k = xs.length := by omega
    subst hke
    have hfw := filter_whole (f := inI f t) (d := zI) hs
    refine ⟨fun _ => hfw.symm, fun h => absurd trivial h⟩
end Go.Fr.C14
namespace Go.Fr.C14
open Go Go.Fr Go.Proofs
theorem wi_zero {n : Int} {x : Inl} : wrongI n x = 0 ↔ ¬ (x.1 < 1 ∨ x.2.1 < 0 ∨ x.2.1 > n ∨ (x.2.2.1 ≠ 0 ∧ x.2.2.1 ≠ 1)) ∧ ¬ ((decodeL (txt x)).length : Int) > 40 ∧ ¬ ((txt x).size = 0 ∨ hasNL (txt x) = true) := by
  by_cases h1 : x.1 < 1 ∨ x.2.1 < 0 ∨ x.2.1 > n ∨ (x.2.2.1 ≠ 0 ∧ x.2.2.1 ≠ 1)
  · rw [← wi_1 h1]
    constructor
    · intro h; cases h
    · rintro ⟨h, _⟩; exact absurd h1 h
  · by_cases h2 : ((decodeL (txt x)).length : Int) > 40
    · rw [← wi_2 h1 h2]
      constructor
      · intro h; cases h
      · rintro ⟨_, h, _⟩; exact absurd h2 h
    · by_cases h3 : (txt x).size = 0 ∨ hasNL (txt x) = true
      · rw [← wi_4 h1 h2 h3]
        constructor
        · intro h; cases h
        · rintro ⟨_, _, h⟩; exact absurd h3 h
      · rw [← wi_0 h1 h2 h3]
        exact ⟨fun _ => ⟨h1, h2, h3⟩, fun _ => rfl⟩
theorem wi_at {n : Int} {x : Inl} (h : wrongI n x = 0) : 1 ≤ x.1 ∧ 0 ≤ x.2.1 ∧ x.2.1 ≤ n ∧ (x.2.2.1 = 0 ∨ x.2.2.1 = 1) := by
  have := (wi_zero.1 h).1
  omega
theorem nl_clean (s : ByteArray) : hasNL (clean s) = hasNL s := by
  rw [Bool.eq_iff_iff, nl_dec, nl_dec, dec_clean]
theorem size_clean (s : ByteArray) : (clean s).size = 0 ↔ s.size = 0 := by
  rw [← dec_none, ← dec_none, dec_clean]
theorem wi_clean {n : Int} {x : Inl} (h : wrongI n x = 0) : wrongI n (cleanI x) = 0 := by
  obtain ⟨h1, h2, h3⟩ := wi_zero.1 h
  refine wi_zero.2 ⟨h1, ?_, ?_⟩
  · show ¬ ((decodeL (clean (txt x))).length : Int) > 40
    rw [dec_clean]
    exact h2
  · show ¬ ((clean (txt x)).size = 0 ∨ hasNL (clean (txt x)) = true)
    rw [nl_clean, size_clean]
    exact h3
theorem clean_small {n : Int} {x : Inl} (h : wrongI n x = 0) : (txt (cleanI x)).size ≤ 160 := by
  have h2 := (wi_zero.1 h).2.1
  have := encode_size (decodeL (txt x))
  show (encode (decodeL (txt x))).size ≤ 160
  omega
theorem clean_twice (x : Inl) : cleanI (cleanI x) = cleanI x := by
  show (x.1, x.2.1, x.2.2.1, x.2.2.2.1, clean (clean (txt x)), ()) = cleanI x
  rw [clean_clean]
  rfl
theorem errI_zero {n : Int} : (seen l : List Inl) → (∀ x ∈ l, wrongI n x = 0 ∧ hasId x.1 seen = false) → l.Pairwise (fun a b => a.1 ≠ b.1) → errI n seen l = 0
  | _, [], _, _ => rfl
  | seen, x :: r, h, hp => by
    obtain ⟨h1, h2⟩ := h x (List.mem_cons_self ..)
    obtain ⟨p1, p2⟩ := List.pairwise_cons.1 hp
    rw [err_on (ww_0 h1.symm h2).symm]
    refine errI_zero _ r (fun y hy => ⟨(h y (List.mem_cons_of_mem _ hy)).1, ?_⟩) p2
    have g := (h y (List.mem_cons_of_mem _ hy)).2
    simp [hasId] at g ⊢
    exact ⟨g, p1 y hy⟩
theorem wrong_zero {n : Int} {l : List Inl} : wrongN n l = 0 ↔ (0 ≤ n ∧ n ≤ 1099511627776) ∧ (l.length : Int) ≤ 60 ∧ (∀ x ∈ l, wrongI n x = 0) ∧ l.Pairwise (fun a b => a.1 ≠ b.1) := by
  unfold wrongN
  by_cases h1 : n < 0 ∨ n > 1099511627776
  · rw [if_pos h1]
    constructor
    · intro h; cases h
    · intro h; omega
  · rw [if_neg h1]
    by_cases h2 : (l.length : Int) > 60
    · rw [if_pos h2]
      constructor
      · intro h; cases h
      · intro h; omega
    · rw [if_neg h2]
      constructor
      · intro h
        have := errI_ids [] l h
        exact ⟨by omega, by omega, fun x hx => (this.1 x hx).1, this.2⟩
      · rintro ⟨_, _, h3, h4⟩
        exact errI_zero [] l (fun x hx => ⟨h3 x hx, rfl⟩) h4
theorem sort_perm (l : List Inl) : (sortI l).Perm l := sortBy_perm l
theorem sort_len (l : List Inl) : (sortI l).length = l.length := (sort_perm l).length_eq
theorem ids_perm {l m : List Inl} (h : l.Perm m) (hp : l.Pairwise (fun a b => a.1 ≠ b.1)) : m.Pairwise (fun a b => a.1 ≠ b.1) := h.pairwise hp (fun h e => h e.symm)
theorem wrong_perm {n : Int} {l m : List Inl} (h : l.Perm m) (hw : wrongN n l = 0) : wrongN n m = 0 := by
  obtain ⟨h1, h2, h3, h4⟩ := wrong_zero.1 hw
  exact wrong_zero.2 ⟨h1, by rw [← h.length_eq]; exact h2, fun x hx => h3 x (h.mem_iff.2 hx), ids_perm h h4⟩
theorem wrong_clean {n : Int} {l : List Inl} (hw : wrongN n l = 0) : wrongN n (l.map cleanI) = 0 := by
  obtain ⟨h1, h2, h3, h4⟩ := wrong_zero.1 hw
  refine wrong_zero.2 ⟨h1, by rw [List.length_map]; exact h2, fun y hy => ?_, clean_ids h4⟩
  obtain ⟨x, hx, rfl⟩ := List.mem_map.1 hy
  exact wi_clean (h3 x hx)
theorem sort_perm_eq {l m : List Inl} (h : l.Perm m) (hp : l.Pairwise (fun a b => a.1 ≠ b.1)) : sortI l = sortI m := by
  refine one_way (ids_perm h hp) ((sort_perm l).trans h) ?_
  rw [← insI_sort hp]
  exact (insI_perm l).2
theorem sort_id {l : List Inl} (hp : l.Pairwise (fun a b => a.1 ≠ b.1)) (hs : l.Pairwise (fun a b => ¬ cmpL b a < 0)) : sortI l = l := (one_way hp (List.Perm.refl _) hs).symm
theorem sort_sorted {l : List Inl} (hp : l.Pairwise (fun a b => a.1 ≠ b.1)) : (sortI l).Pairwise (fun a b => ¬ cmpL b a < 0) := by
  rw [← insI_sort hp]
  exact (insI_perm l).2
theorem new_fst {n : Int} {l : List Inl} (h : wrongN n l = 0) : newI n l = (some (n, sortI (l.map cleanI), ()), 0, ()) := by rw [newI, if_pos h]
theorem new_bad {n : Int} {l : List Inl} (h : wrongN n l ≠ 0) : newI n l = (none, wrongN n l, ()) := by rw [newI, if_neg h]
theorem newW_fst {n : Int} {l : List Inl} (h : wrongN n l = 0) : newW n l = (n, sortI (l.map cleanI), 0, ()) := by
  rw [newW, if_pos h, insI_sort (clean_ids (wrong_zero.1 h).2.2.2)]
theorem newW_bad {n : Int} {l : List Inl} (h : wrongN n l ≠ 0) : newW n l = (0, [], wrongN n l, ()) := by rw [newW, if_neg h]
def Made (s : Option ISet) (w : WSet) : Prop := ∃ n L, s = some (n, L, ()) ∧ w = (n, L, 0, ()) ∧ wrongN n L = 0 ∧ L.map cleanI = L ∧ L.Pairwise (fun a b => ¬ cmpL b a < 0)
theorem made_new {n : Int} {l : List Inl} (h : wrongN n l = 0) : Made (newI n l).1 (newW n l) := by
  rw [new_fst h, newW_fst h]
  have h2 := wrong_clean h
  have ids := clean_ids (wrong_zero.1 h).2.2.2
  refine ⟨n, _, rfl, rfl, wrong_perm (sort_perm _).symm h2, ?_, sort_sorted ids⟩
  conv => rhs; rw [← List.map_id (sortI (l.map cleanI))]
  refine List.map_congr_left fun x hx => ?_
  obtain ⟨y, _, rfl⟩ := List.mem_map.1 ((sort_perm _).mem_iff.1 hx)
  exact clean_twice y
theorem nodup_pw {l : List Inl} : ((l.map (·.1)).Nodup) ↔ l.Pairwise (fun a b => a.1 ≠ b.1) := by
  unfold List.Nodup
  rw [List.pairwise_map]
theorem made_ok {s : Option ISet} {w : WSet} (h : Made s w) : s.isNone = false ∧ okI s ∧ okW w ∧ w.1 = lenI s ∧ w.2.1 = allI s ∧ w.2.2.1 = 0 ∧ (allI s).length ≤ 60 ∧ (∀ m ∈ allI s, (0 : Int) ≤ m.2.1 ∧ m.2.1 ≤ (1099511627776 : Int)) := by
  obtain ⟨n, L, rfl, rfl, hw, hc, hs⟩ := h
  obtain ⟨h1, h2, h3, h4⟩ := wrong_zero.1 hw
  have sh : shortL L := fun x hx => by
    have : cleanI x ∈ L.map cleanI := List.mem_map.2 ⟨x, hx, rfl⟩
    obtain ⟨y, hy, e⟩ := List.mem_map.1 (by rw [hc]; exact hx : x ∈ L.map cleanI)
    rw [← e]
    have := clean_small (h3 y hy)
    omega
  have hl : L.length ≤ 60 := by omega
  refine ⟨rfl, ⟨?_, sh, nodup_pw.2 h4, h1.1, h1.2⟩, ⟨?_, sh, h1.1, h1.2⟩, rfl, rfl, rfl, hl, fun m hm => ?_⟩
  · show L.length ≤ 10000; omega
  · show L.length ≤ 10000; omega
  · have := wi_at (h3 m hm)
    omega
end Go.Fr.C14
namespace Go.Fr.C14
open Go Go.Fr Go.Proofs
theorem getD_in {α : Type} (d : α) {l : List α} {i : Nat} (h : i < l.length) : l.getD i d ∈ l := by
  rw [List.getD_eq_getElem?_getD, List.getElem?_eq_getElem h]
  exact List.getElem_mem h
theorem wf_height : {h : Nat} → {top : Bool} → {n : Nd} → Wf h top n → heightOf n = (h : Int) ∧ 1 ≤ h ∧ n ≠ .nil
  | 0, _, _, e => e.elim
  | _ + 1, _, .nil, e => e.elim
  | h + 1, _, .leaf a, e => by
    have : h = 0 := e.1
    subst this
    exact ⟨rfl, by omega, fun e => by cases e⟩
  | h + 1, _, .inner ks b, e => ⟨e.2.2.2.1, by omega, fun e => by cases e⟩
theorem wf_top : {h : Nat} → {n : Nd} → Wf h false n → Wf h true n
  | 0, _, e => e
  | _ + 1, .nil, e => e
  | h + 1, .leaf a, e => ⟨e.1, by have := e.2.1; simp at this ⊢; omega, e.2.2⟩
  | h + 1, .inner ks b, e => ⟨e.1, by have := e.2.1; simp at this ⊢; omega, e.2.2⟩
theorem wf_any {h : Nat} {top : Bool} {n : Nd} (e : Wf h top n) : Wf h true n := by
  cases top with
  | true => exact e
  | false => exact wf_top e
theorem itemsF_eq : (h : Nat) → (top : Bool) → (n : Nd) → (m m' : Nat) → Wf h top n → h ≤ m → h ≤ m' → itemsF m n = itemsF m' n
  | 0, _, _, _, _, e, _, _ => e.elim
  | _ + 1, _, .nil, _, _, e, _, _ => e.elim
  | h + 1, _, .leaf a, m + 1, m' + 1, _, _, _ => rfl
  | h + 1, _, .inner ks b, m + 1, m' + 1, e, h1, h2 => by
    show ks.flatMap (itemsF m) = ks.flatMap (itemsF m')
    have hk : ∀ k ∈ ks, Wf h false k := e.2.2.2.2.2
    rw [List.flatMap_def, List.flatMap_def]
    congr 1
    exact List.map_congr_left fun k hk' => itemsF_eq h false k m m' (hk k hk') (by omega) (by omega)
  | _ + 1, _, _, 0, _, _, h1, _ => absurd h1 (by omega)
  | _ + 1, _, _, _ + 1, 0, _, _, h2 => absurd h2 (by omega)
theorem itemsF_inner (m : Nat) (ks : List Nd) (b : Nx) : itemsF (m + 1) (.inner ks b) = ks.flatMap (itemsF m) := rfl
theorem flat_congr {α β : Type} {f g : α → List β} {l : List α} (h : ∀ a ∈ l, f a = g a) : l.flatMap f = l.flatMap g := by
  simp only [List.flatMap_def]
  exact congrArg List.flatten (List.map_congr_left h)
theorem itemsF_of {m k : Nat} (h : m = k + 1) (ks : List Nd) (b : Nx) : itemsF m (.inner ks b) = ks.flatMap (itemsF k) := by
  subst h
  rfl
theorem items_def (n : Nd) : items n = itemsF 101 n := rfl
theorem items_inner {h : Nat} {top : Bool} {ks : List Nd} {b : Nx} (e : Wf (h + 1) top (.inner ks b)) (hh : h + 1 ≤ 101) : items (.inner ks b) = ks.flatMap items := by
  refine (items_def _).trans ((itemsF_of (k := 100) (by decide) ks b).trans ?_)
  have hk : ∀ k ∈ ks, Wf h false k := e.2.2.2.2.2
  exact flat_congr fun k hk' => (itemsF_eq h false k 100 101 (hk k hk') (by omega) (by omega)).trans (items_def k).symm
theorem items_leaf (a : Lf) : items (.leaf a) = a.1 := rfl
theorem items_nil : items .nil = [] := rfl
theorem wf_leaf {top : Bool} {l : List Itm} (h1 : (if top = true then 1 else 4) ≤ l.length) (h2 : l.length ≤ 8) : Wf 1 top (mkLeaf l) := ⟨rfl, h1, h2, rfl⟩
theorem wf_inner {h : Nat} {top : Bool} {ks : List Nd} (h0 : 1 ≤ h) (hh : h ≤ 200) (h1 : (if top = true then 2 else 4) ≤ ks.length) (h2 : ks.length ≤ 8) (hk : ∀ k ∈ ks, Wf h false k) : Wf (h + 1) top (mkInner ks) := by
  refine ⟨h0, h1, h2, ?_, rfl, hk⟩
  have hpos : 0 < ks.length := by split at h1 <;> omega
  have hk0 := (wf_height (hk _ (getD_in .nil hpos))).1
  show w64 (heightOf (ks.getD 0 .nil) + 1) = _
  rw [hk0]
  unfold w64
  rw [wrap_id (by omega) (by omega)]
  omega
def OneTwo (m : Nat) (L : List Nd) (l : List Itm) : Prop := 1 ≤ L.length ∧ L.length ≤ 2 ∧ L.flatMap items = l ∧ (∀ r ∈ L, Wf m true r) ∧ (L.length = 2 → ∀ r ∈ L, Wf m false r)
theorem spread_ok {l : List Itm} (h1 : 1 ≤ l.length) (h2 : l.length ≤ 16) : OneTwo 1 (spread l) l ∧ (4 ≤ l.length → ∀ r ∈ spread l, Wf 1 false r) := by
  unfold spread
  by_cases h : l.length ≤ 8
  · rw [if_pos h]
    refine ⟨⟨Nat.le_refl _, by simp, ?_, fun r hr => ?_, fun e => by simp at e⟩, fun h4 r hr => ?_⟩
    · show items (mkLeaf l) ++ [] = l
      rw [List.append_nil]; rfl
    · rw [List.mem_singleton.1 hr]
      exact wf_leaf (by simpa using h1) h
    · rw [List.mem_singleton.1 hr]
      exact wf_leaf (by simpa using h4) h
  · rw [if_neg h]
    have t1 : (l.take (l.length / 2)).length = l.length / 2 := by simp; omega
    have t2 : (l.drop (l.length / 2)).length = l.length - l.length / 2 := by simp
    have full : ∀ r ∈ [mkLeaf (l.take (l.length / 2)), mkLeaf (l.drop (l.length / 2))], Wf 1 false r := fun r hr => by
      rcases List.mem_cons.1 hr with e | hr
      · subst e; exact wf_leaf (by simp; omega) (by omega)
      · rw [List.mem_singleton.1 hr]; exact wf_leaf (by simp; omega) (by omega)
    refine ⟨⟨by simp, Nat.le_refl _, ?_, fun r hr => wf_top (full r hr), fun _ => full⟩, fun _ => full⟩
    show items (mkLeaf _) ++ (items (mkLeaf _) ++ []) = l
    rw [List.append_nil]
    exact List.take_append_drop _ _
theorem raise_ok {m : Nat} {ks : List Nd} (m0 : 1 ≤ m) (mm : m ≤ 100) (h1 : 2 ≤ ks.length) (h2 : ks.length ≤ 16) (hk : ∀ k ∈ ks, Wf m false k) :
    OneTwo (m + 1) (raise ks) (ks.flatMap items) ∧ (4 ≤ ks.length → ∀ r ∈ raise ks, Wf (m + 1) false r) := by
  unfold raise
  by_cases h : ks.length ≤ 8
  · rw [if_pos h]
    have wt : Wf (m + 1) true (mkInner ks) := wf_inner m0 (by omega) (by simpa using h1) h hk
    refine ⟨⟨Nat.le_refl _, by simp, ?_, fun r hr => ?_, fun e => by simp at e⟩, fun h4 r hr => ?_⟩
    · show items (mkInner ks) ++ [] = _
      rw [List.append_nil]
      exact items_inner wt (by omega)
    · rw [List.mem_singleton.1 hr]; exact wt
    · rw [List.mem_singleton.1 hr]
      exact wf_inner m0 (by omega) (by simpa using h4) h hk
  · rw [if_neg h]
    have t1 : (ks.take (ks.length / 2)).length = ks.length / 2 := by simp; omega
    have t2 : (ks.drop (ks.length / 2)).length = ks.length - ks.length / 2 := by simp
    have w1 : Wf (m + 1) false (mkInner (ks.take (ks.length / 2))) := wf_inner m0 (by omega) (by simp; omega) (by omega) fun k hk' => hk k (List.mem_of_mem_take hk')
    have w2 : Wf (m + 1) false (mkInner (ks.drop (ks.length / 2))) := wf_inner m0 (by omega) (by simp; omega) (by omega) fun k hk' => hk k (List.mem_of_mem_drop hk')
    have full : ∀ r ∈ [mkInner (ks.take (ks.length / 2)), mkInner (ks.drop (ks.length / 2))], Wf (m + 1) false r := fun r hr => by
      rcases List.mem_cons.1 hr with e | hr
      · subst e; exact w1
      · rw [List.mem_singleton.1 hr]; exact w2
    refine ⟨⟨by simp, Nat.le_refl _, ?_, fun r hr => wf_top (full r hr), fun _ => full⟩, fun _ => full⟩
    show items (mkInner _) ++ (items (mkInner _) ++ []) = _
    unfold mkInner at w1 w2 ⊢
    rw [List.append_nil, items_inner w1 (by omega), items_inner w2 (by omega), ← List.flatMap_append, List.take_append_drop]
theorem meld_ok : (n h k : Nat) → (a b : Nd) → h + k ≤ n → h ≤ 100 → k ≤ 100 → Wf h true a → Wf k true b →
    OneTwo (max h k) (meldF n a b) (items a ++ items b) ∧ (k ≤ h → Wf h false a → ∀ r ∈ meldF n a b, Wf (max h k) false r) ∧ (h ≤ k → Wf k false b → ∀ r ∈ meldF n a b, Wf (max h k) false r)
  | 0, h, k, a, b, hn, _, _, wa, wb => by
    have := (wf_height wa).2.1
    omega
  | n + 1, h, k, a, b, hn, h100, k100, wa, wb => by
    obtain ⟨ea, pa, na⟩ := wf_height wa
    obtain ⟨eb, pb, nb⟩ := wf_height wb
    have e : meldF (n + 1) a b = if heightOf a > heightOf b then raise ((kidsOf a).take ((kidsOf a).length - 1) ++ meldF n ((kidsOf a).getD ((kidsOf a).length - 1) .nil) b)
      else if heightOf a < heightOf b then raise (meldF n a ((kidsOf b).getD 0 .nil) ++ (kidsOf b).drop 1)
      else if (NT.asLeaf a).isSome = true then spread (itemsOf a ++ itemsOf b) else raise (kidsOf a ++ kidsOf b) := rfl
    rw [e, ea, eb]
    by_cases h1 : (h : Int) > (k : Int)
    · rw [if_pos h1]
      obtain ⟨h', rfl⟩ : ∃ h', h = h' + 1 := ⟨h - 1, by omega⟩
      cases a with
      | nil => exact absurd rfl na
      | leaf a => have := wa.1; omega
      | inner ks bx =>
        have wa' := wa
        obtain ⟨w1, w2, w3, w4, w5, w6⟩ := wa
        simp only [if_true] at w2
        show OneTwo _ (raise (ks.take (ks.length - 1) ++ meldF n (ks.getD (ks.length - 1) .nil) b)) _ ∧ _
        have hl : ks.length - 1 < ks.length := by omega
        have wl := w6 _ (getD_in .nil hl)
        have hsplit : ks = ks.take (ks.length - 1) ++ [ks.getD (ks.length - 1) .nil] := by
          conv => lhs; rw [← List.take_append_drop (ks.length - 1) ks]
          congr 1
          rw [drop_cons .nil hl, show ks.length - 1 + 1 = ks.length by omega, List.drop_length]
        obtain ⟨⟨i1, i2, i3, i4, i5⟩, i6, _⟩ := meld_ok n h' k _ b (by omega) (by omega) k100 (wf_top wl) wb
        have full := i6 (by omega) wl
        have hm : max h' k = h' := by omega
        rw [hm] at full
        have hkk : ∀ r ∈ ks.take (ks.length - 1) ++ meldF n (ks.getD (ks.length - 1) .nil) b, Wf h' false r := fun r hr => by
          rcases List.mem_append.1 hr with hr | hr
          · exact w6 r (List.mem_of_mem_take hr)
          · exact full r hr
        have hlen : (ks.take (ks.length - 1) ++ meldF n (ks.getD (ks.length - 1) .nil) b).length = ks.length - 1 + (meldF n (ks.getD (ks.length - 1) .nil) b).length := by
          rw [List.length_append, List.length_take]; omega
        obtain ⟨r1, r2⟩ := raise_ok w1 (by omega) (by omega) (by omega) hkk
        have hm2 : max (h' + 1) k = h' + 1 := by omega
        rw [hm2]
        have eit : (ks.take (ks.length - 1) ++ meldF n (ks.getD (ks.length - 1) .nil) b).flatMap items = items (.inner ks bx) ++ items b := by
          rw [List.flatMap_append, i3, items_inner wa' (by omega)]
          conv => rhs; rw [hsplit]
          rw [List.flatMap_append]
          simp
        rw [eit] at r1
        exact ⟨r1, fun _ wf => r2 (by
          have := wf.2.1
          simp at this
          omega), fun hle _ => by omega⟩
    · rw [if_neg h1]
      by_cases h2 : (h : Int) < (k : Int)
      · rw [if_pos h2]
        obtain ⟨k', rfl⟩ : ∃ k', k = k' + 1 := ⟨k - 1, by omega⟩
        cases b with
        | nil => exact absurd rfl nb
        | leaf b => have := wb.1; omega
        | inner ks bx =>
          have wb' := wb
          obtain ⟨w1, w2, w3, w4, w5, w6⟩ := wb
          simp only [if_true] at w2
          show OneTwo _ (raise (meldF n a (ks.getD 0 .nil) ++ ks.drop 1)) _ ∧ _
          have hl : 0 < ks.length := by omega
          have wl := w6 _ (getD_in .nil hl)
          have hsplit : ks = [ks.getD 0 .nil] ++ ks.drop 1 := by
            have := drop_cons (.nil : Nd) hl
            simpa using this
          obtain ⟨⟨i1, i2, i3, i4, i5⟩, _, i6⟩ := meld_ok n h k' a _ (by omega) h100 (by omega) wa (wf_top wl)
          have full := i6 (by omega) wl
          have hm : max h k' = k' := by omega
          rw [hm] at full
          have hkk : ∀ r ∈ meldF n a (ks.getD 0 .nil) ++ ks.drop 1, Wf k' false r := fun r hr => by
            rcases List.mem_append.1 hr with hr | hr
            · exact full r hr
            · exact w6 r (List.mem_of_mem_drop hr)
          have hlen : (meldF n a (ks.getD 0 .nil) ++ ks.drop 1).length = (meldF n a (ks.getD 0 .nil)).length + (ks.length - 1) := by
            rw [List.length_append, List.length_drop]
          obtain ⟨r1, r2⟩ := raise_ok w1 (by omega) (by omega) (by omega) hkk
          have hm2 : max h (k' + 1) = k' + 1 := by omega
          rw [hm2]
          have eit : (meldF n a (ks.getD 0 .nil) ++ ks.drop 1).flatMap items = items a ++ items (.inner ks bx) := by
            rw [List.flatMap_append, i3, items_inner wb' (by omega)]
            conv => rhs; rw [hsplit]
            rw [List.flatMap_append]
            simp
          rw [eit] at r1
          exact ⟨r1, fun hle _ => by omega, fun _ wf => r2 (by
            have := wf.2.1
            simp at this
            omega)⟩
      · rw [if_neg h2]
        have hk : h = k := by omega
        subst hk
        have hm : max h h = h := by omega
        rw [hm]
        obtain ⟨h', rfl⟩ : ∃ h', h = h' + 1 := ⟨h - 1, by omega⟩
        cases a with
        | nil => exact absurd rfl na
        | leaf a =>
          have h0 := wa.1
          subst h0
          cases b with
          | nil => exact absurd rfl nb
          | inner ks bx => exact absurd wb.1 (by decide)
          | leaf b =>
            rw [if_pos (show (NT.asLeaf (NT.leaf a : Nd)).isSome = true from rfl)]
            show OneTwo 1 (spread (a.1 ++ b.1)) (a.1 ++ b.1) ∧ _
            obtain ⟨_, a2, a3, _⟩ := wa
            obtain ⟨_, b2, b3, _⟩ := wb
            simp only [if_true] at a2 b2
            obtain ⟨s1, s2⟩ := spread_ok (l := a.1 ++ b.1) (by rw [List.length_append]; omega) (by rw [List.length_append]; omega)
            refine ⟨s1, fun _ wf => s2 ?_, fun _ wf => s2 ?_⟩
            · have := wf.2.1
              simp at this
              rw [List.length_append]; omega
            · have := wf.2.1
              simp at this
              rw [List.length_append]; omega
        | inner ks bx =>
          cases b with
          | nil => exact absurd rfl nb
          | leaf b => have := wb.1; have := wa.1; omega
          | inner ls by_ =>
            rw [if_neg (show ¬ (NT.asLeaf (NT.inner ks bx : Nd)).isSome = true from fun hh => by cases hh)]
            show OneTwo (h' + 1) (raise (ks ++ ls)) _ ∧ _
            have wa' := wa
            have wb' := wb
            obtain ⟨w1, w2, w3, w4, w5, w6⟩ := wa
            obtain ⟨v1, v2, v3, v4, v5, v6⟩ := wb
            simp only [if_true] at w2 v2
            obtain ⟨r1, r2⟩ := raise_ok (ks := ks ++ ls) w1 (by omega) (by rw [List.length_append]; omega) (by rw [List.length_append]; omega) fun k hk => by
              rcases List.mem_append.1 hk with hk | hk
              · exact w6 k hk
              · exact v6 k hk
            rw [List.flatMap_append, ← items_inner wa' (by omega), ← items_inner wb' (by omega)] at r1
            have f := r2 (by rw [List.length_append]; omega)
            exact ⟨r1, fun _ _ => f, fun _ _ => f⟩
theorem count_full : (h : Nat) → (n : Nd) → h ≤ 100 → Wf h false n → 4 ^ h ≤ (items n).length
  | 0, _, _, e => e.elim
  | _ + 1, .nil, _, e => e.elim
  | h + 1, .leaf a, _, e => by
    have := e.1
    subst this
    have := e.2.1
    simp at this
    exact this
  | h + 1, .inner ks b, hh, e => by
    have e' := e
    obtain ⟨w1, w2, w3, w4, w5, w6⟩ := e
    simp at w2
    rw [items_inner e' (by omega)]
    have : ∀ l : List Nd, (∀ k ∈ l, Wf h false k) → l.length * 4 ^ h ≤ (l.flatMap items).length := by
      intro l
      induction l with
      | nil => intro _; simp
      | cons k r ih =>
        intro hk
        have h1 := count_full h k (by omega) (hk k (List.mem_cons_self ..))
        have h2 := ih fun k' hk' => hk k' (List.mem_cons_of_mem _ hk')
        simp only [List.flatMap_cons, List.length_append, List.length_cons, Nat.succ_mul]
        omega
    have h3 := this ks w6
    have h4 : 4 * 4 ^ h ≤ ks.length * 4 ^ h := Nat.mul_le_mul_right _ w2
    rw [Nat.pow_succ]
    omega
theorem count_top {h : Nat} {n : Nd} (hh : h ≤ 100) (e : Wf h true n) : 1 ≤ (items n).length ∧ (2 ≤ h → 2 * 4 ^ (h - 1) ≤ (items n).length) := by
  cases h with
  | zero => exact e.elim
  | succ h =>
    cases n with
    | nil => exact e.elim
    | leaf a =>
      have := e.1
      subst this
      have := e.2.1
      simp at this
      exact ⟨this, fun h => by omega⟩
    | inner ks b =>
      have e' := e
      obtain ⟨w1, w2, w3, w4, w5, w6⟩ := e
      simp at w2
      have : ∀ l : List Nd, (∀ k ∈ l, Wf h false k) → l.length * 4 ^ h ≤ (l.flatMap items).length := by
        intro l
        induction l with
        | nil => intro _; simp
        | cons k r ih =>
          intro hk
          have h1 := count_full h k (by omega) (hk k (List.mem_cons_self ..))
          have h2 := ih fun k' hk' => hk k' (List.mem_cons_of_mem _ hk')
          simp only [List.flatMap_cons, List.length_append, List.length_cons, Nat.succ_mul]
          omega
      have h3 := this ks w6
      have h4 : 2 * 4 ^ h ≤ ks.length * 4 ^ h := Nat.mul_le_mul_right _ w2
      have h5 : 0 < 4 ^ h := Nat.pow_pos (by omega)
      rw [items_inner e' (by omega)]
      exact ⟨by omega, fun _ => by rw [Nat.add_sub_cancel]; omega⟩
theorem not_high {h : Nat} {n : Nd} (hh : h ≤ 101) (e : Wf h true n) (hc : (itemsF 200 n).length ≤ 1000000) : h ≤ 100 := by
  by_cases h1 : h ≤ 100
  · exact h1
  · exfalso
    have : h = 101 := by omega
    subst this
    cases n with
    | nil => exact e.elim
    | leaf a => exact absurd e.1 (by decide)
    | inner ks b =>
      obtain ⟨w1, w2, w3, w4, w5, w6⟩ := e
      simp at w2
      have hk0 := w6 _ (getD_in .nil (show 0 < ks.length by omega))
      have c := count_full 100 _ (Nat.le_refl _) hk0
      have e0 : items (ks.getD 0 .nil) = itemsF 199 (ks.getD 0 .nil) := (items_def _).trans (itemsF_eq 100 false _ 101 199 hk0 (by omega) (by omega))
      have hs : ks = [ks.getD 0 .nil] ++ ks.drop 1 := by
        have := drop_cons (.nil : Nd) (show 0 < ks.length by omega)
        simpa using this
      have : (itemsF 199 (ks.getD 0 .nil)).length ≤ (itemsF 200 (.inner ks b)).length := by
        rw [itemsF_of (k := 199) (by decide)]
        conv => rhs; rw [hs]
        rw [List.flatMap_append, List.length_append]
        simp
      rw [e0] at c
      have big : (1000000 : Nat) < 4 ^ 100 := by decide
      omega
theorem isNil_t {n : Nd} : NT.isNil n = true ↔ n = .nil := by
  cases n <;> simp [NT.isNil]
theorem isNil_f {n : Nd} : NT.isNil n = false ↔ n ≠ .nil := by
  cases n <;> simp [NT.isNil]
theorem join_ok {a b : Nd} (ha : WfN a) (hb : WfN b) (hc : (items a).length + (items b).length ≤ 1000000) : WfN (join a b) ∧ items (join a b) = items a ++ items b := by
  unfold join
  rcases ha with rfl | ⟨h, h1, wa⟩
  · rw [if_pos (show NT.isNil (NT.nil : Nd) = true from rfl)]
    exact ⟨hb, by rw [items_nil, List.nil_append]⟩
  rw [if_neg (by rw [isNil_t]; exact (wf_height wa).2.2)]
  rcases hb with rfl | ⟨k, k1, wb⟩
  · rw [if_pos (show NT.isNil (NT.nil : Nd) = true from rfl)]
    exact ⟨.inr ⟨h, h1, wa⟩, by rw [items_nil, List.append_nil]⟩
  rw [if_neg (by rw [isNil_t]; exact (wf_height wb).2.2)]
  have em : meld a b = meldF (h + k) a b := by
    unfold meld
    rw [(wf_height wa).1, (wf_height wb).1]
    rfl
  rw [em]
  obtain ⟨⟨m1, m2, m3, m4, m5⟩, _, _⟩ := meld_ok (h + k) h k a b (Nat.le_refl _) h1 k1 wa wb
  generalize meldF (h + k) a b = L at m1 m2 m3 m4 m5 ⊢
  by_cases hl : L.length = 1
  · rw [if_pos hl]
    have hL : L = [L.getD 0 .nil] := by
      match L, hl with
      | [x], _ => rfl
    refine ⟨.inr ⟨max h k, by omega, m4 _ (getD_in (NT.nil : Nd) (show 0 < L.length by omega))⟩, ?_⟩
    rw [← m3]
    conv => rhs; rw [hL]
    simp
  · rw [if_neg hl]
    have hl2 : L.length = 2 := by omega
    have w : Wf (max h k + 1) true (mkInner L) := wf_inner (by have := (wf_height wa).2.1; omega) (by omega) (by simp; omega) (by omega) (m5 hl2)
    have ei : itemsF 200 (mkInner L) = items a ++ items b := by
      rw [← m3]
      exact (itemsF_of (k := 199) (by decide) L _).trans (flat_congr fun r hr => (itemsF_eq _ true r 199 101 (m4 r hr) (by omega) (by omega)).trans (items_def r).symm)
    have hh := not_high (by omega) w (by rw [ei, List.length_append]; omega)
    refine ⟨.inr ⟨_, hh, w⟩, ?_⟩
    exact (items_def _).trans ((itemsF_eq _ true _ 101 200 w (by omega) (by omega)).trans ei)
theorem build_ok (l : List Itm) (hl : l.length ≤ 100000) : (k : Nat) → 8 * k ≤ l.length + 7 → WfN (build l k) ∧ items (build l k) = l.take (8 * k)
  | 0, _ => ⟨.inl rfl, by simp [build, items_nil]⟩
  | k + 1, hk => by
    obtain ⟨h1, h2⟩ := build_ok l hl k (by omega)
    have hc : 1 ≤ ((l.drop (8 * k)).take 8).length ∧ ((l.drop (8 * k)).take 8).length ≤ 8 := by
      rw [List.length_take, List.length_drop]; omega
    have w : WfN (mkLeaf ((l.drop (8 * k)).take 8)) := .inr ⟨1, by omega, wf_leaf (by simpa using hc.1) hc.2⟩
    have hi : items (mkLeaf ((l.drop (8 * k)).take 8)) = (l.drop (8 * k)).take 8 := rfl
    obtain ⟨j1, j2⟩ := join_ok h1 w (by rw [h2, hi, List.length_take]; omega)
    refine ⟨j1, ?_⟩
    show items (join (build l k) _) = _
    rw [j2, h2, hi, show 8 * (k + 1) = 8 * k + 8 by omega, List.take_add]
theorem buildT_ok {l : List Itm} (hl : l.length ≤ 100000) : WfN (buildT l) ∧ items (buildT l) = l := by
  obtain ⟨h1, h2⟩ := build_ok l hl ((l.length + 7) / 8) (by omega)
  refine ⟨h1, h2.trans (List.take_of_length_le (by omega))⟩
end Go.Fr.C14
namespace Go.Fr.C14
open Go Go.Fr Go.Proofs
def zItm : Itm := (0, 0, (0, 0, 0, ()), 0, ByteArray.empty, ())
abbrev Plc := Int × Sm × Int × Unit
abbrev Spt := Int × Int × Unit
abbrev Pce := Int × Int × Unit
abbrev Wve := Option (Tre × Unit)
def reach (v bias e : Int) : Bool := decide (e > v) || (decide (bias = 0) && decide (e = v))
def sizeD (s : Sm) (dim : Int) : Int := if dim = 3 then s.1 else if dim = 0 then s.2.1.1 else if dim = 1 then s.2.1.2.1 else s.2.1.2.2.1
def findL (dim v bias : Int) : List Itm → Sm → Sm
  | [], s => s
  | i :: r, s => if reach v bias (sizeD (addS s (ofI i)) dim) = true then s else findL dim v bias r (addS s (ofI i))
def findK (dim v bias : Int) : List Nd → Sm → Sm × Nd
  | [], s => (s, .nil)
  | k :: r, s => if reach v bias (sizeD (addS s (sumOf k)) dim) = true then (s, k) else findK dim v bias r (addS s (sumOf k))
def findF (dim v bias : Int) : Nat → Nd → Sm → Int → Sm × Int
  | 0, _, s, vis => (s, vis)
  | n + 1, x, s, vis => match x with
    | .nil => (s, vis)
    | .leaf a => (findL dim v bias a.1 s, w64 (vis + 1))
    | .inner ks _ => findF dim v bias n (findK dim v bias ks s).2 (findK dim v bias ks s).1 (w64 (vis + 1))
def findP (t : Nd) (dim v bias : Int) : Plc := ((findF dim v bias 101 t zS 0).1.1, (findF dim v bias 101 t zS 0).1, (findF dim v bias 101 t zS 0).2, ())
def findT (t : Tre) (dim v bias : Int) : Plc × Int × Unit :=
  if dim < 0 ∨ dim > 3 ∨ v < 0 ∨ v > sizeD (sumOf (topT t)) dim ∨ (bias ≠ 0 ∧ bias ≠ 1) then ((0, zS, 0, ()), 1, ()) else (findP (topT t) dim v bias, 0, ())
def atT (t : Tre) (i : Int) : Itm × Int × Unit := if i < 0 ∨ i ≥ ((items (topT t)).length : Int) then (zItm, 1, ()) else ((items (topT t)).getD i.toNat zItm, 0, ())
def okIts (l : List Itm) : Prop := l.length ≤ 100000 ∧ ∀ x ∈ l, checkI x = 0
def okTre (t : Tre) : Prop := WfN (topT t) ∧ okIts (items (topT t))
def plainI (n : Int) : Itm := (0, 0, (n, n, 0, ()), 0, ByteArray.empty, ())
def virtualI (x : Inl) : Itm := (0, x.1, (0, ((decodeL (txt x)).length : Int), 0, ()), 0, ByteArray.empty, ())
def rowF (t : Int) : Int → List Inl → List Itm
  | f, [] => if t > f then [plainI (w64 (t - f))] else []
  | f, x :: r => if x.2.1 > f then plainI (w64 (x.2.1 - f)) :: virtualI x :: rowF t x.2.1 r else virtualI x :: rowF t f r
def weaveI (s : Option ISet) : Wve := some ((newT (rowF (lenI s) 0 (allI s))).1, ())
def treeOf (w : Wve) : Tre := match w with | none => none | some w => w.1
def piecesI (t : Tre) : List Pce := (items (topT t)).map fun i => (i.2.1, i.2.2.1.2.1, ())
def outW (w : Wve) (at_ bias : Int) : Int × Int × Unit :=
  if (findT (treeOf w) 0 at_ bias).2.1 ≠ 0 then (0, (findT (treeOf w) 0 at_ bias).2.1, ())
  else (w64 (w64 ((findT (treeOf w) 0 at_ bias).1.2.1.2.1.2.1 + at_) - (findT (treeOf w) 0 at_ bias).1.2.1.2.1.1), 0, ())
def inW (w : Wve) (at_ : Int) : Int × Int × Int × Unit :=
  if (findT (treeOf w) 1 at_ 1).2.1 ≠ 0 then (0, 0, (findT (treeOf w) 1 at_ 1).2.1, ())
  else if (atT (treeOf w) (findT (treeOf w) 1 at_ 1).1.1).1.2.1 = 0 then (w64 ((findT (treeOf w) 1 at_ 1).1.2.1.2.1.1 + w64 (at_ - (findT (treeOf w) 1 at_ 1).1.2.1.2.1.2.1)), 0, 0, ())
  else if w64 (at_ - (findT (treeOf w) 1 at_ 1).1.2.1.2.1.2.1) = 0 then ((findT (treeOf w) 1 at_ 1).1.2.1.2.1.1, 0, 0, ())
  else ((findT (treeOf w) 1 at_ 1).1.2.1.2.1.1, (atT (treeOf w) (findT (treeOf w) 1 at_ 1).1.1).1.2.1, 0, ())
def lenT (x : Inl) : Int := ((decodeL (txt x)).length : Int)
def refOut (w : WSet) (at_ bias : Int) : Int := (w.2.1).foldl (fun n x => if x.2.1 < at_ ∨ (x.2.1 = at_ ∧ bias = 1) then w64 (n + lenT x) else n) at_
def spotsX (at_ : Int) (l : List Inl) : List Spt := l.flatMap fun x => if x.2.1 = at_ then (decodeL (txt x)).map fun _ => ((at_, x.1, ()) : Spt) else []
def spotsAt (w : WSet) (at_ : Int) : List Spt := spotsX at_ w.2.1 ++ (if at_ < w.1 then [(at_, 0, ())] else [])
def spots (w : WSet) : List Spt := (List.range (w.1 + 1).toNat).flatMap fun k : Nat => spotsAt w (k : Int)
def pceStep (out : List Pce) (x : Spt) : List Pce := if out ≠ [] ∧ (out.getD (out.length - 1) (0, 0, ())).1 = x.2.1 then out.set (out.length - 1) ((out.getD (out.length - 1) (0, 0, ())).1, w64 ((out.getD (out.length - 1) (0, 0, ())).2.1 + 1), ()) else out ++ [(x.2.1, 1, ())]
def refPieces (w : WSet) : List Pce := (spots w).foldl pceStep []
def refIn (w : WSet) (at_ : Int) : Spt :=
  if at_ = ((spots w).length : Int) then (w.1, 0, ())
  else if ((spots w).getD at_.toNat (0, 0, ())).2.1 = 0 ∨ at_ = 0 ∨ ((spots w).getD (at_ - 1).toNat (0, 0, ())).2.1 ≠ ((spots w).getD at_.toNat (0, 0, ())).2.1 then (((spots w).getD at_.toNat (0, 0, ())).1, 0, ()) else (spots w).getD at_.toNat (0, 0, ())
def highB (h n : Int) : Bool := ((List.range (h - 2).toNat).all fun j => decide ((4 : Int) ^ (j + 1) ≤ n + 1)) && ((decide (h = 0) == decide (n = 0)) && decide (h ≥ 0))
def sameP (a b : List Pce) : Bool := decide (a = b)
def longW (n : Int) (l : List Inl) : Bool := decide (n < 0) || decide (n > 300) || decide ((l.length : Int) > 60) || l.any fun x => decide (((txt x).size : Int) > 200)
def isW (w : Wve) (s : WSet) : Bool := w.isSome && decide ((sumOf (topT (treeOf w))).2.1.1 = s.1) && decide ((sumOf (topT (treeOf w))).2.1.2.1 = ((spots s).length : Int)) && sameP (piecesI (treeOf w)) (refPieces s) && highB (heightOf (topT (treeOf w))) ((items (topT (treeOf w))).length : Int)
def fitsW (s : Span) (n : Int) : Bool := decide (0 ≤ s.1) && decide (s.1 ≤ s.2.1) && decide (s.2.1 ≤ n)
def smallW (w : WSet) : Prop := w.2.1.length ≤ 60 ∧ (∀ x ∈ w.2.1, (txt x).size ≤ 1000) ∧ (0 : Int) ≤ w.1 ∧ w.1 ≤ (1000 : Int)
def cSizeD : Contract := { arg := .pair t82 (.pair t3 .unit), res := t3, one := true, pre := fun x => (0 : Int) ≤ x.2.1 ∧ x.2.1 ≤ (3 : Int), fn := fun x => sizeD x.1 x.2.1 }
def cFind : Contract := { arg := .pair t72 (.pair t3 (.pair t3 (.pair t3 .unit))), res := .pair t84 (.pair t28 .unit), one := false, pre := fun x => WfN (topT x.1), fn := fun x => findT x.1 x.2.1 x.2.2.1 x.2.2.2.1 }
def cAt : Contract := { arg := .pair t72 (.pair t3 .unit), res := .pair t89 (.pair t28 .unit), one := false, pre := fun x => okTre x.1, fn := fun x => atT x.1 x.2.1 }
def cPlain : Contract := { arg := .pair t3 .unit, res := t89, one := true, pre := fun _ => True, fn := fun x => plainI x.1 }
def cVirtual : Contract := { arg := .pair t57 .unit, res := t89, one := true, pre := fun x => (txt x.1).size ≤ maxLen, fn := fun x => virtualI x.1 }
def cRow : Contract := { arg := .pair t3 (.pair t3 (.pair t22 .unit)), res := t75, one := true, pre := fun x => x.2.2.1.length ≤ 10000 ∧ shortL x.2.2.1, fn := fun x => rowF x.2.1 x.1 x.2.2.1 }
def cWeave : Contract := { arg := .pair t27 .unit, res := t34, one := true, pre := fun x => (allI x.1).length ≤ 10000 ∧ shortL (allI x.1), fn := fun x => weaveI x.1 }
def cTreeOf : Contract := { arg := .pair t34 .unit, res := t72, one := true, pre := fun _ => True, fn := fun x => treeOf x.1 }
def cSizes : Contract := { arg := .pair t34 .unit, res := .pair t3 (.pair t3 .unit), one := false, pre := fun _ => True, fn := fun x => ((sumOf (topT (treeOf x.1))).2.1.1, (sumOf (topT (treeOf x.1))).2.1.2.1, ()) }
def cPieces : Contract := { arg := .pair t34 .unit, res := t52, one := true, pre := fun x => (topT (treeOf x.1) = .nil ∨ ∃ h : Nat, h ≤ 3 ∧ Wf h true (topT (treeOf x.1))) ∧ (items (topT (treeOf x.1))).length ≤ 10000, fn := fun x => piecesI (treeOf x.1) }
def cHeightW : Contract := { arg := .pair t34 .unit, res := t3, one := true, pre := fun _ => True, fn := fun x => heightOf (topT (treeOf x.1)) }
def cOut : Contract := { arg := .pair t34 (.pair t3 (.pair t3 .unit)), res := .pair t3 (.pair t28 .unit), one := false, pre := fun x => WfN (topT (treeOf x.1)), fn := fun x => outW x.1 x.2.1 x.2.2.1 }
def cIn : Contract := { arg := .pair t34 (.pair t3 .unit), res := .pair t3 (.pair t3 (.pair t28 .unit)), one := false, pre := fun x => okTre (treeOf x.1), fn := fun x => inW x.1 x.2.1 }
def cRefOut : Contract := { arg := .pair t32 (.pair t3 (.pair t3 .unit)), res := t3, one := true, pre := fun x => smallW x.1, fn := fun x => refOut x.1 x.2.1 x.2.2.1 }
def cSpots : Contract := { arg := .pair t32 .unit, res := t41, one := true, pre := fun x => smallW x.1, fn := fun x => spots x.1 }
def cRefIn : Contract := { arg := .pair t32 (.pair t3 .unit), res := t44, one := true, pre := fun x => smallW x.1 ∧ (0 : Int) ≤ x.2.1 ∧ x.2.1 ≤ ((spots x.1).length : Int), fn := fun x => refIn x.1 x.2.1 }
def cRefPieces : Contract := { arg := .pair t32 .unit, res := t94, one := true, pre := fun x => smallW x.1, fn := fun x => refPieces x.1 }
def cHigh : Contract := { arg := .pair t3 (.pair t3 .unit), res := .bool, one := true, pre := fun x => x.1 ≤ (1000 : Int) ∧ (0 : Int) ≤ x.2.1 ∧ x.2.1 ≤ (1000000 : Int), fn := fun x => highB x.1 x.2.1 }
def cSameP : Contract := { arg := .pair t94 (.pair t94 .unit), res := .bool, one := true, pre := fun x => x.1.length ≤ maxLen ∧ x.2.1.length ≤ maxLen, fn := fun x => sameP x.1 x.2.1 }
def cRefsP : Contract := { arg := .pair t52 .unit, res := t94, one := true, pre := fun x => x.1.length ≤ 1000000, fn := fun x => x.1 }
def cIs : Contract := { arg := .pair t34 (.pair t32 .unit), res := .bool, one := true, pre := fun x => smallW x.2.1 ∧ (topT (treeOf x.1) = .nil ∨ ∃ h : Nat, h ≤ 3 ∧ Wf h true (topT (treeOf x.1))) ∧ (items (topT (treeOf x.1))).length ≤ 10000, fn := fun x => isW x.1 x.2.1 }
def cLong : Contract := { arg := .pair t3 (.pair t22 .unit), res := .bool, one := true, pre := fun x => x.2.1.length ≤ maxLen, fn := fun x => longW x.1 x.2.1 }
def cFits : Contract := { arg := .pair t24 (.pair t3 .unit), res := .bool, one := true, pre := fun _ => True, fn := fun x => fitsW x.1 x.2.1 }
def muSplit (x : Nd × Int × Unit) : Nat := (heightOf x.1).toNat
def spK : List Nd → Nat → Int → Option (Nat × Int)
  | [], _, _ => none
  | k :: r, i, a => if a ≤ (sumOf k).1 then some (i, a) else spK r (i + 1) (w64 (a - (sumOf k).1))
def splitF : Nat → Nd → Int → Nd × Nd
  | 0, _, _ => (.nil, .nil)
  | m + 1, n, a => match n with
    | .nil => (.nil, .nil)
    | .leaf x => if a ≤ 0 then (.nil, .leaf x) else if a ≥ (x.1.length : Int) then (.leaf x, .nil) else (mkLeaf (x.1.take a.toNat), mkLeaf (x.1.drop a.toNat))
    | .inner ks b => match spK ks 0 a with
      | none => (.inner ks b, .nil)
      | some q => (join (rowN (ks.take q.1)) (splitF m (ks.getD q.1 .nil) q.2).1, join (splitF m (ks.getD q.1 .nil) q.2).2 (rowN (ks.drop (q.1 + 1))))
def splitN (n : Nd) (a : Int) : Nd × Nd := splitF (heightOf n).toNat n a
def replN (n mid : Nd) (from_ to : Int) : Nd := join (join (splitN n from_).1 mid) (splitN (splitN n from_).2 (w64 (to - from_))).2
def replT (t : Tre) (from_ to : Int) (l : List Itm) : Tre × Int × Unit :=
  if from_ < 0 ∨ to < from_ ∨ to > (sumOf (topT t)).1 then (none, 1, ())
  else if (newT l).2.1 ≠ 0 then (none, (newT l).2.1, ())
  else if w64 (w64 ((sumOf (topT t)).1 - w64 (to - from_)) + (l.length : Int)) > 30000 then (none, 5, ())
  else (some (replN (topT t) (topT (newT l).1) from_ to, ()), 0, ())
def maxI (a b : Int) : Int := if a < b then b else a
def updL (w : Wve) (old : Span) : Int := if (atT (treeOf w) (findT (treeOf w) 0 old.2.1 1).1.1).2.1 = 0 then w64 ((findT (treeOf w) 0 old.2.1 1).1.1 + 1) else (findT (treeOf w) 0 old.2.1 1).1.1
def updE (w : Wve) (old now : Span) : Int := if (atT (treeOf w) (findT (treeOf w) 0 old.2.1 1).1.1).2.1 = 0 then w64 (now.2.1 + w64 (w64 ((findT (treeOf w) 0 old.2.1 1).1.2.1.2.1.1 + (atT (treeOf w) (findT (treeOf w) 0 old.2.1 1).1.1).1.2.2.1.1) - old.2.1)) else now.2.1
def updR (w : Wve) (old now : Span) (s : Option ISet) : Tre × Int × Unit :=
  replT (treeOf w) (findT (treeOf w) 0 old.1 0).1.1 (maxI (findT (treeOf w) 0 old.1 0).1.1 (updL w old)) (rowF (updE w old now) (findT (treeOf w) 0 old.1 0).1.2.1.2.1.1 ((allI s).filter (inI now.1 now.2.1)))
def updW (w : Wve) (old now : Span) (s : Option ISet) : Wve × Int × Unit :=
  if (fitsW old (sumOf (topT (treeOf w))).2.1.1 && fitsW now (lenI s) && decide (old.1 = now.1) && decide (w64 ((sumOf (topT (treeOf w))).2.1.1 - old.2.1) = w64 (lenI s - now.2.1))) = false then (none, 1, ())
  else if (updR w old now s).2.1 ≠ 0 then (none, (updR w old now s).2.1, ()) else (some ((updR w old now s).1, ()), 0, ())
def cSplit : Contract := { arg := .pair t116 (.pair t3 .unit), res := .pair t116 (.pair t116 .unit), one := false, pre := fun x => WfN x.1 ∧ okIts (items x.1), fn := fun x => ((splitN x.1 x.2.1).1, (splitN x.1 x.2.1).2, ()) }
def cReplace : Contract := { arg := .pair t72 (.pair t3 (.pair t3 (.pair t75 .unit))), res := .pair t72 (.pair t28 .unit), one := false, pre := fun x => okTre x.1 ∧ x.2.2.2.1.length ≤ 100000, fn := fun x => replT x.1 x.2.1 x.2.2.1 x.2.2.2.1 }
def cUpdate : Contract := { arg := .pair t34 (.pair t24 (.pair t24 (.pair t27 .unit))), res := .pair t34 (.pair t28 .unit), one := false, pre := fun x => okTre (treeOf x.1) ∧ (allI x.2.2.2.1).length ≤ 10000 ∧ shortL (allI x.2.2.2.1), fn := fun x => updW x.1 x.2.1 x.2.2.1 x.2.2.2.1 }
def cFour : Contract := { arg := .unit, res := .bool, one := true, pre := fun _ => True, fn := fun _ => true }
def cWeavePlaces : Contract := lawC (.pair t3 (.pair t22 (.pair t24 .unit))) (fun x => x.2.1.length ≤ maxLen)
def cWeaveThere : Contract := lawC (.pair t3 (.pair t22 .unit)) (fun x => x.2.1.length ≤ maxLen)
def cWeaveNew : Contract := lawC (.pair t3 (.pair t22 .unit)) (fun x => x.2.1.length ≤ maxLen)
def cWeaveNil : Contract := lawC (.pair t3 .unit) (fun _ => True)
def fnVCat (E : Env) (fn : Func) (c : Code) (C : Contract) (x : C.arg.den) : Prop :=
  vc E (vcN E deep) bot (bot + fn.ntmps) c ⟨entrySlots C.arg x C.tail bot, [], []⟩ fun e σ => match e with
    | .normal => retVC E bot fn.results.toList C.one C.res σ (C.fn x)
    | .ret => retVC E bot fn.results.toList C.one C.res σ (C.fn x)
    | .exit _ => False
theorem fnVC_at {E : Env} {fn : Func} {c : Code} {C : Contract} (h : ∀ x, C.pre x → fnVCat E fn c C x) : fnVC E fn c C := h
end Go.Fr.C14
namespace Go.Fr.C14
open Go Go.Fr Go.Proofs
theorem getD_app_l {α : Type} {a b : List α} {i : Nat} (d : α) (h : i < a.length) : (a ++ b).getD i d = a.getD i d := by
  rw [List.getD_eq_getElem?_getD, List.getD_eq_getElem?_getD, List.getElem?_append_left h]
theorem getD_app_r {α : Type} {a b : List α} {i : Nat} (d : α) (h : a.length ≤ i) : (a ++ b).getD i d = b.getD (i - a.length) d := by
  rw [List.getD_eq_getElem?_getD, List.getD_eq_getElem?_getD, List.getElem?_append_right h]
theorem w64_id {n : Int} (h0 : -9223372036854775808 ≤ n) (h1 : n ≤ 9223372036854775807) : w64 n = n := wrap_id h0 h1
abbrev d0 (i : Itm) : Int := i.2.2.1.1
abbrev d1 (i : Itm) : Int := i.2.2.1.2.1
def Fine (l : List Itm) : Prop := ∀ i ∈ l, 0 ≤ d0 i ∧ d0 i ≤ 1099511627776 ∧ 0 ≤ d1 i ∧ d1 i ≤ 1099511627776
theorem fine_cons {i : Itm} {l : List Itm} (h : Fine (i :: l)) : (0 ≤ d0 i ∧ d0 i ≤ 1099511627776 ∧ 0 ≤ d1 i ∧ d1 i ≤ 1099511627776) ∧ Fine l :=
  ⟨h i (List.mem_cons_self ..), fun j hj => h j (List.mem_cons_of_mem _ hj)⟩
theorem fine_append {l m : List Itm} : Fine (l ++ m) ↔ Fine l ∧ Fine m := by
  unfold Fine
  constructor
  · intro h
    exact ⟨fun i hi => h i (List.mem_append_left _ hi), fun i hi => h i (List.mem_append_right _ hi)⟩
  · rintro ⟨h1, h2⟩ i hi
    rcases List.mem_append.1 hi with hi | hi
    · exact h1 i hi
    · exact h2 i hi
def sum0 (l : List Itm) : Int := (l.map d0).sum
def sum1 (l : List Itm) : Int := (l.map d1).sum
theorem sum0_cons (i : Itm) (l : List Itm) : sum0 (i :: l) = d0 i + sum0 l := by simp [sum0]
theorem sum1_cons (i : Itm) (l : List Itm) : sum1 (i :: l) = d1 i + sum1 l := by simp [sum1]
theorem sum0_append (l m : List Itm) : sum0 (l ++ m) = sum0 l + sum0 m := by simp [sum0]
theorem sum1_append (l m : List Itm) : sum1 (l ++ m) = sum1 l + sum1 m := by simp [sum1]
theorem sums_fine : {l : List Itm} → Fine l → 0 ≤ sum0 l ∧ sum0 l ≤ 1099511627776 * (l.length : Int) ∧ 0 ≤ sum1 l ∧ sum1 l ≤ 1099511627776 * (l.length : Int)
  | [], _ => by simp [sum0, sum1]
  | i :: l, h => by
    obtain ⟨h1, h2⟩ := fine_cons h
    have := sums_fine h2
    rw [sum0_cons, sum1_cons, List.length_cons]
    omega
def Is (s : Sm) (k b c : Int) : Prop := s.1 = k ∧ s.2.1.1 = b ∧ s.2.1.2.1 = c
theorem addS_is {s t : Sm} {k b c k' b' c' : Int} (h : Is s k b c) (g : Is t k' b' c') (h0 : 0 ≤ k) (h1 : 0 ≤ b) (h2 : 0 ≤ c) (g0 : 0 ≤ k') (g1 : 0 ≤ b') (g2 : 0 ≤ c')
    (e0 : k + k' ≤ 9223372036854775807) (e1 : b + b' ≤ 9223372036854775807) (e2 : c + c' ≤ 9223372036854775807) : Is (addS s t) (k + k') (b + b') (c + c') := by
  obtain ⟨rfl, rfl, rfl⟩ := h
  obtain ⟨rfl, rfl, rfl⟩ := g
  unfold addS
  split
  · exact ⟨w64_id (by omega) e0, w64_id (by omega) e1, w64_id (by omega) e2⟩
  · exact ⟨w64_id (by omega) e0, w64_id (by omega) e1, w64_id (by omega) e2⟩
theorem is_z : Is zS 0 0 0 := ⟨rfl, rfl, rfl⟩
theorem is_of (i : Itm) : Is (ofI i) 1 (d0 i) (d1 i) := ⟨rfl, rfl, rfl⟩
theorem fold_is : (l : List Itm) → (s : Sm) → (k b c : Int) → Fine l → Is s k b c → 0 ≤ k → 0 ≤ b → 0 ≤ c → k + (l.length : Int) ≤ 1000000 → b + 1099511627776 * (l.length : Int) ≤ 9223372036854775807 → c + 1099511627776 * (l.length : Int) ≤ 9223372036854775807 →
    Is (l.foldl (fun s x => addS s (ofI x)) s) (k + (l.length : Int)) (b + sum0 l) (c + sum1 l)
  | [], s, k, b, c, _, h, _, _, _, _, _, _ => by simpa [sum0, sum1] using h
  | i :: l, s, k, b, c, hf, h, h0, h1, h2, e0, e1, e2 => by
    obtain ⟨f1, f2⟩ := fine_cons hf
    rw [List.length_cons] at e0 e1 e2 ⊢
    have a := addS_is h (is_of i) h0 h1 h2 (by omega) f1.1 f1.2.2.1 (by omega) (by omega) (by omega)
    have ih := fold_is l _ _ _ _ f2 a (by omega) (by omega) (by omega) (by omega) (by omega) (by omega)
    rw [sum0_cons, sum1_cons]
    have q0 : k + ((l.length + 1 : Nat) : Int) = k + 1 + (l.length : Int) := by omega
    have q1 : b + (d0 i + sum0 l) = b + d0 i + sum0 l := by omega
    have q2 : c + (d1 i + sum1 l) = c + d1 i + sum1 l := by omega
    rw [q0, q1, q2]
    exact ih
theorem allS_is {l : List Itm} (hf : Fine l) (hl : l.length ≤ 100000) : Is (allS l) (l.length : Int) (sum0 l) (sum1 l) := by
  have := fold_is l zS 0 0 0 hf is_z (by omega) (by omega) (by omega) (by omega) (by omega) (by omega)
  simpa [allS] using this
def findC (dim v bias : Int) : List Itm → Int → Int → Int → Int × Int × Int
  | [], k, b, c => (k, b, c)
  | i :: r, k, b, c => if reach v bias (if dim = 0 then b + d0 i else c + d1 i) = true then (k, b, c) else findC dim v bias r (k + 1) (b + d0 i) (c + d1 i)
theorem size_is {s : Sm} {k b c dim : Int} (h : Is s k b c) (hd : dim = 0 ∨ dim = 1) : sizeD s dim = if dim = 0 then b else c := by
  obtain ⟨rfl, rfl, rfl⟩ := h
  unfold sizeD
  rcases hd with rfl | rfl <;> rfl
theorem findL_is {dim v bias : Int} (hd : dim = 0 ∨ dim = 1) : (l : List Itm) → (s : Sm) → (k b c : Int) → Fine l → Is s k b c → 0 ≤ k → 0 ≤ b → 0 ≤ c → k + (l.length : Int) ≤ 1000000 → b + 1099511627776 * (l.length : Int) ≤ 9223372036854775807 → c + 1099511627776 * (l.length : Int) ≤ 9223372036854775807 →
    Is (findL dim v bias l s) (findC dim v bias l k b c).1 (findC dim v bias l k b c).2.1 (findC dim v bias l k b c).2.2
  | [], s, k, b, c, _, h, _, _, _, _, _, _ => h
  | i :: l, s, k, b, c, hf, h, h0, h1, h2, e0, e1, e2 => by
    obtain ⟨f1, f2⟩ := fine_cons hf
    rw [List.length_cons] at e0 e1 e2
    have a := addS_is h (is_of i) h0 h1 h2 (by omega) f1.1 f1.2.2.1 (by omega) (by omega) (by omega)
    have ih := findL_is (v := v) (bias := bias) hd l _ _ _ _ f2 a (by omega) (by omega) (by omega) (by omega) (by omega) (by omega)
    unfold findL findC
    rw [size_is a hd]
    cases hr : reach v bias (if dim = 0 then b + d0 i else c + d1 i) with
    | true => exact h
    | false => exact ih
theorem reach_mono {v bias e e' : Int} (h : e ≤ e') (hr : reach v bias e = true) : reach v bias e' = true := by
  unfold reach at hr ⊢
  simp at hr ⊢
  omega
theorem at_dim {dim b c b' c' : Int} (hb : b ≤ b') (hc : c ≤ c') : (if dim = 0 then b else c) ≤ (if dim = 0 then b' else c') := by
  split
  · exact hb
  · exact hc
theorem findC_pass {dim v bias : Int} : (l m : List Itm) → (k b c : Int) → Fine l → reach v bias (if dim = 0 then b + sum0 l else c + sum1 l) = false →
    findC dim v bias (l ++ m) k b c = findC dim v bias m (k + (l.length : Int)) (b + sum0 l) (c + sum1 l)
  | [], m, k, b, c, _, _ => by simp [sum0, sum1]
  | i :: l, m, k, b, c, hf, h => by
    obtain ⟨f1, f2⟩ := fine_cons hf
    have g := sums_fine f2
    rw [sum0_cons, sum1_cons] at h ⊢
    have hn : reach v bias (if dim = 0 then b + d0 i else c + d1 i) = false := by
      cases hr : reach v bias (if dim = 0 then b + d0 i else c + d1 i) with
      | false => rfl
      | true => rw [reach_mono (at_dim (by omega) (by omega)) hr] at h; cases h
    rw [List.cons_append]
    show (if _ then _ else _) = _
    rw [hn, if_neg (by decide)]
    have ih := findC_pass l m (k + 1) (b + d0 i) (c + d1 i) f2 (by rw [Int.add_assoc, Int.add_assoc]; exact h)
    rw [ih, List.length_cons]
    have q0 : k + 1 + (l.length : Int) = k + ((l.length + 1 : Nat) : Int) := by omega
    rw [q0, Int.add_assoc, Int.add_assoc]
theorem findC_in {dim v bias : Int} : (l m : List Itm) → (k b c : Int) → l ≠ [] → reach v bias (if dim = 0 then b + sum0 l else c + sum1 l) = true →
    findC dim v bias (l ++ m) k b c = findC dim v bias l k b c
  | [], m, k, b, c, hne, _ => absurd rfl hne
  | i :: l, m, k, b, c, _, h => by
    rw [sum0_cons, sum1_cons] at h
    rw [List.cons_append]
    show (if _ then _ else _) = (if _ then _ else _)
    cases hr : reach v bias (if dim = 0 then b + d0 i else c + d1 i) with
    | true => rfl
    | false =>
      rw [if_neg (by decide), if_neg (by decide)]
      by_cases hl : l = []
      · subst hl
        rw [show sum0 [] = 0 from rfl, show sum1 [] = 0 from rfl, Int.add_zero, Int.add_zero, hr] at h
        cases h
      · exact findC_in l m _ _ _ hl (by rw [Int.add_assoc, Int.add_assoc]; exact h)
def okPiece (i : Itm) : Prop := (i.2.1 = 0 ∧ d0 i = d1 i ∧ 1 ≤ d1 i ∧ d1 i ≤ 1099511627776) ∨ (1 ≤ i.2.1 ∧ d0 i = 0 ∧ 1 ≤ d1 i ∧ d1 i ≤ 1099511627776)
def Rowly : Int → List Itm → Prop
  | _, [] => True
  | p, i :: r => okPiece i ∧ i.2.1 ≠ p ∧ Rowly i.2.1 r
theorem rowly_fine : {p : Int} → {l : List Itm} → Rowly p l → Fine l
  | _, [], _ => fun i hi => by cases hi
  | _, i :: l, h => by
    have ih := rowly_fine h.2.2
    intro j hj
    rcases List.mem_cons.1 hj with e | hj
    · subst e
      rcases h.1 with h | h <;> omega
    · exact ih j hj
theorem rowly_all : {p : Int} → {l : List Itm} → Rowly p l → ∀ i ∈ l, okPiece i
  | _, [], _ => fun i hi => by cases hi
  | _, i :: l, h => by
    have ih := rowly_all h.2.2
    intro j hj
    rcases List.mem_cons.1 hj with e | hj
    · subst e; exact h.1
    · exact ih j hj
def runB (b : Int) : Nat → List Spt
  | 0 => []
  | k + 1 => (b, 0, ()) :: runB (b + 1) k
def expand (b : Int) : List Itm → List Spt
  | [] => []
  | i :: r => (if i.2.1 = 0 then runB b (d1 i).toNat else List.replicate (d1 i).toNat (b, i.2.1, ())) ++ expand (b + d0 i) r
theorem runB_len (b : Int) (k : Nat) : (runB b k).length = k := by
  induction k generalizing b with
  | zero => rfl
  | succ k ih => simp [runB, ih]
theorem runB_get (b : Int) (k j : Nat) (h : j < k) (d : Spt) : (runB b k).getD j d = (b + (j : Int), 0, ()) := by
  induction k generalizing b j with
  | zero => omega
  | succ k ih =>
    cases j with
    | zero => simp [runB]
    | succ j =>
      show (runB (b + 1) k).getD j d = _
      rw [ih (b + 1) j (by omega)]
      congr 1
      omega
def runes (b : Int) (i : Itm) : List Spt := if i.2.1 = 0 then runB b (d1 i).toNat else List.replicate (d1 i).toNat (b, i.2.1, ())
theorem runes_len (b : Int) (i : Itm) : (runes b i).length = (d1 i).toNat := by
  unfold runes
  split
  · exact runB_len _ _
  · exact List.length_replicate
theorem runes_id (b : Int) (i : Itm) : ∀ x ∈ runes b i, x.2.1 = i.2.1 := by
  unfold runes
  split
  · rename_i h
    rw [h]
    generalize (d1 i).toNat = k
    induction k generalizing b with
    | zero => intro x hx; cases hx
    | succ k ih =>
      intro x hx
      rcases List.mem_cons.1 hx with e | hx
      · subst e; rfl
      · exact ih (b + 1) x hx
  · intro x hx
    rw [(List.mem_replicate.1 hx).2]
theorem runes_get (b : Int) (i : Itm) (j : Nat) (h : j < (d1 i).toNat) (d : Spt) : (runes b i).getD j d = (if i.2.1 = 0 then b + (j : Int) else b, i.2.1, ()) := by
  unfold runes
  by_cases h0 : i.2.1 = 0
  · rw [if_pos h0, if_pos h0, runB_get b _ j h, h0]
  · rw [if_neg h0, if_neg h0]
    rw [List.getD_eq_getElem?_getD, List.getElem?_replicate, if_pos h]
    rfl
theorem expand_cons (b : Int) (i : Itm) (r : List Itm) : expand b (i :: r) = runes b i ++ expand (b + d0 i) r := rfl
theorem expand_len : {p : Int} → {l : List Itm} → (b : Int) → Rowly p l → ((expand b l).length : Int) = sum1 l
  | _, [], _, _ => rfl
  | _, i :: l, b, h => by
    have ih := expand_len (b + d0 i) h.2.2
    rw [expand_cons, List.length_append, runes_len, sum1_cons]
    have : 1 ≤ d1 i := by rcases h.1 with h | h <;> omega
    omega
theorem snoc_get {α : Type} (l : List α) (x d : α) : (l ++ [x]).getD ((l ++ [x]).length - 1) d = x := by simp
theorem snoc_set {α : Type} (l : List α) (x y : α) : (l ++ [x]).set ((l ++ [x]).length - 1) y = l ++ [y] := by
  rw [List.length_append, List.length_singleton, Nat.add_sub_cancel, List.set_append_right _ _ (Nat.le_refl _), Nat.sub_self]
  rfl
theorem step_same {out : List Pce} {j c : Int} {x : Spt} (h : x.2.1 = j) (h0 : 0 ≤ c) (h1 : c ≤ 9000000000000000000) : pceStep (out ++ [(j, c, ())]) x = out ++ [(j, c + 1, ())] := by
  unfold pceStep
  rw [snoc_get, if_pos ⟨by simp, h.symm⟩, snoc_set]
  rw [w64_id (by show -9223372036854775808 ≤ c + 1; omega) (by show c + 1 ≤ 9223372036854775807; omega)]
theorem run_on : (L : List Spt) → (out : List Pce) → (j c : Int) → (∀ x ∈ L, x.2.1 = j) → 0 ≤ c → c + (L.length : Int) ≤ 9000000000000000000 → L.foldl pceStep (out ++ [(j, c, ())]) = out ++ [(j, c + (L.length : Int), ())]
  | [], _, _, _, _, _, _ => by simp
  | x :: L, out, j, c, h, h0, h1 => by
    rw [List.length_cons] at h1 ⊢
    rw [List.foldl_cons, step_same (h x (List.mem_cons_self ..)) h0 (by omega), run_on L out j (c + 1) (fun y hy => h y (List.mem_cons_of_mem _ hy)) (by omega) (by omega)]
    have : c + 1 + (L.length : Int) = c + ((L.length + 1 : Nat) : Int) := by omega
    rw [this]
def lastId (out : List Pce) : Int := if out = [] then -1 else (out.getD (out.length - 1) (0, 0, ())).1
theorem step_new {out : List Pce} {x : Spt} (h : lastId out ≠ x.2.1) : pceStep out x = out ++ [(x.2.1, 1, ())] := by
  unfold pceStep
  rw [if_neg]
  rintro ⟨h1, h2⟩
  unfold lastId at h
  rw [if_neg h1] at h
  exact h h2
theorem lastId_snoc (out : List Pce) (x : Pce) : lastId (out ++ [x]) = x.1 := by
  unfold lastId
  rw [if_neg (by simp), snoc_get]
theorem run_all {L : List Spt} {out : List Pce} {j : Int} (h : ∀ x ∈ L, x.2.1 = j) (hL : 1 ≤ L.length) (hb : L.length ≤ 1000000000000000000) (ho : lastId out ≠ j) : L.foldl pceStep out = out ++ [(j, (L.length : Int), ())] := by
  cases L with
  | nil => exact absurd hL (by decide)
  | cons x L =>
    have hx := h x (List.mem_cons_self ..)
    rw [List.length_cons] at hb ⊢
    rw [List.foldl_cons, step_new (by rw [hx]; exact ho), hx, run_on L out j 1 (fun y hy => h y (List.mem_cons_of_mem _ hy)) (by omega) (by omega)]
    have : 1 + (L.length : Int) = ((L.length + 1 : Nat) : Int) := by omega
    rw [this]
theorem pieces_fold : {p : Int} → {l : List Itm} → (b : Int) → (out : List Pce) → Rowly p l → lastId out = p → (expand b l).foldl pceStep out = out ++ l.map fun i => (i.2.1, d1 i, ())
  | _, [], _, out, _, _ => by simp [expand]
  | p, i :: l, b, out, h, hp => by
    have hd : 1 ≤ d1 i ∧ d1 i ≤ 1099511627776 := by rcases h.1 with h | h <;> omega
    rw [expand_cons, List.foldl_append, run_all (runes_id b i) (by rw [runes_len]; omega) (by rw [runes_len]; omega) (by rw [hp]; exact fun e => h.2.1 e.symm), runes_len]
    have e1 : (((d1 i).toNat : Nat) : Int) = d1 i := by omega
    rw [e1, pieces_fold (b + d0 i) _ h.2.2 (lastId_snoc _ _), List.append_assoc]
    rfl
theorem in_spot : {p : Int} → {l : List Itm} → (k b c at_ : Int) → Rowly p l → c ≤ at_ → at_ < c + sum1 l →
    ∃ j : Nat, j < l.length ∧ (findC 1 at_ 1 l k b c).1 = k + (j : Int) ∧ (findC 1 at_ 1 l k b c).2.2 ≤ at_ ∧ c ≤ (findC 1 at_ 1 l k b c).2.2 ∧
      (expand b l).getD (at_ - c).toNat (0, 0, ()) = (if (l.getD j zItm).2.1 = 0 then (findC 1 at_ 1 l k b c).2.1 + (at_ - (findC 1 at_ 1 l k b c).2.2) else (findC 1 at_ 1 l k b c).2.1, (l.getD j zItm).2.1, ()) ∧
      ((findC 1 at_ 1 l k b c).2.2 < at_ → ((expand b l).getD (at_ - c - 1).toNat (0, 0, ())).2.1 = (l.getD j zItm).2.1) ∧
      ((findC 1 at_ 1 l k b c).2.2 = at_ → c < at_ → ((expand b l).getD (at_ - c - 1).toNat (0, 0, ())).2.1 ≠ (l.getD j zItm).2.1) ∧
      ((findC 1 at_ 1 l k b c).2.2 = at_ → c = at_ → (l.getD j zItm).2.1 ≠ p)
  | _, [], k, b, c, at_, _, h0, h1 => by
    rw [show sum1 [] = 0 from rfl] at h1
    omega
  | p, i :: l, k, b, c, at_, h, h0, h1 => by
    have hd : 1 ≤ d1 i ∧ d1 i ≤ 1099511627776 := by rcases h.1 with h | h <;> omega
    rw [sum1_cons] at h1
    have e : findC 1 at_ 1 (i :: l) k b c = if reach at_ 1 (c + d1 i) = true then (k, b, c) else findC 1 at_ 1 l (k + 1) (b + d0 i) (c + d1 i) := rfl
    rw [e, expand_cons]
    have rl := runes_len b i
    by_cases hr : at_ < c + d1 i
    · have hr' : reach at_ 1 (c + d1 i) = true := by unfold reach; simp; omega
      rw [if_pos hr']
      have g : ∀ j : Nat, j < (d1 i).toNat → (runes b i ++ expand (b + d0 i) l).getD j (0, 0, ()) = (if i.2.1 = 0 then b + (j : Int) else b, i.2.1, ()) := fun j hj => by
        rw [getD_app_l _ (by rw [rl]; exact hj), runes_get b i j hj]
      refine ⟨0, by simp, by simp, h0, Int.le_refl _, ?_, fun hlt => ?_, fun _ hc => ?_, fun _ _ => h.2.1⟩
      · rw [g _ (by omega)]
        show _ = (if i.2.1 = 0 then b + (at_ - c) else b, i.2.1, ())
        have : (((at_ - c).toNat : Nat) : Int) = at_ - c := by omega
        rw [this]
      · have hlt : c < at_ := hlt
        rw [g _ (by omega)]
        rfl
      · have := ‹c = at_›
        omega
    · have hr' : ¬ reach at_ 1 (c + d1 i) = true := by unfold reach; simp; omega
      rw [if_neg hr']
      obtain ⟨j, i1, i2, i3, i4, i5, i6, i7, i8⟩ := in_spot (k + 1) (b + d0 i) (c + d1 i) at_ h.2.2 (by omega) (by omega)
      generalize findC 1 at_ 1 l (k + 1) (b + d0 i) (c + d1 i) = f at i2 i3 i4 i5 i6 i7 i8 ⊢
      have g : ∀ m : Int, c + d1 i ≤ m → (runes b i ++ expand (b + d0 i) l).getD (m - c).toNat (0, 0, ()) = (expand (b + d0 i) l).getD (m - (c + d1 i)).toNat (0, 0, ()) := fun m hm => by
        rw [getD_app_r _ (by rw [rl]; omega), rl]
        congr 1
        omega
      have g1 : at_ - c - 1 = (at_ - 1) - c := by omega
      have g2 : at_ - (c + d1 i) - 1 = (at_ - 1) - (c + d1 i) := by omega
      refine ⟨j + 1, by simp; omega, by rw [i2]; omega, i3, by omega, ?_, fun hlt => ?_, fun he hc => ?_, fun he hc => by omega⟩
      · rw [g _ (by omega)]
        exact i5
      · have i6 := i6 hlt
        rw [g1, g _ (by omega), ← g2]
        exact i6
      · by_cases hb : c + d1 i < at_
        · have i7 := i7 he hb
          rw [g1, g _ (by omega), ← g2]
          exact i7
        · have hb : c + d1 i = at_ := by omega
          have i8 := i8 he hb
          rw [getD_app_l _ (by rw [rl]; omega), runes_get b i _ (by omega)]
          exact fun hh => i8 hh.symm
theorem find_all {dim v bias : Int} {l : List Itm} {k b c : Int} (hf : Fine l) (h : reach v bias (if dim = 0 then b + sum0 l else c + sum1 l) = false) : findC dim v bias l k b c = (k + (l.length : Int), b + sum0 l, c + sum1 l) := by
  have := findC_pass (dim := dim) (v := v) (bias := bias) l [] k b c hf h
  rw [List.append_nil] at this
  rw [this]
  rfl
end Go.Fr.C14
namespace Go.Fr.C14
open Go Go.Fr Go.Proofs
def SumOk (n : Nd) : Prop := Is (sumOf n) ((items n).length : Int) (sum0 (items n)) (sum1 (items n))
theorem flat_cons (k : Nd) (r : List Nd) : (k :: r).flatMap items = items k ++ r.flatMap items := rfl
theorem kids_fold : (ks : List Nd) → (s : Sm) → (k b c : Int) → (∀ x ∈ ks, SumOk x) → Fine (ks.flatMap items) → Is s k b c → 0 ≤ k → 0 ≤ b → 0 ≤ c → k + ((ks.flatMap items).length : Int) ≤ 1000000 → b + 1099511627776 * ((ks.flatMap items).length : Int) ≤ 9223372036854775807 → c + 1099511627776 * ((ks.flatMap items).length : Int) ≤ 9223372036854775807 →
    Is (ks.foldl (fun s k => addS s (sumOf k)) s) (k + ((ks.flatMap items).length : Int)) (b + sum0 (ks.flatMap items)) (c + sum1 (ks.flatMap items))
  | [], s, k, b, c, _, _, h, _, _, _, _, _, _ => by simpa [sum0, sum1] using h
  | x :: r, s, k, b, c, hs, hf, h, h0, h1, h2, e0, e1, e2 => by
    rw [flat_cons] at hf e0 e1 e2 ⊢
    obtain ⟨f1, f2⟩ := fine_append.1 hf
    have b1 := sums_fine f1
    have b2 := sums_fine f2
    rw [List.length_append] at e0 e1 e2 ⊢
    rw [sum0_append, sum1_append]
    have a := addS_is h (hs x (List.mem_cons_self ..)) h0 h1 h2 (by omega) (by omega) (by omega) (by omega) (by omega) (by omega)
    have ih := kids_fold r _ _ _ _ (fun y hy => hs y (List.mem_cons_of_mem _ hy)) f2 a (by omega) (by omega) (by omega) (by omega) (by omega) (by omega)
    have q0 : k + (((items x).length + (r.flatMap items).length : Nat) : Int) = k + ((items x).length : Int) + ((r.flatMap items).length : Int) := by omega
    have q1 : b + (sum0 (items x) + sum0 (r.flatMap items)) = b + sum0 (items x) + sum0 (r.flatMap items) := by omega
    have q2 : c + (sum1 (items x) + sum1 (r.flatMap items)) = c + sum1 (items x) + sum1 (r.flatMap items) := by omega
    rw [q0, q1, q2]
    exact ih
theorem fine_mem {ks : List Nd} (h : Fine (ks.flatMap items)) {k : Nd} (hk : k ∈ ks) : Fine (items k) := fun i hi => h i (List.mem_flatMap.2 ⟨k, hk, hi⟩)
theorem len_mem {ks : List Nd} {k : Nd} (hk : k ∈ ks) : (items k).length ≤ (ks.flatMap items).length := by
  induction ks with
  | nil => cases hk
  | cons x r ih =>
    rw [flat_cons, List.length_append]
    rcases List.mem_cons.1 hk with e | hk
    · subst e; omega
    · have := ih hk; omega
theorem sum_wf : (h : Nat) → (top : Bool) → (n : Nd) → h ≤ 100 → Wf h top n → Fine (items n) → (items n).length ≤ 100000 → SumOk n
  | 0, _, _, _, e, _, _ => e.elim
  | _ + 1, _, .nil, _, e, _, _ => e.elim
  | h + 1, _, .leaf a, _, e, hf, hl => by
    have e4 : a.2.1 = allS a.1 := e.2.2.2
    show Is a.2.1 (a.1.length : Int) (sum0 a.1) (sum1 a.1)
    rw [e4]
    exact allS_is hf hl
  | h + 1, top, .inner ks b, hh, e, hf, hl => by
    have ei := items_inner e (by omega)
    obtain ⟨w1, w2, w3, w4, w5, w6⟩ := e
    unfold SumOk
    rw [ei] at hf hl ⊢
    show Is b.2.1 _ _ _
    rw [w5]
    have := kids_fold ks zS 0 0 0 (fun k hk => sum_wf h false k (by omega) (w6 k hk) (fine_mem hf hk) (Nat.le_trans (len_mem hk) hl)) hf is_z (by omega) (by omega) (by omega) (by omega) (by omega) (by omega)
    simpa [sums] using this
theorem findC_nil (dim v bias k b c : Int) : findC dim v bias [] k b c = (k, b, c) := rfl
theorem findK_is {dim v bias : Int} (hd : dim = 0 ∨ dim = 1) : (ks : List Nd) → (s : Sm) → (k b c : Int) → (∀ x ∈ ks, SumOk x) → (∀ x ∈ ks, items x ≠ []) → Fine (ks.flatMap items) → Is s k b c → 0 ≤ k → 0 ≤ b → 0 ≤ c → k + ((ks.flatMap items).length : Int) ≤ 1000000 → b + 1099511627776 * ((ks.flatMap items).length : Int) ≤ 9223372036854775807 → c + 1099511627776 * ((ks.flatMap items).length : Int) ≤ 9223372036854775807 →
    ((findK dim v bias ks s).2 = .nil ∧ Is (findK dim v bias ks s).1 (findC dim v bias (ks.flatMap items) k b c).1 (findC dim v bias (ks.flatMap items) k b c).2.1 (findC dim v bias (ks.flatMap items) k b c).2.2) ∨
    ((findK dim v bias ks s).2 ∈ ks ∧ ∃ k' b' c', Is (findK dim v bias ks s).1 k' b' c' ∧ findC dim v bias (ks.flatMap items) k b c = findC dim v bias (items (findK dim v bias ks s).2) k' b' c' ∧ 0 ≤ k' ∧ 0 ≤ b' ∧ 0 ≤ c' ∧
      k' + ((items (findK dim v bias ks s).2).length : Int) ≤ 1000000 ∧ b' + 1099511627776 * ((items (findK dim v bias ks s).2).length : Int) ≤ 9223372036854775807 ∧ c' + 1099511627776 * ((items (findK dim v bias ks s).2).length : Int) ≤ 9223372036854775807)
  | [], s, k, b, c, _, _, _, h, _, _, _, _, _, _ => .inl ⟨rfl, h⟩
  | x :: r, s, k, b, c, hs, hne, hf, h, h0, h1, h2, e0, e1, e2 => by
    rw [flat_cons] at hf e0 e1 e2 ⊢
    obtain ⟨f1, f2⟩ := fine_append.1 hf
    have b1 := sums_fine f1
    have b2 := sums_fine f2
    rw [List.length_append] at e0 e1 e2
    have a := addS_is h (hs x (List.mem_cons_self ..)) h0 h1 h2 (by omega) (by omega) (by omega) (by omega) (by omega) (by omega)
    have e : findK dim v bias (x :: r) s = if reach v bias (sizeD (addS s (sumOf x)) dim) = true then (s, x) else findK dim v bias r (addS s (sumOf x)) := rfl
    rw [e, size_is a hd]
    cases hr : reach v bias (if dim = 0 then b + sum0 (items x) else c + sum1 (items x)) with
    | true =>
      rw [if_pos rfl]
      refine .inr ⟨List.mem_cons_self .., k, b, c, h, findC_in _ _ _ _ _ (hne x (List.mem_cons_self ..)) hr, h0, h1, h2, ?_, ?_, ?_⟩
      · show k + ((items x).length : Int) ≤ _; omega
      · show b + 1099511627776 * ((items x).length : Int) ≤ _; omega
      · show c + 1099511627776 * ((items x).length : Int) ≤ _; omega
    | false =>
      rw [if_neg (by decide), findC_pass _ _ _ _ _ f1 hr]
      have ih := findK_is (v := v) (bias := bias) hd r _ _ _ _ (fun y hy => hs y (List.mem_cons_of_mem _ hy)) (fun y hy => hne y (List.mem_cons_of_mem _ hy)) f2 a (by omega) (by omega) (by omega) (by omega) (by omega) (by omega)
      rcases ih with ih | ⟨i1, i2⟩
      · exact .inl ih
      · exact .inr ⟨List.mem_cons_of_mem _ i1, i2⟩
theorem findF_nil (dim v bias : Int) (m : Nat) (s : Sm) (vis : Int) : (findF dim v bias m .nil s vis).1 = s := by
  cases m <;> rfl
theorem items_ne {h : Nat} {n : Nd} (hh : h ≤ 100) (e : Wf h false n) : items n ≠ [] := fun e0 => by
  have := count_full h n hh e
  rw [e0] at this
  have h5 : 0 < 4 ^ h := Nat.pow_pos (by omega)
  simp at this
theorem findF_is {dim v bias : Int} (hd : dim = 0 ∨ dim = 1) : (m h : Nat) → (top : Bool) → (n : Nd) → (s : Sm) → (vis k b c : Int) → h ≤ 100 → h ≤ m → Wf h top n → Fine (items n) → (items n).length ≤ 100000 → Is s k b c → 0 ≤ k → 0 ≤ b → 0 ≤ c → k + ((items n).length : Int) ≤ 1000000 → b + 1099511627776 * ((items n).length : Int) ≤ 9223372036854775807 → c + 1099511627776 * ((items n).length : Int) ≤ 9223372036854775807 →
    Is (findF dim v bias m n s vis).1 (findC dim v bias (items n) k b c).1 (findC dim v bias (items n) k b c).2.1 (findC dim v bias (items n) k b c).2.2
  | 0, h, _, n, _, _, _, _, _, _, hm, e, _, _, _, _, _, _, _, _, _ => by
    have : h = 0 := by omega
    subst this
    exact e.elim
  | m + 1, 0, _, _, _, _, _, _, _, _, _, e, _, _, _, _, _, _, _, _, _ => e.elim
  | m + 1, h + 1, _, .nil, _, _, _, _, _, _, _, e, _, _, _, _, _, _, _, _, _ => e.elim
  | m + 1, h + 1, _, .leaf a, s, vis, k, b, c, hh, hm, e, hf, hl, hs, h0, h1, h2, e0, e1, e2 => by
    show Is (findL dim v bias a.1 s) _ _ _
    exact findL_is hd a.1 s k b c hf hs h0 h1 h2 e0 e1 e2
  | m + 1, h + 1, top, .inner ks bx, s, vis, k, b, c, hh, hm, e, hf, hl, hs, h0, h1, h2, e0, e1, e2 => by
    have ei := items_inner e (by omega)
    rw [ei] at hf hl e0 e1 e2 ⊢
    obtain ⟨w1, w2, w3, w4, w5, w6⟩ := e
    have so : ∀ x ∈ ks, SumOk x := fun x hx => sum_wf h false x (by omega) (w6 x hx) (fine_mem hf hx) (Nat.le_trans (len_mem hx) hl)
    show Is (findF dim v bias m (findK dim v bias ks s).2 (findK dim v bias ks s).1 (w64 (vis + 1))).1 _ _ _
    rcases findK_is hd ks s k b c so (fun x hx => items_ne (by omega) (w6 x hx)) hf hs h0 h1 h2 e0 e1 e2 with ⟨g1, g2⟩ | ⟨g1, k', b', c', g2, g3, g4, g5, g6, g7, g8, g9⟩
    · rw [g1, findF_nil]
      exact g2
    · rw [g3]
      exact findF_is hd m h false _ _ _ k' b' c' (by omega) (by omega) (w6 _ g1) (fine_mem hf g1) (Nat.le_trans (len_mem g1) hl) g2 g4 g5 g6 g7 g8 g9
theorem sum_top {n : Nd} (hw : WfN n) (hf : Fine (items n)) (hl : (items n).length ≤ 100000) : SumOk n := by
  rcases hw with rfl | ⟨h, h1, w⟩
  · exact is_z
  · exact sum_wf h true n h1 w hf hl
theorem findP_is {dim v bias : Int} (hd : dim = 0 ∨ dim = 1) {n : Nd} (hw : WfN n) (hf : Fine (items n)) (hl : (items n).length ≤ 100000) :
    (findP n dim v bias).1 = (findC dim v bias (items n) 0 0 0).1 ∧ (findP n dim v bias).2.1.2.1.1 = (findC dim v bias (items n) 0 0 0).2.1 ∧ (findP n dim v bias).2.1.2.1.2.1 = (findC dim v bias (items n) 0 0 0).2.2 := by
  have : Is (findF dim v bias 101 n zS 0).1 (findC dim v bias (items n) 0 0 0).1 (findC dim v bias (items n) 0 0 0).2.1 (findC dim v bias (items n) 0 0 0).2.2 := by
    rcases hw with rfl | ⟨h, h1, w⟩
    · rw [findF_nil, items_nil, findC_nil]
      exact is_z
    · exact findF_is hd 101 h true n zS 0 0 0 0 h1 (by omega) w hf hl is_z (by omega) (by omega) (by omega) (by omega) (by omega) (by omega)
  exact this
end Go.Fr.C14
namespace Go.Fr.C14
open Go Go.Fr Go.Proofs
def rowP (t : Int) : Int → List Inl → List Itm
  | f, [] => if t > f then [plainI (t - f)] else []
  | f, x :: r => if x.2.1 > f then plainI (x.2.1 - f) :: virtualI x :: rowP t x.2.1 r else virtualI x :: rowP t f r
def Inls (f t : Int) (l : List Inl) : Prop := (∀ x ∈ l, f ≤ x.2.1 ∧ x.2.1 ≤ t ∧ 1 ≤ x.1 ∧ 1 ≤ lenT x ∧ lenT x ≤ 1000) ∧ l.Pairwise (fun a b => a.2.1 ≤ b.2.1) ∧ l.Pairwise (fun a b => a.1 ≠ b.1)
theorem inls_cons {f t : Int} {x : Inl} {r : List Inl} (h : Inls f t (x :: r)) : (f ≤ x.2.1 ∧ x.2.1 ≤ t ∧ 1 ≤ x.1 ∧ 1 ≤ lenT x ∧ lenT x ≤ 1000) ∧ Inls x.2.1 t r ∧ (∀ y ∈ r, y.1 ≠ x.1) := by
  obtain ⟨h1, h2, h3⟩ := h
  obtain ⟨p1, p2⟩ := List.pairwise_cons.1 h2
  obtain ⟨q1, q2⟩ := List.pairwise_cons.1 h3
  exact ⟨h1 x (List.mem_cons_self ..), ⟨fun y hy => ⟨p1 y hy, (h1 y (List.mem_cons_of_mem _ hy)).2⟩, p2, q2⟩, fun y hy e => q1 y hy e.symm⟩
theorem inls_less {f g t : Int} {l : List Inl} (h : Inls f t l) (hg : g ≤ f) : Inls g t l :=
  ⟨fun x hx => by have := h.1 x hx; exact ⟨by omega, this.2⟩, h.2⟩
theorem rowF_eq {t : Int} (ht : t ≤ 1099511627776) : (f : Int) → (l : List Inl) → 0 ≤ f → f ≤ t → Inls f t l → rowF t f l = rowP t f l
  | f, [], h0, h1, _ => by
    unfold rowF rowP
    rw [w64_id (by omega) (by omega)]
  | f, x :: r, h0, h1, h => by
    obtain ⟨i1, i2, _⟩ := inls_cons h
    unfold rowF rowP
    rw [w64_id (by omega) (by omega), rowF_eq ht x.2.1 r (by omega) i1.2.1 i2]
    by_cases hx : x.2.1 > f
    · rw [if_pos hx, if_pos hx]
    · rw [if_neg hx, if_neg hx]
      have e : f = x.2.1 := by omega
      rw [rowF_eq ht f r h0 h1 (inls_less i2 (by omega))]
theorem plain_ok {n : Int} (h : 1 ≤ n) (h1 : n ≤ 1099511627776) : okPiece (plainI n) := .inl ⟨rfl, rfl, h, h1⟩
theorem virtual_ok {x : Inl} (h : 1 ≤ x.1) (h1 : 1 ≤ lenT x) (h2 : lenT x ≤ 1000) : okPiece (virtualI x) := .inr ⟨h, rfl, h1, by show lenT x ≤ _; omega⟩
theorem rowP_rowly {t : Int} (ht : t ≤ 1099511627776) : (p f : Int) → (l : List Inl) → 0 ≤ f → f ≤ t → Inls f t l → p ≠ 0 → (∀ x ∈ l, x.1 ≠ p) → Rowly p (rowP t f l)
  | p, f, [], h0, h1, _, hp, _ => by
    unfold rowP
    by_cases ht' : t > f
    · rw [if_pos ht']
      exact ⟨plain_ok (by omega) (by omega), fun e => hp e.symm, trivial⟩
    · rw [if_neg ht']
      trivial
  | p, f, x :: r, h0, h1, h, hp, hn => by
    obtain ⟨i1, i2, i3⟩ := inls_cons h
    unfold rowP
    have vo := virtual_ok i1.2.2.1 i1.2.2.2.1 i1.2.2.2.2
    by_cases hx : x.2.1 > f
    · rw [if_pos hx]
      exact ⟨plain_ok (by omega) (by omega), fun e => hp e.symm, vo, fun e => by have : x.1 = 0 := e; omega, rowP_rowly ht x.1 x.2.1 r (by omega) i1.2.1 i2 (by omega) i3⟩
    · rw [if_neg hx]
      exact ⟨vo, hn x (List.mem_cons_self ..), rowP_rowly ht x.1 f r h0 h1 (inls_less i2 (by omega)) (by omega) i3⟩
def spF (n : Int) (l : List Inl) (f : Int) : Nat → List Spt
  | 0 => []
  | m + 1 => spotsX f l ++ (if f < n then [(f, 0, ())] else []) ++ spF n l (f + 1) m
theorem spots_F (w : WSet) : spots w = spF w.1 w.2.1 0 (w.1 + 1).toNat := by
  unfold spots
  rw [List.range_eq_range']
  have : ∀ (m f : Nat), (List.range' f m).flatMap (fun k : Nat => spotsAt w (k : Int)) = spF w.1 w.2.1 (f : Int) m := by
    intro m
    induction m with
    | zero => intro f; rfl
    | succ m ih =>
      intro f
      rw [List.range'_succ, List.flatMap_cons, ih (f + 1)]
      rfl
  exact this _ 0
theorem spotsX_cons (k : Int) (x : Inl) (r : List Inl) : spotsX k (x :: r) = (if x.2.1 = k then List.replicate (lenT x).toNat (k, x.1, ()) else []) ++ spotsX k r := by
  unfold spotsX
  rw [List.flatMap_cons]
  congr 1
  split
  · rw [List.map_const']
    congr 1
  · rfl
theorem spotsX_none {k : Int} {l : List Inl} (h : ∀ x ∈ l, x.2.1 ≠ k) : spotsX k l = [] := by
  induction l with
  | nil => rfl
  | cons x r ih =>
    rw [spotsX_cons, if_neg (h x (List.mem_cons_self ..)), ih fun y hy => h y (List.mem_cons_of_mem _ hy)]
    rfl
theorem spF_later {n : Int} {x : Inl} {r : List Inl} : (m : Nat) → (f : Int) → x.2.1 < f → spF n (x :: r) f m = spF n r f m
  | 0, _, _ => rfl
  | m + 1, f, h => by
    show spotsX f (x :: r) ++ _ ++ _ = spotsX f r ++ _ ++ _
    rw [spotsX_cons, if_neg (by omega), spF_later m (f + 1) (by omega)]
    rfl
theorem spF_here {n : Int} {x : Inl} {r : List Inl} (m : Nat) : spF n (x :: r) x.2.1 (m + 1) = List.replicate (lenT x).toNat (x.2.1, x.1, ()) ++ spF n r x.2.1 (m + 1) := by
  show spotsX _ (x :: r) ++ _ ++ _ = _ ++ (spotsX _ r ++ _ ++ _)
  rw [spotsX_cons, if_pos rfl, spF_later m _ (by omega)]
  simp only [List.append_assoc]
theorem spF_skip {n : Int} {l : List Inl} : (d : Nat) → (f : Int) → f + d ≤ n → (∀ y ∈ l, f + d ≤ y.2.1) → spF n l f (n + 1 - f).toNat = runB f d ++ spF n l (f + d) (n + 1 - (f + d)).toNat
  | 0, f, _, _ => by simp [runB]
  | d + 1, f, h, hl => by
    have e : (n + 1 - f).toNat = (n + 1 - (f + 1)).toNat + 1 := by omega
    rw [e]
    show spotsX f l ++ _ ++ spF n l (f + 1) _ = _
    rw [spotsX_none (fun y hy => by have := hl y hy; omega), if_pos (by omega), spF_skip d (f + 1) (by omega) (fun y hy => by have := hl y hy; omega)]
    have e2 : f + 1 + (d : Int) = f + ((d + 1 : Nat) : Int) := by omega
    rw [e2]
    rfl
theorem runes_plain (b n : Int) : runes b (plainI n) = runB b n.toNat := rfl
theorem runes_virtual (b : Int) {x : Inl} (h : 1 ≤ x.1) : runes b (virtualI x) = List.replicate (lenT x).toNat (b, x.1, ()) := by
  unfold runes
  rw [if_neg (by show ¬ x.1 = 0; omega)]
  rfl
theorem spots_row {n : Int} : (f : Int) → (l : List Inl) → 0 ≤ f → f ≤ n → Inls f n l → spF n l f (n + 1 - f).toNat = expand f (rowP n f l)
  | f, [], h0, h1, _ => by
    have := spF_skip (n := n) (l := []) (n - f).toNat f (by omega) (fun y hy => by cases hy)
    rw [this]
    have e : f + (((n - f).toNat : Nat) : Int) = n := by omega
    rw [e, show (n + 1 - n).toNat = 0 + 1 by omega]
    show runB f _ ++ (spotsX n [] ++ (if n < n then _ else _) ++ []) = _
    rw [if_neg (by omega)]
    unfold rowP
    by_cases ht : n > f
    · rw [if_pos ht, expand_cons, runes_plain]
      rfl
    · rw [if_neg ht, show (n - f).toNat = 0 by omega]
      rfl
  | f, x :: r, h0, h1, h => by
    obtain ⟨i1, i2, i3⟩ := inls_cons h
    have go : spF n (x :: r) x.2.1 (n + 1 - x.2.1).toNat = runes x.2.1 (virtualI x) ++ expand x.2.1 (rowP n x.2.1 r) := by
      have e : (n + 1 - x.2.1).toNat = (n - x.2.1).toNat + 1 := by omega
      rw [e, spF_here, ← e, spots_row x.2.1 r (by omega) i1.2.1 i2, runes_virtual _ i1.2.2.1]
    unfold rowP
    by_cases hx : x.2.1 > f
    · rw [if_pos hx]
      have hs := spF_skip (n := n) (l := x :: r) (x.2.1 - f).toNat f (by omega) (fun y hy => by
        rcases List.mem_cons.1 hy with e | hy
        · subst e; omega
        · have := (i2.1 y hy).1; omega)
      have e : f + (((x.2.1 - f).toNat : Nat) : Int) = x.2.1 := by omega
      rw [hs, e, go, expand_cons, runes_plain, expand_cons]
      have e2 : f + d0 (plainI (x.2.1 - f)) = x.2.1 := by show f + (x.2.1 - f) = _; omega
      have e3 : x.2.1 + d0 (virtualI x) = x.2.1 := by show x.2.1 + 0 = _; omega
      rw [e2, e3]
    · rw [if_neg hx]
      have e : f = x.2.1 := by omega
      rw [e, go, expand_cons]
      have e3 : x.2.1 + d0 (virtualI x) = x.2.1 := by show x.2.1 + 0 = _; omega
      rw [e3]
def lens (l : List Inl) : Int := (l.map lenT).sum
theorem lens_cons (x : Inl) (r : List Inl) : lens (x :: r) = lenT x + lens r := by simp [lens]
theorem row_sums {t : Int} : (f : Int) → (l : List Inl) → f ≤ t → Inls f t l → sum0 (rowP t f l) = t - f ∧ sum1 (rowP t f l) = t - f + lens l
  | f, [], h1, _ => by
    unfold rowP
    by_cases ht : t > f
    · rw [if_pos ht]
      rw [sum0_cons, sum1_cons]
      exact ⟨by show t - f + 0 = _; omega, by show t - f + 0 = _; simp [lens]⟩
    · rw [if_neg ht]
      exact ⟨by show (0 : Int) = _; omega, by show (0 : Int) = _; simp [lens]; omega⟩
  | f, x :: r, h1, h => by
    obtain ⟨i1, i2, i3⟩ := inls_cons h
    unfold rowP
    obtain ⟨s0, s1⟩ := row_sums x.2.1 r i1.2.1 i2
    by_cases hx : x.2.1 > f
    · rw [if_pos hx, sum0_cons, sum1_cons, sum0_cons, sum1_cons, s0, s1, lens_cons]
      exact ⟨by show x.2.1 - f + (0 + _) = _; omega, by show x.2.1 - f + (lenT x + _) = _; omega⟩
    · rw [if_neg hx]
      have e : f = x.2.1 := by omega
      rw [e, sum0_cons, sum1_cons, s0, s1, lens_cons]
      exact ⟨by show 0 + _ = _; omega, by show lenT x + _ = _; omega⟩
theorem row_len {t : Int} : (f : Int) → (l : List Inl) → (rowP t f l).length ≤ 2 * l.length + 1
  | f, [] => by
    unfold rowP
    split <;> simp
  | f, x :: r => by
    unfold rowP
    split
    · have := row_len (t := t) x.2.1 r
      simp; omega
    · have := row_len (t := t) f r
      simp; omega
def isAhead (at_ bias : Int) (x : Inl) : Prop := x.2.1 < at_ ∨ (x.2.1 = at_ ∧ bias = 1)
instance (at_ bias : Int) (x : Inl) : Decidable (isAhead at_ bias x) := by unfold isAhead; infer_instance
def lensA (at_ bias : Int) : List Inl → Int
  | [] => 0
  | x :: r => (if isAhead at_ bias x then lenT x else 0) + lensA at_ bias r
theorem lensA_none {at_ bias : Int} {l : List Inl} (h : ∀ x ∈ l, ¬ isAhead at_ bias x) : lensA at_ bias l = 0 := by
  induction l with
  | nil => rfl
  | cons x r ih =>
    show (if isAhead at_ bias x then lenT x else 0) + lensA at_ bias r = _
    rw [if_neg (h x (List.mem_cons_self ..)), ih fun y hy => h y (List.mem_cons_of_mem _ hy)]
    rfl
theorem lenT_nn (x : Inl) : 0 ≤ lenT x := Int.natCast_nonneg _
theorem lensA_nn (at_ bias : Int) (l : List Inl) : 0 ≤ lensA at_ bias l := by
  induction l with
  | nil => exact Int.le_refl _
  | cons x r ih =>
    show 0 ≤ (if isAhead at_ bias x then lenT x else 0) + lensA at_ bias r
    have := lenT_nn x
    split <;> omega
theorem lensA_le (at_ bias : Int) (l : List Inl) : lensA at_ bias l ≤ lens l := by
  induction l with
  | nil => exact Int.le_refl _
  | cons x r ih =>
    rw [lens_cons]
    show (if isAhead at_ bias x then lenT x else 0) + lensA at_ bias r ≤ _
    have := lenT_nn x
    split <;> omega
theorem lensA_mono {a b c d : Int} {l : List Inl} (h : ∀ x ∈ l, isAhead a b x → isAhead c d x) : lensA a b l ≤ lensA c d l := by
  induction l with
  | nil => exact Int.le_refl _
  | cons x r ih =>
    have := ih fun y hy => h y (List.mem_cons_of_mem _ hy)
    have hx := h x (List.mem_cons_self ..)
    have := lenT_nn x
    show (if isAhead a b x then lenT x else 0) + lensA a b r ≤ (if isAhead c d x then lenT x else 0) + lensA c d r
    by_cases h1 : isAhead a b x
    · rw [if_pos h1, if_pos (hx h1)]; omega
    · rw [if_neg h1]
      split <;> omega
theorem lensA_all {at_ bias : Int} {l : List Inl} (h : ∀ x ∈ l, isAhead at_ bias x) : lensA at_ bias l = lens l := by
  induction l with
  | nil => rfl
  | cons x r ih =>
    rw [lens_cons]
    show (if isAhead at_ bias x then lenT x else 0) + lensA at_ bias r = _
    rw [if_pos (h x (List.mem_cons_self ..)), ih fun y hy => h y (List.mem_cons_of_mem _ hy)]
theorem lens_bd {l : List Inl} (h : ∀ x ∈ l, lenT x ≤ 1000) : 0 ≤ lens l ∧ lens l ≤ 1000 * (l.length : Int) := by
  induction l with
  | nil => simp [lens]
  | cons x r ih =>
    have := ih fun y hy => h y (List.mem_cons_of_mem _ hy)
    have := h x (List.mem_cons_self ..)
    have := lenT_nn x
    rw [lens_cons, List.length_cons]
    omega
theorem refOut_fold {at_ bias : Int} : (l : List Inl) → (n : Int) → 0 ≤ n → (∀ x ∈ l, lenT x ≤ 1000) → n + 1000 * (l.length : Int) ≤ 9000000000000000000 →
    l.foldl (fun n x => if x.2.1 < at_ ∨ (x.2.1 = at_ ∧ bias = 1) then w64 (n + lenT x) else n) n = n + lensA at_ bias l
  | [], n, _, _, _ => by simp [lensA]
  | x :: r, n, h0, h, hb => by
    have hx := h x (List.mem_cons_self ..)
    have hn := lenT_nn x
    rw [List.length_cons] at hb
    rw [List.foldl_cons]
    show _ = n + ((if x.2.1 < at_ ∨ (x.2.1 = at_ ∧ bias = 1) then lenT x else 0) + lensA at_ bias r)
    by_cases hc : x.2.1 < at_ ∨ (x.2.1 = at_ ∧ bias = 1)
    · rw [if_pos hc, if_pos hc, w64_id (by omega) (by omega), refOut_fold r _ (by omega) (fun y hy => h y (List.mem_cons_of_mem _ hy)) (by omega)]
      omega
    · rw [if_neg hc, if_neg hc, refOut_fold r _ h0 (fun y hy => h y (List.mem_cons_of_mem _ hy)) (by omega)]
      omega
theorem out_row {t v bias : Int} (hb : bias = 0 ∨ bias = 1) : (k f c : Int) → (l : List Inl) → f ≤ t → Inls f t l →
    (findC 0 v bias (rowP t f l) k f c).2.2 - (findC 0 v bias (rowP t f l) k f c).2.1 = c - f + lensA v bias l
  | k, f, c, [], h1, _ => by
    unfold rowP
    by_cases ht : t > f
    · rw [if_pos ht]
      show (if reach v bias (f + (t - f)) = true then (k, f, c) else (k + 1, f + (t - f), c + (t - f))).2.2 - (if reach v bias (f + (t - f)) = true then (k, f, c) else (k + 1, f + (t - f), c + (t - f))).2.1 = _
      split <;> (show _ = c - f + 0; simp only []; omega)
    · rw [if_neg ht]
      show c - f = c - f + 0
      omega
  | k, f, c, x :: r, h1, h => by
    obtain ⟨i1, i2, i3⟩ := inls_cons h
    have nr : ∀ e, e ≤ x.2.1 → reach v bias e = true → lensA v bias (x :: r) = 0 := fun e he hr => lensA_none fun y hy => by
      have hy' : x.2.1 ≤ y.2.1 := by
        rcases List.mem_cons.1 hy with e | hy
        · subst e; omega
        · exact (i2.1 y hy).1
      unfold reach at hr
      unfold isAhead
      simp at hr
      omega
    have go : ∀ k c, (findC 0 v bias (virtualI x :: rowP t x.2.1 r) k x.2.1 c).2.2 - (findC 0 v bias (virtualI x :: rowP t x.2.1 r) k x.2.1 c).2.1 = c - x.2.1 + lensA v bias (x :: r) := fun k c => by
      have e : findC 0 v bias (virtualI x :: rowP t x.2.1 r) k x.2.1 c = if reach v bias (x.2.1 + 0) = true then (k, x.2.1, c) else findC 0 v bias (rowP t x.2.1 r) (k + 1) (x.2.1 + 0) (c + lenT x) := rfl
      rw [e, Int.add_zero]
      by_cases hr : reach v bias x.2.1 = true
      · rw [if_pos hr, nr _ (Int.le_refl _) hr]
        show c - x.2.1 = _
        omega
      · rw [if_neg hr, out_row hb (k + 1) x.2.1 (c + lenT x) r i1.2.1 i2]
        show _ = c - x.2.1 + ((if isAhead v bias x then lenT x else 0) + lensA v bias r)
        rw [if_pos]
        · omega
        · unfold reach at hr
          unfold isAhead
          simp at hr
          omega
    unfold rowP
    by_cases hx : x.2.1 > f
    · rw [if_pos hx]
      have e : findC 0 v bias (plainI (x.2.1 - f) :: virtualI x :: rowP t x.2.1 r) k f c = if reach v bias (f + (x.2.1 - f)) = true then (k, f, c) else findC 0 v bias (virtualI x :: rowP t x.2.1 r) (k + 1) (f + (x.2.1 - f)) (c + (x.2.1 - f)) := rfl
      rw [e, show f + (x.2.1 - f) = x.2.1 by omega]
      by_cases hr : reach v bias x.2.1 = true
      · rw [if_pos hr, nr _ (Int.le_refl _) hr]
        show c - f = _
        omega
      · rw [if_neg hr, go]
        omega
    · rw [if_neg hx]
      have e : f = x.2.1 := by omega
      rw [e]
      exact go k c
def inS (at_ : Int) : List Itm → Int → Int → Int × Int
  | [], b, c => (b + (at_ - c), 0)
  | i :: r, b, c => if at_ < c + d1 i then (if i.2.1 = 0 then (b + (at_ - c), 0) else if at_ - c = 0 then (b, 0) else (b, i.2.1)) else inS at_ r (b + d0 i) (c + d1 i)
theorem inS_find {at_ : Int} : (l : List Itm) → (k b c : Int) → ∃ j : Nat, (findC 1 at_ 1 l k b c).1 = k + (j : Int) ∧ j ≤ l.length ∧
    inS at_ l b c = (if (l.getD j zItm).2.1 = 0 then ((findC 1 at_ 1 l k b c).2.1 + (at_ - (findC 1 at_ 1 l k b c).2.2), 0) else if at_ - (findC 1 at_ 1 l k b c).2.2 = 0 then ((findC 1 at_ 1 l k b c).2.1, 0) else ((findC 1 at_ 1 l k b c).2.1, (l.getD j zItm).2.1))
  | [], k, b, c => ⟨0, by show k = _; omega, Nat.zero_le _, rfl⟩
  | i :: l, k, b, c => by
    have e : findC 1 at_ 1 (i :: l) k b c = if reach at_ 1 (c + d1 i) = true then (k, b, c) else findC 1 at_ 1 l (k + 1) (b + d0 i) (c + d1 i) := rfl
    have e2 : inS at_ (i :: l) b c = if at_ < c + d1 i then (if i.2.1 = 0 then (b + (at_ - c), 0) else if at_ - c = 0 then (b, 0) else (b, i.2.1)) else inS at_ l (b + d0 i) (c + d1 i) := rfl
    rw [e, e2]
    by_cases hr : at_ < c + d1 i
    · rw [if_pos (show reach at_ 1 (c + d1 i) = true by unfold reach; simp; omega), if_pos hr]
      exact ⟨0, by show k = _; omega, Nat.zero_le _, rfl⟩
    · rw [if_neg (show ¬ reach at_ 1 (c + d1 i) = true by unfold reach; simp; omega), if_neg hr]
      obtain ⟨j, h1, h2, h3⟩ := inS_find l (k + 1) (b + d0 i) (c + d1 i)
      exact ⟨j + 1, by rw [h1]; omega, by simp; omega, h3⟩
theorem in_out {t v bias : Int} (hb : bias = 0 ∨ bias = 1) : (f c : Int) → (l : List Inl) → f ≤ v → v ≤ t → Inls f t l → inS (c + (v - f) + lensA v bias l) (rowP t f l) f c = (v, 0)
  | f, c, [], h0, h1, _ => by
    rw [show lensA v bias [] = 0 from rfl, Int.add_zero]
    unfold rowP
    by_cases ht : t > f
    · rw [if_pos ht]
      show (if c + (v - f) < c + (t - f) then (f + (c + (v - f) - c), (0 : Int)) else (f + (t - f) + (c + (v - f) - (c + (t - f))), 0)) = _
      split <;> (congr 1; omega)
    · rw [if_neg ht]
      show (f + (c + (v - f) - c), (0 : Int)) = _
      congr 1; omega
  | f, c, x :: r, h0, h1, h => by
    obtain ⟨i1, i2, i3⟩ := inls_cons h
    have none_ : v < x.2.1 ∨ (v = x.2.1 ∧ bias = 0) → lensA v bias (x :: r) = 0 := fun hv => lensA_none fun y hy => by
      have hy' : x.2.1 ≤ y.2.1 := by
        rcases List.mem_cons.1 hy with e | hy
        · subst e; omega
        · exact (i2.1 y hy).1
      unfold isAhead
      omega
    have go : ∀ c, x.2.1 ≤ v → inS (c + (v - x.2.1) + lensA v bias (x :: r)) (virtualI x :: rowP t x.2.1 r) x.2.1 c = (v, 0) := fun c hv => by
      generalize hat : c + (v - x.2.1) + lensA v bias (x :: r) = at_
      have e : inS at_ (virtualI x :: rowP t x.2.1 r) x.2.1 c = if at_ < c + lenT x then (if x.1 = 0 then (x.2.1 + (at_ - c), 0) else if at_ - c = 0 then (x.2.1, 0) else (x.2.1, x.1)) else inS at_ (rowP t x.2.1 r) (x.2.1 + 0) (c + lenT x) := rfl
      rw [e]
      by_cases hn : v = x.2.1 ∧ bias = 0
      · have h0 := none_ (.inr hn)
        rw [h0] at hat
        rw [if_pos (by omega), if_neg (by omega), if_pos (by omega), hn.1]
      · have hl : lensA v bias (x :: r) = lenT x + lensA v bias r := by
          show (if isAhead v bias x then lenT x else 0) + _ = _
          rw [if_pos]
          unfold isAhead
          omega
        have := lensA_nn v bias r
        rw [hl] at hat
        rw [if_neg (by omega), Int.add_zero]
        have hq := in_out hb x.2.1 (c + lenT x) r hv h1 i2
        have : c + lenT x + (v - x.2.1) + lensA v bias r = at_ := by omega
        rw [this] at hq
        exact hq
    unfold rowP
    by_cases hx : x.2.1 > f
    · rw [if_pos hx]
      generalize hat : c + (v - f) + lensA v bias (x :: r) = at_
      have e : inS at_ (plainI (x.2.1 - f) :: virtualI x :: rowP t x.2.1 r) f c = if at_ < c + (x.2.1 - f) then (f + (at_ - c), 0) else inS at_ (virtualI x :: rowP t x.2.1 r) (f + (x.2.1 - f)) (c + (x.2.1 - f)) := rfl
      rw [e, show f + (x.2.1 - f) = x.2.1 by omega]
      have := lensA_nn v bias (x :: r)
      by_cases hv : v < x.2.1
      · have h0 := none_ (.inl hv)
        rw [h0] at hat
        rw [if_pos (by omega)]
        congr 1; omega
      · rw [if_neg (by omega)]
        have hq := go (c + (x.2.1 - f)) (by omega)
        have : c + (x.2.1 - f) + (v - x.2.1) + lensA v bias (x :: r) = at_ := by omega
        rw [this] at hq
        exact hq
    · rw [if_neg hx]
      have e : f = x.2.1 := by omega
      rw [e]
      exact go c (by omega)
end Go.Fr.C14
namespace Go.Fr.C14
open Go Go.Fr Go.Proofs
theorem findC_bd {dim v bias : Int} : (l : List Itm) → (k b c : Int) → Fine l → b ≤ (findC dim v bias l k b c).2.1 ∧ (findC dim v bias l k b c).2.1 ≤ b + sum0 l ∧ c ≤ (findC dim v bias l k b c).2.2 ∧ (findC dim v bias l k b c).2.2 ≤ c + sum1 l
  | [], k, b, c, _ => by
    rw [findC_nil]
    simp [sum0, sum1]
  | i :: l, k, b, c, hf => by
    obtain ⟨f1, f2⟩ := fine_cons hf
    have b2 := sums_fine f2
    have ih := findC_bd (dim := dim) (v := v) (bias := bias) l (k + 1) (b + d0 i) (c + d1 i) f2
    rw [sum0_cons, sum1_cons]
    have e : findC dim v bias (i :: l) k b c = if reach v bias (if dim = 0 then b + d0 i else c + d1 i) = true then (k, b, c) else findC dim v bias l (k + 1) (b + d0 i) (c + d1 i) := rfl
    rw [e]
    cases reach v bias (if dim = 0 then b + d0 i else c + d1 i) with
    | true =>
      show b ≤ b ∧ b ≤ b + (d0 i + sum0 l) ∧ c ≤ c ∧ c ≤ c + (d1 i + sum1 l)
      omega
    | false =>
      rw [if_neg (by decide)]
      omega
theorem check_plain {n : Int} (h0 : 0 ≤ n) (h1 : n ≤ 1099511627776) : checkI (plainI n) = 0 := by
  unfold checkI
  rw [if_pos]
  show (withinN 0 && withinN n && withinN n && withinN 0) = true
  simp [withinN, h0, h1]
theorem check_virtual {x : Inl} (h : lenT x ≤ 1000) : checkI (virtualI x) = 0 := by
  have := lenT_nn x
  unfold checkI
  rw [if_pos]
  show (withinN 0 && withinN 0 && withinN (lenT x) && withinN 0) = true
  simp [withinN]
  omega
theorem row_check {t : Int} (ht : t ≤ 1099511627776) : (f : Int) → (l : List Inl) → 0 ≤ f → Inls f t l → ∀ i ∈ rowP t f l, checkI i = 0
  | f, [], h0, _ => by
    unfold rowP
    split
    · intro i hi
      rw [List.mem_singleton.1 hi]
      exact check_plain (by omega) (by omega)
    · intro i hi
      cases hi
  | f, x :: r, h0, h => by
    obtain ⟨i1, i2, i3⟩ := inls_cons h
    have cv := check_virtual i1.2.2.2.2
    have ih := row_check ht x.2.1 r (by omega) i2
    unfold rowP
    by_cases hx : x.2.1 > f
    · rw [if_pos hx]
      intro i hi
      rcases List.mem_cons.1 hi with e | hi
      · subst e; exact check_plain (by omega) (by omega)
      · rcases List.mem_cons.1 hi with e | hi
        · subst e; exact cv
        · exact ih i hi
    · rw [if_neg hx]
      have e : f = x.2.1 := by omega
      rw [e]
      intro i hi
      rcases List.mem_cons.1 hi with e | hi
      · subst e; exact cv
      · exact ih i hi
theorem made_inls {s : Option ISet} {w : WSet} (h : Made s w) : ∃ n L, s = some (n, L, ()) ∧ w = (n, L, 0, ()) ∧ 0 ≤ n ∧ n ≤ 1099511627776 ∧ L.length ≤ 60 ∧ Inls 0 n L := by
  obtain ⟨n, L, rfl, rfl, hw, hc, hs⟩ := h
  obtain ⟨h1, h2, h3, h4⟩ := wrong_zero.1 hw
  refine ⟨n, L, rfl, rfl, h1.1, h1.2, by omega, fun x hx => ?_, hs.imp fun {a b} hab => ?_, h4⟩
  · have a1 := wi_at (h3 x hx)
    obtain ⟨_, a2, a3⟩ := wi_zero.1 (h3 x hx)
    have a4 : ¬ (decodeL (txt x)).length = 0 := fun e => a3 (.inl ((dec_none _).1 e))
    unfold lenT
    omega
  · rw [cmpL_lt] at hab
    omega
theorem weave_ok {n : Int} {L : List Inl} (h0 : 0 ≤ n) (h1 : n ≤ 1099511627776) (hl : L.length ≤ 60) (hi : Inls 0 n L) :
    weaveI (some (n, L, ())) = some (some (buildT (rowP n 0 L), ()), ()) ∧ WfN (buildT (rowP n 0 L)) ∧ items (buildT (rowP n 0 L)) = rowP n 0 L ∧ (rowP n 0 L).length ≤ 121 ∧ Rowly (-1) (rowP n 0 L) ∧ sum0 (rowP n 0 L) = n ∧ sum1 (rowP n 0 L) = n + lens L ∧ 0 ≤ lens L ∧ lens L ≤ 60000 := by
  have hlen := row_len (t := n) 0 L
  obtain ⟨b1, b2⟩ := buildT_ok (l := rowP n 0 L) (by omega)
  obtain ⟨s0, s1⟩ := row_sums (t := n) 0 L h0 hi
  have hb := lens_bd (l := L) fun x hx => (hi.1 x hx).2.2.2.2
  refine ⟨?_, b1, b2, by omega, rowP_rowly h1 (-1) 0 L (Int.le_refl _) h0 hi (by decide) (fun x hx => by have := (hi.1 x hx).2.2.1; omega), by omega, by omega, by omega, by omega⟩
  have e : (newT (rowF n 0 L)).1 = some (buildT (rowP n 0 L), ()) := by
    rw [rowF_eq h1 0 L (Int.le_refl _) h0 hi]
    unfold newT
    rw [if_neg (by omega), if_pos]
    rw [List.all_eq_true]
    intro i hi2
    exact decide_eq_true (row_check h1 0 L (Int.le_refl _) hi i hi2)
  show some ((newT (rowF n 0 L)).1, ()) = _
  rw [e]
theorem spots_ok {n : Int} {L : List Inl} (h0 : 0 ≤ n) (hi : Inls 0 n L) : spots (n, L, 0, ()) = expand 0 (rowP n 0 L) := by
  rw [spots_F]
  have := spots_row (n := n) 0 L (Int.le_refl _) h0 hi
  rw [show n + 1 - 0 = n + 1 by omega] at this
  exact this
theorem tree_find {its : List Itm} {dim v bias : Int} (hd : dim = 0 ∨ dim = 1) (hw : WfN (buildT its)) (hi : items (buildT its) = its) (hf : Fine its) (hl : its.length ≤ 1000) :
    findT (some (buildT its, ())) dim v bias = if v < 0 ∨ v > (if dim = 0 then sum0 its else sum1 its) ∨ (bias ≠ 0 ∧ bias ≠ 1) then ((0, zS, 0, ()), 1, ()) else (findP (buildT its) dim v bias, 0, ()) := by
  have so := sum_top hw (by rw [hi]; exact hf) (by rw [hi]; omega)
  unfold SumOk at so
  rw [hi] at so
  unfold findT
  show (if dim < 0 ∨ dim > 3 ∨ v < 0 ∨ v > sizeD (sumOf (buildT its)) dim ∨ (bias ≠ 0 ∧ bias ≠ 1) then _ else _) = _
  rw [size_is so hd]
  have e : (dim < 0 ∨ dim > 3 ∨ v < 0 ∨ v > (if dim = 0 then sum0 its else sum1 its) ∨ (bias ≠ 0 ∧ bias ≠ 1)) = (v < 0 ∨ v > (if dim = 0 then sum0 its else sum1 its) ∨ (bias ≠ 0 ∧ bias ≠ 1)) := by
    rw [eq_iff_iff]
    constructor
    · rintro (h | h | h)
      · omega
      · omega
      · exact h
    · intro h
      exact .inr (.inr h)
  simp only [e]
  rfl
theorem out_ok {n : Int} {L : List Inl} (h0 : 0 ≤ n) (h1 : n ≤ 1099511627776) (hl : L.length ≤ 60) (hi : Inls 0 n L) (at_ bias : Int) :
    outW (weaveI (some (n, L, ()))) at_ bias = if at_ < 0 ∨ at_ > n ∨ (bias ≠ 0 ∧ bias ≠ 1) then (0, 1, ()) else (at_ + lensA at_ bias L, 0, ()) := by
  obtain ⟨w1, w2, w3, w4, w5, w6, w7, w8, w9⟩ := weave_ok h0 h1 hl hi
  have ff := rowly_fine w5
  have tf := tree_find (v := at_) (bias := bias) (.inl rfl) w2 w3 ff (by omega)
  rw [if_pos rfl, w6] at tf
  rw [w1]
  unfold outW
  show (if (findT (some (buildT (rowP n 0 L), ())) 0 at_ bias).2.1 ≠ 0 then _ else _) = _
  rw [show treeOf (some (some (buildT (rowP n 0 L), ()), ())) = some (buildT (rowP n 0 L), ()) from rfl, tf]
  by_cases hc : at_ < 0 ∨ at_ > n ∨ (bias ≠ 0 ∧ bias ≠ 1)
  · rw [if_pos hc, if_pos hc, if_pos (by decide)]
  · rw [if_neg hc, if_neg hc, if_neg (by simp)]
    obtain ⟨_, p2, p3⟩ := findP_is (dim := 0) (v := at_) (bias := bias) (.inl rfl) w2 (by rw [w3]; exact ff) (by rw [w3]; omega)
    rw [w3] at p2 p3
    have bd := findC_bd (dim := 0) (v := at_) (bias := bias) (rowP n 0 L) 0 0 0 ff
    have o := out_row (t := n) (v := at_) (bias := bias) (by omega) 0 0 0 L h0 hi
    rw [w6, w7] at bd
    show (w64 (w64 ((findP (buildT (rowP n 0 L)) 0 at_ bias).2.1.2.1.2.1 + at_) - (findP (buildT (rowP n 0 L)) 0 at_ bias).2.1.2.1.1), (0 : Int), ()) = _
    rw [p2, p3]
    generalize findC 0 at_ bias (rowP n 0 L) 0 0 0 = f at bd o ⊢
    rw [w64_id (n := f.2.2 + at_) (by omega) (by omega), w64_id (by omega) (by omega)]
    congr 1
    omega
theorem refOut_ok {n : Int} {L : List Inl} (hl : L.length ≤ 60) (hi : Inls 0 n L) {at_ bias : Int} (h0 : 0 ≤ at_) (h1 : at_ ≤ n) (h2 : n ≤ 1099511627776) : refOut (n, L, 0, ()) at_ bias = at_ + lensA at_ bias L :=
  refOut_fold L at_ h0 (fun x hx => (hi.1 x hx).2.2.2.2) (by omega)
theorem in_ok {n : Int} {L : List Inl} (h0 : 0 ≤ n) (h1 : n ≤ 1099511627776) (hl : L.length ≤ 60) (hi : Inls 0 n L) (at_ : Int) :
    inW (weaveI (some (n, L, ()))) at_ = if at_ < 0 ∨ at_ > n + lens L then (0, 0, 1, ()) else ((inS at_ (rowP n 0 L) 0 0).1, (inS at_ (rowP n 0 L) 0 0).2, 0, ()) := by
  obtain ⟨w1, w2, w3, w4, w5, w6, w7, w8, w9⟩ := weave_ok h0 h1 hl hi
  have ff := rowly_fine w5
  have tf := tree_find (v := at_) (bias := 1) (.inr rfl) w2 w3 ff (by omega)
  rw [show (if (1 : Int) = 0 then sum0 (rowP n 0 L) else sum1 (rowP n 0 L)) = n + lens L from w7] at tf
  rw [w1]
  unfold inW
  rw [show treeOf (some (some (buildT (rowP n 0 L), ()), ())) = some (buildT (rowP n 0 L), ()) from rfl]
  by_cases hc : at_ < 0 ∨ at_ > n + lens L
  · rw [if_pos (show at_ < 0 ∨ at_ > n + lens L ∨ ((1 : Int) ≠ 0 ∧ (1 : Int) ≠ 1) by omega)] at tf
    rw [if_pos hc, tf, if_pos (by decide)]
  · rw [if_neg (show ¬ (at_ < 0 ∨ at_ > n + lens L ∨ ((1 : Int) ≠ 0 ∧ (1 : Int) ≠ 1)) by omega)] at tf
    rw [if_neg hc, tf, if_neg (by simp)]
    obtain ⟨p1, p2, p3⟩ := findP_is (dim := 1) (v := at_) (bias := 1) (.inr rfl) w2 (by rw [w3]; exact ff) (by rw [w3]; omega)
    rw [w3] at p1 p2 p3
    have bd := findC_bd (dim := 1) (v := at_) (bias := 1) (rowP n 0 L) 0 0 0 ff
    obtain ⟨j, j1, j2, j3⟩ := inS_find (at_ := at_) (rowP n 0 L) 0 0 0
    rw [w6, w7] at bd
    show (if (atT (some (buildT (rowP n 0 L), ())) (findP (buildT (rowP n 0 L)) 1 at_ 1).1).1.2.1 = 0 then
        (w64 ((findP (buildT (rowP n 0 L)) 1 at_ 1).2.1.2.1.1 + w64 (at_ - (findP (buildT (rowP n 0 L)) 1 at_ 1).2.1.2.1.2.1)), (0 : Int), (0 : Int), ())
      else if w64 (at_ - (findP (buildT (rowP n 0 L)) 1 at_ 1).2.1.2.1.2.1) = 0 then ((findP (buildT (rowP n 0 L)) 1 at_ 1).2.1.2.1.1, 0, 0, ())
      else ((findP (buildT (rowP n 0 L)) 1 at_ 1).2.1.2.1.1, (atT (some (buildT (rowP n 0 L), ())) (findP (buildT (rowP n 0 L)) 1 at_ 1).1).1.2.1, 0, ())) = _
    rw [p1, p2, p3, j3, j1]
    have ea : (atT (some (buildT (rowP n 0 L), ())) (0 + (j : Int))).1 = (rowP n 0 L).getD j zItm := by
      unfold atT
      have ei : items (topT (some (buildT (rowP n 0 L), ()))) = rowP n 0 L := w3
      rw [ei]
      by_cases hj : j < (rowP n 0 L).length
      · rw [if_neg (by omega)]
        show (rowP n 0 L).getD (0 + (j : Int)).toNat zItm = _
        congr 1
        omega
      · rw [if_pos (by omega)]
        rw [List.getD_eq_getElem?_getD, List.getElem?_eq_none (by omega)]
        rfl
    rw [ea]
    generalize findC 1 at_ 1 (rowP n 0 L) 0 0 0 = f at bd ⊢
    rw [w64_id (n := at_ - f.2.2) (by omega) (by omega), w64_id (by omega) (by omega)]
    split
    · rfl
    · split <;> rfl
theorem inS_end : (l : List Itm) → (b c at_ : Int) → Fine l → c + sum1 l ≤ at_ → inS at_ l b c = (b + sum0 l + (at_ - (c + sum1 l)), 0)
  | [], b, c, at_, _, _ => by
    show (b + (at_ - c), (0 : Int)) = (b + 0 + (at_ - (c + 0)), 0)
    congr 1
    omega
  | i :: l, b, c, at_, hf, h => by
    obtain ⟨f1, f2⟩ := fine_cons hf
    have b2 := sums_fine f2
    rw [sum1_cons] at h
    have e2 : inS at_ (i :: l) b c = if at_ < c + d1 i then (if i.2.1 = 0 then (b + (at_ - c), 0) else if at_ - c = 0 then (b, 0) else (b, i.2.1)) else inS at_ l (b + d0 i) (c + d1 i) := rfl
    rw [e2, if_neg (by omega), inS_end l _ _ _ f2 (by omega), sum0_cons, sum1_cons]
    congr 1
    omega
theorem refIn_ok {n : Int} {L : List Inl} (h0 : 0 ≤ n) (h1 : n ≤ 1099511627776) (hl : L.length ≤ 60) (hi : Inls 0 n L) {at_ : Int} (a0 : 0 ≤ at_) (a1 : at_ ≤ n + lens L) :
    refIn (n, L, 0, ()) at_ = ((inS at_ (rowP n 0 L) 0 0).1, (inS at_ (rowP n 0 L) 0 0).2, ()) := by
  obtain ⟨w1, w2, w3, w4, w5, w6, w7, w8, w9⟩ := weave_ok h0 h1 hl hi
  have ff := rowly_fine w5
  have el : (((expand 0 (rowP n 0 L)).length : Nat) : Int) = n + lens L := by rw [expand_len 0 w5, w7]
  unfold refIn
  rw [spots_ok h0 hi, el]
  by_cases he : at_ = n + lens L
  · rw [if_pos he, inS_end _ 0 0 at_ ff (by omega), w6, w7]
    show (n, (0 : Int), ()) = (0 + n + (at_ - (0 + (n + lens L))), 0, ())
    congr 1
    omega
  · rw [if_neg he]
    obtain ⟨j, j1, j2, j3, j4, j5, j6, j7, j8⟩ := in_spot 0 0 0 at_ w5 a0 (by rw [w7]; omega)
    obtain ⟨j', k1, k2, k3⟩ := inS_find (at_ := at_) (rowP n 0 L) 0 0 0
    have hj : j' = j := by omega
    subst hj
    rw [show at_ - 0 = at_ by omega] at j5
    rw [show at_ - 0 - 1 = at_ - 1 by omega] at j6 j7
    rw [j5, k3]
    generalize findC 1 at_ 1 (rowP n 0 L) 0 0 0 = f at j3 j4 j6 j7 ⊢
    generalize ((rowP n 0 L).getD j' zItm).2.1 = id at j6 j7 ⊢
    by_cases hid : id = 0
    · rw [if_pos hid, if_pos hid, if_pos (.inl hid)]
    · rw [if_neg hid, if_neg hid]
      by_cases hc : f.2.2 = at_
      · rw [if_pos (by omega : at_ - f.2.2 = 0)]
        rw [if_pos]
        by_cases ha : at_ = 0
        · exact .inr (.inl ha)
        · exact .inr (.inr (j7 hc (by omega)))
      · rw [if_neg (by omega : ¬ at_ - f.2.2 = 0)]
        rw [if_neg]
        rintro (h | h | h)
        · exact hid h
        · omega
        · exact h (j6 (by omega))
theorem high_wf {n : Nd} (h : WfN n) : highB (heightOf n) ((items n).length : Int) = true := by
  unfold highB
  rcases h with rfl | ⟨h, h1, w⟩
  · rfl
  · obtain ⟨e1, e2, e3⟩ := wf_height w
    obtain ⟨c1, c2⟩ := count_top h1 w
    rw [e1]
    rw [Bool.and_eq_true, Bool.and_eq_true, List.all_eq_true]
    refine ⟨fun j hj => ?_, ?_, ?_⟩
    · have hj := List.mem_range.1 hj
      have h2 : 2 ≤ h := by omega
      have c3 := c2 h2
      have c4 : 4 ^ (j + 1) ≤ 4 ^ (h - 1) := Nat.pow_le_pow_right (by decide) (by omega)
      rw [decide_eq_true_eq]
      have c5 : ((4 ^ (j + 1) : Nat) : Int) ≤ (((items n).length + 1 : Nat) : Int) := by omega
      rw [Int.natCast_pow] at c5
      exact c5
    · have a : decide ((h : Int) = 0) = false := by rw [decide_eq_false_iff_not]; omega
      have b : decide (((items n).length : Int) = 0) = false := by rw [decide_eq_false_iff_not]; omega
      rw [a, b]
      rfl
    · rw [decide_eq_true_eq]
      omega
theorem low_wf {n : Nd} (h : WfN n) (hl : (items n).length ≤ 127) : n = .nil ∨ ∃ h : Nat, h ≤ 3 ∧ Wf h true n := by
  rcases h with rfl | ⟨h, h1, w⟩
  · exact .inl rfl
  · refine .inr ⟨h, ?_, w⟩
    obtain ⟨c1, c2⟩ := count_top h1 w
    by_cases hh : h ≤ 3
    · exact hh
    · exfalso
      have c3 := c2 (by omega)
      have c4 : 4 ^ 3 ≤ 4 ^ (h - 1) := Nat.pow_le_pow_right (by decide) (by omega)
      omega
theorem is_ok {n : Int} {L : List Inl} (h0 : 0 ≤ n) (h1 : n ≤ 1099511627776) (hl : L.length ≤ 60) (hi : Inls 0 n L) {t : Nd} (ht : WfN t) (hit : items t = rowP n 0 L) : isW (some (some (t, ()), ())) (n, L, 0, ()) = true := by
  obtain ⟨w1, w2, w3, w4, w5, w6, w7, w8, w9⟩ := weave_ok h0 h1 hl hi
  have ff := rowly_fine w5
  have so := sum_top ht (by rw [hit]; exact ff) (by rw [hit]; omega)
  unfold SumOk at so
  rw [hit, w6, w7] at so
  obtain ⟨_, s0, s1⟩ := so
  have el : (((spots (n, L, 0, ())).length : Nat) : Int) = n + lens L := by rw [spots_ok h0 hi, expand_len 0 w5, w7]
  unfold isW
  rw [el]
  show (true && decide ((sumOf t).2.1.1 = n) && decide ((sumOf t).2.1.2.1 = n + lens L) && sameP (piecesI (some (t, ()))) (refPieces (n, L, 0, ())) && highB (heightOf t) ((items t).length : Int)) = true
  rw [s0, s1, high_wf ht]
  have ep : piecesI (some (t, ())) = refPieces (n, L, 0, ()) := by
    show (items t).map (fun i => ((i.2.1, i.2.2.1.2.1, ()) : Pce)) = (spots (n, L, 0, ())).foldl pceStep []
    rw [hit, spots_ok h0 hi, pieces_fold 0 [] w5 rfl]
    rfl
  rw [ep]
  simp [sameP]
theorem there_ok {n : Int} {L : List Inl} (h0 : 0 ≤ n) (h1 : n ≤ 1099511627776) (hl : L.length ≤ 60) (hi : Inls 0 n L) {at_ bias : Int} (a0 : 0 ≤ at_) (a1 : at_ ≤ n) (hb : bias = 0 ∨ bias = 1) :
    outW (weaveI (some (n, L, ()))) at_ bias = (at_ + lensA at_ bias L, 0, ()) ∧ inW (weaveI (some (n, L, ()))) (at_ + lensA at_ bias L) = (at_, 0, 0, ()) := by
  rw [out_ok h0 h1 hl hi, if_neg (by omega), in_ok h0 h1 hl hi]
  have := lensA_nn at_ bias L
  have := lensA_le at_ bias L
  have io := in_out (t := n) (v := at_) hb 0 0 L a0 a1 hi
  rw [show 0 + (at_ - 0) + lensA at_ bias L = at_ + lensA at_ bias L by omega] at io
  rw [if_neg (by omega), io]
  exact ⟨rfl, rfl⟩
end Go.Fr.C14
namespace Go.Fr.C14
open Go Go.Fr Go.Proofs
set_option maxRecDepth 100000
def hs30 : List (Nat × Nat × Hint) := [(0, 5, ⟨[.slot 4 t116, .slot 14 t3], [0, 12, 13], [], []⟩)]
def nm30 : List Nat := [3000000024]
noncomputable def E30 : Env := env tab [(58, cCheck), (60, cLeafOf), (59, cJoin)] [] gl hs30 nm30
def vc30 : Prop :=
 ∀ (x : List Itm × Unit),
 let y := (↑(List.length x.fst) : Int);
 let y_1 := x.fst;
 List.length y_1 ≤ (100000 : Nat) →
 (decide (y > (30000 : Int)) = true → (none, (5 : Int), ()) = newT y_1) ∧
 (decide (y > (30000 : Int)) = false →
 ((0 : Int) = (0 : Int) ∧ (NT.nil : Nd) = (NT.nil : Nd) ∧ y_1 = y_1 ∧ y_1 = y_1 ∧ y = y) ∧
 ∃ (Z : Nd × Int × Unit → Prop),
 ∃ (μ : Nd × Int × Unit → Nat),
 Z (NT.nil, (0 : Int), ()) ∧
 ∀ (a : Nd) (a_1 : Int),
 let y_2 :=  List.take  (List.length  (List.replicate  (Int.toNat  (if IntKind.wrap IntKind.i64 (y - a_1) < (8 : Int) then IntKind.wrap IntKind.i64 (y - a_1)  else (8 : Int)))  ((0 : Int), (0 : Int), ((0 : Int), (0 : Int), (0 : Int), ()), (0 : Int), ByteArray.empty,  ())))  (List.drop (Int.toNat a_1) y_1) ++  List.drop (List.length (List.drop (Int.toNat a_1) y_1))  (List.replicate  (Int.toNat  (if IntKind.wrap IntKind.i64 (y - a_1) < (8 : Int) then IntKind.wrap IntKind.i64 (y - a_1)  else (8 : Int)))  ((0 : Int), (0 : Int), ((0 : Int), (0 : Int), (0 : Int), ()), (0 : Int), ByteArray.empty,  ()));
 let y_3 :=  if IntKind.wrap IntKind.i64 (y - a_1) < (8 : Int) then IntKind.wrap IntKind.i64 (y - a_1)  else (8 : Int);
 let y_4 := IntKind.wrap IntKind.i64 (a_1 + (1 : Int));
 let y_5 := (a, a_1, ());
 let y_6 := (a, y_4, ());
 let y_7 := (join a (NT.ofLeaf (some (mkLf y_2))), y_4, ());
 let y_8 := NT.ofLeaf (some (mkLf y_2));
 Z y_5 →
 (decide (a_1 < y) = true →
 ((0 : Int) ≤ a_1 ∧ a_1 < y) ∧
 True ∧
 ((checkI (List.getD y_1 (Int.toNat a_1) (Ty.dflt t89)) != (0 : Int)) = true →
 (none, checkI (List.getD y_1 (Int.toNat a_1) (Ty.dflt t89)), ()) = newT y_1) ∧
 ((checkI (List.getD y_1 (Int.toNat a_1) (Ty.dflt t89)) != (0 : Int)) = false →
 (8 : Int) ≠ (0 : Int) ∧
 ((Int.tmod a_1 (8 : Int) == (0 : Int)) = true →
 ((0 : Int) ≤ y_3 ∧
 y_3 ≤ y_3 ∧
 y_3 * (↑(64 : Nat) : Int) ≤ (140737488355328 : Int) ∧
 y_3 ≤ (1000000000000 : Int)) ∧
 ((0 : Int) ≤ a_1 ∧ a_1 ≤ y) ∧
 List.length y_2 ≤ maxLen ∧
 Option.isSome (some (mkLf y_2)) = true ∧
 (WfN a ∧ WfN y_8) ∧
 (y_4 = y_4 ∧ join a y_8 = join a y_8 ∧ y_1 = y_1 ∧ y_1 = y_1 ∧ y = y) ∧
 Z y_7 ∧ μ y_7 < μ y_5) ∧
 ((Int.tmod a_1 (8 : Int) == (0 : Int)) = false →
 (y_4 = y_4 ∧ a = a ∧ y_1 = y_1 ∧ y_1 = y_1 ∧ y = y) ∧ Z y_6 ∧ μ y_6 < μ y_5))) ∧
 (decide (a_1 < y) = false → (some (a, ()), (0 : Int), ()) = newT y_1))
theorem vcEq30 : fnVC E30 Tryd.f30 (bodyOf Tryd.f30) cTreeNew = vc30 := by kernel_rfl
def hs37 : List (Nat × Nat × Hint) := []
def nm37 : List Nat := [3000000024]
noncomputable def E37 : Env := env tab [(66, cTop), (68, cSumOf)] [] gl hs37 nm37
def vc37 : Prop :=
 ∀ (x : Option (Nd × Unit) × Unit),
 True → True ∧ True ∧ sumOf (topT x.fst) = sumOf (topT x.fst)
theorem vcEq37 : fnVC E37 Tryd.f37 (bodyOf Tryd.f37) cSum = vc37 := by kernel_rfl
def hs46 : List (Nat × Nat × Hint) := []
def nm46 : List Nat := [3000000024]
noncomputable def E46 : Env := env tab [(66, cTop), (75, cHeightOf)] [] gl hs46 nm46
def vc46 : Prop :=
 ∀ (x : Option (Nd × Unit) × Unit),
 True → True ∧ True ∧ heightOf (topT x.fst) = heightOf (topT x.fst)
theorem vcEq46 : fnVC E46 Tryd.f46 (bodyOf Tryd.f46) cHeightT = vc46 := by kernel_rfl
def hs58 : List (Nat × Nat × Hint) := [(0, 3, ⟨[], [], [], [4000000000, 4]⟩),
  (590022, 3, ⟨[], [], [], [4000000000, 4]⟩),
  (1180044, 3, ⟨[], [], [], [4000000000, 4]⟩),
  (1770066, 3, ⟨[], [], [], [4000000000, 4]⟩),
  (2360088, 3, ⟨[], [], [], [4000000000, 4]⟩),
  (2950110, 3, ⟨[], [], [], [4000000000, 4]⟩),
  (3540132, 3, ⟨[], [], [], [4000000000, 4]⟩),
  (4130154, 3, ⟨[], [], [], [4000000000, 4]⟩),
  (4720176, 3, ⟨[], [], [], [4000000000, 4]⟩)]
def nm58 : List Nat := [3000000024]
noncomputable def E58 : Env := env tab [(90, cWithinN)] [] gl hs58 nm58
def vc58 : Prop :=
 ∀ (x : Itm × Unit),
 True →
 True ∧
 (decide ((0 : Int) < (3 : Int)) = true →
 ((0 : Int) ≤ (0 : Int) ∧ (0 : Int) < (↑(3 : Nat) : Int)) ∧
 (withinN x.fst.snd.snd.snd.fst = true →
 True ∧
 (decide (IntKind.wrap IntKind.i64 ((0 : Int) + (1 : Int)) < (3 : Int)) = true →
 ((0 : Int) ≤ IntKind.wrap IntKind.i64 ((0 : Int) + (1 : Int)) ∧
 IntKind.wrap IntKind.i64 ((0 : Int) + (1 : Int)) < (↑(3 : Nat) : Int)) ∧
 (withinN x.fst.snd.snd.fst.fst = true →
 True ∧
 (decide
 (IntKind.wrap IntKind.i64
 (IntKind.wrap IntKind.i64 ((0 : Int) + (1 : Int)) + (1 : Int)) <
 (3 : Int)) =
 true →
 ((0 : Int) ≤
 IntKind.wrap IntKind.i64
 (IntKind.wrap IntKind.i64 ((0 : Int) + (1 : Int)) + (1 : Int)) ∧
 IntKind.wrap IntKind.i64
 (IntKind.wrap IntKind.i64 ((0 : Int) + (1 : Int)) + (1 : Int)) <
 (↑(3 : Nat) : Int)) ∧
 (withinN x.fst.snd.snd.fst.snd.fst = true →
 True ∧
 (decide
 (IntKind.wrap IntKind.i64
 (IntKind.wrap IntKind.i64
 (IntKind.wrap IntKind.i64 ((0 : Int) + (1 : Int)) +
 (1 : Int)) +
 (1 : Int)) <
 (3 : Int)) =
 true →
 False) ∧
 (decide
 (IntKind.wrap IntKind.i64
 (IntKind.wrap IntKind.i64
 (IntKind.wrap IntKind.i64 ((0 : Int) + (1 : Int)) +
 (1 : Int)) +
 (1 : Int)) <
 (3 : Int)) =
 false →
 ((!withinN x.fst.snd.snd.fst.snd.snd.fst) = true →
 (1 : Int) = checkI x.fst) ∧
 ((!withinN x.fst.snd.snd.fst.snd.snd.fst) = false →
 (0 : Int) = checkI x.fst))) ∧
 (withinN x.fst.snd.snd.fst.snd.fst = false →
 (decide
 (IntKind.wrap IntKind.i64
 (IntKind.wrap IntKind.i64
 (IntKind.wrap IntKind.i64 ((0 : Int) + (1 : Int)) + (1 : Int)) +
 (1 : Int)) <
 (3 : Int)) =
 true →
 False) ∧
 (decide
 (IntKind.wrap IntKind.i64
 (IntKind.wrap IntKind.i64
 (IntKind.wrap IntKind.i64 ((0 : Int) + (1 : Int)) + (1 : Int)) +
 (1 : Int)) <
 (3 : Int)) =
 false →
 ((!false) = true → (1 : Int) = checkI x.fst) ∧
 ((!false) = false → (0 : Int) = checkI x.fst)))) ∧
 (decide
 (IntKind.wrap IntKind.i64
 (IntKind.wrap IntKind.i64 ((0 : Int) + (1 : Int)) + (1 : Int)) <
 (3 : Int)) =
 false →
 ((!withinN x.fst.snd.snd.fst.snd.fst) = true → (1 : Int) = checkI x.fst) ∧
 ((!withinN x.fst.snd.snd.fst.snd.fst) = false → (0 : Int) = checkI x.fst))) ∧
 (withinN x.fst.snd.snd.fst.fst = false →
 (decide
 (IntKind.wrap IntKind.i64
 (IntKind.wrap IntKind.i64 ((0 : Int) + (1 : Int)) + (1 : Int)) <
 (3 : Int)) =
 true →
 ((0 : Int) ≤
 IntKind.wrap IntKind.i64
 (IntKind.wrap IntKind.i64 ((0 : Int) + (1 : Int)) + (1 : Int)) ∧
 IntKind.wrap IntKind.i64
 (IntKind.wrap IntKind.i64 ((0 : Int) + (1 : Int)) + (1 : Int)) <
 (↑(3 : Nat) : Int)) ∧
 (decide
 (IntKind.wrap IntKind.i64
 (IntKind.wrap IntKind.i64
 (IntKind.wrap IntKind.i64 ((0 : Int) + (1 : Int)) + (1 : Int)) +
 (1 : Int)) <
 (3 : Int)) =
 true →
 False) ∧
 (decide
 (IntKind.wrap IntKind.i64
 (IntKind.wrap IntKind.i64
 (IntKind.wrap IntKind.i64 ((0 : Int) + (1 : Int)) + (1 : Int)) +
 (1 : Int)) <
 (3 : Int)) =
 false →
 ((!false) = true → (1 : Int) = checkI x.fst) ∧
 ((!false) = false → (0 : Int) = checkI x.fst))) ∧
 (decide
 (IntKind.wrap IntKind.i64
 (IntKind.wrap IntKind.i64 ((0 : Int) + (1 : Int)) + (1 : Int)) <
 (3 : Int)) =
 false →
 ((!false) = true → (1 : Int) = checkI x.fst) ∧
 ((!false) = false → (0 : Int) = checkI x.fst)))) ∧
 (decide (IntKind.wrap IntKind.i64 ((0 : Int) + (1 : Int)) < (3 : Int)) = false →
 ((!withinN x.fst.snd.snd.fst.fst) = true → (1 : Int) = checkI x.fst) ∧
 ((!withinN x.fst.snd.snd.fst.fst) = false → (0 : Int) = checkI x.fst))) ∧
 (withinN x.fst.snd.snd.snd.fst = false →
 (decide (IntKind.wrap IntKind.i64 ((0 : Int) + (1 : Int)) < (3 : Int)) = true →
 ((0 : Int) ≤ IntKind.wrap IntKind.i64 ((0 : Int) + (1 : Int)) ∧
 IntKind.wrap IntKind.i64 ((0 : Int) + (1 : Int)) < (↑(3 : Nat) : Int)) ∧
 (decide
 (IntKind.wrap IntKind.i64 (IntKind.wrap IntKind.i64 ((0 : Int) + (1 : Int)) + (1 : Int)) <
 (3 : Int)) =
 true →
 ((0 : Int) ≤
 IntKind.wrap IntKind.i64
 (IntKind.wrap IntKind.i64 ((0 : Int) + (1 : Int)) + (1 : Int)) ∧
 IntKind.wrap IntKind.i64 (IntKind.wrap IntKind.i64 ((0 : Int) + (1 : Int)) + (1 : Int)) <
 (↑(3 : Nat) : Int)) ∧
 (decide
 (IntKind.wrap IntKind.i64
 (IntKind.wrap IntKind.i64
 (IntKind.wrap IntKind.i64 ((0 : Int) + (1 : Int)) + (1 : Int)) +
 (1 : Int)) <
 (3 : Int)) =
 true →
 False) ∧
 (decide
 (IntKind.wrap IntKind.i64
 (IntKind.wrap IntKind.i64
 (IntKind.wrap IntKind.i64 ((0 : Int) + (1 : Int)) + (1 : Int)) +
 (1 : Int)) <
 (3 : Int)) =
 false →
 ((!false) = true → (1 : Int) = checkI x.fst) ∧
 ((!false) = false → (0 : Int) = checkI x.fst))) ∧
 (decide
 (IntKind.wrap IntKind.i64 (IntKind.wrap IntKind.i64 ((0 : Int) + (1 : Int)) + (1 : Int)) <
 (3 : Int)) =
 false →
 ((!false) = true → (1 : Int) = checkI x.fst) ∧
 ((!false) = false → (0 : Int) = checkI x.fst))) ∧
 (decide (IntKind.wrap IntKind.i64 ((0 : Int) + (1 : Int)) < (3 : Int)) = false →
 ((!false) = true → (1 : Int) = checkI x.fst) ∧ ((!false) = false → (0 : Int) = checkI x.fst)))) ∧
 (decide ((0 : Int) < (3 : Int)) = false →
 ((!withinN x.fst.snd.snd.snd.fst) = true → (1 : Int) = checkI x.fst) ∧
 ((!withinN x.fst.snd.snd.snd.fst) = false → (0 : Int) = checkI x.fst))
theorem vcEq58 : fnVC E58 Tryd.f58 (bodyOf Tryd.f58) cCheck = vc58 := by kernel_rfl
def hs59 : List (Nat × Nat × Hint) := []
def nm59 : List Nat := [3000000024]
noncomputable def E59 : Env := env tab [(91, cMeld), (92, cInnerOf)] [] gl hs59 nm59
def vc59 : Prop :=
 ∀
 (x :
 Nd ×
 Nd × Unit),
 WfN x.fst ∧ WfN x.snd.fst →
 (NT.isNil x.fst = true → x.snd.fst = join x.fst x.snd.fst) ∧
 (NT.isNil x.fst = false →
 (NT.isNil x.snd.fst = true → x.fst = join x.fst x.snd.fst) ∧
 (NT.isNil x.snd.fst = false →
 (∃ (h : Nat), ∃ (k : Nat), h ≤ (100 : Nat) ∧ k ≤ (100 : Nat) ∧ Wf h true x.fst ∧ Wf k true x.snd.fst) ∧
 (((↑(List.length (meld x.fst x.snd.fst)) : Int) == (1 : Int)) = true →
 ((0 : Int) ≤ (0 : Int) ∧ (0 : Int) < (↑(List.length (meld x.fst x.snd.fst)) : Int)) ∧
 List.getD (meld x.fst x.snd.fst) (Int.toNat (0 : Int)) (NT.nil : Nd) = join x.fst x.snd.fst) ∧
 (((↑(List.length (meld x.fst x.snd.fst)) : Int) == (1 : Int)) = false →
 ((1 : Nat) ≤ List.length (meld x.fst x.snd.fst) ∧ List.length (meld x.fst x.snd.fst) ≤ maxLen) ∧
 Option.isSome (some (meld x.fst x.snd.fst, mkNx (meld x.fst x.snd.fst))) = true ∧
 NT.ofInner (some (meld x.fst x.snd.fst, mkNx (meld x.fst x.snd.fst))) = join x.fst x.snd.fst)))
theorem vcEq59 : fnVC E59 Tryd.f59 (bodyOf Tryd.f59) cJoin = vc59 := by kernel_rfl
def hs60 : List (Nat × Nat × Hint) := []
def nm60 : List Nat := [3000000024]
noncomputable def E60 : Env := env tab [(93, cAllS)] [] gl hs60 nm60
def vc60 : Prop :=
 ∀ (x : List Itm × Unit),
 List.length x.fst ≤ maxLen → List.length x.fst ≤ maxLen ∧ some (x.fst, allS x.fst, ()) = some (mkLf x.fst)
theorem vcEq60 : fnVC E60 Tryd.f60 (bodyOf Tryd.f60) cLeafOf = vc60 := by kernel_rfl
def hs66 : List (Nat × Nat × Hint) := []
def nm66 : List Nat := [3000000024]
noncomputable def E66 : Env := env tab [] [] gl hs66 nm66
def vc66 : Prop :=
 ∀ (x : Option (Nd × Unit) × Unit),
 True →
 (Option.isNone x.fst = true → (NT.nil : Nd) = topT x.fst) ∧
 (Option.isNone x.fst = false →
 Option.isSome x.fst = true ∧ (List.getD (optL x.fst) (0 : Nat) (Ty.dflt t122)).fst = topT x.fst)
theorem vcEq66 : fnVC E66 Tryd.f66 (bodyOf Tryd.f66) cTop = vc66 := by kernel_rfl
def hs67 : List (Nat × Nat × Hint) := [(0, 3, ⟨[], [], [], [4000000000, 4]⟩),
  (680058, 3, ⟨[], [], [], [4000000000, 4]⟩),
  (1360116, 3, ⟨[], [], [], [4000000000, 4]⟩),
  (2040174, 3, ⟨[], [], [], [4000000000, 4]⟩),
  (2720232, 3, ⟨[], [], [], [4000000000, 4]⟩),
  (3400290, 3, ⟨[], [], [], [4000000000, 4]⟩),
  (4080348, 3, ⟨[], [], [], [4000000000, 4]⟩),
  (4760406, 3, ⟨[], [], [], [4000000000, 4]⟩),
  (5440464, 3, ⟨[], [], [], [4000000000, 4]⟩)]
def nm67 : List Nat := [3000000024]
noncomputable def E67 : Env := env tab [] [] gl hs67 nm67
def vc67 : Prop :=
 ∀
 (x :
 Sm × Sm × Unit),
 let y := x.snd.fst.snd;
 let y_1 := x.snd.fst.fst;
 let y_2 := addS x.fst x.snd.fst;
 let y_3 := x.fst.snd;
 let y_4 := x.fst.fst == (0 : Int);
 let y_5 := IntKind.wrap IntKind.i64 (y_3.fst.fst + y.fst.fst);
 let y_6 := IntKind.wrap IntKind.i64 (y_3.fst.snd.fst + y.fst.snd.fst);
 let y_7 := y_3.snd;
 let y_8 := (y_5, (0 : Int), (0 : Int), ());
 let y_9 := IntKind.wrap IntKind.i64 (x.fst.fst + y_1);
 let y_10 := decide (y_1 > (0 : Int));
 let y_11 := (y_9, ((0 : Int), (0 : Int), (0 : Int), ()), y_7);
 let y_12 := (y_5, y_6, IntKind.wrap IntKind.i64 (y_3.fst.snd.snd.fst + y.fst.snd.snd.fst), ());
 let y_13 := decide (y.snd.fst > y_7.fst);
 let y_14 := (y_5, y_6, (0 : Int), ());
 let y := (y.snd.fst, IntKind.wrap IntKind.i64 (x.fst.fst + y.snd.snd.fst), ());
 let y_15 := (y_9, y_8, y_7);
 let y_16 := (y_9, y_8, y);
 let y_17 := (y_9, ((0 : Int), (0 : Int), (0 : Int), ()), y);
 let y_18 := (y_9, y_14, y);
 let y_19 := (y_9, y_14, y_7);
 let y := (y_9, y_12, y);
 let y_20 := (y_9, y_12, y_7);
 True →
 (decide ((0 : Int) < (3 : Int)) = true →
 ((0 : Int) ≤ (0 : Int) ∧ (0 : Int) < (↑(3 : Nat) : Int)) ∧
 ((0 : Int) ≤ (0 : Int) ∧ (0 : Int) < (↑(3 : Nat) : Int)) ∧
 ((0 : Int) ≤ (0 : Int) ∧ (0 : Int) < (↑(3 : Nat) : Int)) ∧
 (decide (IntKind.wrap IntKind.i64 ((0 : Int) + (1 : Int)) < (3 : Int)) = true →
 ((0 : Int) ≤ IntKind.wrap IntKind.i64 ((0 : Int) + (1 : Int)) ∧
 IntKind.wrap IntKind.i64 ((0 : Int) + (1 : Int)) < (↑(3 : Nat) : Int)) ∧
 ((0 : Int) ≤ IntKind.wrap IntKind.i64 ((0 : Int) + (1 : Int)) ∧
 IntKind.wrap IntKind.i64 ((0 : Int) + (1 : Int)) < (↑(3 : Nat) : Int)) ∧
 ((0 : Int) ≤ IntKind.wrap IntKind.i64 ((0 : Int) + (1 : Int)) ∧
 IntKind.wrap IntKind.i64 ((0 : Int) + (1 : Int)) < (↑(3 : Nat) : Int)) ∧
 (decide
 (IntKind.wrap IntKind.i64
 (IntKind.wrap IntKind.i64 ((0 : Int) + (1 : Int)) + (1 : Int)) <
 (3 : Int)) =
 true →
 ((0 : Int) ≤
 IntKind.wrap IntKind.i64
 (IntKind.wrap IntKind.i64 ((0 : Int) + (1 : Int)) + (1 : Int)) ∧
 IntKind.wrap IntKind.i64
 (IntKind.wrap IntKind.i64 ((0 : Int) + (1 : Int)) + (1 : Int)) <
 (↑(3 : Nat) : Int)) ∧
 ((0 : Int) ≤
 IntKind.wrap IntKind.i64
 (IntKind.wrap IntKind.i64 ((0 : Int) + (1 : Int)) + (1 : Int)) ∧
 IntKind.wrap IntKind.i64
 (IntKind.wrap IntKind.i64 ((0 : Int) + (1 : Int)) + (1 : Int)) <
 (↑(3 : Nat) : Int)) ∧
 ((0 : Int) ≤
 IntKind.wrap IntKind.i64
 (IntKind.wrap IntKind.i64 ((0 : Int) + (1 : Int)) + (1 : Int)) ∧
 IntKind.wrap IntKind.i64
 (IntKind.wrap IntKind.i64 ((0 : Int) + (1 : Int)) + (1 : Int)) <
 (↑(3 : Nat) : Int)) ∧
 (decide
 (IntKind.wrap IntKind.i64
 (IntKind.wrap IntKind.i64
 (IntKind.wrap IntKind.i64 ((0 : Int) + (1 : Int)) + (1 : Int)) +
 (1 : Int)) <
 (3 : Int)) =
 true →
 ((0 : Int) ≤
 IntKind.wrap IntKind.i64
 (IntKind.wrap IntKind.i64
 (IntKind.wrap IntKind.i64 ((0 : Int) + (1 : Int)) + (1 : Int)) +
 (1 : Int)) ∧
 IntKind.wrap IntKind.i64
 (IntKind.wrap IntKind.i64
 (IntKind.wrap IntKind.i64 ((0 : Int) + (1 : Int)) + (1 : Int)) +
 (1 : Int)) <
 (↑(3 : Nat) : Int)) ∧
 ((0 : Int) ≤
 IntKind.wrap IntKind.i64
 (IntKind.wrap IntKind.i64
 (IntKind.wrap IntKind.i64 ((0 : Int) + (1 : Int)) + (1 : Int)) +
 (1 : Int)) ∧
 IntKind.wrap IntKind.i64
 (IntKind.wrap IntKind.i64
 (IntKind.wrap IntKind.i64 ((0 : Int) + (1 : Int)) + (1 : Int)) +
 (1 : Int)) <
 (↑(3 : Nat) : Int)) ∧
 ((0 : Int) ≤
 IntKind.wrap IntKind.i64
 (IntKind.wrap IntKind.i64
 (IntKind.wrap IntKind.i64 ((0 : Int) + (1 : Int)) + (1 : Int)) +
 (1 : Int)) ∧
 IntKind.wrap IntKind.i64
 (IntKind.wrap IntKind.i64
 (IntKind.wrap IntKind.i64 ((0 : Int) + (1 : Int)) + (1 : Int)) +
 (1 : Int)) <
 (↑(3 : Nat) : Int)) ∧
 False) ∧
 (decide
 (IntKind.wrap IntKind.i64
 (IntKind.wrap IntKind.i64
 (IntKind.wrap IntKind.i64 ((0 : Int) + (1 : Int)) + (1 : Int)) +
 (1 : Int)) <
 (3 : Int)) =
 false →
 (y_10 = true →
 (y_4 = true → y = y_2) ∧
 (y_4 = false → (y_13 = true → y = y_2) ∧ (y_13 = false → y_20 = y_2))) ∧
 (y_10 = false → y_20 = y_2))) ∧
 (decide
 (IntKind.wrap IntKind.i64
 (IntKind.wrap IntKind.i64 ((0 : Int) + (1 : Int)) + (1 : Int)) <
 (3 : Int)) =
 false →
 (y_10 = true →
 (y_4 = true → y_18 = y_2) ∧
 (y_4 = false → (y_13 = true → y_18 = y_2) ∧ (y_13 = false → y_19 = y_2))) ∧
 (y_10 = false → y_19 = y_2))) ∧
 (decide (IntKind.wrap IntKind.i64 ((0 : Int) + (1 : Int)) < (3 : Int)) = false →
 (y_10 = true →
 (y_4 = true → y_16 = y_2) ∧
 (y_4 = false → (y_13 = true → y_16 = y_2) ∧ (y_13 = false → y_15 = y_2))) ∧
 (y_10 = false → y_15 = y_2))) ∧
 (decide ((0 : Int) < (3 : Int)) = false →
 (y_10 = true →
 (y_4 = true → y_17 = y_2) ∧ (y_4 = false → (y_13 = true → y_17 = y_2) ∧ (y_13 = false → y_11 = y_2))) ∧
 (y_10 = false → y_11 = y_2))
theorem vcEq67 : fnVC E67 Tryd.f67 (bodyOf Tryd.f67) cAddS = vc67 := by kernel_rfl
def hs68 : List (Nat × Nat × Hint) := []
def nm68 : List Nat := [3000000024]
noncomputable def E68 : Env := env tab [] [] gl hs68 nm68
def vc68 : Prop :=
 ∀ (x : Nd × Unit),
 True →
 (Option.isSome (NT.asLeaf x.fst) = true →
 Option.isSome (NT.asLeaf x.fst) = true ∧
 (List.getD (optL (NT.asLeaf x.fst)) (0 : Nat) (([], zS, ()) : Lf)).snd.fst = sumOf x.fst) ∧
 (Option.isSome (NT.asLeaf x.fst) = false →
 (Option.isSome (NT.asInner x.fst) = true →
 Option.isSome (NT.asInner x.fst) = true ∧
 (List.getD (optL (NT.asInner x.fst)) (0 : Nat)
 (([], (0, zS, ())) : List Nd × Nx)).snd.snd.fst =
 sumOf x.fst) ∧
 (Option.isSome (NT.asInner x.fst) = false →
 ((0 : Int), ((0 : Int), (0 : Int), (0 : Int), ()), (0 : Int), (0 : Int), ()) = sumOf x.fst))
theorem vcEq68 : fnVC E68 Tryd.f68 (bodyOf Tryd.f68) cSumOf = vc68 := by kernel_rfl
def hs69 : List (Nat × Nat × Hint) := []
def nm69 : List Nat := [3000000024]
noncomputable def E69 : Env := env tab [] [] gl hs69 nm69
def vc69 : Prop :=
 ∀ (x : Itm × Unit),
 True → ((1 : Int), x.fst.snd.snd.fst, x.fst.snd.snd.snd.fst, (0 : Int), ()) = ofI x.fst
theorem vcEq69 : fnVC E69 Tryd.f69 (bodyOf Tryd.f69) cOfI = vc69 := by kernel_rfl
def hs75 : List (Nat × Nat × Hint) := []
def nm75 : List Nat := [3000000024]
noncomputable def E75 : Env := env tab [] [] gl hs75 nm75
def vc75 : Prop :=
 ∀ (x : Nd × Unit),
 True →
 (Option.isSome (NT.asLeaf x.fst) = true → (1 : Int) = heightOf x.fst) ∧
 (Option.isSome (NT.asLeaf x.fst) = false →
 (Option.isSome (NT.asInner x.fst) = true →
 Option.isSome (NT.asInner x.fst) = true ∧
 (List.getD (optL (NT.asInner x.fst)) (0 : Nat)
 (([], (0, zS, ())) : List Nd × Nx)).snd.fst =
 heightOf x.fst) ∧
 (Option.isSome (NT.asInner x.fst) = false → (0 : Int) = heightOf x.fst))
theorem vcEq75 : fnVC E75 Tryd.f75 (bodyOf Tryd.f75) cHeightOf = vc75 := by kernel_rfl
def hs90 : List (Nat × Nat × Hint) := []
def nm90 : List Nat := [3000000024]
noncomputable def E90 : Env := env tab [] [] gl hs90 nm90
def vc90 : Prop :=
 ∀ (x : Int × Unit),
 True →
 (decide (x.fst ≥ (0 : Int)) = true → decide (x.fst ≤ (1099511627776 : Int)) = withinN x.fst) ∧
 (decide (x.fst ≥ (0 : Int)) = false → false = withinN x.fst)
theorem vcEq90 : fnVC E90 Tryd.f90 (bodyOf Tryd.f90) cWithinN = vc90 := by kernel_rfl
def hs91 : List (Nat × Nat × Hint) := []
def nm91 : List Nat := [3000000024, 4000000012]
noncomputable def E91 (nn : Nat) : Env := env tab [(75, cHeightOf), (91, cMeld.cut muMeld nn), (103, cPut), (102, cRaise), (104, cSpread)] [] gl hs91 nm91
def vc91 (nn : Nat) : Prop :=
 ∀
 (x :
 Nd ×
 Nd × Unit),
 let y :=  List.replicate (Int.toNat (0 : Int))  ((0 : Int), (0 : Int), ((0 : Int), (0 : Int), (0 : Int), ()), (0 : Int), ByteArray.empty, ()) ++  (List.getD (optL (NT.asLeaf x.fst)) (0 : Nat) (([], zS, ()) : Lf)).fst;
 let y_1 :=  (List.getD (optL (NT.asInner x.fst)) (0 : Nat)  (([], (0, zS, ())) : List Nd × Nx)).fst;
 let y_2 :=  List.length  (List.replicate (Int.toNat (0 : Int))  ((0 : Int), (0 : Int), ((0 : Int), (0 : Int), (0 : Int), ()), (0 : Int), ByteArray.empty, ())) +  List.length (List.getD (optL (NT.asLeaf x.fst)) (0 : Nat) (([], zS, ()) : Lf)).fst;
 let y_3 :=  IntKind.wrap IntKind.i64  ((↑(List.length (List.getD (optL (NT.asLeaf x.fst)) (0 : Nat) (([], zS, ()) : Lf)).fst) : Int) +  (↑(List.length (List.getD (optL (NT.asLeaf x.snd.fst)) (0 : Nat) (([], zS, ()) : Lf)).fst) : Int));
 let y_4 :=  (List.getD (optL (NT.asInner x.snd.fst)) (0 : Nat)  (([], (0, zS, ())) : List Nd × Nx)).fst;
 let y_5 := x.snd.fst;
 let y_6 := x.fst;
 let y_7 := Option.isSome (NT.asInner y_6);
 let y_8 := Option.isSome (NT.asLeaf y_6);
 let y_9 := Option.isSome (NT.asInner y_6);
 let y_10 := Option.isSome (NT.asLeaf y_5);
 let y_11 := meld y_6 y_5;
 let y_12 := Option.isSome (NT.asInner y_5);
 let y_13 := (List.getD (optL (NT.asLeaf y_5)) (0 : Nat) (([], zS, ()) : Lf)).fst;
 let y_14 := Option.isSome (NT.asInner y_5);
 let y_15 := decide (heightOf y_6 < heightOf y_5);
 let y_16 :=  List.getD y_4 (Int.toNat (0 : Int))  (NT.nil : Nd);
 let y_17 := List.drop (Int.toNat (1 : Int)) y_4;
 let y_18 := (↑(List.length y_4) : Int);
 let y_19 := meld y_6 y_16 ++ y_17;
 let y_20 := y_3 * (↑(64 : Nat) : Int);
 let y_21 := y_2 * (64 : Nat);
 let y_22 := IntKind.wrap IntKind.i64 ((↑(List.length y_1) : Int) - (1 : Int));
 let y_23 := y_1 ++ y_4;
 let y_24 := (↑(List.length y_1) : Int);
 let y_25 :=  List.getD y_1 (Int.toNat y_22) (NT.nil : Nd);
 let y_26 := List.take (Int.toNat y_22) y_1 ++ meld y_25 y_5;
 let y_27 := y ++ y_13;
 let y := List.length y + List.length y_13;
 let y_28 := y * (64 : Nat);
 (∃ (h : Nat), ∃ (k : Nat), h ≤ (100 : Nat) ∧ k ≤ (100 : Nat) ∧ Wf h true y_6 ∧ Wf k true y_5) ∧
 muMeld x < nn + (1 : Nat) →
 True ∧
 True ∧
 (decide (heightOf y_6 > heightOf y_5) = true →
 y_9 = true ∧
 y_7 = true ∧
 y_7 = true ∧
 ((0 : Int) ≤ y_22 ∧ y_22 ≤ y_24) ∧
 y_7 = true ∧
 ((0 : Int) ≤ y_22 ∧ y_22 < y_24) ∧
 ((∃ (h : Nat),
 ∃ (k : Nat), h ≤ (100 : Nat) ∧ k ≤ (100 : Nat) ∧ Wf h true y_25 ∧ Wf k true y_5) ∧
 muMeld (y_25, x.snd) < nn) ∧
 (List.length (List.take (Int.toNat y_22) y_1) ≤ (100000 : Nat) ∧
 List.length (meld y_25 y_5) ≤ (100000 : Nat)) ∧
 ((1 : Nat) ≤ List.length y_26 ∧ List.length y_26 ≤ (100000 : Nat)) ∧ raise y_26 = y_11) ∧
 (decide (heightOf y_6 > heightOf y_5) = false →
 (y_15 = true →
 y_14 = true ∧
 y_12 = true ∧
 ((0 : Int) ≤ (0 : Int) ∧ (0 : Int) < y_18) ∧
 ((∃ (h : Nat), ∃ (k : Nat), h ≤ (100 : Nat) ∧ k ≤ (100 : Nat) ∧ Wf h true y_6 ∧ Wf k true y_16) ∧
 muMeld (y_6, y_16, ()) < nn) ∧
 y_12 = true ∧
 ((0 : Int) ≤ (1 : Int) ∧ (1 : Int) ≤ y_18) ∧
 (List.length (meld y_6 y_16) ≤ (100000 : Nat) ∧ List.length y_17 ≤ (100000 : Nat)) ∧
 ((1 : Nat) ≤ List.length y_19 ∧ List.length y_19 ≤ (100000 : Nat)) ∧ raise y_19 = y_11) ∧
 (y_15 = false →
 (y_8 = true →
 y_10 = true ∧
 y_8 = true ∧
 y_10 = true ∧
 ((((0 : Int) ≤ (0 : Int) ∧
 (0 : Int) ≤ y_3 ∧ y_20 ≤ (140737488355328 : Int) ∧ y_3 ≤ (1000000000000 : Int)) ∧
 y_8 = true ∧
 y_21 ≤ (140737488355328 : Nat) ∧
 y_2 ≤ maxLen ∧
 y_10 = true ∧
 y_28 ≤ (140737488355328 : Nat) ∧
 y ≤ maxLen ∧ List.length y_27 ≤ (100000 : Nat) ∧ spread y_27 = y_11) ∧
 (((0 : Int) ≤ (0 : Int) ∧
 (0 : Int) ≤ y_3 ∧ y_20 ≤ (140737488355328 : Int) ∧ y_3 ≤ (1000000000000 : Int)) ∧
 y_8 = true ∧
 y_21 ≤ (140737488355328 : Nat) ∧
 y_2 ≤ maxLen ∧
 y_10 = true ∧
 y_28 ≤ (140737488355328 : Nat) ∧
 y ≤ maxLen ∧ List.length y_27 ≤ (100000 : Nat) ∧ spread y_27 = y_11) ∧
 ((0 : Int) ≤ (0 : Int) ∧
 (0 : Int) ≤ y_3 ∧ y_20 ≤ (140737488355328 : Int) ∧ y_3 ≤ (1000000000000 : Int)) ∧
 y_8 = true ∧
 y_21 ≤ (140737488355328 : Nat) ∧
 y_2 ≤ maxLen ∧
 y_10 = true ∧
 y_28 ≤ (140737488355328 : Nat) ∧
 y ≤ maxLen ∧ List.length y_27 ≤ (100000 : Nat) ∧ spread y_27 = y_11) ∧
 ((((0 : Int) ≤ (0 : Int) ∧
 (0 : Int) ≤ y_3 ∧ y_20 ≤ (140737488355328 : Int) ∧ y_3 ≤ (1000000000000 : Int)) ∧
 y_8 = true ∧
 y_21 ≤ (140737488355328 : Nat) ∧
 y_2 ≤ maxLen ∧
 y_10 = true ∧
 y_28 ≤ (140737488355328 : Nat) ∧
 y ≤ maxLen ∧ List.length y_27 ≤ (100000 : Nat) ∧ spread y_27 = y_11) ∧
 ((0 : Int) ≤ (0 : Int) ∧
 (0 : Int) ≤ y_3 ∧ y_20 ≤ (140737488355328 : Int) ∧ y_3 ≤ (1000000000000 : Int)) ∧
 y_8 = true ∧
 y_21 ≤ (140737488355328 : Nat) ∧
 y_2 ≤ maxLen ∧
 y_10 = true ∧
 y_28 ≤ (140737488355328 : Nat) ∧
 y ≤ maxLen ∧ List.length y_27 ≤ (100000 : Nat) ∧ spread y_27 = y_11) ∧
 ((0 : Int) ≤ (0 : Int) ∧
 (0 : Int) ≤ y_3 ∧ y_20 ≤ (140737488355328 : Int) ∧ y_3 ≤ (1000000000000 : Int)) ∧
 y_8 = true ∧
 y_21 ≤ (140737488355328 : Nat) ∧
 y_2 ≤ maxLen ∧
 y_10 = true ∧
 y_28 ≤ (140737488355328 : Nat) ∧
 y ≤ maxLen ∧ List.length y_27 ≤ (100000 : Nat) ∧ spread y_27 = y_11) ∧
 (y_8 = false →
 y_9 = true ∧
 y_7 = true ∧
 y_14 = true ∧
 y_12 = true ∧
 (List.length y_1 ≤ (100000 : Nat) ∧ List.length y_4 ≤ (100000 : Nat)) ∧
 ((1 : Nat) ≤ List.length y_23 ∧ List.length y_23 ≤ (100000 : Nat)) ∧ raise y_23 = y_11)))
theorem vcEq91 (nn : Nat) : fnVC (E91 nn) Tryd.f91 (bodyOf Tryd.f91) (cMeld.cut muMeld (nn + 1)) = vc91 nn := by kernel_rfl
def hs92 : List (Nat × Nat × Hint) := [(0, 3, ⟨[.slot 16 t3, .cell 13 2 t3, .cell 13 3 t3, .cell 13 4 t3, .cell 13 5 t3, .cell 13 6 t3, .cell 13 7 t3], [3, 14, 15], [13], []⟩)]
def nm92 : List Nat := [3000000024]
noncomputable def E92 : Env := env tab [(75, cHeightOf), (68, cSumOf), (67, cAddS)] [] gl hs92 nm92
def vc92 : Prop :=
 ∀ (x : List (Nd) × Unit),
 let y := x.fst;
 let y_1 := IntKind.wrap IntKind.i64 (heightOf (List.getD y (Int.toNat (0 : Int)) (NT.nil : Nd)) + (1 : Int));
 let y_2 := (↑(List.length y) : Int);
 (1 : Nat) ≤ List.length y ∧ List.length y ≤ maxLen →
 ((0 : Int) ≤ (0 : Int) ∧ (0 : Int) < y_2) ∧
 True ∧
 (((0 : Int) = (0 : Int) ∧ True ∧ y = y ∧ y_2 = y_2) ∧
 y = y ∧
 y_1 = y_1 ∧
 (0 : Int) = (0 : Int) ∧
 (0 : Int) = (0 : Int) ∧
 (0 : Int) = (0 : Int) ∧ (0 : Int) = (0 : Int) ∧ (0 : Int) = (0 : Int) ∧ (0 : Int) = (0 : Int)) ∧
 ∃ (Z : Int × Int × Int × Int × Int × Int × Int × Unit → Prop),
 ∃ (μ : Int × Int × Int × Int × Int × Int × Int × Unit → Nat),
 Z ((0 : Int), (0 : Int), (0 : Int), (0 : Int), (0 : Int), (0 : Int), (0 : Int), ()) ∧
 ∀ (a : Int),
 let y_3 := sumOf (List.getD y (Int.toNat a) (NT.nil : Nd));
 let y_4 := IntKind.wrap IntKind.i64 (a + (1 : Int));
 ∀ (a_1 a_2 a_3 a_4 : Int),
 let y_5 := (a_2, a_3, a_4, ());
 ∀ (a_5 a_6 : Int),
 let y_6 := (addS (a_1, y_5, a_5, a_6, ()) y_3).snd;
 let y_7 := (a, a_1, a_2, a_3, a_4, a_5, a_6, ());
 let y_8 := (a_1, y_5, a_5, a_6, ());
 let y_9 := (addS y_8 y_3).fst;
 let y_10 := (y_4, y_9, y_6.fst.fst, y_6.fst.snd.fst, y_6.fst.snd.snd.fst, y_6.snd);
 let y_11 := y_6.fst.snd;
 let y_12 := y_6.snd;
 Z y_7 →
 (decide (a < y_2) = true →
 ((0 : Int) ≤ a ∧ a < y_2) ∧
 True ∧
 True ∧
 ((y_4 = y_4 ∧ True ∧ y = y ∧ y_2 = y_2) ∧
 y = y ∧
 y_1 = y_1 ∧
 y_9 = y_9 ∧
 y_6.fst.fst = y_6.fst.fst ∧
 y_11.fst = y_11.fst ∧
 y_11.snd.fst = y_11.snd.fst ∧
 y_12.fst = y_12.fst ∧ y_12.snd.fst = y_12.snd.fst) ∧
 Z y_10 ∧ μ y_10 < μ y_7) ∧
 (decide (a < y_2) = false → some (y, y_1, y_8, ()) = some (y, mkNx y))
theorem vcEq92 : fnVC E92 Tryd.f92 (bodyOf Tryd.f92) cInnerOf = vc92 := by kernel_rfl
def hs93 : List (Nat × Nat × Hint) := [(0, 3, ⟨[.slot 8 t3, .cell 3 0 t3, .cell 3 1 t3, .cell 3 2 t3, .cell 3 3 t3, .cell 3 4 t3, .cell 3 5 t3], [2, 3, 6, 7], [2, 3], []⟩)]
def nm93 : List Nat := [3000000024]
noncomputable def E93 : Env := env tab [(69, cOfI), (67, cAddS)] [] gl hs93 nm93
def vc93 : Prop :=
 ∀ (x : List Itm × Unit),
 let y := x.fst;
 let y_1 := (↑(List.length y) : Int);
 List.length y ≤ maxLen →
 (((0 : Int) = (0 : Int) ∧ True ∧ True ∧ y = y ∧ y_1 = y_1) ∧
 ((0 : Int) = (0 : Int) ∧
 (0 : Int) = (0 : Int) ∧
 (0 : Int) = (0 : Int) ∧ (0 : Int) = (0 : Int) ∧ (0 : Int) = (0 : Int) ∧ (0 : Int) = (0 : Int)) ∧
 (0 : Int) = (0 : Int) ∧
 (0 : Int) = (0 : Int) ∧
 (0 : Int) = (0 : Int) ∧ (0 : Int) = (0 : Int) ∧ (0 : Int) = (0 : Int) ∧ (0 : Int) = (0 : Int)) ∧
 ∃ (Z : Int × Int × Int × Int × Int × Int × Int × Unit → Prop),
 ∃ (μ : Int × Int × Int × Int × Int × Int × Int × Unit → Nat),
 Z ((0 : Int), (0 : Int), (0 : Int), (0 : Int), (0 : Int), (0 : Int), (0 : Int), ()) ∧
 ∀ (a : Int),
 let y_2 := ofI (List.getD y (Int.toNat a) (Ty.dflt t89));
 let y_3 := IntKind.wrap IntKind.i64 (a + (1 : Int));
 ∀ (a_1 a_2 a_3 a_4 : Int),
 let y_4 := (a_2, a_3, a_4, ());
 ∀ (a_5 a_6 : Int),
 let y_5 := (addS (a_1, y_4, a_5, a_6, ()) y_2).snd;
 let y_6 := (a, a_1, a_2, a_3, a_4, a_5, a_6, ());
 let y_7 := (a_1, y_4, a_5, a_6, ());
 let y_8 := (addS y_7 y_2).fst;
 let y_9 := (y_3, y_8, y_5.fst.fst, y_5.fst.snd.fst, y_5.fst.snd.snd.fst, y_5.snd);
 let y_10 := y_5.fst.snd;
 let y_11 := y_5.snd;
 Z y_6 →
 (decide (a < y_1) = true →
 ((0 : Int) ≤ a ∧ a < y_1) ∧
 True ∧
 True ∧
 ((y_3 = y_3 ∧ True ∧ True ∧ y = y ∧ y_1 = y_1) ∧
 ((0 : Int) = (0 : Int) ∧
 (0 : Int) = (0 : Int) ∧
 (0 : Int) = (0 : Int) ∧
 (0 : Int) = (0 : Int) ∧ (0 : Int) = (0 : Int) ∧ (0 : Int) = (0 : Int)) ∧
 y_8 = y_8 ∧
 y_5.fst.fst = y_5.fst.fst ∧
 y_10.fst = y_10.fst ∧
 y_10.snd.fst = y_10.snd.fst ∧
 y_11.fst = y_11.fst ∧ y_11.snd.fst = y_11.snd.fst) ∧
 Z y_9 ∧ μ y_9 < μ y_6) ∧
 (decide (a < y_1) = false → y_7 = allS y)
theorem vcEq93 : fnVC E93 Tryd.f93 (bodyOf Tryd.f93) cAllS = vc93 := by kernel_rfl
def hs94 : List (Nat × Nat × Hint) := []
def nm94 : List Nat := [3000000024]
noncomputable def E94 : Env := env tab [(92, cInnerOf)] [] gl hs94 nm94
def vc94 : Prop :=
 ∀ (x : List (Nd) × Unit),
 List.length x.fst ≤ (100000 : Nat) →
 (((↑(List.length x.fst) : Int) == (0 : Int)) = true → (NT.nil : Nd) = rowN x.fst) ∧
 (((↑(List.length x.fst) : Int) == (0 : Int)) = false →
 (((↑(List.length x.fst) : Int) == (1 : Int)) = true →
 ((0 : Int) ≤ (0 : Int) ∧ (0 : Int) < (↑(List.length x.fst) : Int)) ∧
 List.getD x.fst (Int.toNat (0 : Int)) (NT.nil : Nd) = rowN x.fst) ∧
 (((↑(List.length x.fst) : Int) == (1 : Int)) = false →
 ((1 : Nat) ≤ List.length x.fst ∧ List.length x.fst ≤ maxLen) ∧
 Option.isSome (some (x.fst, mkNx x.fst)) = true ∧ NT.ofInner (some (x.fst, mkNx x.fst)) = rowN x.fst))
theorem vcEq94 : fnVC E94 Tryd.f94 (bodyOf Tryd.f94) cRowN = vc94 := by kernel_rfl
def hs102 : List (Nat × Nat × Hint) := []
def nm102 : List Nat := [3000000024]
noncomputable def E102 : Env := env tab [(92, cInnerOf)] [] gl hs102 nm102
def vc102 : Prop :=
 ∀ (x : List (Nd) × Unit),
 let y := IntKind.wrap IntKind.i64 (Int.tdiv (↑(List.length x.fst) : Int) (2 : Int));
 let y_1 := x.fst;
 let y_2 := (↑(List.length y_1) : Int);
 let y_3 := List.drop (Int.toNat y) y_1;
 let y_4 := List.take (Int.toNat y) y_1;
 (1 : Nat) ≤ List.length y_1 ∧ List.length y_1 ≤ (100000 : Nat) →
 (decide (y_2 ≤ (8 : Int)) = true →
 ((1 : Nat) ≤ List.length y_1 ∧ List.length y_1 ≤ maxLen) ∧
 Option.isSome (some (y_1, mkNx y_1)) = true ∧ [NT.ofInner (some (y_1, mkNx y_1))] = raise y_1) ∧
 (decide (y_2 ≤ (8 : Int)) = false →
 (2 : Int) ≠ (0 : Int) ∧
 ((0 : Int) ≤ y ∧ y ≤ y ∧ y ≤ y_2) ∧
 ((1 : Nat) ≤ List.length y_4 ∧ List.length y_4 ≤ maxLen) ∧
 Option.isSome (some (y_4, mkNx y_4)) = true ∧
 ((0 : Int) ≤ y ∧ y ≤ y_2) ∧
 ((1 : Nat) ≤ List.length y_3 ∧ List.length y_3 ≤ maxLen) ∧
 Option.isSome (some (y_3, mkNx y_3)) = true ∧
 [NT.ofInner (some (y_4, mkNx y_4)), NT.ofInner (some (y_3, mkNx y_3))] = raise y_1)
theorem vcEq102 : fnVC E102 Tryd.f102 (bodyOf Tryd.f102) cRaise = vc102 := by kernel_rfl
def hs103 : List (Nat × Nat × Hint) := []
def nm103 : List Nat := [3000000024]
noncomputable def E103 : Env := env tab [] [] gl hs103 nm103
def vc103 : Prop :=
 ∀
 (x :
 List (Nd) ×
 List (Nd) × Unit),
 List.length x.fst ≤ (100000 : Nat) ∧ List.length x.snd.fst ≤ (100000 : Nat) →
 ((0 : Int) ≤ (0 : Int) ∧
 (0 : Int) ≤ IntKind.wrap IntKind.i64 ((↑(List.length x.fst) : Int) + (↑(List.length x.snd.fst) : Int)) ∧
 IntKind.wrap IntKind.i64 ((↑(List.length x.fst) : Int) + (↑(List.length x.snd.fst) : Int)) *
 (↑(16 : Nat) : Int) ≤
 (140737488355328 : Int) ∧
 IntKind.wrap IntKind.i64 ((↑(List.length x.fst) : Int) + (↑(List.length x.snd.fst) : Int)) ≤
 (1000000000000 : Int)) ∧
 (List.length (List.replicate (Int.toNat (0 : Int)) (NT.nil : Nd)) + List.length x.fst) * (16 : Nat) ≤
 (140737488355328 : Nat) ∧
 List.length (List.replicate (Int.toNat (0 : Int)) (NT.nil : Nd)) + List.length x.fst ≤ maxLen ∧
 (List.length (List.replicate (Int.toNat (0 : Int)) (NT.nil : Nd) ++ x.fst) + List.length x.snd.fst) * (16 : Nat) ≤
 (140737488355328 : Nat) ∧
 List.length (List.replicate (Int.toNat (0 : Int)) (NT.nil : Nd) ++ x.fst) + List.length x.snd.fst ≤ maxLen ∧
 List.replicate (Int.toNat (0 : Int)) (NT.nil : Nd) ++ x.fst ++ x.snd.fst = x.fst ++ x.snd.fst
theorem vcEq103 : fnVC E103 Tryd.f103 (bodyOf Tryd.f103) cPut = vc103 := by kernel_rfl
def hs104 : List (Nat × Nat × Hint) := []
def nm104 : List Nat := [3000000024]
noncomputable def E104 : Env := env tab [(60, cLeafOf)] [] gl hs104 nm104
def vc104 : Prop :=
 ∀ (x : List Itm × Unit),
 List.length x.fst ≤ (100000 : Nat) →
 (decide ((↑(List.length x.fst) : Int) ≤ (8 : Int)) = true →
 List.length x.fst ≤ maxLen ∧
 Option.isSome (some (mkLf x.fst)) = true ∧ [NT.ofLeaf (some (mkLf x.fst))] = spread x.fst) ∧
 (decide ((↑(List.length x.fst) : Int) ≤ (8 : Int)) = false →
 (2 : Int) ≠ (0 : Int) ∧
 ((0 : Int) ≤ IntKind.wrap IntKind.i64 (Int.tdiv (↑(List.length x.fst) : Int) (2 : Int)) ∧
 IntKind.wrap IntKind.i64 (Int.tdiv (↑(List.length x.fst) : Int) (2 : Int)) ≤
 IntKind.wrap IntKind.i64 (Int.tdiv (↑(List.length x.fst) : Int) (2 : Int)) ∧
 IntKind.wrap IntKind.i64 (Int.tdiv (↑(List.length x.fst) : Int) (2 : Int)) ≤
 (↑(List.length x.fst) : Int)) ∧
 List.length
 (List.take (Int.toNat (IntKind.wrap IntKind.i64 (Int.tdiv (↑(List.length x.fst) : Int) (2 : Int))))
 x.fst) ≤
 maxLen ∧
 Option.isSome
 (some
 (mkLf
 (List.take
 (Int.toNat (IntKind.wrap IntKind.i64 (Int.tdiv (↑(List.length x.fst) : Int) (2 : Int))))
 x.fst))) =
 true ∧
 ((0 : Int) ≤ IntKind.wrap IntKind.i64 (Int.tdiv (↑(List.length x.fst) : Int) (2 : Int)) ∧
 IntKind.wrap IntKind.i64 (Int.tdiv (↑(List.length x.fst) : Int) (2 : Int)) ≤
 (↑(List.length x.fst) : Int)) ∧
 List.length
 (List.drop
 (Int.toNat (IntKind.wrap IntKind.i64 (Int.tdiv (↑(List.length x.fst) : Int) (2 : Int))))
 x.fst) ≤
 maxLen ∧
 Option.isSome
 (some
 (mkLf
 (List.drop
 (Int.toNat (IntKind.wrap IntKind.i64 (Int.tdiv (↑(List.length x.fst) : Int) (2 : Int))))
 x.fst))) =
 true ∧
 [NT.ofLeaf
 (some
 (mkLf
 (List.take
 (Int.toNat
 (IntKind.wrap IntKind.i64 (Int.tdiv (↑(List.length x.fst) : Int) (2 : Int))))
 x.fst))),
 NT.ofLeaf
 (some
 (mkLf
 (List.drop
 (Int.toNat
 (IntKind.wrap IntKind.i64 (Int.tdiv (↑(List.length x.fst) : Int) (2 : Int))))
 x.fst)))] =
 spread x.fst)
theorem vcEq104 : fnVC E104 Tryd.f104 (bodyOf Tryd.f104) cSpread = vc104 := by kernel_rfl
end Go.Fr.C14
