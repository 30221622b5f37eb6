/-
  Chapter 10: the patch of a batch is normal and grows by what it should; the law's condition. Conditions: none.
-/
import Derived.Test.YtefahblfillfeaaC10T
namespace Go.Fr.C10
open Go Go.Fr Go.Proofs

theorem ckFrom_cons {n last : Int} {x : Edit} {r : List Edit} (h : ckFrom n last (x :: r) = 0) : 0 ≤ x.1 ∧ x.1 ≤ x.2.1 ∧ x.2.1 ≤ n ∧ last ≤ x.1 ∧ ckFrom n x.2.1 r = 0 := by
  rw [ckFrom] at h
  split at h
  · cases h
  · rename_i g
    split at h
    · cases h
    · have g : inside n x.1 x.2.1 = true := by cases hi : inside n x.1 x.2.1 <;> simp_all
      unfold inside at g
      rw [decide_eq_true_eq] at g
      exact ⟨g.1, g.2.1, g.2.2, by omega, h⟩
theorem ckFrom_mem {n : Int} : ∀ {l : List Edit} {last : Int}, ckFrom n last l = 0 → ∀ x ∈ l, 0 ≤ x.1 ∧ x.1 ≤ x.2.1 ∧ x.2.1 ≤ n
  | [], _, _, x, hx => by cases hx
  | y :: r, last, h, x, hx => by
    have := ckFrom_cons h
    rcases List.mem_cons.1 hx with rfl | hx
    · exact ⟨this.1, this.2.1, this.2.2.1⟩
    · exact ckFrom_mem this.2.2.2.2 x hx
theorem lastC_get {a : List Chg} (h : 0 < a.length) : ∃ r d, a = r ++ [d] ∧ lastC a = d ∧ a.getD (a.length - 1) zeroC = d ∧ ∀ v, a.set (a.length - 1) v = r ++ [v] := by
  rcases List.eq_nil_or_concat a with rfl | ⟨r, d, rfl⟩
  · simp at h
  · refine ⟨r, d, by simp, ?_, ?_, fun v => ?_⟩
    · unfold lastC; rw [List.concat_eq_append, lastFrom_snoc]
    · simp
    · simp
def OInv (s : List Chg × Int) (last : Int) : Prop := normal s.1 = true ∧ (lastC s.1).1.2.1 ≤ last ∧ s.2 = (lastC s.1).2.1.2.1 - (lastC s.1).1.2.1
theorem ofStep_inv {s : List Chg × Int} {last : Int} (h : OInv s last) {x : Edit} (h0 : last ≤ x.1) (h1 : x.1 ≤ x.2.1) (h2 : x.2.1 ≤ 1000) (hr : runes x ≤ 500) (hs : s.2 ≤ 1000000) : OInv (ofStep s x) x.2.1 := by
  obtain ⟨i1, i2, i3⟩ := h
  have rb := (runes_bd x).1
  have nn := last_nonneg i1
  unfold ofStep addC chgOf
  simp only
  by_cases c1 : x.1 = x.2.1 ∧ x.1 + s.2 = x.1 + s.2 + runes x
  · rw [if_pos c1]
    exact ⟨i1, by simp only; omega, by simp only; omega⟩
  · rw [if_neg c1]
    by_cases c2 : 0 < s.1.length ∧ (s.1.getD (s.1.length - 1) zeroC).1.2.1 = x.1
    · rw [if_pos c2]
      obtain ⟨r, d, e1, e2, e3, e4⟩ := lastC_get c2.1
      rw [e3] at c2 ⊢
      rw [e4]
      rw [e2] at i2 i3 nn
      rw [e1] at i1
      have hn := normFrom_snoc.1 i1
      have ok := ok_bounds hn.2
      have hl : lastC (r ++ [(((d.1.1, x.2.1, ()), (d.2.1.1, x.1 + s.2 + runes x, ()), ()) : Chg)]) = ((d.1.1, x.2.1, ()), (d.2.1.1, x.1 + s.2 + runes x, ()), ()) := lastFrom_snoc _ _ _
      refine ⟨normFrom_snoc.2 ⟨hn.1, okStep_iff.2 ?_⟩, ?_, ?_⟩
      · simp only
        refine ⟨by omega, by omega, by omega, by omega, by omega, ok.2.2.2.2.2⟩
      · simp only [hl]; omega
      · simp only [hl]; omega
    · rw [if_neg c2]
      have hl : lastC (s.1 ++ [(((x.1, x.2.1, ()), (x.1 + s.2, x.1 + s.2 + runes x, ()), ()) : Chg)]) = ((x.1, x.2.1, ()), (x.1 + s.2, x.1 + s.2 + runes x, ()), ()) := lastFrom_snoc _ _ _
      have hf : (s.1.isEmpty = true ∨ x.1 ≠ (lastC s.1).1.2.1) := by
        rcases Nat.eq_zero_or_pos s.1.length with g | g
        · left; rw [List.isEmpty_iff]; exact List.eq_nil_of_length_eq_zero g
        · right
          obtain ⟨r, d, e1, e2, e3, e4⟩ := lastC_get g
          rw [e2]
          rw [e3] at c2
          omega
      unfold lastC at i2 i3 nn hf
      refine ⟨normFrom_snoc.2 ⟨i1, okStep_iff.2 ?_⟩, ?_, ?_⟩
      · simp only [Bool.true_and]
        refine ⟨by omega, by omega, by omega, by omega, by omega, hf⟩
      · simp only [hl]; omega
      · simp only [hl]; omega
theorem ofAll_inv : ∀ (l : List Edit) (s : List Chg × Int) (last n : Int), OInv s last → ckFrom n last l = 0 → n ≤ 1000 → (∀ x ∈ l, x.2.2.1.size ≤ 500) → s.2 + 500 * (l.length : Int) ≤ 1000000 →
    ∃ last', OInv (l.foldl ofStep s) last'
  | [], s, last, _, h, _, _, _, _ => ⟨last, h⟩
  | x :: r, s, last, n, h, hc, hn, hz, hb => by
    have c := ckFrom_cons hc
    have rb := runes_bd x
    have sz := hz x (List.mem_cons_self ..)
    simp only [List.length_cons] at hb
    have e2 : (ofStep s x).2 = s.2 + runes x - (x.2.1 - x.1) := rfl
    exact ofAll_inv r (ofStep s x) x.2.1 n (ofStep_inv h c.2.2.2.1 c.2.1 (by omega) (by omega) (by omega)) c.2.2.2.2 hn (fun y hy => hz y (List.mem_cons_of_mem _ hy)) (by rw [e2]; omega)
theorem shift_bd2 {l : List Edit} : ∀ k, k ≤ l.length → (∀ j, j < k → 0 ≤ (l.getD j zEdit).1 ∧ (l.getD j zEdit).1 ≤ (l.getD j zEdit).2.1 ∧ (l.getD j zEdit).2.1 ≤ 1000 ∧ runes (l.getD j zEdit) ≤ 500) → -1000 * (k : Int) ≤ (ofAll (l.take k)).2 ∧ (ofAll (l.take k)).2 ≤ 1000 * (k : Int)
  | 0, _, _ => by
    have : (ofAll (l.take 0)).2 = 0 := rfl
    omega
  | k + 1, hk, h => by
    have ih := shift_bd2 k (by omega) (fun j hj => h j (by omega))
    have := h k (by omega)
    have := runes_bd (l.getD k zEdit)
    rw [ofAll_succ (by omega)]
    show _ ≤ (ofAll (l.take k)).2 + runes (l.getD k zEdit) - ((l.getD k zEdit).2.1 - (l.getD k zEdit).1) ∧ (ofAll (l.take k)).2 + runes (l.getD k zEdit) - ((l.getD k zEdit).2.1 - (l.getD k zEdit).1) ≤ _
    omega
theorem p4 : vc4 := by
  unfold vc4
  simp only [eq_self, true_and, and_true, decide_eq_true_eq, decide_eq_false_iff_not, beq_iff_eq, beq_eq_false_iff_ne, bne_iff_ne, bne_eq_false_iff_eq, Bool.not_eq_true', Bool.not_eq_false', ne_eq, imp_true_iff, implies_true]
  rintro ⟨n, l, ⟨⟩⟩
  simp only
  rintro ⟨hl, he⟩ h0 h1 h2
  rw [maxLen_eq] at *
  rw [d36]
  refine ⟨hl, fun hc => ?_⟩
  have hck : ckFrom n 0 l = 0 := by
    unfold check at hc
    rw [if_neg (by omega)] at hc
    exact hc
  have hm := ckFrom_mem hck
  refine ⟨fun z => ∃ k : Nat, k ≤ l.length ∧ z.2.1 = (k : Int) ∧ z.1 = (ofAll (l.take k)).2 ∧ ∀ j, j < k → (l.getD j zEdit).2.2.1.size ≤ 500, fun z => l.length - z.2.1.toNat, ⟨0, Nat.zero_le _, rfl, rfl, fun j hj => by omega⟩, ?_⟩
  rintro a i ⟨k, hk, hi, ha, hz⟩
  simp only at hi ha
  subst hi ha
  have gm : ∀ j, j < l.length → l.getD j zEdit ∈ l := fun j hj => by rw [Go.Fr.getD_of _ hj]; exact List.getElem_mem _
  have sb := shift_bd2 k hk (fun j hj => by
    have := hm _ (gm j (by omega))
    have := runes_bd (l.getD j zEdit)
    have := hz j hj
    omega)
  refine ⟨fun h => ?_, fun h => ?_⟩
  · have hlt : k < l.length := by omega
    have hw : IntKind.i64.wrap ((k : Int) + 1) = ((k + 1 : Nat) : Int) := Go.Fr.wrap_succ (by omega)
    rw [C10.toNat_cast, hw]
    have er : (((decodeL (l.getD k zEdit).2.2.1).length : Nat) : Int) = runes (l.getD k zEdit) := rfl
    rw [er]
    have ej : (ofAll (l.take (k + 1))).2 = (ofAll (l.take k)).2 + runes (l.getD k zEdit) - ((l.getD k zEdit).2.1 - (l.getD k zEdit).1) := by rw [ofAll_succ hlt]; rfl
    have mk := hm _ (gm k hlt)
    have rk := runes_bd (l.getD k zEdit)
    refine ⟨by omega, fun g => ⟨by omega, ⟨k + 1, hlt, rfl, ?_, fun j hj => ?_⟩, ?_⟩⟩
    · rw [ej]
      simp only [C10.wrap_eq]
      omega
    · by_cases e : j = k
      · subst e; omega
      · exact hz j (by omega)
    · show l.length - (((k + 1 : Nat) : Int)).toNat < l.length - (k : Int).toNat
      rw [C10.toNat_cast, C10.toNat_cast]; omega
  · have : k = l.length := by omega
    subst this
    have hz' : ∀ x ∈ l, x.2.2.1.size ≤ 500 := fun x hx => by
      obtain ⟨j, hj, rfl⟩ := List.getElem_of_mem hx
      have := hz j hj
      rwa [Go.Fr.getD_of _ hj] at this
    have hfair : fair l := ⟨by omega, fun x hx => ⟨(hm x hx).1, (hm x hx).2.1, by have := (hm x hx).2.2; omega, hz' x hx⟩⟩
    obtain ⟨last, o1, o2, o3⟩ := ofAll_inv l ([], 0) 0 n ⟨rfl, Int.le_refl _, rfl⟩ hck (by omega) hz' (by simp only; omega)
    have hlen := ofAll_len l l.length (Nat.le_refl _)
    rw [List.take_length] at hlen ⊢
    have o1' : normal (ofAll l).1 = true := o1
    have o3' : (ofAll l).2 = (lastC (ofAll l).1).2.1.2.1 - (lastC (ofAll l).1).1.2.1 := o3
    have q1 : (ofAll l).1.length ≤ 1000000000 := by omega
    have q2 : (ofAll l).1.length ≤ 9223372036854775807 := by omega
    rw [delta_last o1', ← o3', o1']
    simp [hfair, q1, q2]
end Go.Fr.C10
