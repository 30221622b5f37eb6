/-
  Chapter 40: proofs of the conditions: marks are let go. Conditions: none.
-/
import Derived.Test.YtpkdccmpadkmjaaC40T
namespace Go.Fr.C40
open Go Go.Fr Go.Proofs

def keepM (m : Mark) : Bool := decide (m.1 < m.2.1)
/-- What is kept of the first places lies ahead; behind is all as it was. -/
def DelInv (xs a : List Mark) (i j : Nat) : Prop := a.length = xs.length ∧ j ≤ xs.length ∧ i < j ∧ a.take i = (xs.take j).filter keepM ∧ ∀ q, j ≤ q → a.getD q zM = xs.getD q zM
theorem filter_snoc {xs : List Mark} {j : Nat} (h : j < xs.length) : (xs.take (j + 1)).filter keepM = (xs.take j).filter keepM ++ (if keepM (xs.getD j zM) then [xs.getD j zM] else []) := by
  rw [← take_snoc zM h, List.filter_append]
  congr 1
  by_cases hk : keepM (xs.getD j zM) = true
  · rw [List.filter_cons_of_pos hk, if_pos hk]; rfl
  · rw [List.filter_cons_of_neg hk, if_neg hk]; rfl
theorem DelInv.keep {xs a : List Mark} {i j : Nat} (h : DelInv xs a i j) (hj : j < xs.length) (hk : keepM (a.getD j zM) = true) : DelInv xs (a.set i (a.getD j zM)) (i + 1) (j + 1) := by
  obtain ⟨h1, h2, h3, h4, h5⟩ := h
  have e := h5 j (Nat.le_refl _)
  rw [e] at hk ⊢
  refine ⟨by rw [List.length_set]; exact h1, hj, by omega, ?_, fun q hq => ?_⟩
  · rw [filter_snoc hj, if_pos hk, ← h4]
    rw [List.take_succ_eq_append_getElem (by rw [List.length_set]; omega), List.take_set_of_le (Nat.le_refl _), List.getElem_set_self]
  · rw [← h5 q (by omega), List.getD_eq_getElem?_getD, List.getElem?_set_ne (by omega), ← List.getD_eq_getElem?_getD]
theorem DelInv.drop {xs a : List Mark} {i j : Nat} (h : DelInv xs a i j) (hj : j < xs.length) (hk : keepM (a.getD j zM) = false) : DelInv xs a i (j + 1) := by
  obtain ⟨h1, h2, h3, h4, h5⟩ := h
  have e := h5 j (Nat.le_refl _)
  rw [e] at hk
  refine ⟨h1, hj, by omega, ?_, fun q hq => h5 q (by omega)⟩
  rw [filter_snoc hj, if_neg (by rw [hk]; decide), List.append_nil]
  exact h4
theorem DelInv.init {xs : List Mark} {k : Nat} (hk : k < xs.length) (hs : ∀ j, j < k → keepM (xs.getD j zM) = true) (hn : keepM (xs.getD k zM) = false) : DelInv xs xs k (k + 1) := by
  refine ⟨rfl, hk, by omega, ?_, fun q _ => rfl⟩
  rw [filter_snoc hk, if_neg (by rw [hn]; decide), List.append_nil]
  rw [List.filter_eq_self.2]
  intro m hm
  obtain ⟨i, hi, e⟩ := List.getElem_of_mem hm
  rw [List.length_take] at hi
  have := hs i (by omega)
  rw [getD_of zM (by omega)] at this
  rw [← e, List.getElem_take]
  exact this
theorem filter_all {xs : List Mark} (hs : ∀ j, j < xs.length → keepM (xs.getD j zM) = true) : xs.filter keepM = xs := by
  rw [List.filter_eq_self]
  intro m hm
  obtain ⟨i, hi, e⟩ := List.getElem_of_mem hm
  have := hs i hi
  rw [getD_of zM hi, e] at this
  exact this
theorem p33 : vc33 := by
  unfold vc33
  simp only [eq_self, true_and, and_true, decide_eq_true_eq, decide_eq_false_iff_not, beq_iff_eq, beq_eq_false_iff_ne, bne_iff_ne, bne_eq_false_iff_eq, Bool.not_eq_true', Bool.not_eq_false', ne_eq, imp_true_iff, implies_true]
  intro xs hx
  have hl : xs.length ≤ 10000 := hx
  have dr : Ty.dflt rDel.t = zM := rfl
  have hfe : (fun m : Mark => decide (m.1 < m.2.1)) = keepM := rfl
  simp only [d60, dr, hfe]
  have kt : ∀ m : Mark, keepM m = true ↔ ¬ m.1 ≥ m.2.1 := fun m => by simp [keepM]
  have kf : ∀ m : Mark, keepM m = false ↔ m.1 ≥ m.2.1 := fun m => by simp [keepM]
  -- the second loop
  have second : ∀ (a : List Mark) (i j : Int), (∃ i' j' : Nat, i = (i' : Int) ∧ j = (j' : Int) ∧ DelInv xs a i' j') →
      (j < (a.length : Int) → (0 ≤ j ∧ j < (a.length : Int)) ∧
        (¬ (a.getD j.toNat zM).1 ≥ (a.getD j.toNat zM).2.1 → (0 ≤ i ∧ i < (a.length : Int)) ∧ (∃ i' j' : Nat, IntKind.i64.wrap (i + 1) = (i' : Int) ∧ IntKind.i64.wrap (j + 1) = (j' : Int) ∧ DelInv xs (a.set i.toNat (a.getD j.toNat zM)) i' j') ∧ xs.length - (IntKind.i64.wrap (j + 1)).toNat < xs.length - j.toNat) ∧
        ((a.getD j.toNat zM).1 ≥ (a.getD j.toNat zM).2.1 → (∃ i' j' : Nat, i = (i' : Int) ∧ IntKind.i64.wrap (j + 1) = (j' : Int) ∧ DelInv xs a i' j') ∧ xs.length - (IntKind.i64.wrap (j + 1)).toNat < xs.length - j.toNat)) ∧
      (¬ j < (a.length : Int) → (0 ≤ i ∧ i < (a.length : Int)) ∧ (0 ≤ i ∧ i ≤ ((a.take i.toNat ++ List.replicate (a.length - i.toNat) zM).length : Int)) ∧ (a.take i.toNat ++ List.replicate (a.length - i.toNat) zM).take i.toNat = xs.filter keepM) := by
    rintro a i j ⟨i', j', rfl, rfl, hd⟩
    obtain ⟨h1, h2, h3, h4, h5⟩ := hd
    refine ⟨fun h => ?_, fun h => ?_⟩
    · have hw : IntKind.i64.wrap ((j' : Int) + 1) = ((j' + 1 : Nat) : Int) := wrap_succ (by omega)
      have hw2 : IntKind.i64.wrap ((i' : Int) + 1) = ((i' + 1 : Nat) : Int) := wrap_succ (by omega)
      rw [toNat_cast, toNat_cast, hw, hw2]
      have hlt : j' < xs.length := by omega
      refine ⟨⟨by omega, h⟩, fun g => ⟨⟨by omega, by omega⟩, ⟨i' + 1, j' + 1, rfl, rfl, DelInv.keep ⟨h1, h2, h3, h4, h5⟩ hlt ((kt _).2 g)⟩, by rw [toNat_cast]; omega⟩, fun g => ⟨⟨i', j' + 1, rfl, rfl, DelInv.drop ⟨h1, h2, h3, h4, h5⟩ hlt ((kf _).2 g)⟩, by rw [toNat_cast]; omega⟩⟩
    · have hj : j' = xs.length := by omega
      subst hj
      rw [toNat_cast, List.length_append, List.length_take, List.length_replicate]
      refine ⟨⟨by omega, by omega⟩, ⟨by omega, by omega⟩, ?_⟩
      rw [List.take_append_of_le_length (by rw [List.length_take]; omega), List.take_take, Nat.min_self, h4, List.take_length]
  refine ⟨fun z => ∃ k : Nat, k ≤ xs.length ∧ z.1 = (k : Int) ∧ ∀ j, j < k → keepM (xs.getD j zM) = true, fun z => xs.length - z.1.toNat, ⟨0, Nat.zero_le _, rfl, fun j hj => by omega⟩, ?_⟩
  rintro i ⟨k, hk, hi, hs⟩
  simp only at hi
  subst hi
  refine ⟨fun h => ?_, fun h => ?_⟩
  · have hlt : k < xs.length := by omega
    have hw : IntKind.i64.wrap ((k : Int) + 1) = ((k + 1 : Nat) : Int) := wrap_succ (by omega)
    rw [toNat_cast, hw]
    refine ⟨⟨by omega, h⟩, fun g => ⟨fun g2 => by omega, fun _ => ?_⟩, fun g => ⟨⟨k + 1, hlt, rfl, fun j hj => ?_⟩, ?_⟩⟩
    · exact ⟨fun z => ∃ i' j' : Nat, z.2.1 = (i' : Int) ∧ z.2.2.1 = (j' : Int) ∧ DelInv xs z.1 i' j', fun z => xs.length - z.2.2.1.toNat, ⟨k, k + 1, rfl, rfl, DelInv.init hlt hs ((kf _).2 g)⟩, fun a i j hz => second a i j hz⟩
    · by_cases e : j = k
      · subst e; exact (kt _).2 g
      · exact hs j (by omega)
    · show xs.length - (((k + 1 : Nat) : Int)).toNat < xs.length - (k : Int).toNat
      rw [toNat_cast, toNat_cast]; omega
  · have hke : k = xs.length := by omega
    subst hke
    exact ⟨fun _ => (filter_all hs).symm, fun h => absurd trivial h⟩
end Go.Fr.C40
