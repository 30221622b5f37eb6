/-
  The statements' proofs. Conditions: none.
-/
import Derived.Test.YtgaafjjdcpibbaaGreatDoorG5
import Derived.Shelf.SlSortCmp.NoneTotal
import Derived.Test.YtgaafjjdcpibbaaGreatDoorProg
import Derived.Shelf.SlSortCmp.WholeK
import Derived.Ground.SlsfProg
import Derived.Shelf.Strings.Search3
import Derived.Ground.NamesProg
import Derived.Lib.IndexAny
import Derived.Test.YtgaafjjdcpibbaaGreatDoorCards
import Derived.Test.YtgaafjjdcpibbaaGreatDoorTie
import Derived.Test.YtgaafjjdcpibbaaGreatDoorRows
import Derived.ProofKit
import Derived.LaidMore
import Derived.OpenShut
import Derived.Stop.Joined
namespace Go.Fr.Z14
open Go Go.Fr Go.Proofs
def besideF (f t : Int) (x : Inl) : Bool := decide (x.2.1 < f) || decide (x.2.1 > t)
theorem beside_snoc {f t : Int} {l : List Inl} {k : Nat} (h : k < l.length) : (l.take (k + 1)).filter (besideF f t) = (l.take k).filter (besideF f t) ++ (if besideF f t (l.getD k zI0) = true then [l.getD k zI0] else []) := by
  rw [take_one zI0 h, List.filter_append]
  congr 1
  by_cases hb : besideF f t (l.getD k zI0) = true
  · rw [if_pos hb, List.filter_cons_of_pos hb]; rfl
  · rw [if_neg hb, List.filter_cons_of_neg hb]; rfl
theorem beside_parts {f t : Int} (hft : f ≤ t) {L L' : List Inl} (h : L'.filter (besideF f t) = L.filter (besideF f t)) :
    L'.filter (fun x => decide (x.2.1 < f)) = L.filter (fun x => decide (x.2.1 < f)) ∧ L'.filter (fun x => decide (x.2.1 > t)) = L.filter (fun x => decide (x.2.1 > t)) := by
  have e1 : ∀ l : List Inl, (l.filter (besideF f t)).filter (fun x => decide (x.2.1 < f)) = l.filter (fun x => decide (x.2.1 < f)) := fun l => by
    rw [List.filter_filter]
    refine List.filter_congr fun x _ => ?_
    unfold besideF
    by_cases h : x.2.1 < f <;> simp [h]
  have e2 : ∀ l : List Inl, (l.filter (besideF f t)).filter (fun x => decide (x.2.1 > t)) = l.filter (fun x => decide (x.2.1 > t)) := fun l => by
    rw [List.filter_filter]
    refine List.filter_congr fun x _ => ?_
    unfold besideF
    by_cases h : x.2.1 > t <;> simp [h]
  exact ⟨by rw [← e1 L', h, e1], by rw [← e2 L', h, e2]⟩
theorem moved_zero (l : List Inl) : l.map (moved 0) = l := by
  conv => rhs; rw [← List.map_id l]
  refine List.map_congr_left fun x _ => ?_
  show (x.1, x.2.1 + 0, x.2.2) = x
  rw [Int.add_zero]
theorem p3 : vc3 := by
  unfold vc3
  simp only [eq_self, true_and, and_true, decide_eq_true_eq, decide_eq_false_iff_not, beq_iff_eq, beq_eq_false_iff_ne, bne_iff_ne, bne_eq_false_iff_eq, Bool.not_eq_true', Bool.not_eq_false', ne_eq, imp_true_iff]
  rintro ⟨n, l, ⟨f, t, rm, add, ⟨⟩⟩, ⟨⟩⟩
  simp only [maxLen_eq, dInl]
  rintro ⟨hl, hrm, hadd⟩
  refine ⟨hl, fun hlong => ⟨hadd, fun hlong2 hrm2 => ?_⟩⟩
  obtain ⟨k1, k2, k3, k4⟩ := long_short hlong
  obtain ⟨_, _, a3, a4⟩ := long_short hlong2
  obtain ⟨c1, c2, c3⟩ := code_ok n l
  refine ⟨⟨hl, k4⟩, fun h => ⟨⟨hl, k4⟩, fun g => absurd g (by rw [c3, ← c2]; exact h)⟩, fun h0 => ⟨fun h => ⟨⟨hl, k4⟩, fun g => absurd g (by rw [c3]; exact c1.1 h)⟩, fun hsome => ?_⟩⟩
  have hz : wrongN n l = 0 := by rw [← c2]; exact h0
  have hm := made_new hz
  have hn1 : (newW n l).1 = n := by rw [newW_fst hz]
  obtain ⟨_, ok1, ok2, _⟩ := made_ok hm
  obtain ⟨i1, i2⟩ := splice_is hm rm add
  obtain ⟨j1, j2⟩ := isI_parts i1
  have hall : (allI (newI n l).1).length ≤ 10000 ∧ shortL (allI (newI n l).1) := ⟨ok1.1, ok1.2.1⟩
  refine ⟨hall, ⟨ok1, by omega, by omega, a4⟩, ⟨hl, k4⟩, ⟨ok2, by omega, by omega, a4⟩, fun h g => absurd g (by rw [← j1]; exact h), fun hs0 => ⟨fun h g => absurd g (j2.1 h), fun hsn => ?_⟩⟩
  have hm' := (i2.resolve_left (isnone_of hsn)).2
  obtain ⟨m, L, es, ew, m0, m1, mL, mi, msz, m2, m3, m4, m5, m6⟩ := made_all hm
  obtain ⟨m', L', es', ew', m0', m1', mL', mi', msz', m2', _⟩ := made_all hm'
  have emn : m = n := by rw [ew] at hn1; exact hn1
  subst emn
  have hle : lenI (newI m l).1 = m := by rw [es]; rfl
  have emm : m' = m := by
    rcases splice_same hm rm add with ⟨h1, _⟩ | ⟨_, h1, _⟩
    · rw [h1] at es'; cases es'
    · rw [hle] at h1
      rw [h1] at es'
      by_cases hw : wrongN m (left (allI (newI m l).1) rm ++ add) = 0
      · rw [new_fst hw] at es'
        injection es' with e
        injection e with e _
        exact e.symm
      · rw [new_bad hw] at es'
        cases es'
  subst emm
  have al : allI (newI m' l).1 = L := by rw [es]; rfl
  have al' : allI (spliceI (newI m' l).1 rm add).1 = L' := by rw [es']; rfl
  refine ⟨⟨m3, by rw [al']; exact m2'⟩, ?_⟩
  have sm : smallW (newW m' l) := by rw [ew]; exact ⟨mL, msz, m0, by show m' ≤ 1000; omega⟩
  have sm' : smallW (spliceW (newW m' l) rm add) := by rw [ew']; exact ⟨mL', msz', m0', by show m' ≤ 1000; omega⟩
  have su : (sumOf (topT (treeOf (weaveI (newI m' l).1)))).2.1.1 = m' := by
    obtain ⟨w1, w2, w3, w4, w5, w6, w7, w8, w9⟩ := weave_ok m0 m1 mL mi
    have so := sum_top w2 (by rw [w3]; exact rowly_fine w5) (by rw [w3]; omega)
    unfold SumOk at so
    rw [w3, w6] at so
    rw [es, w1]
    exact so.2.1
  have isw : isW (weaveI (newI m' l).1) (newW m' l) = true := by
    obtain ⟨w1, w2, w3, w4, w5, _⟩ := weave_ok m0 m1 mL mi
    have ok := is_ok m0 m1 mL mi w2 w3
    rw [← w1, ← es, ← ew] at ok
    exact ok
  refine ⟨fun hf => ?_, fun hf => ?_⟩
  · -- spans that do not fit
    have hb : ¬ (0 ≤ f ∧ f ≤ t ∧ t ≤ m') := fun h => by
      have : fits2 m' m' (f, t, ()) (f, t, ()) = true := fits2_iff.2 ⟨h.1, h.2.1, h.2.2, rfl, h.2.1, h.2.2, rfl⟩
      rw [this] at hf
      cases hf
    have eu : updW (weaveI (newI m' l).1) (f, t, ()) (f, t, ()) (spliceI (newI m' l).1 rm add).1 = (none, 1, ()) := by
      unfold updW
      rw [if_pos]
      rw [su]
      have : fitsW (f, t, ()) m' = false := by
        unfold fitsW
        cases h1 : decide ((0 : Int) ≤ f) with
        | false => rfl
        | true => cases h2 : decide (f ≤ t) with
          | false => simp []
          | true => cases h3 : decide (t ≤ m') with
            | false => simp []
            | true => exact absurd ⟨of_decide_eq_true h1, of_decide_eq_true h2, of_decide_eq_true h3⟩ hb
      rw [this]
      rfl
    rw [eu]
    exact ⟨fun _ h => (by cases h), fun h => absurd rfl h⟩
  · have hb := fits2_iff.1 hf
    simp only at hb
    obtain ⟨T, u1, u2, u3⟩ := upd_ok (a := f) (b := t) (b' := t) m0 m1 mL mi m1' mL' mi' hb.1 hb.2.1 hb.2.2.1 hb.2.1 hb.2.2.1 rfl
    have eu : updW (weaveI (newI m' l).1) (f, t, ()) (f, t, ()) (spliceI (newI m' l).1 rm add).1 = (some (some (T, ()), ()), 0, ()) := by rw [es', es, u1]
    rw [eu, isw, al, al']
    have lowT0 : (items T).length ≤ 10000 := by
      rw [u3, List.length_append, List.length_append]
      have q1 := row_len (t := restE m' (t - t) (L.filter fun x => decide (x.2.1 > t))) (lastA 0 (L.filter fun x => decide (x.2.1 < f))) (L'.filter (inI f t))
      have q2 : ∀ (g : Int) (P : List Inl), (preP g P).length ≤ 2 * P.length := by
        intro g P
        induction P generalizing g with
        | nil => exact Nat.le_refl _
        | cons x r ih =>
          have e2 : preP g (x :: r) = if x.2.1 > g then plainI (x.2.1 - g) :: virtualI x :: preP x.2.1 r else virtualI x :: preP g r := rfl
          rw [e2]
          split
          · have := ih x.2.1; simp; omega
          · have := ih g; simp; omega
      have q2 := q2 0 (L.filter fun x => decide (x.2.1 < f))
      have q3 : (restP m' (L.filter fun x => decide (x.2.1 > t))).length ≤ 2 * (L.filter fun x => decide (x.2.1 > t)).length := by
        cases L.filter fun x => decide (x.2.1 > t) with
        | nil => exact Nat.le_refl _
        | cons x r =>
          have := row_len (t := m') x.2.1 r
          show (rowP m' x.2.1 r).length + 1 ≤ 2 * (r.length + 1)
          omega
      have e1 := List.length_filter_le (fun x : Inl => decide (x.2.1 < f)) L
      have e2 := List.length_filter_le (fun x : Inl => decide (x.2.1 > t)) L
      have e3 := List.length_filter_le (inI f t) L'
      omega
    refine ⟨fun h => absurd rfl h, fun _ => ⟨fun h => (by cases h), fun _ => ⟨⟨hl, k4⟩, ⟨sm, m5, m6⟩, fun h => (by cases h), fun _ => ⟨by omega, ?_⟩⟩⟩⟩
    refine ⟨fun z => ∃ k : Nat, k ≤ L.length ∧ z.2.1 = (k : Int) ∧ z.1 = (L.take k).filter (besideF f t), fun z => L.length - z.2.1.toNat, ⟨0, Nat.zero_le _, rfl, rfl⟩, ?_⟩
    rintro bs i ⟨k, hk, hi, hbs⟩
    simp only at hi hbs
    subst hi
    have hbl : bs.length ≤ k := by
      rw [hbs]
      refine Nat.le_trans (List.length_filter_le _ _) ?_
      rw [List.length_take]; omega
    refine ⟨fun g => ?_, fun g => ?_⟩
    · have hlt : k < L.length := by omega
      have hw64 : IntKind.i64.wrap ((k : Int) + 1) = ((k + 1 : Nat) : Int) := wrap_succ (by omega)
      rw [hw64]
      simp only [toNat_cast, List.length_singleton]
      have sn := beside_snoc (f := f) (t := t) hlt
      generalize L.getD k zI0 = x at sn ⊢
      have yes : (x.2.1 < f ∨ x.2.1 > t) → ∃ k' : Nat, k' ≤ L.length ∧ ((k + 1 : Nat) : Int) = (k' : Int) ∧ bs ++ [x] = (L.take k').filter (besideF f t) := fun h => ⟨k + 1, hlt, rfl, by
        rw [sn, if_pos (by unfold besideF; simp; exact h), ← hbs]⟩
      have no : ¬ (x.2.1 < f ∨ x.2.1 > t) → ∃ k' : Nat, k' ≤ L.length ∧ ((k + 1 : Nat) : Int) = (k' : Int) ∧ bs = (L.take k').filter (besideF f t) := fun h => ⟨k + 1, hlt, rfl, by
        rw [sn, if_neg (by unfold besideF; simp; omega), List.append_nil, ← hbs]⟩
      have dec : L.length - (k + 1) < L.length - k := by omega
      (repeat' (first | with_reducible apply And.intro | with_reducible intro _))
      all_goals first
        | omega
        | exact yes (.inl (by assumption))
        | exact yes (.inr (by assumption))
        | exact no (by omega)
        | exact dec
        | rfl
    · have hke : k = L.length := by omega
      rw [hke, List.take_length] at hbs
      clear g hke
      refine ⟨by omega, ?_⟩
      refine ⟨fun z => ∃ k : Nat, k ≤ L'.length ∧ z.2.1 = (k : Int) ∧ z.1 = (((L'.take k).filter (besideF f t)).length : Int) ∧ (L'.take k).filter (besideF f t) = bs.take ((L'.take k).filter (besideF f t)).length, fun z => L'.length - z.2.1.toNat, ⟨0, Nat.zero_le _, rfl, rfl, rfl⟩, ?_⟩
      rintro j i ⟨k, hk, hi, hj, hpre⟩
      simp only at hi hj
      subst hi hj
      have hcl : ((L'.take k).filter (besideF f t)).length ≤ 60 := by
        refine Nat.le_trans (List.length_filter_le _ _) ?_
        rw [List.length_take]; omega
      refine ⟨fun g => ?_, fun g => ?_⟩
      · have hlt : k < L'.length := by omega
        have hw64 : IntKind.i64.wrap ((k : Int) + 1) = ((k + 1 : Nat) : Int) := wrap_succ (by omega)
        have sn := beside_snoc (f := f) (t := t) hlt
        generalize hcc : (L'.take k).filter (besideF f t) = C at hpre hcl sn ⊢
        have hw65 : IntKind.i64.wrap ((C.length : Int) + 1) = ((C.length + 1 : Nat) : Int) := wrap_succ (by omega)
        rw [hw64, hw65]
        simp only [toNat_cast]
        generalize L'.getD k zI0 = x at sn ⊢
        have dec : L'.length - (k + 1) < L'.length - k := by omega
        have yes : (x.2.1 < f ∨ x.2.1 > t) → ¬ (C.length : Int) ≥ (bs.length : Int) → Ty.beq t48 (bs.getD C.length zI0) x = true → ∃ k' : Nat, k' ≤ L'.length ∧ ((k + 1 : Nat) : Int) = (k' : Int) ∧ ((C.length + 1 : Nat) : Int) = (((L'.take k').filter (besideF f t)).length : Int) ∧ (L'.take k').filter (besideF f t) = bs.take ((L'.take k').filter (besideF f t)).length := fun h h2 h3 => ⟨k + 1, hlt, rfl, by
          rw [sn, if_pos (by unfold besideF; simp; exact h), List.length_append]; rfl, by
          rw [sn, if_pos (by unfold besideF; simp; exact h), List.length_append, List.length_singleton, take_one zI0 (by omega), ← hpre, (beqI _ _).1 h3]⟩
        have no : ¬ (x.2.1 < f ∨ x.2.1 > t) → ∃ k' : Nat, k' ≤ L'.length ∧ ((k + 1 : Nat) : Int) = (k' : Int) ∧ (C.length : Int) = (((L'.take k').filter (besideF f t)).length : Int) ∧ (L'.take k').filter (besideF f t) = bs.take ((L'.take k').filter (besideF f t)).length := fun h => ⟨k + 1, hlt, rfl, by
          rw [sn, if_neg (by unfold besideF; simp; omega), List.append_nil], by
          rw [sn, if_neg (by unfold besideF; simp; omega), List.append_nil]; exact hpre⟩
        (repeat' (first | with_reducible apply And.intro | with_reducible intro _))
        all_goals first
          | omega
          | exact yes (.inl (by assumption)) (by assumption) (by assumption)
          | exact yes (.inr (by assumption)) (by assumption) (by assumption)
          | exact no (by omega)
          | exact dec
          | rfl
      · have hke : k = L'.length := by omega
        rw [hke, List.take_length] at hpre ⊢
        intro hge
        have heq : L'.filter (besideF f t) = L.filter (besideF f t) := by
          rw [hpre, ← hbs, List.take_of_length_le (by omega)]
        obtain ⟨e1, e2⟩ := beside_parts hb.2.1 heq
        have us := upd_same (n := m') (n' := m') (a := f) (b := t) (b' := t) mi mi' hb.1 hb.2.1 rfl e1 (by rw [show t - t = 0 by omega, moved_zero]; exact e2)
        rw [us] at u3
        have isok := is_ok m0' m1' mL' mi' u2 u3
        have lowT := low_wf u2 (by rw [u3]; have := row_len (t := m') 0 L'; omega)
        rw [← ew'] at isok
        refine ⟨⟨sm', lowT, lowT0⟩, fun h => ?_⟩
        rw [isok] at h
        cases h
end Go.Fr.Z14
namespace Go.Fr.Z14
open Go Go.Fr Go.Proofs
set_option maxRecDepth 100000
def hs70 : List (Nat × Nat × Hint) := []
def nm70 : List Nat := [3000000023]
noncomputable def E70 : Env := env tab [] [] gl hs70 nm70
def vc70_0 : Prop :=
 ∀ (s : Int × (Int × Int × Int × Unit) × Int × Int × Unit),
 (((0 : Int) == (3 : Int)) = true → s.fst = sizeD s (0 : Int)) ∧
 (((0 : Int) == (3 : Int)) = false →
 ((0 : Int) ≤ (0 : Int) ∧ (0 : Int) < (↑(3 : Nat) : Int)) ∧ s.snd.fst.fst = sizeD s (0 : Int))
theorem vcEq70_0 : (∀ s : Sm, fnVCat E70 Tryz.f70 (bodyOf Tryz.f70) cSizeD (s, (0 : Int), ())) = vc70_0 := by kernel_rfl
def vc70_1 : Prop :=
 ∀ (s : Int × (Int × Int × Int × Unit) × Int × Int × Unit),
 (((1 : Int) == (3 : Int)) = true → s.fst = sizeD s (1 : Int)) ∧
 (((1 : Int) == (3 : Int)) = false →
 ((0 : Int) ≤ (1 : Int) ∧ (1 : Int) < (↑(3 : Nat) : Int)) ∧ s.snd.fst.snd.fst = sizeD s (1 : Int))
theorem vcEq70_1 : (∀ s : Sm, fnVCat E70 Tryz.f70 (bodyOf Tryz.f70) cSizeD (s, (1 : Int), ())) = vc70_1 := by kernel_rfl
def vc70_2 : Prop :=
 ∀ (s : Int × (Int × Int × Int × Unit) × Int × Int × Unit),
 (((2 : Int) == (3 : Int)) = true → s.fst = sizeD s (2 : Int)) ∧
 (((2 : Int) == (3 : Int)) = false →
 ((0 : Int) ≤ (2 : Int) ∧ (2 : Int) < (↑(3 : Nat) : Int)) ∧ s.snd.fst.snd.snd.fst = sizeD s (2 : Int))
theorem vcEq70_2 : (∀ s : Sm, fnVCat E70 Tryz.f70 (bodyOf Tryz.f70) cSizeD (s, (2 : Int), ())) = vc70_2 := by kernel_rfl
def vc70_3 : Prop :=
 ∀ (s : Int × (Int × Int × Int × Unit) × Int × Int × Unit),
 (((3 : Int) == (3 : Int)) = true → s.fst = sizeD s (3 : Int)) ∧
 (((3 : Int) == (3 : Int)) = false →
 ((0 : Int) ≤ (3 : Int) ∧ (3 : Int) < (↑(3 : Nat) : Int)) ∧ s.snd.snd.fst = sizeD s (3 : Int))
theorem vcEq70_3 : (∀ s : Sm, fnVCat E70 Tryz.f70 (bodyOf Tryz.f70) cSizeD (s, (3 : Int), ())) = vc70_3 := by kernel_rfl
end Go.Fr.Z14
namespace Go.Fr.Z14
open Go Go.Fr Go.Proofs
set_option maxRecDepth 100000
theorem zero_three {d : Int} (h : 0 ≤ d ∧ d ≤ 3) : d = 0 ∨ d = 1 ∨ d = 2 ∨ d = 3 := by omega
theorem v70 : fnVC E70 Tryz.f70 (bodyOf Tryz.f70) cSizeD := by
  refine fnVC_at fun x h => ?_
  obtain ⟨s, d, ⟨⟩⟩ := x
  have hd := zero_three h
  have q0 : vc70_0 := fun s => ⟨fun h => (by cases h), fun _ => ⟨⟨by decide, by decide⟩, rfl⟩⟩
  have q1 : vc70_1 := fun s => ⟨fun h => (by cases h), fun _ => ⟨⟨by decide, by decide⟩, rfl⟩⟩
  have q2 : vc70_2 := fun s => ⟨fun h => (by cases h), fun _ => ⟨⟨by decide, by decide⟩, rfl⟩⟩
  have q3 : vc70_3 := fun s => ⟨fun _ => rfl, fun h => by cases h⟩
  rcases hd with rfl | rfl | rfl | rfl
  · exact (vcEq70_0 ▸ q0 : ∀ s : Sm, fnVCat E70 Tryz.f70 (bodyOf Tryz.f70) cSizeD (s, (0 : Int), ())) s
  · exact (vcEq70_1 ▸ q1 : ∀ s : Sm, fnVCat E70 Tryz.f70 (bodyOf Tryz.f70) cSizeD (s, (1 : Int), ())) s
  · exact (vcEq70_2 ▸ q2 : ∀ s : Sm, fnVCat E70 Tryz.f70 (bodyOf Tryz.f70) cSizeD (s, (2 : Int), ())) s
  · exact (vcEq70_3 ▸ q3 : ∀ s : Sm, fnVCat E70 Tryz.f70 (bodyOf Tryz.f70) cSizeD (s, (3 : Int), ())) s
end Go.Fr.Z14
namespace Go.Fr
open Go Go.RowKit Go.Proofs Go.Sort
section
variable {B : Nat} {w w' : World} {h : PHeap}
def encT : (T : Ty) → T.den → List Value
  | .bool, b => [.bool b]
  | .int k, n => [.int k n]
  | .str, s => [.string s]
  | .unit, _ => []
  | .sl _, _ => []
  | .opt _, _ => []
  | .mp _ _, _ => []
  | .nd _ _ _ _, _ => []
  | .pair a b, x => encT a x.1 ++ encT b x.2
theorem enc_rep : (T : Ty) → T.flat = true → (x : T.den) → rep h T x (encT T x)
  | .bool, _, _ => rfl
  | .int _, _, _ => rfl
  | .str, _, _ => rfl
  | .unit, _, _ => rfl
  | .sl _, e, _ => by cases e
  | .opt _, e, _ => by cases e
  | .mp _ _, e, _ => by cases e
  | .nd _ _ _ _, e, _ => by cases e
  | .pair a b, e, x => by
    simp only [Ty.flat, Bool.and_eq_true] at e
    exact ⟨_, _, rfl, enc_rep a e.1 x.1, enc_rep b e.2 x.2⟩
theorem rep_enc : (T : Ty) → T.flat = true → (x : T.den) → (cs : List Value) → rep h T x cs → cs = encT T x
  | .bool, _, _, _, e => e
  | .int _, _, _, _, e => e
  | .str, _, _, _, e => e
  | .unit, _, _, _, e => e
  | .sl _, e, _, _, _ => by cases e
  | .opt _, e, _, _, _ => by cases e
  | .mp _ _, e, _, _, _ => by cases e
  | .nd _ _ _ _, e, _, _, _ => by cases e
  | .pair a b, e, x, cs, ⟨c1, c2, q, h1, h2⟩ => by
    simp only [Ty.flat, Bool.and_eq_true] at e
    rw [q, rep_enc a e.1 x.1 c1 h1, rep_enc b e.2 x.2 c2 h2]
    rfl
theorem row_enc {T : Ty} (hf : T.flat = true) : (xs : List T.den) → (cs : List Value) → RowCells h T xs cs → cs = xs.flatMap (encT T)
  | [], _, e => by simp only [RowCells] at e; subst e; rfl
  | x :: xs, _, ⟨d, r, e, h1, h2⟩ => by
    subst e
    rw [row_enc hf xs r h2, rep_enc T hf x d h1]
    rfl
theorem enc_row {T : Ty} (hf : T.flat = true) : (xs : List T.den) → RowCells h T xs (xs.flatMap (encT T))
  | [] => rfl
  | x :: xs => ⟨encT T x, xs.flatMap (encT T), rfl, enc_rep T hf x, enc_row hf xs⟩
theorem enc_len {T : Ty} (hf : T.flat = true) (x : T.den) : (encT T x).length = T.size := rep_len (h := fun _ => none) T x _ (enc_rep T hf x)
theorem flatMap_get {T : Ty} (hf : T.flat = true) (d0 : T.den) : (xs : List T.den) → (j : Nat) → j < xs.length * T.size → (xs.flatMap (encT T))[j]? = (encT T (xs.getD (j / T.size) d0))[j % T.size]?
  | [], j, hj => by simp at hj
  | x :: xs, j, hj => by
    have hl := enc_len hf x
    have h0 : 0 < T.size := by
      rcases Nat.eq_zero_or_pos T.size with e | e
      · rw [e, Nat.mul_zero] at hj; omega
      · exact e
    rw [List.flatMap_cons]
    by_cases hlt : j < T.size
    · rw [List.getElem?_append_left (by omega), Nat.div_eq_of_lt hlt, Nat.mod_eq_of_lt hlt]
      rfl
    · rw [List.getElem?_append_right (by omega), hl, flatMap_get hf d0 xs (j - T.size) (by simp only [List.length_cons, Nat.add_mul] at hj; omega)]
      have e : j = (j - T.size) + T.size := by omega
      have e1 : j / T.size = (j - T.size) / T.size + 1 := by
        conv => lhs; rw [e]
        exact Nat.add_div_right _ h0
      have e2 : j % T.size = (j - T.size) % T.size := by
        conv => lhs; rw [e]
        exact Nat.add_mod_right _ _
      rw [e1, e2]
      rfl
theorem flat_list {T : Ty} (hf : T.flat = true) [Inhabited T.den] (xs : List T.den) : flatK (encT T) T.size xs.toArray = (xs.flatMap (encT T)).toArray := by
  have hlen : (xs.flatMap (encT T)).length = xs.length * T.size := by
    have := RowCells_len (h := fun _ => none) T xs _ (enc_row hf xs)
    exact this
  apply Array.ext
  · simp [hlen]
  · intro j h1 h2
    have hj : j < xs.length * T.size := by simpa [hlen] using h2
    have g := get_flatK (encT T) T.size xs.toArray (t := j) (by simpa using hj)
    rw [getElem!_pos _ j h1] at g
    rw [g]
    have := flatMap_get hf default xs j hj
    have h0 : 0 < T.size := by
      rcases Nat.eq_zero_or_pos T.size with e | e
      · rw [e, Nat.mul_zero] at hj; omega
      · exact e
    have hd : j / T.size < xs.length := Nat.div_lt_of_lt_mul (by rw [Nat.mul_comm]; exact hj)
    have e1 : xs.toArray[j / T.size]! = xs.getD (j / T.size) default := by
      simp [List.getD, hd]
    rw [e1]
    have hm : j % T.size < (encT T (xs.getD (j / T.size) default)).length := by rw [enc_len hf]; exact Nat.mod_lt _ h0
    rw [List.getElem?_eq_getElem hm] at this
    rw [getElem!_pos (encT T (xs.getD (j / T.size) default)) (j % T.size) hm]
    have h2' : (xs.flatMap (encT T))[j]? = some ((xs.flatMap (encT T)).toArray[j]) := by simp
    rw [h2'] at this
    injection this with this
    exact this.symm
theorem grow_of {w w' : World} (hb : Below w.heap.size w w') : ∃ q os', w' = Sort.grow (w.drewN q) os' := by
  refine ⟨w'.drawn - w.drawn, w'.heap.extract w.heap.size w'.heap.size, ?_⟩
  have hheap : w'.heap = w.heap ++ w'.heap.extract w.heap.size w'.heap.size := by
    apply Array.ext_getElem?
    intro i
    rw [Array.getElem?_append]
    split
    · rename_i hi; exact hb.block i hi
    · rename_i hi
      rw [Array.getElem?_extract]
      by_cases hi2 : i < w'.heap.size
      · rw [if_pos (by omega), show w.heap.size + (i - w.heap.size) = i by omega]
      · rw [if_neg (by omega), Array.getElem?_eq_none (by omega)]
  have hd := hb.drawn
  cases w' with
  | mk heap tape drawn os output =>
    simp only [Sort.grow, World.drewN] at *
    have h1 := hb.os
    have h2 := hb.tape
    have h3 := hb.output
    simp only at h1 h2 h3
    rw [← hheap, h1, h2, h3]
    congr 1
    omega
theorem cmp_lays {P : Program} {T : Ty} [Inhabited T.den] (hf : T.flat = true) (ha : T.isAgg = true) {cf : T.den → T.den → Int} {g : FuncId} (hC : CallSpec P noGl g (cOrd T cf)) (blk off size k : Nat) (w : World) :
    CmpLays P g #[] (encT T) k cf blk off size w := by
  intro m os dk hs x y
  have := hC.2 (x, y, ()) (fun _ => none) (sortWorldK (encT T) k w blk off m dk os) [T.val (encT T x), T.val (encT T y)] trivial ⟨_, _, rfl, ⟨_, enc_rep T hf x, rfl⟩, _, _, rfl, ⟨_, enc_rep T hf y, rfl⟩, rfl⟩ (fun k o hk => by cases hk) (fun g T x hg => by cases hg)
  rw [val_agg ha, val_agg ha] at this
  have e : ([Value.agg (encT T x).toArray, Value.agg (encT T y).toArray] ++ tailVals (cOrd T cf).tail).toArray = #[Value.agg (encT T x).toArray, Value.agg (encT T y).toArray] ++ #[] := by simp [tailVals, cOrd]
  rw [e] at this
  refine this.mono ?_
  rintro e w' ⟨v, h', rfl, _, _, _, hr, hb⟩
  refine ⟨?_, grow_of hb⟩
  obtain ⟨cs, q1, q2⟩ := (show vrep h' (.int .i64) (cf x y) v from hr)
  simp only [rep] at q1
  subst q1
  rw [q2]
  rfl
theorem sortF_spec {P : Program} {ρ : Shelf.Ren} (L : SlLaysF0.n6 P ρ) {T : Ty} (hf : T.flat = true) (ha : T.isAgg = true) (hpos : 0 < T.size) (aE : ∀ w, (isAgg (ρ.t 24)).run P w = .ok true w) (zE : ∀ w, (Go.sizeOf (ρ.t 24)).run P w = .ok T.size w)
    {f : FuncId} (hρ : ρ.f 6 = f) {e : TypeId} {fn : Func} {cd : Code} (hfn : P.funcs[f]? = some fn) (hname : fn.name ≠ "runtime.NumGoroutine") (hb : fn.body = some cd)
    {cf : T.den → T.den → Int} (hO : Sort.SWO (ltOf cf)) (hT : ∀ x y, (ltOf cf) x y = false → (ltOf cf) y x = false → x = y) {g : FuncId} (eg : ∀ args w, (callFunc g args).run P w = .ok (.enter g args) w) (hC : CallSpec P noGl g (cOrd T cf)) :
    RSpec P f { t := T, e := e, pre := fun xs => List.length xs ≤ 100000, post := fun xs ys => ys = sortBy cf xs, back := false, tail := [g] } := by
  subst hρ
  haveI : Inhabited T.den := ⟨T.dflt⟩
  refine ⟨⟨fn, cd, hfn, hname, hb⟩, ?_⟩
  intro xs h w B v cs hp hpin hB hown hrc hfr
  have hp : List.length xs ≤ 100000 := hp
  have hown : w.ownsRow B e T.size v xs.length cs := hown
  have hrc : RowCells h T xs cs := hrc
  have hcs := row_enc hf xs cs hrc
  subst hcs
  rcases hown.2 with ⟨e0, e1⟩ | ⟨g', cap, cur, e0, f1, f2, f3⟩
  · subst e0
    have hx : xs = [] := List.eq_nil_of_length_eq_zero e1
    subst hx
    refine (AnyF.slices_SortFunc_none L none 0 (.func (.func g) #[] #[]) w).mono ?_
    rintro en w' ⟨rfl, rfl⟩
    exact ⟨_, .slice none 0 0, _, [], rfl, rfl, by simpa [sortBy] using World.ownsRow_nil _ B e T.size, by simp [RowCells, sortBy], grownBy_refl _ _, ⟨fun g hg => by simp [Value.ownBlock] at hg, rfl⟩⟩
  · subst e0
    have hH : HoldsK (encT T) T.size w g' 0 xs.toArray := by
      unfold HoldsK
      rw [flat_list hf]
      exact row_holds hown
    refine (AnyQ.slices_SortFunc_total L T.size aE zE (encT T) (enc_len hf) (fun x v hv => rep_one (h := h) T x _ (enc_rep T hf x) v hv) cf hO g #[] g' 0 cap xs.toArray w eg (cmp_lays hf ha hC _ _ _ _ _) hH (lt_of_heap f2) (by simp; omega) hT).mono ?_
    rintro en w' ⟨rfl, q, os, hw⟩
    have hl : (sortBy cf xs).length = xs.length := List.length_mergeSort xs
    have hw2 : w' = Sort.grow (Sort.putRow id (Sort.ahead w q) g' 0 ((sortBy cf xs).flatMap (encT T)).toArray) os := by
      rw [hw]
      unfold sortWorldK putRowK
      rw [flat_list hf]
      rfl
    have hlen := RowCells_len (h := h) T (sortBy cf xs) _ (enc_row hf (sortBy cf xs))
    rw [hl] at hlen
    obtain ⟨g1, g2⟩ := put_row (m := xs.length) hpos hown hlen (Nat.le_refl _) hw2
    rw [List.take_of_length_le (by rw [hlen]; exact Nat.le_refl _)] at g1
    refine ⟨_, _, sortBy cf xs, _, rfl, rfl, by rw [hl]; exact g1, enc_row hf _, g2, fun g' hg => .inl hg, rfl⟩
end
end Go.Fr
namespace Go.Fr
open Go Go.RowKit Go.Proofs Go.Sort
section
variable {α : Type}
theorem perm_of_in [Inhabited α] {d d' : Array α} (h : PermIn 0 d.size d d') : d'.toList.Perm d.toList := by
  obtain ⟨hsz, _, hperm⟩ := h
  have e1 : d'.extract 0 d.size = d' := by rw [← hsz]; exact Array.extract_size
  rw [e1, Array.extract_size] at hperm
  exact hperm
theorem sorted_of_in [Inhabited α] {cf : α → α → Int} {d : Array α} {n : Nat} (hn : n = d.size) (h : SortedIn (ltOf cf) 0 n d) : d.toList.Pairwise (fun a b => ¬ cf b a < 0) := by
  subst hn
  rw [List.pairwise_iff_getElem]
  intro i j hi hj hij
  have hi' : i < d.size := by simpa using hi
  have hj' : j < d.size := by simpa using hj
  have := h i j (Nat.zero_le _) hij hj'
  rw [getElem!_pos d j hj', getElem!_pos d i hi'] at this
  have := of_decide_eq_false this
  simpa using this
end
section
theorem sortP_spec {P : Program} {ρ : Shelf.Ren} (L : SlLaysF0.n6 P ρ) {T : Ty} (hf : T.flat = true) (ha : T.isAgg = true) (hpos : 0 < T.size) (aE : ∀ w, (isAgg (ρ.t 24)).run P w = .ok true w) (zE : ∀ w, (Go.sizeOf (ρ.t 24)).run P w = .ok T.size w)
    {f : FuncId} (hρ : ρ.f 6 = f) {e : TypeId} {fn : Func} {cd : Code} (hfn : P.funcs[f]? = some fn) (hname : fn.name ≠ "runtime.NumGoroutine") (hb : fn.body = some cd)
    {cf : T.den → T.den → Int} (hO : Sort.SWO (ltOf cf)) {g : FuncId} (eg : ∀ args w, (callFunc g args).run P w = .ok (.enter g args) w) (hC : CallSpec P noGl g (cOrd T cf)) :
    RSpec P f { t := T, e := e, pre := fun xs => List.length xs ≤ 100000, post := fun xs ys => ys.Perm xs ∧ ys.Pairwise (fun a b => ¬ cf b a < 0), back := false, tail := [g] } := by
  subst hρ
  haveI : Inhabited T.den := ⟨T.dflt⟩
  refine ⟨⟨fn, cd, hfn, hname, hb⟩, ?_⟩
  intro xs h w B v cs hp hpin hB hown hrc hfr
  have hp : List.length xs ≤ 100000 := hp
  have hown : w.ownsRow B e T.size v xs.length cs := hown
  have hrc : RowCells h T xs cs := hrc
  have hcs := row_enc hf xs cs hrc
  subst hcs
  rcases hown.2 with ⟨e0, e1⟩ | ⟨g', cap, cur, e0, f1, f2, f3⟩
  · subst e0
    have hx : xs = [] := List.eq_nil_of_length_eq_zero e1
    subst hx
    refine (AnyF.slices_SortFunc_none L none 0 (.func (.func g) #[] #[]) w).mono ?_
    rintro en w' ⟨rfl, rfl⟩
    exact ⟨_, .slice none 0 0, _, [], rfl, ⟨List.Perm.nil, List.Pairwise.nil⟩, World.ownsRow_nil _ B e T.size, by simp [RowCells], grownBy_refl _ _, ⟨fun g hg => by simp [Value.ownBlock] at hg, rfl⟩⟩
  · subst e0
    have hH : HoldsK (encT T) T.size w g' 0 xs.toArray := by
      unfold HoldsK
      rw [flat_list hf]
      exact row_holds hown
    refine (AnyQ.slices_SortFunc L T.size aE zE (encT T) (enc_len hf) (fun x v hv => rep_one (h := h) T x _ (enc_rep T hf x) v hv) cf hO g #[] g' 0 cap xs.toArray w eg (cmp_lays hf ha hC _ _ _ _ _) hH (lt_of_heap f2) (by simp; omega)).mono ?_
    rintro en w' ⟨rfl, d', q, os, hpm, hso, hw⟩
    have hpl := perm_of_in hpm
    have hsl := sorted_of_in (by have := hpm.1; simp at this ⊢; omega) hso
    generalize hys : d'.toList = ys at hpl hsl
    have hd : d' = ys.toArray := by rw [← hys]
    subst hd
    have hl : ys.length = xs.length := by simpa using hpl.length_eq
    have hw2 : w' = Sort.grow (Sort.putRow id (Sort.ahead w q) g' 0 (ys.flatMap (encT T)).toArray) os := by
      rw [hw]
      unfold sortWorldK putRowK
      rw [flat_list hf]
    have hlen := RowCells_len (h := h) T ys _ (enc_row hf ys)
    rw [hl] at hlen
    obtain ⟨g1, g2⟩ := put_row (m := xs.length) hpos hown hlen (Nat.le_refl _) hw2
    rw [List.take_of_length_le (by rw [hlen]; exact Nat.le_refl _)] at g1
    exact ⟨_, _, ys, _, rfl, ⟨by simpa using hpl, hsl⟩, by rw [hl]; exact g1, enc_row hf _, g2, fun g' hg => .inl hg, rfl⟩
end
end Go.Fr
namespace Go.Proofs
open Go.Shelf
set_option maxRecDepth 100000
def Tryz.lSort_ren : Go.Shelf.Ren := ⟨fun | 6 => 23 | 15 => 58 | 14 => 57 | 28 => 94 | 29 => 95 | 20 => 86 | 21 => 87 | 22 => 88 | 23 => 89 | 24 => 90 | 25 => 91 | 26 => 92 | 27 => 93 | 46 => 107 | 47 => 108 | 48 => 109 | 49 => 110 | 50 => 111 | 57 => 119 | n => n, fun | 22 => 22 | 24 => 48 | 25 => 71 | 3 => 3 | 39 => 123 | 0 => 0 | 53 => 180 | 55 => 182 | 4 => 4 | 46 => 173 | 45 => 172 | 50 => 177 | 5 => 5 | 9 => 9 | 66 => 192 | 70 => 196 | 76 => 203 | 77 => 87 | n => n, fun n => n⟩
theorem Tryz.lSort : SlLaysF0.n6 Tryz.prog Tryz.lSort_ren := {
  mixed := by kernel_rfl,
  f6 := ⟨Tryz.f23.name, by decide, Tryz.func23.trans (by kernel_rfl)⟩,
  f14 := ⟨Tryz.f57.name, by decide, Tryz.func57.trans (by kernel_rfl)⟩,
  f15 := Tryz.func58.trans (by kernel_rfl),
  f20 := ⟨Tryz.f86.name, by decide, Tryz.func86.trans (by kernel_rfl)⟩,
  f21 := ⟨Tryz.f87.name, by decide, Tryz.func87.trans (by kernel_rfl)⟩,
  f22 := ⟨Tryz.f88.name, by decide, Tryz.func88.trans (by kernel_rfl)⟩,
  f23 := ⟨Tryz.f89.name, by decide, Tryz.func89.trans (by kernel_rfl)⟩,
  f24 := ⟨Tryz.f90.name, by decide, Tryz.func90.trans (by kernel_rfl)⟩,
  f25 := ⟨Tryz.f91.name, by decide, Tryz.func91.trans (by kernel_rfl)⟩,
  f26 := ⟨Tryz.f92.name, by decide, Tryz.func92.trans (by kernel_rfl)⟩,
  f27 := ⟨Tryz.f93.name, by decide, Tryz.func93.trans (by kernel_rfl)⟩,
  f28 := Tryz.func94.trans (by kernel_rfl),
  f29 := Tryz.func95.trans (by kernel_rfl),
  f46 := ⟨Tryz.f107.name, by decide, Tryz.func107.trans (by kernel_rfl)⟩,
  f47 := Tryz.func108.trans (by kernel_rfl),
  f48 := Tryz.func109.trans (by kernel_rfl),
  f49 := ⟨Tryz.f110.name, by decide, Tryz.func110.trans (by kernel_rfl)⟩,
  f50 := ⟨Tryz.f111.name, by decide, Tryz.func111.trans (by kernel_rfl)⟩,
  f57 := ⟨Tryz.f119.name, by decide, Tryz.func119.trans (by kernel_rfl)⟩,
  t0 := Tryz.underlying0,
  a0 := Tryz.isAgg0,
  z0 := Tryz.sizeOf0,
  v0 := Tryz.zeroValue0,
  t3 := Tryz.underlying3,
  a3 := Tryz.isAgg3,
  z3 := Tryz.sizeOf3,
  v3 := Tryz.zeroValue3,
  t4 := Tryz.underlying4,
  a4 := Tryz.isAgg4,
  z4 := Tryz.sizeOf4,
  v4 := Tryz.zeroValue4,
  t5 := Tryz.underlying5,
  a5 := Tryz.isAgg5,
  z5 := Tryz.sizeOf5,
  v5 := Tryz.zeroValue5,
  t9 := Tryz.underlying9,
  a9 := Tryz.isAgg9,
  z9 := Tryz.sizeOf9,
  v9 := Tryz.zeroValue9,
  t22 := Tryz.underlying22,
  a22 := Tryz.isAgg22,
  z22 := Tryz.sizeOf22,
  v22 := Tryz.zeroValue22,
  t25 := Tryz.underlying71,
  a25 := Tryz.isAgg71,
  z25 := Tryz.sizeOf71,
  v25 := Tryz.zeroValue71,
  t39 := Tryz.underlying123,
  a39 := Tryz.isAgg123,
  z39 := Tryz.sizeOf123,
  v39 := Tryz.zeroValue123,
  t45 := Tryz.underlying172,
  a45 := Tryz.isAgg172,
  z45 := Tryz.sizeOf172,
  v45 := Tryz.zeroValue172,
  t46 := Tryz.underlying173,
  a46 := Tryz.isAgg173,
  z46 := Tryz.sizeOf173,
  v46 := Tryz.zeroValue173,
  t50 := Tryz.underlying177,
  a50 := Tryz.isAgg177,
  z50 := Tryz.sizeOf177,
  v50 := Tryz.zeroValue177,
  t53 := Tryz.underlying180,
  a53 := Tryz.isAgg180,
  z53 := Tryz.sizeOf180,
  v53 := Tryz.zeroValue180,
  t55 := Tryz.underlying182,
  a55 := Tryz.isAgg182,
  z55 := Tryz.sizeOf182,
  v55 := Tryz.zeroValue182,
  t66 := Tryz.underlying192,
  a66 := Tryz.isAgg192,
  z66 := Tryz.sizeOf192,
  v66 := Tryz.zeroValue192,
  t70 := Tryz.underlying196,
  a70 := Tryz.isAgg196,
  z70 := Tryz.sizeOf196,
  v70 := Tryz.zeroValue196,
  t76 := Tryz.underlying203,
  a76 := Tryz.isAgg203,
  z76 := Tryz.sizeOf203,
  v76 := Tryz.zeroValue203,
  t77 := Tryz.underlying87,
  a77 := Tryz.isAgg87,
  z77 := Tryz.sizeOf87,
  v77 := Tryz.zeroValue87 }
end Go.Proofs
namespace Go.Proofs
open Go.Shelf
set_option maxRecDepth 100000
def Tryz.lContains_ren : Go.Shelf.Ren := ⟨fun | 144 => 54 | 143 => 84 | 219 => 106 | 217 => 115 | 225 => 116 | 224 => 117 | 267 => 118 | 266 => 120 | 314 => 121 | n => n, fun | 9 => 9 | 4 => 4 | 3 => 3 | 5 => 5 | 46 => 123 | 146 => 205 | 51 => 180 | n => n, fun | 1 => 1 | n => n⟩
theorem Tryz.lContains : Lays.n144 Tryz.prog Tryz.lContains_ren := {
  mixed := by kernel_rfl,
  f143 := Tryz.func84.trans (by kernel_rfl),
  f144 := Tryz.func54.trans (by kernel_rfl),
  f217 := Tryz.func115.trans (by kernel_rfl),
  f219 := Tryz.func106.trans (by kernel_rfl),
  f224 := Tryz.func117.trans (by kernel_rfl),
  f225 := Tryz.func116.trans (by kernel_rfl),
  f266 := Tryz.func120.trans (by kernel_rfl),
  f267 := Tryz.func118.trans (by kernel_rfl),
  f314 := Tryz.func121.trans (by kernel_rfl),
  t3 := Tryz.underlying3,
  a3 := Tryz.isAgg3,
  z3 := Tryz.sizeOf3,
  v3 := Tryz.zeroValue3,
  t4 := Tryz.underlying4,
  a4 := Tryz.isAgg4,
  z4 := Tryz.sizeOf4,
  v4 := Tryz.zeroValue4,
  t5 := Tryz.underlying5,
  a5 := Tryz.isAgg5,
  z5 := Tryz.sizeOf5,
  v5 := Tryz.zeroValue5,
  t9 := Tryz.underlying9,
  a9 := Tryz.isAgg9,
  z9 := Tryz.sizeOf9,
  v9 := Tryz.zeroValue9,
  t46 := Tryz.underlying123,
  a46 := Tryz.isAgg123,
  z46 := Tryz.sizeOf123,
  v46 := Tryz.zeroValue123,
  t51 := Tryz.underlying180,
  a51 := Tryz.isAgg180,
  z51 := Tryz.sizeOf180,
  v51 := Tryz.zeroValue180,
  t146 := Tryz.underlying205,
  a146 := Tryz.isAgg205,
  z146 := Tryz.sizeOf205,
  v146 := Tryz.zeroValue205,
  g1 := by kernel_rfl }
end Go.Proofs
namespace Go.Fr.Z14
open Go Go.Fr Go.Proofs
open Go.Sort
theorem r23 (h : CallSpec Tryz.prog noGl 24 cOrder) : RSpec Tryz.prog 23 rSort :=
  sortP_spec Tryz.lSort (T := t48) rfl rfl (by decide) Tryz.isAgg48 Tryz.sizeOf48 rfl Tryz.func23 (by decide) (by kernel_rfl : Tryz.f23.body = some (bodyOf Tryz.f23)) (cf := cmpL) swoL (enters_of Tryz.func24 (by kernel_rfl) rfl) h
theorem s54 (G : Nat → Option ((t : Ty) × t.den)) : CallSpec Tryz.prog G 54 cContains := by
  refine ⟨⟨Tryz.f54, bodyOf Tryz.f54, Tryz.func54, by decide, by kernel_rfl⟩, ?_⟩
  rintro ⟨s, t, ⟨⟩⟩ h w args hp hr hin hg
  have hp : t = (ByteArray.mk #[10]) := hp
  subst hp
  obtain ⟨v, r, rfl, ⟨cs, hc, rfl⟩, v2, r2, rfl, ⟨cs2, hc2, rfl⟩, rfl⟩ := (show ∃ v r, args = v :: r ∧ vrep h .str s v ∧ ∃ v2 r2, r = v2 :: r2 ∧ vrep h .str (ByteArray.mk #[10]) v2 ∧ r2 = [] from hr)
  simp only [rep] at hc hc2
  subst hc hc2
  refine (Any.strings_Contains_one Tryz.lContains s 10 w).mono ?_
  rintro e w' ⟨rfl, rfl⟩
  refine ⟨_, h, rfl, PLe.refl h, fun k hk => .inl hk, hin, ?_, Below.refl _ _⟩
  show vrep h .bool (hasNL s) _
  refine ⟨[.bool (hasNL s)], rfl, ?_⟩
  show Value.bool _ = Value.bool (hasNL s)
  unfold hasNL
  rw [Lib.contains_iff_indexByte]
end Go.Fr.Z14
namespace Go.Fr.Z14
open Go Go.Fr Go.Proofs
theorem s5 : CallSpec Tryz.prog gl 5 cLong := fn_spec tab_ok mixed ct_nil il_nil Tryz.func5 (by kernel_rfl) (vcEq5 ▸ p5)
theorem s53 : CallSpec Tryz.prog gl 53 cCount := fn_spec tab_ok mixed ct_nil il_nil Tryz.func53 (by kernel_rfl) (vcEq53 ▸ p53)
theorem s21 : CallSpec Tryz.prog gl 21 cWrong := fn_spec tab_ok mixed (ct_cons s53 (ct_cons (s54 _) ct_nil)) il_nil Tryz.func21 (by kernel_rfl) (vcEq21 ▸ p21)
theorem s56 : CallSpec Tryz.prog gl 56 cDecode := fn_spec tab_ok mixed ct_nil il_nil Tryz.func56 (by kernel_rfl) (vcEq56 ▸ p56)
theorem s85 : CallSpec Tryz.prog gl 85 cRight := fn_spec tab_ok mixed ct_nil il_nil Tryz.func85 (by kernel_rfl) (vcEq85 ▸ p85)
theorem s55 : CallSpec Tryz.prog gl 55 cEncode := fn_spec tab_ok mixed (ct_cons s85 ct_nil) il_nil Tryz.func55 (by kernel_rfl) (vcEq55 ▸ p55)
theorem s22 : CallSpec Tryz.prog gl 22 cClean := fn_spec tab_ok mixed (ct_cons s56 (ct_cons s55 ct_nil)) il_nil Tryz.func22 (by kernel_rfl) (vcEq22 ▸ p22)
theorem s60 : CallSpec Tryz.prog gl 60 cCmp := fn_spec tab_ok mixed ct_nil (il_cons Tryz.func96 (by kernel_rfl) il_nil) Tryz.func60 (by kernel_rfl) (vcEq60 ▸ p60)
theorem s59 : CallSpec Tryz.prog gl 59 cOr := fn_spec tab_ok mixed ct_nil il_nil Tryz.func59 (by kernel_rfl) (vcEq59 ▸ p59)
theorem s24 : CallSpec Tryz.prog gl 24 cOrder := fn_spec tab_ok mixed (ct_cons s60 (ct_cons s59 ct_nil)) il_nil Tryz.func24 (by kernel_rfl) (vcEq24 ▸ p24)
theorem n60 : CallSpec Tryz.prog noGl 60 cCmp := fn_spec tab_ok mixed ct_nil (il_cons Tryz.func96 (by kernel_rfl) il_nil) Tryz.func60 (by kernel_rfl) ((by kernel_rfl : fnVC (env tab [] [(96, Tryz.f96)] noGl hs60 nm60) Tryz.f60 (bodyOf Tryz.f60) cCmp = vc60) ▸ p60)
theorem n59 : CallSpec Tryz.prog noGl 59 cOr := fn_spec tab_ok mixed ct_nil il_nil Tryz.func59 (by kernel_rfl) ((by kernel_rfl : fnVC (env tab [] [] noGl hs59 nm59) Tryz.f59 (bodyOf Tryz.f59) cOr = vc59) ▸ p59)
theorem n24 : CallSpec Tryz.prog noGl 24 cOrder := fn_spec tab_ok mixed (ct_cons n60 (ct_cons n59 ct_nil)) il_nil Tryz.func24 (by kernel_rfl) ((by kernel_rfl : fnVC (env tab [(60, cCmp), (59, cOr)] [] noGl hs24 nm24) Tryz.f24 (bodyOf Tryz.f24) cOrder = vc24) ▸ p24)
theorem s7 : CallSpec Tryz.prog gl 7 cNew := fn_specR tab_ok mixed (ct_cons s21 (ct_cons s22 (ct_cons s24 ct_nil))) il_nil (rct_cons (r23 n24) rct_nil) Tryz.func7 (by kernel_rfl) (vcEq7 ▸ p7)
theorem s31 : CallSpec Tryz.prog gl 31 cLen := fn_spec tab_ok mixed ct_nil il_nil Tryz.func31 (by kernel_rfl) (vcEq31 ▸ p31)
theorem s46 : CallSpec Tryz.prog gl 46 cClone := fn_spec tab_ok mixed ct_nil il_nil Tryz.func46 (by kernel_rfl) (vcEq46 ▸ p46)
theorem s15 : CallSpec Tryz.prog gl 15 cAll := fn_spec tab_ok mixed (ct_cons s46 ct_nil) il_nil Tryz.func15 (by kernel_rfl) (vcEq15 ▸ p15)
theorem s67 : CallSpec Tryz.prog gl 67 cPlain := fn_spec tab_ok mixed ct_nil il_nil Tryz.func67 (by kernel_rfl) (vcEq67 ▸ p67)
theorem s68 : CallSpec Tryz.prog gl 68 cVirtual := fn_spec tab_ok mixed (ct_cons s53 ct_nil) il_nil Tryz.func68 (by kernel_rfl) (vcEq68 ▸ p68)
theorem s30 : CallSpec Tryz.prog gl 30 cRow := fn_spec tab_ok mixed (ct_cons s67 (ct_cons s68 ct_nil)) il_nil Tryz.func30 (by kernel_rfl) (vcEq30 ▸ p30)
theorem s98 : CallSpec Tryz.prog gl 98 cWithinN := fn_spec tab_ok mixed ct_nil il_nil Tryz.func98 (by kernel_rfl) (vcEq98 ▸ p98)
theorem s64 : CallSpec Tryz.prog gl 64 cCheck := fn_spec tab_ok mixed (ct_cons s98 ct_nil) il_nil Tryz.func64 (by kernel_rfl) (vcEq64 ▸ p64)
theorem s75 : CallSpec Tryz.prog gl 75 cOfI := fn_spec tab_ok mixed ct_nil il_nil Tryz.func75 (by kernel_rfl) (vcEq75 ▸ p75)
theorem s73 : CallSpec Tryz.prog gl 73 cAddS := fn_spec tab_ok mixed ct_nil il_nil Tryz.func73 (by kernel_rfl) (vcEq73 ▸ p73)
theorem s101 : CallSpec Tryz.prog gl 101 cAllS := fn_spec tab_ok mixed (ct_cons s75 (ct_cons s73 ct_nil)) il_nil Tryz.func101 (by kernel_rfl) (vcEq101 ▸ p101)
theorem s66 : CallSpec Tryz.prog gl 66 cLeafOf := fn_spec tab_ok mixed (ct_cons s101 ct_nil) il_nil Tryz.func66 (by kernel_rfl) (vcEq66 ▸ p66)
theorem s83 : CallSpec Tryz.prog gl 83 cHeightOf := fn_spec tab_ok mixed ct_nil il_nil Tryz.func83 (by kernel_rfl) (vcEq83 ▸ p83)
theorem s113 : CallSpec Tryz.prog gl 113 cPut := fn_spec tab_ok mixed ct_nil il_nil Tryz.func113 (by kernel_rfl) (vcEq113 ▸ p113)
theorem s74 : CallSpec Tryz.prog gl 74 cSumOf := fn_spec tab_ok mixed ct_nil il_nil Tryz.func74 (by kernel_rfl) (vcEq74 ▸ p74)
theorem s100 : CallSpec Tryz.prog gl 100 cInnerOf := fn_spec tab_ok mixed (ct_cons s83 (ct_cons s74 (ct_cons s73 ct_nil))) il_nil Tryz.func100 (by kernel_rfl) (vcEq100 ▸ p100)
theorem s112 : CallSpec Tryz.prog gl 112 cRaise := fn_spec tab_ok mixed (ct_cons s100 ct_nil) il_nil Tryz.func112 (by kernel_rfl) (vcEq112 ▸ p112)
theorem s114 : CallSpec Tryz.prog gl 114 cSpread := fn_spec tab_ok mixed (ct_cons s66 ct_nil) il_nil Tryz.func114 (by kernel_rfl) (vcEq114 ▸ p114)
theorem q99 : ∀ n, CallSpec Tryz.prog gl 99 (cMeld.cut muMeld n)
  | 0 => cut_zero Tryz.func99 (by kernel_rfl)
  | n + 1 => fn_spec tab_ok mixed (ct_cons s83 (ct_cons (q99 n) (ct_cons s113 (ct_cons s112 (ct_cons s114 ct_nil))))) il_nil Tryz.func99 (by kernel_rfl) (vcEq99 n ▸ p99 n)
theorem s99 : CallSpec Tryz.prog gl 99 cMeld := cut_all q99
theorem s65 : CallSpec Tryz.prog gl 65 cJoin := fn_spec tab_ok mixed (ct_cons s99 (ct_cons s100 ct_nil)) il_nil Tryz.func65 (by kernel_rfl) (vcEq65 ▸ p65)
theorem s29 : CallSpec Tryz.prog gl 29 cTreeNew := fn_spec tab_ok mixed (ct_cons s64 (ct_cons s66 (ct_cons s65 ct_nil))) il_nil Tryz.func29 (by kernel_rfl) (vcEq29 ▸ p29)
theorem s9 : CallSpec Tryz.prog gl 9 cWeave := fn_spec tab_ok mixed (ct_cons s31 (ct_cons s15 (ct_cons s30 (ct_cons s29 ct_nil)))) il_nil Tryz.func9 (by kernel_rfl) (vcEq9 ▸ p9)
theorem s35 : CallSpec Tryz.prog gl 35 cTreeOf := fn_spec tab_ok mixed ct_nil il_nil Tryz.func35 (by kernel_rfl) (vcEq35 ▸ p35)
theorem s72 : CallSpec Tryz.prog gl 72 cTop := fn_spec tab_ok mixed ct_nil il_nil Tryz.func72 (by kernel_rfl) (vcEq72 ▸ p72)
theorem s69 : CallSpec Tryz.prog gl 69 cSum := fn_spec tab_ok mixed (ct_cons s72 (ct_cons s74 ct_nil)) il_nil Tryz.func69 (by kernel_rfl) (vcEq69 ▸ p69)
theorem s70 : CallSpec Tryz.prog gl 70 cSizeD := fn_spec tab_ok mixed ct_nil il_nil Tryz.func70 (by kernel_rfl) (v70)
theorem s36 : CallSpec Tryz.prog gl 36 cFind := fn_spec tab_ok mixed (ct_cons s69 (ct_cons s70 (ct_cons s72 (ct_cons s74 (ct_cons s73 (ct_cons s75 ct_nil)))))) (il_cons Tryz.func71 (by kernel_rfl) il_nil) Tryz.func36 (by kernel_rfl) (vcEq36 ▸ p36)
theorem s18 : CallSpec Tryz.prog gl 18 cOut := fn_spec tab_ok mixed (ct_cons s35 (ct_cons s36 ct_nil)) il_nil Tryz.func18 (by kernel_rfl) (vcEq18 ▸ p18)
theorem s37 : CallSpec Tryz.prog gl 37 cAt := fn_spec tab_ok mixed (ct_cons s69 (ct_cons s72 (ct_cons s74 ct_nil))) il_nil Tryz.func37 (by kernel_rfl) (vcEq37 ▸ p37)
theorem s19 : CallSpec Tryz.prog gl 19 cIn := fn_spec tab_ok mixed (ct_cons s35 (ct_cons s36 (ct_cons s37 ct_nil))) il_nil Tryz.func19 (by kernel_rfl) (vcEq19 ▸ p19)
theorem s52 : CallSpec Tryz.prog gl 52 cHeightT := fn_spec tab_ok mixed (ct_cons s72 (ct_cons s83 ct_nil)) il_nil Tryz.func52 (by kernel_rfl) (vcEq52 ▸ p52)
theorem s20 : CallSpec Tryz.prog gl 20 cHeightW := fn_spec tab_ok mixed (ct_cons s35 (ct_cons s52 ct_nil)) il_nil Tryz.func20 (by kernel_rfl) (vcEq20 ▸ p20)
theorem s6 : CallSpec Tryz.prog gl 6 cFour := fn_spec tab_ok mixed (ct_cons s7 (ct_cons s9 (ct_cons s18 (ct_cons s19 (ct_cons s20 ct_nil))))) il_nil Tryz.func6 (by kernel_rfl) (vcEq6 ▸ p6)
theorem s97 : CallSpec Tryz.prog gl 97 cNumber := fn_spec tab_ok mixed ct_nil il_nil Tryz.func97 (by kernel_rfl) (vcEq97 ▸ p97)
theorem s61 : CallSpec Tryz.prog gl 61 cUSize := fn_spec tab_ok mixed ct_nil il_nil Tryz.func61 (by kernel_rfl) (vcEq61 ▸ p61)
theorem s62 : CallSpec Tryz.prog gl 62 cOne := fn_spec tab_ok mixed ct_nil il_nil Tryz.func62 (by kernel_rfl) (vcEq62 ▸ p62)
theorem s63 : CallSpec Tryz.prog gl 63 cRStep := fn_spec tab_ok mixed (ct_cons s97 (ct_cons s61 (ct_cons s62 ct_nil))) il_nil Tryz.func63 (by kernel_rfl) (vcEq63 ▸ p63)
theorem s27 : CallSpec Tryz.prog gl 27 cRDecode := fn_spec tab_ok mixed (ct_cons s63 ct_nil) il_nil Tryz.func27 (by kernel_rfl) (vcEq27 ▸ p27)
theorem s25 : CallSpec Tryz.prog gl 25 cRefWrong := fn_spec tab_ok mixed (ct_cons s27 ct_nil) il_nil Tryz.func25 (by kernel_rfl) (vcEq25 ▸ p25)
theorem s26 : CallSpec Tryz.prog gl 26 cREncode := fn_spec tab_ok mixed (ct_cons s61 (ct_cons s62 ct_nil)) il_nil Tryz.func26 (by kernel_rfl) (vcEq26 ▸ p26)
theorem s28 : CallSpec Tryz.prog gl 28 cAhead := fn_spec tab_ok mixed ct_nil il_nil Tryz.func28 (by kernel_rfl) (vcEq28 ▸ p28)
theorem s8 : CallSpec Tryz.prog gl 8 cRefNew := fn_spec tab_ok mixed (ct_cons s25 (ct_cons s27 (ct_cons s26 (ct_cons s28 ct_nil)))) il_nil Tryz.func8 (by kernel_rfl) (vcEq8 ▸ p8)
theorem s10 : CallSpec Tryz.prog gl 10 cSplice := fn_spec tab_ok mixed (ct_cons s15 (ct_cons s31 (ct_cons s7 ct_nil))) il_nil Tryz.func10 (by kernel_rfl) (vcEq10 ▸ p10)
theorem s32 : CallSpec Tryz.prog gl 32 cTimes := fn_spec tab_ok mixed ct_nil il_nil Tryz.func32 (by kernel_rfl) (vcEq32 ▸ p32)
theorem s11 : CallSpec Tryz.prog gl 11 cRefSplice := fn_spec tab_ok mixed (ct_cons s32 (ct_cons s8 ct_nil)) il_nil Tryz.func11 (by kernel_rfl) (vcEq11 ▸ p11)
theorem s33 : CallSpec Tryz.prog gl 33 cSizes := fn_spec tab_ok mixed (ct_cons s35 (ct_cons s69 ct_nil)) il_nil Tryz.func33 (by kernel_rfl) (vcEq33 ▸ p33)
theorem s34 : CallSpec Tryz.prog gl 34 cFits := fn_spec tab_ok mixed ct_nil il_nil Tryz.func34 (by kernel_rfl) (vcEq34 ▸ p34)
theorem sO46 : CallSpec Tryz.prog gl 46 cCloneO := fn_specO tab_ok mixed ct_nil il_nil rct_nil Tryz.func46 (by kernel_rfl) (vcEqO46 ▸ pO46)
theorem sO15 : CallSpec Tryz.prog gl 15 cAllO := fn_specO tab_ok mixed (ct_cons sO46 ct_nil) il_nil rct_nil Tryz.func15 (by kernel_rfl) (vcEqO15 ▸ pO15)
theorem s39 : CallSpec Tryz.prog gl 39 cBetween := fn_spec tab_ok mixed (ct_cons sO15 ct_nil) (il_cons Tryz.func78 (by kernel_rfl) (il_cons Tryz.func77 (by kernel_rfl) (il_cons Tryz.func103 (by kernel_rfl) il_nil))) Tryz.func39 (by kernel_rfl) (vcEq39 ▸ p39)
theorem s102 : CallSpec Tryz.prog gl 102 cRowN := fn_spec tab_ok mixed (ct_cons s100 ct_nil) il_nil Tryz.func102 (by kernel_rfl) (vcEq102 ▸ p102)
theorem q76 : ∀ n, CallSpec Tryz.prog gl 76 (cSplit.cut muSplit n)
  | 0 => cut_zero Tryz.func76 (by kernel_rfl)
  | n + 1 => fn_spec tab_ok mixed (ct_cons s66 (ct_cons s74 (ct_cons (q76 n) (ct_cons s102 (ct_cons s65 ct_nil))))) il_nil Tryz.func76 (by kernel_rfl) (vcEq76 n ▸ p76 n)
theorem s76 : CallSpec Tryz.prog gl 76 cSplit := cut_all q76
theorem s38 : CallSpec Tryz.prog gl 38 cReplace := fn_spec tab_ok mixed (ct_cons s69 (ct_cons s29 (ct_cons s72 (ct_cons s76 (ct_cons s65 ct_nil))))) il_nil Tryz.func38 (by kernel_rfl) (vcEq38 ▸ p38)
theorem s12 : CallSpec Tryz.prog gl 12 cUpdate := fn_spec tab_ok mixed (ct_cons s33 (ct_cons s34 (ct_cons s31 (ct_cons s35 (ct_cons s36 (ct_cons s37 (ct_cons s39 (ct_cons s30 (ct_cons s38 ct_nil))))))))) il_nil Tryz.func12 (by kernel_rfl) (vcEq12 ▸ p12)
theorem s13 : CallSpec Tryz.prog gl 13 cFits2 := fn_spec tab_ok mixed ct_nil il_nil Tryz.func13 (by kernel_rfl) (vcEq13 ▸ p13)
theorem s79 : CallSpec Tryz.prog gl 79 cItems := fn_spec tab_ok mixed (ct_cons s72 ct_nil) (il_cons Tryz.func105 (by kernel_rfl) (il_cons Tryz.func104 (by kernel_rfl) il_nil)) Tryz.func79 (by kernel_rfl) (vcEq79 ▸ p79)
theorem s40 : CallSpec Tryz.prog gl 40 cPieces := fn_spec tab_ok mixed (ct_cons s35 (ct_cons s79 ct_nil)) il_nil Tryz.func40 (by kernel_rfl) (vcEq40 ▸ p40)
theorem s41 : CallSpec Tryz.prog gl 41 cSpots := fn_spec tab_ok mixed (ct_cons s27 ct_nil) il_nil Tryz.func41 (by kernel_rfl) (vcEq41 ▸ p41)
theorem s43 : CallSpec Tryz.prog gl 43 cRefsP := fn_spec tab_ok mixed ct_nil il_nil Tryz.func43 (by kernel_rfl) (vcEq43 ▸ p43)
theorem s44 : CallSpec Tryz.prog gl 44 cRefPieces := fn_spec tab_ok mixed (ct_cons s41 ct_nil) il_nil Tryz.func44 (by kernel_rfl) (vcEq44 ▸ p44)
theorem s42 : CallSpec Tryz.prog gl 42 cSameP := fn_spec tab_ok mixed ct_nil il_nil Tryz.func42 (by kernel_rfl) (vcEq42 ▸ p42)
theorem s45 : CallSpec Tryz.prog gl 45 cHigh := fn_spec tab_ok mixed ct_nil il_nil Tryz.func45 (by kernel_rfl) (vcEq45 ▸ p45)
theorem s14 : CallSpec Tryz.prog gl 14 cIs := fn_spec tab_ok mixed (ct_cons s33 (ct_cons s40 (ct_cons s41 (ct_cons s43 (ct_cons s44 (ct_cons s42 (ct_cons s20 (ct_cons s45 ct_nil)))))))) il_nil Tryz.func14 (by kernel_rfl) (vcEq14 ▸ p14)
theorem s3 : CallSpec Tryz.prog gl 3 cWeaveSplices := fn_spec tab_ok mixed (ct_cons s5 (ct_cons s6 (ct_cons s7 (ct_cons s8 (ct_cons s9 (ct_cons s10 (ct_cons s11 (ct_cons s12 (ct_cons s13 (ct_cons s14 (ct_cons s15 ct_nil))))))))))) il_nil Tryz.func3 (by kernel_rfl) (vcEq3 ▸ p3)
theorem s80 : CallSpec Tryz.prog gl 80 cWithin := fn_spec tab_ok mixed ct_nil il_nil Tryz.func80 (by kernel_rfl) (vcEq80 ▸ p80)
theorem s81 : CallSpec Tryz.prog gl 81 cSize := fn_spec tab_ok mixed ct_nil il_nil Tryz.func81 (by kernel_rfl) (vcEq81 ▸ p81)
theorem s47 : CallSpec Tryz.prog gl 47 cNormal := fn_spec tab_ok mixed (ct_cons s80 (ct_cons s81 ct_nil)) il_nil Tryz.func47 (by kernel_rfl) (vcEq47 ▸ p47)
theorem s48 : CallSpec Tryz.prog gl 48 cDelta := fn_spec tab_ok mixed (ct_cons s81 ct_nil) il_nil Tryz.func48 (by kernel_rfl) (vcEq48 ▸ p48)
theorem s49 : CallSpec Tryz.prog gl 49 cMap := fn_spec tab_ok mixed (ct_cons s47 ct_nil) il_nil Tryz.func49 (by kernel_rfl) (vcEq49 ▸ p49)
theorem s16 : CallSpec Tryz.prog gl 16 cShift := fn_spec tab_ok mixed (ct_cons s31 (ct_cons s47 (ct_cons s48 (ct_cons sO15 (ct_cons s49 (ct_cons s7 ct_nil)))))) il_nil Tryz.func16 (by kernel_rfl) (vcEq16 ▸ p16)
theorem s82 : CallSpec Tryz.prog gl 82 cWithin := fn_spec tab_ok mixed ct_nil il_nil Tryz.func82 (by kernel_rfl) (vcEq82 ▸ p82)
theorem s50 : CallSpec Tryz.prog gl 50 cRefNormal := fn_spec tab_ok mixed (ct_cons s82 ct_nil) il_nil Tryz.func50 (by kernel_rfl) (vcEq50 ▸ p50)
theorem s51 : CallSpec Tryz.prog gl 51 cRefMap := fn_spec tab_ok mixed ct_nil il_nil Tryz.func51 (by kernel_rfl) (vcEq51 ▸ p51)
theorem s17 : CallSpec Tryz.prog gl 17 cRefShift := fn_spec tab_ok mixed (ct_cons s50 (ct_cons s51 (ct_cons s8 ct_nil))) il_nil Tryz.func17 (by kernel_rfl) (vcEq17 ▸ p17)
theorem s4 : CallSpec Tryz.prog gl 4 cWeaveEdits := fn_spec tab_ok mixed (ct_cons s5 (ct_cons s6 (ct_cons s7 (ct_cons s8 (ct_cons s16 (ct_cons s17 (ct_cons s9 (ct_cons s12 (ct_cons s14 ct_nil))))))))) il_nil Tryz.func4 (by kernel_rfl) (vcEq4 ▸ p4)
end Go.Fr.Z14
namespace Go.Proofs.YtgaafjjdcpibbaaGreatDoor
open Go Go.Fr Go.Fr.Z14 Go.ChangeShapes Go.WideShapes Go.ChangeAt Go.RowKit
theorem gMost : Tryz.prog.globalNamed "bodkin/utf.most" = some 0 := by kernel_rfl
theorem tMost : (Tryz.prog.globals[0]?).map (·.type) = some 191 := by kernel_rfl
theorem glob_of {W : World} (h : laidMetH Tryz.prog [("bodkin/utf.most", Rows.laid_bodkin_utf_most)] W) : GlobOk gl (heapOf W) := by
  rw [MakeChecks.laidMetH_plain _ _ _ (by kernel_rfl)] at h
  obtain ⟨ps, ⟨g0, t0, cs0, f0, p0, q0, hg0, ht0, hv0, hd0, hrest⟩, h2⟩ := h
  obtain rfl := Option.some.inj (gMost.symm.trans hg0)
  obtain rfl := Option.some.inj (tMost.symm.trans ht0)
  obtain ⟨xs, m1, hf, hx1, hlen, hn4, hel⟩ := DataW.trod_array Tryz.underlying191 hd0
  have c21 : Tryz.prog.cellsOf 21 = 1 := by kernel_rfl
  have len4 : cs0.toList.length = 4 := hlen.trans (by kernel_rfl)
  rw [c21] at hel
  have hcell : ∀ i : Nat, W.cell? ⟨0, i, none⟩ = cs0.toList[i]? := fun i => by rw [World.var?_cell gMost hv0 i]; simp
  generalize cs0.toList = cl at *
  match xs, cl, hn4, len4, hx1, hel, hcell with
  | [y0, y1, y2, y3], [x0, x1, x2, x3], _, _, hx1, hel, hcell =>
    have hx1 := (Prod.mk.inj hx1).1
    obtain ⟨n0, e0, z0, _⟩ := DataW.trod_int Tryz.underlying21 (hel 0 (by decide))
    obtain ⟨n1, e1, z1, _⟩ := DataW.trod_int Tryz.underlying21 (hel 1 (by decide))
    obtain ⟨n2, e2, z2, _⟩ := DataW.trod_int Tryz.underlying21 (hel 2 (by decide))
    obtain ⟨n3, e3, z3, _⟩ := DataW.trod_int Tryz.underlying21 (hel 3 (by decide))
    simp at e0 e1 e2 e3
    subst e0 e1 e2 e3 z0 z1 z2 z3
    simp only [Rows.laid_bodkin_utf_most, List.map_cons, List.map_nil, DataW.agg.injEq, List.cons.injEq, DataW.lit.injEq, Lit.int.injEq, true_and, and_true] at hx1
    obtain ⟨q0, q1, q2, q3⟩ := hx1
    subst q0 q1 q2 q3
    intro g T x hg
    unfold gl at hg
    cases hb : Nat.beq g 0 with
    | false => rw [hb] at hg; cases hg
    | true =>
      rw [hb] at hg
      have := Nat.eq_of_beq_eq_true hb
      subst this
      simp only [cond_true, Option.some.injEq] at hg
      cases hg
      refine ⟨[.int .i32 127, .int .i32 2047, .int .i32 65535, .int .i32 1114111], ⟨[_], _, rfl, rfl, [_], _, rfl, rfl, [_], _, rfl, rfl, [_], _, rfl, rfl, rfl⟩, ?_⟩
      intro j u hu
      rw [hcell_heapOf]
      have := hcell j
      rw [hu] at this
      have ha : (⟨0, 0, none⟩ : Addr).add j = ⟨0, j, none⟩ := by
        rw [add_lit, Nat.zero_add]
      rw [ha]
      exact this
theorem own : ownKnob Tryz.prog.godebug = none := by kernel_rfl
theorem laidOut : laidOutB Tryz.prog = true := by kernel_rfl
abbrev laid1 {H : Type} : List (String × DataW H) := [("bodkin/utf.most", Rows.laid_bodkin_utf_most)]
theorem door_met (os : Os) (args : Array Value) : laidMetH Tryz.prog laid1 ((World.doorLaid Tryz.prog 400 os).forCall (fun _ _ => 0) ⟨#[], args, []⟩).memory :=
  laidMetH_of_parts3 (fuel := 8) (laidMet_of_run' 8 (by kernel_rfl) (by kernel_rfl)) (by kernel_rfl) (by kernel_rfl)
set_option maxRecDepth 100000 in
theorem weaveSplicesLifted (os : Os) (started : os.Started) (H : Type) (enc : TypeId × Value → H) :
    ReturnsInHanded {} Tryz.checked os 3 .any (fun w args => (Rows.weaveSplicesSpec.pre enc Tryz.prog Tryz.f3 [] false w args ∧ laidMetH Tryz.prog laid1 w) ∧ sizedMet enc Tryz.prog Tryz.f3 (OpenSpec.ofChange Rows.weaveSplicesSpec) false w args)
      (Rows.weaveSplicesSpec.post enc Tryz.prog Tryz.f3 false true false false) :=
  law_lifted_laid (C := Tryz.checked) (tb := 4) (X := fun w => laidMetH Tryz.prog laid1 w) (fun _ _ hh h => h.of_heap hh) own started (by kernel_rfl) Tryz.func3
    (ChangeSpec.witness_shaped (enc := enc) (C := Tryz.checked) (os := os) (X := fun w _ => laidMetH Tryz.prog laid1 w) false (World.doorLaid Tryz.prog 400 os) #[.int .i64 0, .slice none 0 0, .agg #[.int .i64 0, .int .i64 0, .slice none 0 0, .slice none 0 0]] 8 rfl (World.shaped_of_RefB (by kernel_rfl) (by kernel_rfl)) (by kernel_rfl) (by kernel_rfl) (by kernel_rfl) (door_met os _))
    (by kernel_rfl) laidOut rfl rfl (fun ds h => by
      match ds, h with
      | [d1, d2, d3], _ => rfl) (fun W h => glob_of h) s3 (fun y h => ⟨h.2.1.1, h.2.2.1.2.2.1.1, h.2.2.1.2.2.2.1.1⟩)
theorem weaveSplicesOver : Rows.WeaveSplicesSaid :=
  OpenClaim.holds_of_wide 3 Tryz.f3 rfl rfl rfl rfl rfl rfl rfl ⟨rfl, rfl, rfl, rfl, rfl⟩ rfl rfl rfl rfl rfl (by kernel_rfl) Tryz.func3 (by kernel_rfl)
    (of_decide_eq_true (by kernel_rfl)) (by unfold Func.isWrapper; first | (rw [if_pos (by decide +kernel)]; kernel_rfl) | (rw [if_neg (by decide +kernel)]; exact ⟨rfl, rfl⟩))
    (fun os started H enc _ => weaveSplicesLifted os started H enc)
theorem weaveSplicesProved : Rows.WeaveSplicesCardSaid :=
  Claim7.holds_tied_plain_at .later [] [.data] true (true, "3ee184f724dfa3f0519b40d76d6fd737694a5419dfe34215ea84a18e2a30dded") true
    weaveSplicesOver (fun _ h => by cases h) (by kernel_rfl) (fun _ h => by cases h) weaveSplices_row_tie rfl ⟨rfl, rfl⟩ (by kernel_rfl) rfl
    (fun f fn hf hfn => by
      obtain rfl : f = 3 := Option.some.inj ((show Tryz.prog.funcNamed "bodkin/bodkinlaw14.WeaveSplices" = some 3 by kernel_rfl).symm.trans hf) |>.symm
      obtain rfl : fn = Tryz.f3 := (Option.some.inj (Tryz.func3.symm.trans hfn)).symm
      exact ⟨by kernel_rfl, fun j t ht => by
        rw [Tryz.params3] at ht
        have hm : t ∈ [3, 22, 25] := by simpa using Array.mem_of_getElem? ht
        have hall : ([3, 22, 25].all fun u => !Tryz.prog.wantsStandIn u) = true := by kernel_rfl
        exact (show Tryz.prog.wantsStandIn t = false by simpa using List.all_eq_true.1 hall t hm)⟩)
    (by kernel_rfl)
#print axioms weaveSplicesProved
set_option maxRecDepth 100000 in
theorem weaveEditsLifted (os : Os) (started : os.Started) (H : Type) (enc : TypeId × Value → H) :
    ReturnsInHanded {} Tryz.checked os 4 .any (fun w args => (Rows.weaveEditsSpec.pre enc Tryz.prog Tryz.f4 [] false w args ∧ laidMetH Tryz.prog laid1 w) ∧ sizedMet enc Tryz.prog Tryz.f4 (OpenSpec.ofChange Rows.weaveEditsSpec) false w args)
      (Rows.weaveEditsSpec.post enc Tryz.prog Tryz.f4 false true false false) :=
  law_lifted_laid (C := Tryz.checked) (tb := 4) (X := fun w => laidMetH Tryz.prog laid1 w) (fun _ _ hh h => h.of_heap hh) own started (by kernel_rfl) Tryz.func4
    (ChangeSpec.witness_shaped (enc := enc) (C := Tryz.checked) (os := os) (X := fun w _ => laidMetH Tryz.prog laid1 w) false (World.doorLaid Tryz.prog 400 os) #[.int .i64 0, .slice none 0 0, .agg #[.int .i64 0, .int .i64 0, .int .i64 0, .int .i64 0]] 8 rfl (World.shaped_of_RefB (by kernel_rfl) (by kernel_rfl)) (by kernel_rfl) (by kernel_rfl) (by kernel_rfl) (door_met os _))
    (by kernel_rfl) laidOut rfl rfl (fun ds h => by
      match ds, h with
      | [d1, d2, d3], _ => rfl) (fun W h => glob_of h) s4 (fun y h => h.2.1.1)
theorem weaveEditsOver : Rows.WeaveEditsSaid :=
  OpenClaim.holds_of_wide 4 Tryz.f4 rfl rfl rfl rfl rfl rfl rfl ⟨rfl, rfl, rfl, rfl, rfl⟩ rfl rfl rfl rfl rfl (by kernel_rfl) Tryz.func4 (by kernel_rfl)
    (of_decide_eq_true (by kernel_rfl)) (by unfold Func.isWrapper; first | (rw [if_pos (by decide +kernel)]; kernel_rfl) | (rw [if_neg (by decide +kernel)]; exact ⟨rfl, rfl⟩))
    (fun os started H enc _ => weaveEditsLifted os started H enc)
theorem weaveEditsProved : Rows.WeaveEditsCardSaid :=
  Claim7.holds_tied_plain_at .later [] [.data] true (true, "3ee184f724dfa3f0519b40d76d6fd737694a5419dfe34215ea84a18e2a30dded") true
    weaveEditsOver (fun _ h => by cases h) (by kernel_rfl) (fun _ h => by cases h) weaveEdits_row_tie rfl ⟨rfl, rfl⟩ (by kernel_rfl) rfl
    (fun f fn hf hfn => by
      obtain rfl : f = 4 := Option.some.inj ((show Tryz.prog.funcNamed "bodkin/bodkinlaw14.WeaveEdits" = some 4 by kernel_rfl).symm.trans hf) |>.symm
      obtain rfl : fn = Tryz.f4 := (Option.some.inj (Tryz.func4.symm.trans hfn)).symm
      exact ⟨by kernel_rfl, fun j t ht => by
        rw [Tryz.params4] at ht
        have hm : t ∈ [3, 22, 51] := by simpa using Array.mem_of_getElem? ht
        have hall : ([3, 22, 51].all fun u => !Tryz.prog.wantsStandIn u) = true := by kernel_rfl
        exact (show Tryz.prog.wantsStandIn t = false by simpa using List.all_eq_true.1 hall t hm)⟩)
    (by kernel_rfl)
#print axioms weaveEditsProved
end Go.Proofs.YtgaafjjdcpibbaaGreatDoor
