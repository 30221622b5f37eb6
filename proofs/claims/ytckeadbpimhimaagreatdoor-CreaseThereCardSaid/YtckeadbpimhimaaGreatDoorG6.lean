/-
  The statements' proofs. Conditions: none.
-/
import Derived.Test.YtckeadbpimhimaaGreatDoorG5
import Derived.Shelf.SlSortCmp.NoneTotal
import Derived.Test.YtckeadbpimhimaaGreatDoorProg
import Derived.Shelf.SlSortCmp.WholeK
import Derived.Ground.SlsfProg
import Derived.Shelf.Strings.Search3
import Derived.Ground.NamesProg
import Derived.Lib.IndexAny
import Derived.Deep.DeepHandedRow
import Derived.LaidLaws
import Derived.Test.YtckeadbpimhimaaGreatDoorCards
import Derived.Test.YtckeadbpimhimaaGreatDoorTie
import Derived.Test.YtckeadbpimhimaaGreatDoorRows
import Derived.ProofKit
import Derived.LaidMore
import Derived.OpenShut
import Derived.Stop.Joined
namespace Go.Fr.Z16
open Go Go.Fr Go.Proofs
theorem dI3 : Ty.dflt t3 = (0 : Int) := rfl
theorem hid_in (l : List Span) (a : Int) (h : 0 ≤ hidesI l a) : hidesI l a < (l.length : Int) := by
  rcases hidF_cases a l 0 (Int.le_refl _) with ⟨h1, _⟩ | ⟨j, h1, h2, _⟩
  · have : hidesI l a = -1 := h1
    omega
  · have : hidesI l a = 0 + (j : Int) := h2
    omega
theorem p45 : vc45 := by
  unfold vc45
  simp only [eq_self, true_and, and_true, decide_eq_true_eq, decide_eq_false_iff_not]
  rintro ⟨l, p, ⟨⟩⟩
  simp only [maxLen_eq, d46]
  intro hl
  refine ⟨fun z => ∃ k : Nat, k ≤ l.length ∧ z.1 = (k : Int) ∧ hidesI l p = hidesF p (k : Int) (l.drop k), fun z => l.length - z.1.toNat, ⟨0, Nat.zero_le _, rfl, rfl⟩, ?_⟩
  rintro i ⟨k, hk, hi, hr⟩
  simp only at hi hr
  subst hi
  refine ⟨fun h => ?_, fun h => ?_⟩
  · have hlt : k < l.length := by omega
    have hw : IntKind.i64.wrap ((k : Int) + 1) = ((k + 1 : Nat) : Int) := wrap_succ (by omega)
    rw [toNat_cast, hw]
    simp only [toNat_cast]
    rw [drop_cons zSp hlt] at hr
    have e : hidesF p (k : Int) (l.getD k zSp :: l.drop (k + 1)) = if (l.getD k zSp).1 ≤ p ∧ p < (l.getD k zSp).2.1 then (k : Int) else hidesF p ((k : Int) + 1) (l.drop (k + 1)) := rfl
    rw [e] at hr
    generalize l.getD k zSp = x at hr ⊢
    have dec : l.length - (k + 1) < l.length - k := by omega
    have n : ¬ (x.1 ≤ p ∧ p < x.2.1) → ∃ k' : Nat, k' ≤ l.length ∧ ((k + 1 : Nat) : Int) = (k' : Int) ∧ hidesI l p = hidesF p (k' : Int) (l.drop k') := fun g => ⟨k + 1, hlt, rfl, by rw [hr, if_neg g]; rfl⟩
    refine ⟨⟨by omega, h⟩, fun g => ⟨fun g2 => ?_, fun g2 => ⟨n (fun hh => g2 hh.2), dec⟩⟩, fun g => ⟨n (fun hh => g hh.1), dec⟩⟩
    rw [hr, if_pos ⟨g, g2⟩]
  · rw [hr, show k = l.length by omega, List.drop_length]
    rfl
def MapAt {α β : Type} (f : α → β) (l : List α) (z : List β × Int × Unit) : Prop := ∃ k : Nat, k ≤ l.length ∧ z.2.1 = (k : Int) ∧ z.1 = (l.take k).map f
theorem map_step {α β : Type} (f : α → β) {l : List α} (d : α) {k : Nat} (h : k < l.length) : MapAt f l ((l.take k).map f ++ [f (l.getD k d)], ((k + 1 : Nat) : Int), ()) := ⟨k + 1, h, rfl, by
  rw [take_one d h, List.map_append]
  rfl⟩
theorem map_len {α β : Type} (f : α → β) {l : List α} {k : Nat} (h : k ≤ l.length) : ((l.take k).map f).length = k := by
  rw [List.length_map, List.length_take]
  omega
theorem p39 : vc39 := by
  unfold vc39
  simp only [eq_self, true_and, and_true, decide_eq_true_eq, decide_eq_false_iff_not]
  rintro ⟨w, l, ⟨⟩⟩
  simp only [maxLen_eq, d46]
  rintro ⟨hw0, hl⟩
  refine ⟨MapAt (fun x => ((outW w x.1 1).1, (outW w x.2.1 0).1, ())) l, fun z => l.length - z.2.1.toNat, ⟨0, Nat.zero_le _, rfl, rfl⟩, ?_⟩
  rintro a i ⟨k, hk, hi, ha⟩
  simp only at hi ha
  subst hi
  subst ha
  refine ⟨fun h => ?_, fun h => ?_⟩
  · have hlt : k < l.length := by omega
    have hw : IntKind.i64.wrap ((k : Int) + 1) = ((k + 1 : Nat) : Int) := wrap_succ (by omega)
    rw [toNat_cast, hw]
    simp only [toNat_cast, List.length_singleton, map_len _ hk]
    exact ⟨⟨by omega, h⟩, hw0, hw0, by omega, by omega, map_step _ zSp hlt, by omega⟩
  · rw [show k = l.length by omega, List.take_length]
    rfl
theorem p41 : vc41 := by
  unfold vc41
  simp only [eq_self, true_and, and_true, decide_eq_true_eq, decide_eq_false_iff_not]
  rintro ⟨s, l, ⟨⟩⟩
  simp only [maxLen_eq, d46]
  rintro ⟨hw0, hl⟩
  refine ⟨MapAt (fun x => (refOut s x.1 1, refOut s x.2.1 0, ())) l, fun z => l.length - z.2.1.toNat, ⟨0, Nat.zero_le _, rfl, rfl⟩, ?_⟩
  rintro a i ⟨k, hk, hi, ha⟩
  simp only at hi ha
  subst hi
  subst ha
  refine ⟨fun h => ?_, fun h => ?_⟩
  · have hlt : k < l.length := by omega
    have hw : IntKind.i64.wrap ((k : Int) + 1) = ((k + 1 : Nat) : Int) := wrap_succ (by omega)
    rw [toNat_cast, hw]
    simp only [toNat_cast, List.length_singleton, map_len _ hk]
    have st := map_step (fun x : Span => ((refOut s x.1 1, refOut s x.2.1 0, ()) : Span)) zSp hlt
    have dec : l.length - (k + 1) < l.length - k := by omega
    have b1 : (k + 1) * 16 ≤ 140737488355328 := by omega
    have b2 : k + 1 ≤ 9223372036854775807 := by omega
    simp only [hw0, st, dec, b1, b2, and_self, and_true, true_and]
    exact ⟨by omega, h⟩
  · rw [show k = l.length by omega, List.take_length]
    rfl
theorem p47 : vc47 := by
  unfold vc47
  simp only [eq_self, true_and, and_true, decide_eq_true_eq, decide_eq_false_iff_not, beq_iff_eq, beq_eq_false_iff_ne, ne_eq]
  rintro ⟨c, ⟨⟩⟩
  simp only [maxLen_eq, d95]
  intro hl
  have h2 : (items (topT (treeOf c))).length ≤ 10000 := hl.2
  have h3 : (items (topT (treeOf c))).length ≤ 100000 := by omega
  have ep : piecesC (treeOf c) = (items (topT (treeOf c))).map pOf := rfl
  rw [ep]
  refine ⟨⟨hl.1, h3⟩, ?_⟩
  generalize items (topT (treeOf c)) = l at h2
  refine ⟨MapAt pOf l, fun z => l.length - z.2.1.toNat, ⟨0, Nat.zero_le _, rfl, rfl⟩, ?_⟩
  rintro a i ⟨k, hk, hi, ha⟩
  simp only at hi ha
  subst hi
  subst ha
  refine ⟨fun h => ?_, fun h => ?_⟩
  · have hlt : k < l.length := by omega
    have hw : IntKind.i64.wrap ((k : Int) + 1) = ((k + 1 : Nat) : Int) := wrap_succ (by omega)
    rw [toNat_cast, hw]
    have st := map_step pOf zItm hlt
    simp only [toNat_cast, List.length_singleton, map_len _ hk]
    have dec : l.length - (k + 1) < l.length - k := by omega
    have y : (l.getD k zItm).1 = 1 → MapAt pOf l ((l.take k).map pOf ++ [((l.getD k zItm).2.2.1.1, (l.getD k zItm).2.2.1.2.1, ())], ((k + 1 : Nat) : Int), ()) := fun g => by
      unfold pOf at st ⊢
      rw [if_pos g] at st
      exact st
    have n : ¬ (l.getD k zItm).1 = 1 → MapAt pOf l ((l.take k).map pOf ++ [((0 : Int), (l.getD k zItm).2.2.1.2.1, ())], ((k + 1 : Nat) : Int), ()) := fun g => by
      unfold pOf at st ⊢
      rw [if_neg g] at st
      exact st
    (repeat' (first | apply And.intro | intro _))
    all_goals first
      | omega
      | exact y (by assumption)
      | exact n (by assumption)
      | exact dec
  · rw [show k = l.length by omega, List.take_length]
theorem starts_len (l : List Span) (k : Nat) : (((List.range k).map fun k : Nat => (k : Int)).filter (startB l)).length ≤ k := by
  refine Nat.le_trans (List.length_filter_le _ _) ?_
  rw [List.length_map, List.length_range]
  omega
theorem starts_snoc (l : List Span) (k : Nat) : ((List.range (k + 1)).map fun k : Nat => (k : Int)).filter (startB l) = ((List.range k).map fun k : Nat => (k : Int)).filter (startB l) ++ (if startB l (k : Int) = true then [(k : Int)] else []) := by
  rw [List.range_succ, List.map_append, List.filter_append]
  congr 1
  show List.filter (startB l) [(k : Int)] = _
  by_cases h : startB l (k : Int) = true
  · rw [List.filter_cons_of_pos h, if_pos h]; rfl
  · rw [List.filter_cons_of_neg h, if_neg h]; rfl
theorem p18 : vc18 := by
  unfold vc18
  simp only [eq_self, true_and, and_true, decide_eq_true_eq, decide_eq_false_iff_not, beq_iff_eq, beq_eq_false_iff_ne, ne_eq]
  rintro ⟨n, l, ⟨⟩⟩
  simp only [maxLen_eq, d46]
  rintro ⟨hn, hl⟩
  refine ⟨fun z => ∃ k : Nat, k ≤ n.toNat ∧ z.2.1 = (k : Int) ∧ z.1 = ((List.range k).map fun k : Nat => (k : Int)).filter (startB l), fun z => (n - z.2.1).toNat, ⟨0, Nat.zero_le _, rfl, rfl⟩, ?_⟩
  rintro a i ⟨k, hk, hi, ha⟩
  simp only at hi ha
  subst hi
  have la := starts_len l k
  rw [← ha] at la
  refine ⟨fun h => ?_, fun h => ?_⟩
  · have hw : IntKind.i64.wrap ((k : Int) + 1) = ((k + 1 : Nat) : Int) := wrap_succ (by omega)
    rw [hw]
    have hi := hid_in l (k : Int)
    have bk : k + 1 ≤ n.toNat := by omega
    have dec : (n - ((k + 1 : Nat) : Int)).toNat < (n - (k : Int)).toNat := by omega
    have b1 : (a.length + 1) * 8 ≤ 140737488355328 := by omega
    have b2 : a.length + 1 ≤ 9223372036854775807 := by omega
    have sn := starts_snoc l k
    rw [← ha] at sn
    have es : startB l (k : Int) = (decide (hidesI l (k : Int) < 0) || decide ((l.getD (hidesI l (k : Int)).toNat zSp).1 = (k : Int))) := rfl
    have y : hidesI l (k : Int) < 0 ∨ (l.getD (hidesI l (k : Int)).toNat zSp).1 = (k : Int) → ∃ k' : Nat, k' ≤ n.toNat ∧ ((k + 1 : Nat) : Int) = (k' : Int) ∧ a ++ [(k : Int)] = ((List.range k').map fun k : Nat => (k : Int)).filter (startB l) := fun g => ⟨k + 1, bk, rfl, by
      rw [sn, if_pos (by rw [es]; simpa using g)]⟩
    have no : ¬ (hidesI l (k : Int) < 0 ∨ (l.getD (hidesI l (k : Int)).toNat zSp).1 = (k : Int)) → ∃ k' : Nat, k' ≤ n.toNat ∧ ((k + 1 : Nat) : Int) = (k' : Int) ∧ a = ((List.range k').map fun k : Nat => (k : Int)).filter (startB l) := fun g => ⟨k + 1, bk, rfl, by
      rw [sn, if_neg (by rw [es]; simpa using g), List.append_nil]⟩
    simp only [List.length_singleton]
    refine ⟨hl, fun g => ⟨b1, b2, y (.inl g), dec⟩, fun g => ⟨⟨by omega, hi (by omega)⟩, fun g2 => ⟨b1, b2, y (.inr g2), dec⟩, fun g2 => ⟨no (fun hh => hh.elim g g2), dec⟩⟩⟩
  · rw [ha]
    unfold starts
    rw [show k = n.toNat by omega]
theorem count_snoc {l : List Int} {k : Nat} (p : Int) (h : k < l.length) : (l.take (k + 1)).countP (fun x => decide (x < p)) = (l.take k).countP (fun x => decide (x < p)) + (if l.getD k 0 < p then 1 else 0) := by
  rw [take_one 0 h, List.countP_append]
  congr 1
  by_cases g : l.getD k 0 < p
  · rw [if_pos g, List.countP_cons_of_pos (by simpa using g)]; rfl
  · rw [if_neg g, List.countP_cons_of_neg (by simpa using g)]; rfl
theorem starts_bd (n : Int) (l : List Span) : (starts n l).length ≤ n.toNat := starts_len l n.toNat
theorem p16 : vc16 := by
  unfold vc16
  simp only [eq_self, true_and, and_true, decide_eq_true_eq, decide_eq_false_iff_not]
  rintro ⟨n, l, p, ⟨⟩⟩
  simp only [maxLen_eq, d46, dI3]
  rintro ⟨hn, hl⟩
  refine ⟨⟨hn, hl⟩, ?_⟩
  have sb := starts_bd n l
  have er : refOutC n l p = if hidesI l p ≥ 0 ∧ (l.getD (hidesI l p).toNat zSp).1 < p then w64 ((((starts n l).countP fun x => decide (x < p) : Nat) : Int) - 1) else (((starts n l).countP fun x => decide (x < p) : Nat) : Int) := rfl
  rw [er]
  generalize starts n l = S at sb ⊢
  refine ⟨fun z => ∃ k : Nat, k ≤ S.length ∧ z.2.1 = (k : Int) ∧ z.1 = (((S.take k).countP fun x => decide (x < p) : Nat) : Int), fun z => S.length - z.2.1.toNat, ⟨0, Nat.zero_le _, rfl, rfl⟩, ?_⟩
  rintro a i ⟨k, hk, hi, ha⟩
  simp only at hi ha
  subst hi
  have hc : (S.take k).countP (fun x => decide (x < p)) ≤ S.length := Nat.le_trans List.countP_le_length (by rw [List.length_take]; omega)
  refine ⟨fun h => ?_, fun h => ?_⟩
  · have hlt : k < S.length := by omega
    have hw : IntKind.i64.wrap ((k : Int) + 1) = ((k + 1 : Nat) : Int) := wrap_succ (by omega)
    have hwa : IntKind.i64.wrap (a + 1) = a + 1 := wrap_id (by omega) (by omega)
    have cs := count_snoc p hlt
    rw [toNat_cast, hw, hwa]
    simp only [toNat_cast]
    have dec : S.length - (k + 1) < S.length - k := by omega
    refine ⟨⟨by omega, h⟩, fun g => ⟨⟨k + 1, hlt, rfl, ?_⟩, dec⟩, fun g => ⟨⟨k + 1, hlt, rfl, ?_⟩, dec⟩⟩
    · rw [if_pos g] at cs
      show a + 1 = _
      omega
    · rw [if_neg g] at cs
      show a = _
      omega
  · rw [show k = S.length by omega, List.take_length] at ha
    have hi := hid_in l p
    refine ⟨hl, fun g => ⟨⟨g, hi g⟩, fun g2 => ?_, fun g2 => ?_⟩, fun g => ?_⟩
    · rw [if_pos ⟨g, g2⟩, ha]
      rfl
    · rw [if_neg (fun hh => g2 hh.2), ha]
    · rw [if_neg (fun hh => g hh.1), ha]
end Go.Fr.Z16
namespace Go.Fr.Z16
open Go Go.Fr Go.Proofs
theorem beqS (a b : Span) : Ty.beq t46 a b = true ↔ a = b := by
  obtain ⟨a1, a2, ⟨⟩⟩ := a
  obtain ⟨b1, b2, ⟨⟩⟩ := b
  show (a1 == b1 && (a2 == b2 && true)) = true ↔ _
  simp
theorem beqS_f (a b : Span) : Ty.beq t46 a b = false ↔ a ≠ b := by
  cases h : Ty.beq t46 a b with
  | true => simp [(beqS a b).1 h]
  | false =>
    refine ⟨fun _ e => ?_, fun _ => rfl⟩
    rw [(beqS a b).2 e] at h
    cases h
def SameAt {α : Type} (a b : List α) (z : Int × Unit) : Prop := ∃ k : Nat, k ≤ a.length ∧ k ≤ b.length ∧ z.1 = (k : Int) ∧ a.take k = b.take k
theorem same_step {α : Type} {a b : List α} (d : α) {k : Nat} (h : k < a.length) (h2 : k < b.length) (ht : a.take k = b.take k) (he : a.getD k d = b.getD k d) : SameAt a b (((k + 1 : Nat) : Int), ()) :=
  ⟨k + 1, h, h2, rfl, by rw [take_one d h, take_one d h2, ht, he]⟩
theorem same_end {α : Type} [DecidableEq α] {a b : List α} {k : Nat} (h : ¬ (k : Int) < (a.length : Int)) (hk : k ≤ a.length) (ht : a.take k = b.take k) : (((a.length : Nat) : Int) == ((b.length : Nat) : Int)) = decide (a = b) := by
  have e : k = a.length := by omega
  by_cases g : a.length = b.length
  · rw [e, List.take_length, g, List.take_length] at ht
    rw [decide_eq_true ht, beq_iff_eq]
    omega
  · rw [decide_eq_false (fun e => g (by rw [e])), beq_eq_false_iff_ne]
    omega
def RowCAt (t f0 : Int) (l : List Span) (z : Int × List Itm × Int × Unit) : Prop := ∃ k : Nat, k ≤ l.length ∧ z.2.2.1 = (k : Int) ∧ rowC t f0 l = z.2.1 ++ rowC t z.1 (l.drop k) ∧ z.2.1.length ≤ 2 * k
theorem p38 : vc38 := by
  unfold vc38
  simp only [eq_self, true_and, and_true, decide_eq_true_eq, decide_eq_false_iff_not]
  rintro ⟨f0, t, l, ⟨⟩⟩
  simp only [maxLen_eq, d46]
  intro hl
  refine ⟨RowCAt t f0 l, fun z => l.length - z.2.2.1.toNat, ⟨0, Nat.zero_le _, rfl, rfl, Nat.le_refl _⟩, ?_⟩
  rintro f out i ⟨k, hk, hi, hr, hlen⟩
  simp only at hi hr hlen
  subst hi
  refine ⟨fun h => ?_, fun h => ?_⟩
  · have hlt : k < l.length := by omega
    have hw : IntKind.i64.wrap ((k : Int) + 1) = ((k + 1 : Nat) : Int) := wrap_succ (by omega)
    rw [toNat_cast, hw]
    simp only [toNat_cast, List.length_singleton, List.length_append]
    rw [drop_cons zSp hlt] at hr
    generalize l.getD k zSp = x at hr ⊢
    have e : rowC t f (x :: l.drop (k + 1)) = if x.1 > f then plainC (w64 (x.1 - f)) :: foldC (w64 (x.2.1 - x.1)) :: rowC t x.2.1 (l.drop (k + 1)) else foldC (w64 (x.2.1 - x.1)) :: rowC t x.2.1 (l.drop (k + 1)) := rfl
    rw [e] at hr
    have y : x.1 > f → RowCAt t f0 l (x.2.1, out ++ [plainC (IntKind.i64.wrap (x.1 - f))] ++ [foldC (IntKind.i64.wrap (x.2.1 - x.1))], ((k + 1 : Nat) : Int), ()) := fun g => ⟨k + 1, hlt, rfl, by
      rw [if_pos g] at hr
      rw [hr, List.append_assoc, List.append_assoc]
      rfl, by simp; omega⟩
    have n : ¬ x.1 > f → RowCAt t f0 l (x.2.1, out ++ [foldC (IntKind.i64.wrap (x.2.1 - x.1))], ((k + 1 : Nat) : Int), ()) := fun g => ⟨k + 1, hlt, rfl, by
      rw [if_neg g] at hr
      rw [hr, List.append_assoc]
      rfl, by simp; omega⟩
    have dec : l.length - (k + 1) < l.length - k := by omega
    (repeat' (first | apply And.intro | intro _))
    all_goals first
      | omega
      | exact y (by assumption)
      | exact n (by assumption)
      | exact dec
      | rfl
  · have hke : k = l.length := by omega
    have e : rowC t f [] = if t > f then [plainC (w64 (t - f))] else [] := rfl
    rw [hke, List.drop_length, e] at hr
    simp only [List.length_singleton]
    have y : t > f → out ++ [plainC (IntKind.i64.wrap (t - f))] = rowC t f0 l := fun g => by
      rw [if_pos g] at hr
      exact hr.symm
    have n : ¬ t > f → out = rowC t f0 l := fun g => by
      rw [if_neg g, List.append_nil] at hr
      exact hr.symm
    (repeat' (first | apply And.intro | intro _))
    all_goals first
      | omega
      | exact y (by assumption)
      | exact n (by assumption)
end Go.Fr.Z16
namespace Go.Fr.Z16
open Go Go.Fr Go.Proofs
theorem rightL_iff {n : Int} : (f : Int) → (l : List Span) → f ≤ n → (rightL n f l = true ↔ Spans f n l)
  | f, [], h => ⟨fun _ => h, fun _ => rfl⟩
  | f, x :: r, h => by
    have e : rightL n f (x :: r) = if x.1 < f ∨ x.2.1 ≤ x.1 ∨ x.2.1 > n then false else rightL n x.2.1 r := rfl
    rw [e]
    by_cases hc : x.1 < f ∨ x.2.1 ≤ x.1 ∨ x.2.1 > n
    · rw [if_pos hc]
      refine ⟨fun h => (by cases h), fun ⟨h1, h2, h3⟩ => ?_⟩
      have := spans_le h3
      omega
    · rw [if_neg hc, rightL_iff x.2.1 r (by omega)]
      exact ⟨fun h => ⟨by omega, by omega, h⟩, fun h => h.2.2⟩
def wovenS (L : List Inl) (l : List Span) : List Span := l.map fun x => (x.1 + lensA x.1 1 L, x.2.1 + lensA x.2.1 0 L, ())
theorem woven_spans {n : Int} {L : List Inl} : (f : Int) → (l : List Span) → Spans f n l → Spans (f + lensA f 0 L) (n + lens L) (wovenS L l)
  | f, [], h => by
    have h : f ≤ n := h
    have := lensA_le f 0 L
    show f + lensA f 0 L ≤ n + lens L
    omega
  | f, x :: r, h => by
    obtain ⟨h1, h2, h3⟩ := h
    have a := lensA_mono (a := f) (b := 0) (c := x.1) (d := 1) (l := L) (fun y _ h => by
      rcases h with h | h
      · unfold isAhead; omega
      · omega)
    have b := lensA_mono (a := x.1) (b := 1) (c := x.2.1) (d := 0) (l := L) (fun y _ h => by
      unfold isAhead at h ⊢
      omega)
    refine ⟨?_, ?_, woven_spans x.2.1 r h3⟩
    · show f + lensA f 0 L ≤ x.1 + lensA x.1 1 L; omega
    · show x.1 + lensA x.1 1 L < x.2.1 + lensA x.2.1 0 L; omega
def WOk (n : Int) (L : List Inl) : Prop := 0 ≤ n ∧ n ≤ 1000 ∧ L.length ≤ 60 ∧ Inls 0 n L
theorem wok_lens {n : Int} {L : List Inl} (h : WOk n L) : 0 ≤ lens L ∧ lens L ≤ 60000 := by
  obtain ⟨h0, h1, h2, h3⟩ := h
  have := (weave_ok h0 (by omega) h2 h3).2.2.2.2.2.2.2
  exact this
theorem wok_zero {n : Int} {L : List Inl} (h : WOk n L) : lensA 0 0 L = 0 := lensA_none fun x hx ha => by
  have := (h.2.2.2.1 x hx).1
  unfold isAhead at ha
  omega
theorem wok_spans {n : Int} {L : List Inl} (h : WOk n L) {l : List Span} (hl : Spans 0 n l) : Spans 0 (n + lens L) (wovenS L l) := by
  have := woven_spans (L := L) 0 l hl
  rw [wok_zero h] at this
  exact this
theorem sizes_w {n : Int} {L : List Inl} (h : WOk n L) : nW (weaveI (some (n, L, ()))) = n ∧ mW (weaveI (some (n, L, ()))) = n + lens L ∧ WfN (topT (treeOf (weaveI (some (n, L, ()))))) := by
  obtain ⟨h0, h1, h2, h3⟩ := h
  obtain ⟨w1, w2, w3, w4, w5, w6, w7, w8, w9⟩ := weave_ok h0 (by omega) h2 h3
  have so := sum_top w2 (by rw [w3]; exact rowly_fine w5) (by rw [w3]; omega)
  unfold SumOk at so
  rw [w3, w6, w7] at so
  rw [w1]
  exact ⟨so.2.1, so.2.2, w2⟩
theorem places_w {n : Int} {L : List Inl} (h : WOk n L) {l : List Span} (hl : Spans 0 n l) : placesC (weaveI (some (n, L, ()))) l = wovenS L l ∧ refPlaces (n, L, 0, ()) l = wovenS L l := by
  obtain ⟨h0, h1, h2, h3⟩ := h
  refine ⟨List.map_congr_left fun x hx => ?_, List.map_congr_left fun x hx => ?_⟩
  · have := spans_all hl x hx
    rw [out_ok h0 (by omega) h2 h3, out_ok h0 (by omega) h2 h3, if_neg (by omega), if_neg (by omega)]
  · have := spans_all hl x hx
    rw [refOut_ok h2 h3 (by omega) (by omega) (by omega), refOut_ok h2 h3 (by omega) (by omega) (by omega)]
theorem spots_w {n : Int} {L : List Inl} (h : WOk n L) : ((spots (n, L, 0, ())).length : Int) = n + lens L := by
  obtain ⟨h0, h1, h2, h3⟩ := h
  obtain ⟨w1, w2, w3, w4, w5, w6, w7, w8, w9⟩ := weave_ok h0 (by omega) h2 h3
  rw [spots_ok h0 h3, expand_len 0 w5, w7]
def CrOf (m : Int) (pl : List Span) (c : Wve) : Prop := c ≠ none ∧ WfN (topT (treeOf c)) ∧ items (topT (treeOf c)) = rowK m 0 pl
theorem newC_ok {n : Int} {L : List Inl} (h : WOk n L) {l : List Span} (hl : Spans 0 n l) (hn : l.length ≤ 1000) :
    newC (weaveI (some (n, L, ()))) l = (some (some (buildT (rowK (n + lens L) 0 (wovenS L l)), ()), ()), 0, ()) ∧ CrOf (n + lens L) (wovenS L l) (some (some (buildT (rowK (n + lens L) 0 (wovenS L l)), ()), ())) := by
  obtain ⟨s1, s2, s3⟩ := sizes_w h
  obtain ⟨p1, p2⟩ := places_w h hl
  have sp := wok_spans h hl
  have lb := wok_lens h
  obtain ⟨h0, h1, h2, h3⟩ := h
  have len := rowK_len (t := n + lens L) 0 (wovenS L l)
  have ll : (wovenS L l).length = l.length := List.length_map _
  have ht : n + lens L ≤ 1099511627776 := by omega
  have e := rowC_eq ht 0 _ (Int.le_refl _) sp
  have nt := newT_ok (l := rowK (n + lens L) 0 (wovenS L l)) (by omega) (rowK_check ht (Int.le_refl _) sp)
  obtain ⟨b1, b2⟩ := buildT_ok (l := rowK (n + lens L) 0 (wovenS L l)) (by omega)
  refine ⟨?_, by simp, b1, b2⟩
  unfold newC
  rw [s1, s2, p1, e, nt, (rightL_iff 0 l h0).2 hl, if_neg (by decide), if_neg (by simp)]
theorem newC_bad {n : Int} {L : List Inl} (h : WOk n L) {l : List Span} (hl : ¬ Spans 0 n l) : newC (weaveI (some (n, L, ()))) l = (none, 1, ()) := by
  obtain ⟨s1, s2, s3⟩ := sizes_w h
  unfold newC
  rw [s1, if_pos]
  have := mt (rightL_iff 0 l h.1).1 hl
  simpa using this
theorem cr_fine {m : Int} {pl : List Span} {c : Wve} (h : CrOf m pl c) (hm : m ≤ 1000000) (sp : Spans 0 m pl) (hn : pl.length ≤ 1000) :
    CRow (rowK m 0 pl) ∧ Fine (items (topT (treeOf c))) ∧ (items (topT (treeOf c))).length ≤ 2001 ∧ nW c = m ∧ mW c = sum1 (rowK m 0 pl) ∧ (sum1 (rowK m 0 pl) = ((starts m pl).length : Int)) ∧ 0 ≤ m ∧ 0 ≤ sum1 (rowK m 0 pl) ∧ sum1 (rowK m 0 pl) ≤ m := by
  obtain ⟨h1, h2, h3⟩ := h
  have cr := rowK_crow (by omega : m ≤ 1099511627776) 0 pl (Int.le_refl _) sp
  have len := rowK_len (t := m) 0 pl
  have ff := crow_fine cr
  have so := sum_top h2 (by rw [h3]; exact ff) (by rw [h3]; omega)
  unfold SumOk at so
  have s0 := rowK_sum0 0 pl sp
  rw [h3, s0] at so
  have el : ((starts m pl).length : Int) = sum1 (rowK m 0 pl) := by
    rw [starts_eq sp]
    exact expC_len 0 cr
  have le : (starts m pl).length ≤ m.toNat := by
    unfold starts
    refine Nat.le_trans (List.length_filter_le _ _) ?_
    simp
  have m0 := spans_le sp
  rw [h3]
  refine ⟨cr, ff, by omega, ?_, so.2.2, el.symm, m0, by omega, by omega⟩
  have := so.2.1
  show (sumOf (topT (treeOf c))).2.1.1 = m
  omega
theorem find_cr {m : Int} {pl : List Span} {c : Wve} (h : CrOf m pl c) (hm : m ≤ 1000000) (sp : Spans 0 m pl) (hn : pl.length ≤ 1000) {dim : Int} (hd : dim = 0 ∨ dim = 1) (a bias : Int) :
    findT (treeOf c) dim a bias = if a < 0 ∨ a > (if dim = 0 then m else sum1 (rowK m 0 pl)) ∨ (bias ≠ 0 ∧ bias ≠ 1) then ((0, zS, 0, ()), 1, ()) else (findP (topT (treeOf c)) dim a bias, 0, ()) := by
  obtain ⟨f1, f2, f3, f4, f5, f6, f7, f8, f9⟩ := cr_fine h hm sp hn
  unfold findT
  have e : sizeD (sumOf (topT (treeOf c))) dim = if dim = 0 then m else sum1 (rowK m 0 pl) := by
    rcases hd with rfl | rfl
    · exact f4
    · exact f5
  rw [e]
  have e2 : (dim < 0 ∨ dim > 3 ∨ a < 0 ∨ a > (if dim = 0 then m else sum1 (rowK m 0 pl)) ∨ (bias ≠ 0 ∧ bias ≠ 1)) = (a < 0 ∨ a > (if dim = 0 then m else sum1 (rowK m 0 pl)) ∨ (bias ≠ 0 ∧ bias ≠ 1)) := by
    rw [eq_iff_iff]
    exact ⟨fun h => by rcases h with h | h | h <;> first | omega | exact h, fun h => .inr (.inr h)⟩
  simp only [e2]
theorem outCr_ok {m : Int} {pl : List Span} {c : Wve} (h : CrOf m pl c) (hm : m ≤ 1000000) (sp : Spans 0 m pl) (hn : pl.length ≤ 1000) (a : Int) :
    outCr c a = if a < 0 ∨ a > m then (0, 1, ()) else (outC a (rowK m 0 pl) 0 0, 0, ()) := by
  obtain ⟨f1, f2, f3, f4, f5, f6, f7, f8, f9⟩ := cr_fine h hm sp hn
  have ff := find_cr h hm sp hn (.inl rfl) a 1
  rw [if_pos rfl] at ff
  unfold outCr
  by_cases hc : a < 0 ∨ a > m
  · rw [if_pos (by omega)] at ff
    rw [if_pos hc, ff, if_pos (by decide)]
  · rw [if_neg (by omega)] at ff
    rw [if_neg hc, ff, if_neg (by simp)]
    obtain ⟨q1, q2, q3⟩ := findP_is (dim := 0) (v := a) (bias := 1) (.inl rfl) h.2.1 f2 (by omega)
    rw [h.2.2] at q1 q2 q3 f2 f3
    have bd := findC_bd (dim := 0) (v := a) (bias := 1) (rowK m 0 pl) 0 0 0 f2
    rw [rowK_sum0 0 pl sp] at bd
    obtain ⟨j, j1, j2, j3⟩ := outC_find (a := a) (rowK m 0 pl) 0 0 0
    have ea : (atT (treeOf c) (findC 0 a 1 (rowK m 0 pl) 0 0 0).1).1 = (rowK m 0 pl).getD j zItm := by
      unfold atT
      rw [h.2.2, j1]
      by_cases hj : j < (rowK m 0 pl).length
      · rw [if_neg (by omega), show (0 + (j : Int)).toNat = j by omega]
      · rw [if_pos (by omega), List.getD_eq_getElem?_getD, List.getElem?_eq_none (by omega)]
        rfl
    show (if (atT (treeOf c) (findP (topT (treeOf c)) 0 a 1).1).1.1 = 1 then ((findP (topT (treeOf c)) 0 a 1).2.1.2.1.2.1, (0 : Int), ()) else (w64 (w64 ((findP (topT (treeOf c)) 0 a 1).2.1.2.1.2.1 + a) - (findP (topT (treeOf c)) 0 a 1).2.1.2.1.1), (0 : Int), ())) = _
    rw [q1, q2, q3, ea, j3]
    generalize findC 0 a 1 (rowK m 0 pl) 0 0 0 = f at bd
    split
    · rfl
    · rw [w64_id (n := f.2.2 + a) (by omega) (by omega), w64_id (by omega) (by omega)]
      congr 1
      omega
theorem inCr_ok {m : Int} {pl : List Span} {c : Wve} (h : CrOf m pl c) (hm : m ≤ 1000000) (sp : Spans 0 m pl) (hn : pl.length ≤ 1000) (a : Int) :
    inCr c a = if a < 0 ∨ a > ((starts m pl).length : Int) then (0, 1, ()) else (inC a (rowK m 0 pl) 0 0, 0, ()) := by
  obtain ⟨f1, f2, f3, f4, f5, f6, f7, f8, f9⟩ := cr_fine h hm sp hn
  have ff := find_cr h hm sp hn (.inr rfl) a 1
  rw [if_neg (show ¬ (1 : Int) = 0 by decide), f6] at ff
  unfold inCr
  by_cases hc : a < 0 ∨ a > ((starts m pl).length : Int)
  · rw [if_pos (by omega)] at ff
    rw [if_pos hc, ff, if_pos (by decide)]
  · rw [if_neg (by omega)] at ff
    rw [if_neg hc, ff, if_neg (by simp)]
    obtain ⟨q1, q2, q3⟩ := findP_is (dim := 1) (v := a) (bias := 1) (.inr rfl) h.2.1 f2 (by omega)
    rw [h.2.2] at q1 q2 q3 f2 f3
    have bd := findC_bd (dim := 1) (v := a) (bias := 1) (rowK m 0 pl) 0 0 0 f2
    rw [rowK_sum0 0 pl sp] at bd
    have j3 := inC_find (a := a) (rowK m 0 pl) 0 0 0
    show (w64 (w64 ((findP (topT (treeOf c)) 1 a 1).2.1.2.1.1 + a) - (findP (topT (treeOf c)) 1 a 1).2.1.2.1.2.1), (0 : Int), ()) = _
    rw [q2, q3, j3]
    generalize findC 1 a 1 (rowK m 0 pl) 0 0 0 = f at bd
    rw [w64_id (n := f.2.1 + a) (by omega) (by omega), w64_id (by omega) (by omega)]
    congr 1
    omega
theorem pieces_ok {m : Int} {pl : List Span} {c : Wve} (h : CrOf m pl c) (hm : m ≤ 1000000) (sp : Spans 0 m pl) : piecesC (treeOf c) = refPiecesC m pl := by
  rw [refPieces_eq (by omega) sp]
  unfold piecesC
  rw [h.2.2]
  rfl
theorem isC_ok {n : Int} {L L0 : List Inl} {l : List Span} {u : Unit} {c : Wve} (h : WOk n L) (hl : Spans 0 n l) (hn : l.length ≤ 1000) (hw : newW n L0 = (n, L, 0, ())) (hc : CrOf (n + lens L) (wovenS L l) c) : isC c (n, L0, l, u) = true := by
  have lb := wok_lens h
  have sp := wok_spans h hl
  have hm : n + lens L ≤ 1000000 := by have := h.2.1; omega
  have ll : (wovenS L l).length = l.length := List.length_map _
  obtain ⟨f1, f2, f3, f4, f5, f6, f7, f8, f9⟩ := cr_fine hc hm sp (by omega)
  have ez : sizeT (n, L0, l, u) = n + lens L := by
    show ((spots (newW n L0)).length : Int) = _
    rw [hw]
    exact spots_w h
  have ep : placesT (n, L0, l, u) = wovenS L l := by
    show refPlaces (newW n L0) l = _
    rw [hw]
    exact (places_w h hl).2
  unfold isC
  rw [ez, ep, pieces_ok hc hm sp, f4, f5, f6, high_wf hc.2.1, decide_eq_true rfl, decide_eq_true rfl, decide_eq_true rfl]
  cases c with
  | none => exact absurd rfl hc.1
  | some c => rfl
end Go.Fr.Z16
namespace Go.Fr.Z16
open Go Go.Fr Go.Proofs
theorem d105 : Ty.dflt t105 = ((0, 0, ()) : Pce) := rfl
theorem d106 : Ty.dflt t106 = ((0, 0, ()) : Pce) := rfl
theorem pce_len (l : List Span) (out : List Pce) (a : Int) : (pceC l out a).length ≤ out.length + 1 := by
  unfold pceC
  split
  · simp
  · split
    · rw [List.length_set]; omega
    · simp
theorem p48 : vc48 := by
  unfold vc48
  simp only [eq_self, true_and, and_true, decide_eq_true_eq, decide_eq_false_iff_not, beq_iff_eq, beq_eq_false_iff_ne, ne_eq]
  rintro ⟨n, l, ⟨⟩⟩
  simp only [maxLen_eq, d46, d106, dI3]
  rintro ⟨hn, hl⟩
  refine ⟨⟨hn, hl⟩, ?_⟩
  have er : refPiecesC n l = (starts n l).foldl (pceC l) [] := rfl
  have sb := starts_bd n l
  rw [er]
  generalize starts n l = S at sb ⊢
  refine ⟨fun z => ∃ k : Nat, k ≤ S.length ∧ z.2.1 = (k : Int) ∧ z.1 = (S.take k).foldl (pceC l) [] ∧ z.1.length ≤ k, fun z => S.length - z.2.1.toNat, ⟨0, Nat.zero_le _, rfl, rfl, Nat.le_refl _⟩, ?_⟩
  rintro a i ⟨k, hk, hi, ha, la⟩
  simp only at hi ha la
  subst hi
  refine ⟨fun h => ?_, fun h => by rw [ha, show k = S.length by omega, List.take_length]⟩
  have hlt : k < S.length := by omega
  have hw : IntKind.i64.wrap ((k : Int) + 1) = ((k + 1 : Nat) : Int) := wrap_succ (by omega)
  have hwa : IntKind.i64.wrap ((a.length : Int) - 1) = (a.length : Int) - 1 := wrap_id (by omega) (by omega)
  rw [toNat_cast, hw, hwa]
  simp only [toNat_cast, List.length_singleton]
  have st : (S.take (k + 1)).foldl (pceC l) [] = pceC l a (S.getD k 0) := by
    rw [take_one 0 hlt, List.foldl_append, ← ha]
    rfl
  have pl := pce_len l a (S.getD k 0)
  have hi := hid_in l (S.getD k 0)
  generalize S.getD k 0 = p at st pl hi ⊢
  have dec : S.length - (k + 1) < S.length - k := by omega
  have b1 : (a.length + 1) * 16 ≤ 140737488355328 := by omega
  have b2 : a.length + 1 ≤ 9223372036854775807 := by omega
  have Zf : ∀ b, b = pceC l a p → ∃ k' : Nat, k' ≤ S.length ∧ ((k + 1 : Nat) : Int) = (k' : Int) ∧ b = (S.take k').foldl (pceC l) [] ∧ b.length ≤ k' := fun b hb => ⟨k + 1, hlt, rfl, by rw [st, hb], by rw [hb]; omega⟩
  have y : hidesI l p ≥ 0 → pceC l a p = a ++ [(w64 ((l.getD (hidesI l p).toNat zSp).2.1 - (l.getD (hidesI l p).toNat zSp).1), 1, ())] := fun g => by
    unfold pceC
    rw [if_pos g]
  have n1 : ¬ hidesI l p ≥ 0 → (a.length : Int) - 1 ≥ 0 → (a.getD ((a.length : Int) - 1).toNat (0, 0, ())).1 = 0 → pceC l a p = a.set ((a.length : Int) - 1).toNat ((a.getD ((a.length : Int) - 1).toNat (0, 0, ())).1, w64 ((a.getD ((a.length : Int) - 1).toNat (0, 0, ())).2.1 + 1), ()) := fun g g2 g3 => by
    have e : ((a.length : Int) - 1).toNat = a.length - 1 := by omega
    rw [e] at g3 ⊢
    unfold pceC
    rw [if_neg g, if_pos ⟨fun e => by rw [e] at g2; simp at g2, g3⟩]
  have n2 : ¬ hidesI l p ≥ 0 → ((a.length : Int) - 1 ≥ 0 → ¬ (a.getD ((a.length : Int) - 1).toNat (0, 0, ())).1 = 0) → pceC l a p = a ++ [(0, 1, ())] := fun g g2 => by
    have e : ((a.length : Int) - 1).toNat = a.length - 1 := by omega
    rw [e] at g2
    unfold pceC
    rw [if_neg g, if_neg]
    rintro ⟨h1, h2⟩
    have : a.length ≠ 0 := fun e => h1 (List.eq_nil_of_length_eq_zero e)
    exact g2 (by omega) h2
  refine ⟨⟨by omega, h⟩, hl, fun g => ?_, fun g => ⟨fun g2 => ⟨by omega, fun g3 => ⟨by omega, by omega, Zf _ (n1 g g2 g3).symm, dec⟩, fun g3 => ⟨b1, b2, Zf _ (n2 g (fun _ => g3)).symm, dec⟩⟩, fun g2 => ⟨b1, b2, Zf _ (n2 g (fun h => absurd h g2)).symm, dec⟩⟩⟩
  have f1 := Zf _ (y g).symm
  have f2 : 0 ≤ hidesI l p := g
  have f3 := hi g
  have f4 : IntKind.i64.wrap ((l.getD (hidesI l p).toNat zSp).2.1 - (l.getD (hidesI l p).toNat zSp).1) = w64 ((l.getD (hidesI l p).toNat zSp).2.1 - (l.getD (hidesI l p).toNat zSp).1) := rfl
  rw [f4]
  simp only [f1, f2, f3, dec, b1, b2, and_self, and_true, true_and]
end Go.Fr.Z16
namespace Go.Fr.Z16
open Go Go.Fr Go.Proofs
theorem p8 : vc8 := by
  unfold vc8
  simp only [eq_self, true_and, and_true, decide_eq_true_eq, decide_eq_false_iff_not]
  rintro ⟨⟨n, l, hid, ⟨⟩⟩, ⟨⟩⟩
  simp only [maxLen_eq, dInl]
  rintro ⟨hl, hh⟩
  have yes : (n < 0 ∨ n > 200 ∨ (l.length : Int) > 60 ∨ (hid.length : Int) > 100 ∨ ∃ x ∈ l, ((txt x).size : Int) > 200) → true = longC (n, l, hid, ()) := fun h => by
    unfold longC
    rcases h with h | h | h | h | ⟨x, h1, h2⟩
    · simp [h]
    · simp [h]
    · simp [h]
    · simp [h]
    · show true = (_ || _ || _ || _ || (l.any fun x => decide (((txt x).size : Int) > 200)) || _)
      rw [List.any_eq_true.2 ⟨x, h1, decide_eq_true h2⟩, Bool.or_true, Bool.true_or]
  refine ⟨fun h => yes (.inl h), fun g0 => ⟨fun h => yes (.inr (.inl h)), fun g1 => ⟨fun h => yes (.inr (.inr (.inl h))), fun g2 => ⟨fun h => yes (.inr (.inr (.inr (.inl h)))), fun g3 => ?_⟩⟩⟩⟩
  refine ⟨fun z => ∃ k : Nat, k ≤ l.length ∧ z.1 = (k : Int) ∧ ∀ j, j < k → ¬ (((txt (l.getD j zI0)).size : Int) > 200), fun z => l.length - z.1.toNat, ⟨0, Nat.zero_le _, rfl, fun j h => by omega⟩, ?_⟩
  rintro i ⟨k, hk, hi, hno⟩
  simp only at hi
  subst hi
  refine ⟨fun h1 => ⟨⟨by omega, h1⟩, fun h2 => ?_, fun h2 => ?_⟩, fun h1 => ?_⟩
  · rw [toNat_cast] at h2
    have hlt : k < l.length := by omega
    exact yes (.inr (.inr (.inr (.inr ⟨_, getD_in zI0 hlt, h2⟩))))
  · rw [toNat_cast] at h2
    have hw : IntKind.i64.wrap ((k : Int) + 1) = ((k + 1 : Nat) : Int) := wrap_succ (by omega)
    rw [hw]
    refine ⟨⟨k + 1, by omega, rfl, fun j hj => ?_⟩, by simp only [toNat_cast]; omega⟩
    by_cases e : j = k
    · subst e; exact h2
    · exact hno j (by omega)
  · have hke : k = l.length := by omega
    subst hke
    have sz : ∀ x ∈ l, ¬ ((txt x).size : Int) > 200 := fun x hx => by
      obtain ⟨j, hj, e⟩ := List.getElem_of_mem hx
      have := hno j hj
      rw [getD_of zI0 hj, e] at this
      exact this
    refine ⟨⟨by omega, fun x hx => by have := sz x hx; omega⟩, ?_⟩
    unfold longC
    have ea : (l.any fun x => decide (((txt x).size : Int) > 200)) = false := by
      rw [List.any_eq_false]
      intro x hx
      simpa using sz x hx
    show _ = (decide (n < 0) || decide (n > 200) || decide ((l.length : Int) > 60) || decide ((hid.length : Int) > 100) || (l.any fun x => decide (((txt x).size : Int) > 200)) || decide ((newW n l).2.2.1 ≠ 0))
    rw [decide_eq_false g0, decide_eq_false g1, decide_eq_false g2, decide_eq_false g3, ea]
    simp only [Bool.false_or]
    rw [Bool.eq_iff_iff]
    simp
end Go.Fr.Z16
namespace Go.Fr.Z16
open Go Go.Fr Go.Proofs
set_option maxRecDepth 100000
def hs3 : List (Nat × Nat × Hint) := []
def nm3 : List Nat := [3000000062]
noncomputable def E3 : Env := env tab [(8, cLongC), (9, cRefRight), (10, cSix), (12, cWoven), (11, cNewC), (13, cSizeT), (14, cPlacesT), (15, cOutC), (16, cRefOutC), (17, cInC), (18, cStarts), (19, cRefInC)] [] gl hs3 nm3
def vc3 : Prop :=
 ∀ (x : (Int × List Inl × List (Int × Int × Unit) × Unit) × Int × Unit),
 let y := (newC (wovenT x.fst) x.fst.snd.snd.fst).fst;
 let y_1 := x.fst;
 let y_2 := x.snd.fst;
 let y_3 := decide (y_2 < (0 : Int));
 let y_4 := decide (y_2 > (↑(List.length (starts (sizeT y_1) (placesT y_1))) : Int));
 let y_5 := y_1.snd.snd.fst;
 let y_6 := y_1.snd.fst;
 let y_7 := decide (y_2 > sizeT y_1);
 let y_8 := y_1.fst;
 let y_9 := List.length (placesT y_1);
 let y_10 := (newC (wovenT y_1) y_5).snd.fst != (0 : Int);
 let y_11 := inCr y y_2;
 let y_12 := outCr y y_2;
 let y_13 := y_12.snd.fst != (1 : Int);
 let y_14 := y_12.fst != (0 : Int);
 let y_15 := y_12.fst != refOutC (sizeT y_1) (placesT y_1) y_2;
 let y_16 := y_12.snd.fst != (0 : Int);
 let y_17 := y_11.snd.fst == (1 : Int);
 let y_18 := y_11.fst == refInC (sizeT y_1) (placesT y_1) y_2;
 let y_19 := y_11.fst == (0 : Int);
 let y_20 := y_11.snd.fst == (0 : Int);
 List.length y_6 ≤ maxLen ∧ List.length y_5 ≤ maxLen →
 (List.length y_6 ≤ maxLen ∧ List.length y_5 ≤ maxLen) ∧
 (longC y_1 = true → True ∧ true = true) ∧
 (longC y_1 = false →
 List.length y_5 ≤ maxLen ∧
 ((!rightL y_8 (0 : Int) y_5) = true → True ∧ true = true) ∧
 ((!rightL y_8 (0 : Int) y_5) = false →
 (List.length y_6 ≤ maxLen ∧ shortL y_6) ∧
 (WfN (topT (treeOf (wovenT y_1))) ∧ List.length y_5 ≤ (10000 : Nat)) ∧
 (y_10 = true → false = true) ∧
 (y_10 = false →
 (Option.isNone y = true → false = true) ∧
 (Option.isNone y = false →
 (okTxt y_1 ∧ smallW (newW y_8 y_6)) ∧
 (okTxt y_1 ∧ smallW (newW y_8 y_6)) ∧
 okTre (treeOf y) ∧
 (y_3 = true →
 (y_13 = true → false = true) ∧
 (y_13 = false →
 (y_14 = true → false = true) ∧
 (y_14 = false →
 WfN (topT (treeOf y)) ∧
 (y_3 = true →
 (y_17 = true →
 (y_19 = true → True ∧ true = true) ∧
 (y_19 = false → false = true)) ∧
 (y_17 = false → false = true)) ∧
 (y_3 = false →
 (sizeT y_1 ≤ (1000000000 : Int) ∧ y_9 ≤ maxLen) ∧
 (y_4 = true →
 (y_17 = true →
 (y_19 = true → True ∧ true = true) ∧
 (y_19 = false → false = true)) ∧
 (y_17 = false → false = true)) ∧
 (y_4 = false →
 (y_20 = true →
 (sizeT y_1 ≤ (1000000000 : Int) ∧
 y_9 ≤ maxLen ∧
 (0 : Int) ≤ y_2 ∧
 y_2 ≤
 (↑(List.length
 (starts (sizeT y_1) (placesT y_1))) :
 Int)) ∧
 (y_18 = true → True ∧ true = true) ∧
 (y_18 = false → false = true)) ∧
 (y_20 = false → false = true)))))) ∧
 (y_3 = false →
 (y_7 = true →
 (y_13 = true → false = true) ∧
 (y_13 = false →
 (y_14 = true → false = true) ∧
 (y_14 = false →
 WfN (topT (treeOf y)) ∧
 (y_3 = true →
 (y_17 = true →
 (y_19 = true → True ∧ true = true) ∧
 (y_19 = false → false = true)) ∧
 (y_17 = false → false = true)) ∧
 (y_3 = false →
 (sizeT y_1 ≤ (1000000000 : Int) ∧ y_9 ≤ maxLen) ∧
 (y_4 = true →
 (y_17 = true →
 (y_19 = true → True ∧ true = true) ∧
 (y_19 = false → false = true)) ∧
 (y_17 = false → false = true)) ∧
 (y_4 = false →
 (y_20 = true →
 (sizeT y_1 ≤ (1000000000 : Int) ∧
 y_9 ≤ maxLen ∧
 (0 : Int) ≤ y_2 ∧
 y_2 ≤
 (↑(List.length
 (starts (sizeT y_1) (placesT y_1))) :
 Int)) ∧
 (y_18 = true → True ∧ true = true) ∧
 (y_18 = false → false = true)) ∧
 (y_20 = false → false = true)))))) ∧
 (y_7 = false →
 (y_16 = true → false = true) ∧
 (y_16 = false →
 (sizeT y_1 ≤ (1000000000 : Int) ∧ y_9 ≤ maxLen) ∧
 (y_15 = true → false = true) ∧
 (y_15 = false →
 WfN (topT (treeOf y)) ∧
 (y_3 = true →
 (y_17 = true →
 (y_19 = true → True ∧ true = true) ∧
 (y_19 = false → false = true)) ∧
 (y_17 = false → false = true)) ∧
 (y_3 = false →
 (sizeT y_1 ≤ (1000000000 : Int) ∧ y_9 ≤ maxLen) ∧
 (y_4 = true →
 (y_17 = true →
 (y_19 = true → True ∧ true = true) ∧
 (y_19 = false → false = true)) ∧
 (y_17 = false → false = true)) ∧
 (y_4 = false →
 (y_20 = true →
 (sizeT y_1 ≤ (1000000000 : Int) ∧
 y_9 ≤ maxLen ∧
 (0 : Int) ≤ y_2 ∧
 y_2 ≤
 (↑(List.length
 (starts (sizeT y_1)
 (placesT y_1))) :
 Int)) ∧
 (y_18 = true → True ∧ true = true) ∧
 (y_18 = false → false = true)) ∧
 (y_20 = false → false = true)))))))))))
theorem vcEq3 : fnVC E3 Tryz.f3 (bodyOf Tryz.f3) cCreasePlaces = vc3 := by kernel_rfl
def hs4 : List (Nat × Nat × Hint) := [(0, 9, ⟨[.slot 7 t3, .slot 8 t3], [1, 3, 5, 6], [1], []⟩),
  (0, 21, ⟨[.slot 7 t3, .slot 14 t3], [3, 5, 6, 13], [], []⟩),
  (0, 25, ⟨[.slot 15 t3, .slot 99 t3], [3, 5, 6, 7, 13, 14, 97, 98], [], []⟩)]
def nm4 : List Nat := [3000000062]
noncomputable def E4 : Env := env tab [(8, cLongC), (9, cRefRight), (10, cSix), (12, cWoven), (11, cNewC), (20, cSizesC), (17, cInC), (15, cOutC), (14, cPlacesT)] [] gl hs4 nm4
def vc4 : Prop :=
 ∀ (x : (Int × List Inl × List (Int × Int × Unit) × Unit) × Unit),
 let y := (newC (wovenT x.fst) x.fst.snd.snd.fst).fst;
 let y_1 := x.fst;
 let y_2 := y_1.snd.snd.fst;
 let y_3 := y_1.snd.fst;
 let y_4 := (↑(List.length (placesT y_1)) : Int);
 let y_5 := y_1.fst;
 let y_6 := (newC (wovenT y_1) y_2).snd.fst != (0 : Int);
 List.length y_3 ≤ maxLen ∧ List.length y_2 ≤ maxLen →
 (List.length y_3 ≤ maxLen ∧ List.length y_2 ≤ maxLen) ∧
 (longC y_1 = true → True ∧ true = true) ∧
 (longC y_1 = false →
 List.length y_2 ≤ maxLen ∧
 ((!rightL y_5 (0 : Int) y_2) = true → True ∧ true = true) ∧
 ((!rightL y_5 (0 : Int) y_2) = false →
 (List.length y_3 ≤ maxLen ∧ shortL y_3) ∧
 (WfN (topT (treeOf (wovenT y_1))) ∧ List.length y_2 ≤ (10000 : Nat)) ∧
 (y_6 = true → false = true) ∧
 (y_6 = false →
 (Option.isNone y = true → false = true) ∧
 (Option.isNone y = false →
 True ∧
 (((0 : Int) = (0 : Int) ∧
 (-1 : Int) = (-1 : Int) ∧ True ∧ y = y ∧ nW y = nW y ∧ mW y = mW y) ∧
 y_5 = y_5 ∧ y_3 = y_3 ∧ y_2 = y_2) ∧
 ∃ (Z : Int × Int × Unit → Prop),
 ∃ (μ : Int × Int × Unit → Nat),
 Z ((-1 : Int), (0 : Int), ()) ∧
 ∀ (a a_1 : Int),
 let y_7 := (inCr y a_1).fst;
 let y_8 := (a, a_1, ());
 let y_9 := IntKind.wrap IntKind.i64 (a_1 + (1 : Int));
 let y_10 := (inCr y a_1).snd.fst != (0 : Int);
 let y_11 := (y_7, y_9, ());
 let y_12 := (outCr y y_7).snd.fst != (0 : Int);
 Z y_8 →
 (decide (a_1 ≤ mW y) = true →
 WfN (topT (treeOf y)) ∧
 okTre (treeOf y) ∧
 (y_10 = true → false = true) ∧
 (y_10 = false →
 (y_12 = true → false = true) ∧
 (y_12 = false →
 (((outCr y y_7).fst != a_1) = true → false = true) ∧
 (((outCr y y_7).fst != a_1) = false →
 (decide (y_7 ≤ a) = true → false = true) ∧
 (decide (y_7 ≤ a) = false →
 ((y_9 = y_9 ∧
 y_7 = y_7 ∧
 True ∧ y = y ∧ nW y = nW y ∧ mW y = mW y) ∧
 y_5 = y_5 ∧ y_3 = y_3 ∧ y_2 = y_2) ∧
 Z y_11 ∧ μ y_11 < μ y_8))))) ∧
 (decide (a_1 ≤ mW y) = false →
 ((a != nW y) = true → false = true) ∧
 ((a != nW y) = false →
 (okTxt y_1 ∧ smallW (newW y_5 y_3)) ∧
 ((0 : Int) = (0 : Int) ∧
 (0 : Int) = (0 : Int) ∧
 y = y ∧
 nW y = nW y ∧ mW y = mW y ∧ placesT y_1 = placesT y_1) ∧
 ∃ (Z : Int × Int × Unit → Prop),
 ∃ (μ : Int × Int × Unit → Nat),
 Z ((0 : Int), (0 : Int), ()) ∧
 ∀ (a a_4 : Int),
 let y_13 := (outCr y a_4).fst;
 let y_14 := (a, a_4, ());
 let y_15 := IntKind.wrap IntKind.i64 (a_4 + (1 : Int));
 let y_16 := (outCr y a_4).snd.fst != (0 : Int);
 let y_17 := (y_13, y_15, ());
 let y_18 := (inCr y y_13).snd.fst != (0 : Int);
 Z y_14 →
 (decide (a_4 ≤ nW y) = true →
 ((0 : Int) = (0 : Int) ∧
 a_4 = a_4 ∧
 y = y ∧
 nW y = nW y ∧
 mW y = mW y ∧
 a = a ∧
 placesT y_1 = placesT y_1 ∧
 a_4 = a_4 ∧
 placesT y_1 = placesT y_1 ∧
 y_4 = y_4) ∧
 ∃ (Z_1 : Int × Int × Unit → Prop),
 ∃ (μ_1 : Int × Int × Unit → Nat),
 Z_1 (a_4, (0 : Int), ()) ∧
 ∀ (a_7 a_8 : Int),
 let y_19 :=  IntKind.wrap IntKind.i64  (a_8 + (1 : Int));
 let y_20 := (a_7, a_8, ());
 let y_21 :=  (List.getD (placesT y_1) (Int.toNat a_8)  (Ty.dflt t46)).fst;
 let y_22 :=  (List.getD (placesT y_1) (Int.toNat a_8)  (Ty.dflt t46)).snd.fst;
 let y_23 := (a_7, y_19, ());
 let y_24 := (y_21, y_19, ());
 Z_1 y_20 →
 (decide (a_8 < y_4) = true →
 ((0 : Int) ≤ a_8 ∧ a_8 < y_4) ∧
 (decide (y_21 < a_4) = true →
 (decide (a_4 < y_22) = true →
 (y_19 = y_19 ∧
 y_21 = y_21 ∧
 y = y ∧
 nW y = nW y ∧
 mW y = mW y ∧
 a = a ∧
 placesT
 y_1 =
 placesT
 y_1 ∧
 a_4 =
 a_4 ∧
 placesT
 y_1 =
 placesT
 y_1 ∧
 y_4 =
 y_4) ∧
 Z_1 y_24 ∧
 μ_1 y_24 < μ_1 y_20) ∧
 (decide (a_4 < y_22) =
 false →
 (y_19 = y_19 ∧
 a_7 = a_7 ∧
 y = y ∧
 nW y = nW y ∧
 mW y = mW y ∧
 a = a ∧
 placesT
 y_1 =
 placesT
 y_1 ∧
 a_4 =
 a_4 ∧
 placesT
 y_1 =
 placesT
 y_1 ∧
 y_4 =
 y_4) ∧
 Z_1 y_23 ∧
 μ_1 y_23 <
 μ_1 y_20)) ∧
 (decide (y_21 < a_4) = false →
 (y_19 = y_19 ∧
 a_7 = a_7 ∧
 y = y ∧
 nW y = nW y ∧
 mW y = mW y ∧
 a = a ∧
 placesT y_1 =
 placesT
 y_1 ∧
 a_4 = a_4 ∧
 placesT
 y_1 =
 placesT
 y_1 ∧
 y_4 =
 y_4) ∧
 Z_1 y_23 ∧
 μ_1 y_23 < μ_1 y_20)) ∧
 (decide (a_8 < y_4) = false →
 okTre (treeOf y) ∧
 WfN (topT (treeOf y)) ∧
 (y_16 = true → false = true) ∧
 (y_16 = false →
 (y_18 = true →
 false = true) ∧
 (y_18 = false →
 (((inCr y y_13).fst !=
 a_7) =
 true →
 false = true) ∧
 (((inCr y y_13).fst !=
 a_7) =
 false →
 (decide (y_13 < a) =
 true →
 false = true) ∧
 (decide
 (y_13 < a) =
 false →
 (y_15 = y_15 ∧
 y_13 =
 y_13 ∧
 y = y ∧
 nW y =
 nW
 y ∧
 mW y =
 mW
 y ∧
 placesT
 y_1 =
 placesT
 y_1) ∧
 Z y_17 ∧
 μ y_17 <
 μ
 y_14)))))) ∧
 (decide (a_4 ≤ nW y) = false →
 ((a == mW y) = true → True ∧ true = true) ∧
 ((a == mW y) = false → false = true))))))))
theorem vcEq4 : fnVC E4 Tryz.f4 (bodyOf Tryz.f4) cCreaseThere = vc4 := by kernel_rfl
def hs5 : List (Nat × Nat × Hint) := []
def nm5 : List Nat := [3000000062]
noncomputable def E5 : Env := env tab [(8, cLongC), (10, cSix), (12, cWoven), (11, cNewC), (9, cRefRight), (21, cIsC)] [] gl hs5 nm5
def vc5 : Prop :=
 ∀ (x : (Int × List Inl × List (Int × Int × Unit) × Unit) × Unit),
 List.length x.fst.snd.fst ≤ maxLen ∧ List.length x.fst.snd.snd.fst ≤ maxLen →
 (List.length x.fst.snd.fst ≤ maxLen ∧ List.length x.fst.snd.snd.fst ≤ maxLen) ∧
 (longC x.fst = true → True ∧ true = true) ∧
 (longC x.fst = false →
 (List.length x.fst.snd.fst ≤ maxLen ∧ shortL x.fst.snd.fst) ∧
 (WfN (topT (treeOf (wovenT x.fst))) ∧ List.length x.fst.snd.snd.fst ≤ (10000 : Nat)) ∧
 (Option.isNone (wovenT x.fst) = true → false = true) ∧
 (Option.isNone (wovenT x.fst) = false →
 List.length x.fst.snd.snd.fst ≤ maxLen ∧
 ((!rightL x.fst.fst (0 : Int) x.fst.snd.snd.fst) = true →
 (((newC (wovenT x.fst) x.fst.snd.snd.fst).snd.fst == (1 : Int)) = true →
 (Option.isNone (newC (wovenT x.fst) x.fst.snd.snd.fst).fst = true → True ∧ true = true) ∧
 (Option.isNone (newC (wovenT x.fst) x.fst.snd.snd.fst).fst = false → false = true)) ∧
 (((newC (wovenT x.fst) x.fst.snd.snd.fst).snd.fst == (1 : Int)) = false → false = true)) ∧
 ((!rightL x.fst.fst (0 : Int) x.fst.snd.snd.fst) = false →
 (((newC (wovenT x.fst) x.fst.snd.snd.fst).snd.fst == (0 : Int)) = true →
 (okTxt x.fst ∧
 smallW (newW x.fst.fst x.fst.snd.fst) ∧
 lowT (topT (treeOf (newC (wovenT x.fst) x.fst.snd.snd.fst).fst))) ∧
 (isC (newC (wovenT x.fst) x.fst.snd.snd.fst).fst x.fst = true → True ∧ true = true) ∧
 (isC (newC (wovenT x.fst) x.fst.snd.snd.fst).fst x.fst = false → false = true)) ∧
 (((newC (wovenT x.fst) x.fst.snd.snd.fst).snd.fst == (0 : Int)) = false → false = true))))
theorem vcEq5 : fnVC E5 Tryz.f5 (bodyOf Tryz.f5) cCreaseNew = vc5 := by kernel_rfl
def hs10 : List (Nat × Nat × Hint) := []
def nm10 : List Nat := [3000000062]
noncomputable def E10 : Env := env tab [(32, cNew), (33, cWeave), (11, cNewC), (15, cOutC), (17, cInC), (34, cHeightC)] [] gl hs10 nm10
def vc10 : Prop :=
 ∀ (_x : Unit),
 True →
 ((0 : Nat) ≤ maxLen ∧ shortL []) ∧
 (List.length (allI (newI (6 : Int) []).fst) ≤ (10000 : Nat) ∧ shortL (allI (newI (6 : Int) []).fst)) ∧
 (WfN (topT (treeOf (weaveI (newI (6 : Int) []).fst))) ∧
 List.length [((1 : Int), (4 : Int), ())] ≤ (10000 : Nat)) ∧
 okTre (treeOf (newC (weaveI (newI (6 : Int) []).fst) [((1 : Int), (4 : Int), ())]).fst) ∧
 okTre (treeOf (newC (weaveI (newI (6 : Int) []).fst) [((1 : Int), (4 : Int), ())]).fst) ∧
 WfN (topT (treeOf (newC (weaveI (newI (6 : Int) []).fst) [((1 : Int), (4 : Int), ())]).fst)) ∧
 (((newI (6 : Int) []).snd.fst == (0 : Int)) = true →
 (((newC (weaveI (newI (6 : Int) []).fst) [((1 : Int), (4 : Int), ())]).snd.fst == (0 : Int)) =
 true →
 (((outCr (newC (weaveI (newI (6 : Int) []).fst) [((1 : Int), (4 : Int), ())]).fst
 (3 : Int)).snd.fst ==
 (0 : Int)) =
 true →
 (((outCr (newC (weaveI (newI (6 : Int) []).fst) [((1 : Int), (4 : Int), ())]).fst
 (4 : Int)).snd.fst ==
 (0 : Int)) =
 true →
 (((inCr (newC (weaveI (newI (6 : Int) []).fst) [((1 : Int), (4 : Int), ())]).fst
 (2 : Int)).snd.fst ==
 (0 : Int)) =
 true →
 (((outCr (newC (weaveI (newI (6 : Int) []).fst) [((1 : Int), (4 : Int), ())]).fst
 (3 : Int)).fst ==
 (1 : Int)) =
 true →
 (((outCr
 (newC (weaveI (newI (6 : Int) []).fst)
 [((1 : Int), (4 : Int), ())]).fst
 (4 : Int)).fst ==
 (2 : Int)) =
 true →
 (((inCr
 (newC (weaveI (newI (6 : Int) []).fst)
 [((1 : Int), (4 : Int), ())]).fst
 (2 : Int)).fst ==
 (4 : Int)) =
 true →
 True ∧
 (heightOf
 (topT
 (treeOf
 (newC (weaveI (newI (6 : Int) []).fst)
 [((1 : Int), (4 : Int), ())]).fst)) ==
 (1 : Int)) =
 true) ∧
 (((inCr
 (newC (weaveI (newI (6 : Int) []).fst)
 [((1 : Int), (4 : Int), ())]).fst
 (2 : Int)).fst ==
 (4 : Int)) =
 false →
 false = true)) ∧
 (((outCr
 (newC (weaveI (newI (6 : Int) []).fst)
 [((1 : Int), (4 : Int), ())]).fst
 (4 : Int)).fst ==
 (2 : Int)) =
 false →
 false = true)) ∧
 (((outCr (newC (weaveI (newI (6 : Int) []).fst) [((1 : Int), (4 : Int), ())]).fst
 (3 : Int)).fst ==
 (1 : Int)) =
 false →
 false = true)) ∧
 (((inCr (newC (weaveI (newI (6 : Int) []).fst) [((1 : Int), (4 : Int), ())]).fst
 (2 : Int)).snd.fst ==
 (0 : Int)) =
 false →
 false = true)) ∧
 (((outCr (newC (weaveI (newI (6 : Int) []).fst) [((1 : Int), (4 : Int), ())]).fst
 (4 : Int)).snd.fst ==
 (0 : Int)) =
 false →
 false = true)) ∧
 (((outCr (newC (weaveI (newI (6 : Int) []).fst) [((1 : Int), (4 : Int), ())]).fst
 (3 : Int)).snd.fst ==
 (0 : Int)) =
 false →
 false = true)) ∧
 (((newC (weaveI (newI (6 : Int) []).fst) [((1 : Int), (4 : Int), ())]).snd.fst == (0 : Int)) =
 false →
 false = true)) ∧
 (((newI (6 : Int) []).snd.fst == (0 : Int)) = false → false = true)
theorem vcEq10 : fnVC E10 Tryz.f10 (bodyOf Tryz.f10) cSix = vc10 := by kernel_rfl
end Go.Fr.Z16
namespace Go.Fr.Z16
open Go Go.Fr Go.Proofs
theorem size_bd {t : Txt} (h : smallW (newW t.1 t.2.1)) : sizeT t ≤ 1000000000 := by
  obtain ⟨h1, h2, h3, h4⟩ := h
  have := spots_bd h1 h2 h4
  unfold sizeT
  omega
theorem places_len (t : Txt) : (placesT t).length = t.2.2.1.length := List.length_map _
theorem low_height {n : Nd} (h : lowT n) : 0 ≤ heightOf n ∧ heightOf n ≤ 4 := by
  rcases h.1 with e | ⟨k, h1, w⟩
  · rw [e]; decide
  · rw [(wf_height w).1]; omega
theorem p21 : vc21 := by
  unfold vc21
  simp only [eq_self, true_and, and_true, decide_eq_true_eq, decide_eq_false_iff_not, beq_iff_eq, beq_eq_false_iff_ne, bne_iff_ne, bne_eq_false_iff_eq, ne_eq]
  rintro ⟨c, t, ⟨⟩⟩
  simp only [maxLen_eq, d105, d106]
  rintro ⟨h1, h2, h3⟩
  have ei : isC c t = (c.isSome && (decide (piecesC (treeOf c) = refPiecesC (sizeT t) (placesT t)) && (decide (nW c = sizeT t) && (decide (mW c = ((starts (sizeT t) (placesT t)).length : Int)) && highB (heightOf (topT (treeOf c))) ((piecesC (treeOf c)).length : Int))))) := by
    unfold isC piecesC
    rw [List.length_map]
  have sz := size_bd h2
  have pl : (placesT t).length ≤ 9223372036854775807 := by rw [places_len]; have := h1.2.2.2.2; omega
  have hb := low_height h3
  have pn : (piecesC (treeOf c)).length ≤ 10000 := by
    unfold piecesC
    rw [List.length_map]
    exact h3.2
  rw [ei]
  generalize piecesC (treeOf c) = P at pn ⊢
  generalize refPiecesC (sizeT t) (placesT t) = R
  cases c with
  | none => exact ⟨fun _ => rfl, fun h => by cases h⟩
  | some c =>
    refine ⟨fun h => (by cases h), fun _ => ⟨h3, ⟨h1, h2⟩, ⟨h1, h2⟩, ⟨sz, pl⟩, ?_⟩⟩
    have no : ¬ P = R → false = ((some c).isSome && (decide (P = R) && (decide (nW (some c) = sizeT t) && (decide (mW (some c) = ((starts (sizeT t) (placesT t)).length : Int)) && highB (heightOf (topT (treeOf (some c)))) (P.length : Int))))) := fun h => by
      rw [decide_eq_false h]
      rfl
    refine ⟨SameAt P R, fun z => P.length - z.1.toNat, ⟨0, Nat.zero_le _, Nat.zero_le _, rfl, rfl⟩, ?_⟩
    rintro i ⟨k, k1, k2, hi, ht⟩
    simp only at hi
    subst hi
    refine ⟨fun h => ⟨by omega, fun g => no (fun e => by rw [e] at h; omega), fun g => ⟨by omega, fun g2 => no (fun e => by rw [e] at g2; exact g2 rfl), fun g2 => ⟨by omega, fun g3 => no (fun e => by rw [e] at g3; exact g3 rfl), fun g3 => ?_⟩⟩⟩, fun h => ?_⟩
    · have hw : IntKind.i64.wrap ((k : Int) + 1) = ((k + 1 : Nat) : Int) := wrap_succ (by omega)
      rw [toNat_cast] at g2 g3
      rw [hw]
      refine ⟨same_step (0, 0, ()) (by omega) (by omega) ht ?_, by simp only [toNat_cast]; omega⟩
      generalize P.getD k (0, 0, ()) = p at g2 g3 ⊢
      generalize R.getD k (0, 0, ()) = r at g2 g3 ⊢
      obtain ⟨p1, p2, ⟨⟩⟩ := p
      obtain ⟨r1, r2, ⟨⟩⟩ := r
      simp only at g2 g3
      rw [g2, g3]
    · have en := same_end h k1 ht
      refine ⟨fun g => ?_, fun g => no (fun e => by rw [e] at g; exact g rfl)⟩
      have e : P = R := by
        have : (((P.length : Nat) : Int) == ((R.length : Nat) : Int)) = true := by rw [beq_iff_eq]; exact g
        rw [this] at en
        exact of_decide_eq_true en.symm
      rw [decide_eq_true e]
      refine ⟨⟨h1, h2⟩, fun g2 => ⟨⟨h1, h2⟩, ⟨h1, h2⟩, ⟨sz, pl⟩, fun g3 => ⟨⟨by omega, by omega, by omega⟩, ?_⟩, fun g3 => ?_⟩, fun g2 => ?_⟩
      · rw [decide_eq_true g2, decide_eq_true g3]
        rfl
      · rw [decide_eq_false g3]
        simp
      · rw [decide_eq_false g2]
        rfl
theorem text_all {n : Int} {l : List Inl} {hid : List Span} (h : longC (n, l, hid, ()) = false) : ∃ L, WOk n L ∧ newW n l = (n, L, 0, ()) ∧ wovenT (n, l, hid, ()) = weaveI (some (n, L, ())) ∧ hid.length ≤ 100 ∧ n ≤ 200 ∧ okTxt (n, l, hid, ()) ∧ smallW (newW n l) ∧ shortL l ∧
    (some (n, L, ()) : Option ISet) = (newI n l).1 ∧ Made (newI n l).1 (newW n l) ∧ WfN (topT (treeOf (wovenT (n, l, hid, ())))) := by
  unfold longC at h
  simp only [Bool.or_eq_false_iff, decide_eq_false_iff_not, List.any_eq_false, decide_eq_true_eq, ne_eq, Decidable.not_not] at h
  obtain ⟨⟨⟨⟨⟨h1, h2⟩, h3⟩, h4⟩, h5⟩, h6⟩ := h
  have hw : wrongN n l = 0 := by rw [← (code_ok n l).2.2]; exact h6
  have hs : shortL l := fun x hx => by have := h5 x hx; omega
  obtain ⟨n', L, e1, e2, a1, a2, a3, a4, a5, a6, a7, a8, a9⟩ := made_all (made_new hw)
  have en : n = n' := by
    rw [newW_fst hw] at e2
    exact congrArg (fun w : WSet => w.1) e2
  subst en
  have ew : wovenT (n, l, hid, ()) = weaveI (some (n, L, ())) := by
    unfold wovenT
    rw [if_neg]
    · rw [e1]
    · rintro (h | h)
      · rw [(code_ok n l).2.1] at h; exact h hw
      · have h : (newI n l).1.isNone = true := h
        rw [e1] at h; cases h
  refine ⟨L, ⟨a1, by omega, a3, a4⟩, e2, ew, by omega, by omega, ⟨by show 0 ≤ n; omega, by show n ≤ 1000; omega, by show l.length ≤ 60; omega, hs, by show hid.length ≤ 1000; omega⟩, ?_, hs, e1.symm, made_new hw, ?_⟩
  · rw [e2]
    exact ⟨a3, a5, by show 0 ≤ n; omega, by show n ≤ 1000; omega⟩
  · rw [ew, ← e1]
    exact a8
theorem cr_ok {m : Int} {pl : List Span} {c : Wve} (h : CrOf m pl c) (hm : m ≤ 1000000) (sp : Spans 0 m pl) (hn : pl.length ≤ 200) : okTre (treeOf c) ∧ WfN (topT (treeOf c)) ∧ lowT (topT (treeOf c)) := by
  have len := rowK_len (t := m) 0 pl
  have ck := rowK_check (t := m) (by omega) (Int.le_refl _) sp
  have h3 := h.2.2
  have hb : (items (topT (treeOf c))).length ≤ 401 := by rw [h3]; omega
  refine ⟨⟨h.2.1, by omega, by rw [h3]; exact ck⟩, h.2.1, low_wf h.2.1 (by omega), by omega⟩
theorem p5 : vc5 := by
  unfold vc5
  simp only [eq_self, true_and, and_true, beq_iff_eq, beq_eq_false_iff_ne, bne_iff_ne, bne_eq_false_iff_eq, ne_eq, Bool.not_eq_true', Bool.not_eq_false']
  rintro ⟨⟨n, l, hid, ⟨⟩⟩, ⟨⟩⟩ h0
  refine ⟨h0, fun _ => trivial, fun hl => ?_⟩
  obtain ⟨L, hw, e1, e2, b1, b2, b3, b4, b5, b6, b7, b8⟩ := text_all hl
  have lb := wok_lens hw
  simp only
  rw [e2] at b8 ⊢
  refine ⟨⟨h0.1, b5⟩, ⟨b8, by omega⟩, fun h => ?_, fun _ => ⟨h0.2, fun hr => ?_, fun hr => ?_⟩⟩
  · exfalso
    rw [(weave_ok hw.1 (by have := hw.2.1; omega) hw.2.2.1 hw.2.2.2).1] at h
    cases h
  · have ns : ¬ Spans 0 n hid := fun h => by rw [(rightL_iff 0 hid hw.1).2 h] at hr; cases hr
    rw [newC_bad hw ns]
    exact ⟨fun _ => ⟨fun _ => trivial, fun h => by cases h⟩, fun h => absurd rfl h⟩
  · have sp : Spans 0 n hid := (rightL_iff 0 hid hw.1).1 hr
    obtain ⟨c1, c2⟩ := newC_ok hw sp (by omega)
    have ll : (wovenS L hid).length = hid.length := List.length_map _
    have ok := cr_ok c2 (by have := hw.2.1; omega) (wok_spans hw sp) (by omega)
    have ic := isC_ok (u := ()) hw sp (by omega) e1 c2
    rw [c1]
    simp only
    rw [ic]
    exact ⟨fun _ => ⟨⟨b3, b4, ok.2.2⟩, fun _ => trivial, fun h => by cases h⟩, fun h => absurd trivial h⟩
end Go.Fr.Z16
namespace Go.Fr.Z16
open Go Go.Fr Go.Proofs
theorem sizeT_ok {n : Int} {L l : List Inl} {hid : List Span} {u : Unit} (h : WOk n L) (hw : newW n l = (n, L, 0, ())) : sizeT (n, l, hid, u) = n + lens L := by
  show ((spots (newW n l)).length : Int) = _
  rw [hw]
  exact spots_w h
theorem placesT_ok {n : Int} {L l : List Inl} {hid : List Span} {u : Unit} (h : WOk n L) (hw : newW n l = (n, L, 0, ())) (hs : Spans 0 n hid) : placesT (n, l, hid, u) = wovenS L hid := by
  show refPlaces (newW n l) hid = _
  rw [hw]
  exact (places_w h hs).2
theorem p3 : vc3 := by
  unfold vc3
  simp only [eq_self, true_and, and_true, decide_eq_true_eq, decide_eq_false_iff_not, beq_iff_eq, beq_eq_false_iff_ne, bne_iff_ne, bne_eq_false_iff_eq, ne_eq, Bool.not_eq_true', Bool.not_eq_false']
  rintro ⟨⟨n, l, hid, ⟨⟩⟩, a, ⟨⟩⟩
  simp only
  intro h0
  refine ⟨h0, fun _ => trivial, fun hl => ⟨h0.2, fun _ => trivial, fun hr => ?_⟩⟩
  obtain ⟨L, hw, e1, e2, b1, b2, b3, b4, b5, b6, b7, b8⟩ := text_all hl
  have lb := wok_lens hw
  have sp : Spans 0 n hid := (rightL_iff 0 hid hw.1).1 hr
  obtain ⟨c1, c2⟩ := newC_ok hw sp (by omega)
  have ll : (wovenS L hid).length = hid.length := List.length_map _
  have ws := wok_spans hw sp
  have hm : n + lens L ≤ 1000000 := by have := hw.2.1; omega
  have ok := cr_ok c2 hm ws (by omega)
  have ez := sizeT_ok (hid := hid) (u := ()) hw e1
  have ep := placesT_ok (u := ()) hw e1 sp
  obtain ⟨f1, f2, f3, f4, f5, f6, f7, f8, f9⟩ := cr_fine c2 hm ws (by omega)
  have oo := outCr_ok c2 hm ws (by omega) a
  have io := inCr_ok c2 hm ws (by omega) a
  have ro := refOutC_eq (a := a) (by omega : n + lens L ≤ 1099511627776) ws
  have ri := refInC_eq (a := a) (by omega : n + lens L ≤ 1099511627776) ws
  simp only [maxLen_eq, ez, ep]
  rw [e2] at b8 ⊢
  rw [c1]
  simp only
  generalize hc : (some (some (buildT (rowK (n + lens L) 0 (wovenS L hid)), ()), ()) : Wve) = c at *
  have hcn : c.isNone = false := by rw [← hc]; rfl
  have k1 : l.length ≤ 9223372036854775807 := h0.1
  have k2 : hid.length ≤ 10000 := by omega
  have k3 : (wovenS L hid).length ≤ 9223372036854775807 := by omega
  have k4 : n + lens L ≤ 1000000000 := by omega
  have okt := ok.1
  have okw := ok.2.1
  generalize wovenS L hid = pl at *
  generalize n + lens L = m at *
  generalize hS : ((starts m pl).length : Int) = S at *
  simp only [hcn, k1, k2, k3, k4, b3, b4, b5, b8, okt, okw, and_self, true_and, true_implies, and_true]
  by_cases h1 : a < 0
  · rw [if_pos (.inl h1)] at oo io
    simp [h1, oo, io]
  · by_cases h2 : a > m
    · have h3 : a > S := by omega
      rw [if_pos (.inr h2)] at oo
      rw [if_pos (.inr h3)] at io
      simp [h1, h2, h3, oo, io]
    · rw [if_neg (by omega)] at oo
      have ro := ro (by omega) (by omega)
      by_cases h3 : a > S
      · rw [if_pos (.inr h3)] at io
        simp [h1, h2, h3, oo, io, ro]
      · rw [if_neg (by omega)] at io
        have ri := ri (by omega) (by omega)
        have h4 : 0 ≤ a := by omega
        have h5 : a ≤ S := by omega
        simp [h1, h2, h3, h4, h5, oo, io, ro, ri]
theorem inC_le : (l : List Itm) → (a b c : Int) → CRow l → c ≤ a → a ≤ c + sum1 l → inC a l b c ≤ b + sum0 l
  | [], a, b, c, _, h, h1 => by
    have h1 : a ≤ c + 0 := h1
    show b + (a - c) ≤ b + 0
    omega
  | i :: l, a, b, c, h, h0, h1 => by
    obtain ⟨g1, g2⟩ := crow_cons h
    have hs := sums_fine (crow_fine g2)
    rw [sum1_cons] at h1
    rw [sum0_cons]
    show (if a < c + d1 i then b + (a - c) else inC a l (b + d0 i) (c + d1 i)) ≤ _
    split
    · rcases g1 with g | g <;> omega
    · have := inC_le l a (b + d0 i) (c + d1 i) g2 (by omega) (by omega)
      omega
theorem outC_le : (l : List Itm) → (a b c : Int) → CRow l → b ≤ a → a ≤ b + sum0 l → outC a l b c ≤ c + sum1 l
  | [], a, b, c, _, h, h1 => by
    have h1 : a ≤ b + 0 := h1
    show c + (a - b) ≤ c + 0
    omega
  | i :: l, a, b, c, h, h0, h1 => by
    obtain ⟨g1, g2⟩ := crow_cons h
    have hs := sums_fine (crow_fine g2)
    rw [sum0_cons] at h1
    rw [sum1_cons]
    show (if a < b + d0 i then (if i.1 = 1 then c else c + (a - b)) else outC a l (b + d0 i) (c + d1 i)) ≤ _
    split
    · split
      · rcases g1 with g | g <;> omega
      · rcases g1 with g | g <;> omega
    · have := outC_le l a (b + d0 i) (c + d1 i) g2 (by omega) (by omega)
      omega
def wantS (a w : Int) (x : Span) : Int := if x.1 < a ∧ a < x.2.1 then x.1 else w
theorem want_none {a : Int} : {l : List Span} → (w : Int) → (∀ x ∈ l, ¬ (x.1 ≤ a ∧ a < x.2.1)) → l.foldl (wantS a) w = w
  | [], _, _ => rfl
  | x :: r, w, h => by
    have hx := h x (List.mem_cons_self ..)
    rw [List.foldl_cons, show wantS a w x = w from if_neg (by omega)]
    exact want_none w fun y hy => h y (List.mem_cons_of_mem _ hy)
theorem want_fold {a m : Int} : (f : Int) → (l : List Span) → Spans f m l → l.foldl (wantS a) a = match hidX l a with | none => a | some x => x.1
  | f, [], _ => rfl
  | f, x :: r, h => by
    obtain ⟨h1, h2, h3⟩ := h
    rw [List.foldl_cons]
    by_cases hx : x.1 ≤ a ∧ a < x.2.1
    · rw [hides_head hx, want_none _ fun y hy hh => by have := (spans_all h3 y hy).1; omega]
      show (if x.1 < a ∧ a < x.2.1 then x.1 else a) = x.1
      split <;> omega
    · have e : hidX (x :: r) a = hidX r a := by
        unfold hidX
        rw [List.find?_cons_of_neg]
        simpa using hx
      rw [e, show wantS a a x = a from if_neg (by omega)]
      exact want_fold x.2.1 r h3
theorem p4 : vc4 := by
  unfold vc4
  simp only [eq_self, true_and, and_true, decide_eq_true_eq, decide_eq_false_iff_not, beq_iff_eq, beq_eq_false_iff_ne, bne_iff_ne, bne_eq_false_iff_eq, ne_eq, Bool.not_eq_true', Bool.not_eq_false']
  rintro ⟨⟨n, l, hid, ⟨⟩⟩, ⟨⟩⟩
  simp only
  intro h0
  refine ⟨h0, fun _ => trivial, fun hl => ⟨h0.2, fun _ => trivial, fun hr => ?_⟩⟩
  obtain ⟨L, hw, e1, e2, b1, b2, b3, b4, b5, b6, b7, b8⟩ := text_all hl
  have lb := wok_lens hw
  have sp : Spans 0 n hid := (rightL_iff 0 hid hw.1).1 hr
  obtain ⟨c1, c2⟩ := newC_ok hw sp (by omega)
  have ll : (wovenS L hid).length = hid.length := List.length_map _
  have ws := wok_spans hw sp
  have hm : n + lens L ≤ 1000000 := by have := hw.2.1; omega
  have ok := cr_ok c2 hm ws (by omega)
  have ep := placesT_ok (l := l) (u := ()) hw e1 sp
  obtain ⟨f1, f2, f3, f4, f5, f6, f7, f8, f9⟩ := cr_fine c2 hm ws (by omega)
  have oo := outCr_ok c2 hm ws (by omega)
  have io := inCr_ok c2 hm ws (by omega)
  have s0 := rowK_sum0 0 (wovenS L hid) ws
  simp only [maxLen_eq, ep, d46]
  rw [e2] at b8 ⊢
  rw [c1]
  simp only
  generalize hc : (some (some (buildT (rowK (n + lens L) 0 (wovenS L hid)), ()), ()) : Wve) = c at *
  have hcn : c.isNone = false := by rw [← hc]; rfl
  have okt := ok.1
  have okw := ok.2.1
  generalize wovenS L hid = pl at *
  generalize n + lens L = m at *
  rw [← f6] at io
  generalize hS : sum1 (rowK m 0 pl) = S at *
  have ie := inC_end (rowK m 0 pl) 0 0 f1
  have oe := outC_end (rowK m 0 pl) 0 0 f1
  rw [s0, hS] at ie oe
  have iu := fun a => inC_up (rowK m 0 pl) a 0 0 f1
  have ou := fun a => outC_up (rowK m 0 pl) a 0 0 f1
  have ig := fun a => inC_ge (rowK m 0 pl) a 0 0 f1
  have og := fun a => outC_ge (rowK m 0 pl) a 0 0 f1
  have il := fun a => inC_le (rowK m 0 pl) a 0 0 f1
  have ol := fun a => outC_le (rowK m 0 pl) a 0 0 f1
  rw [s0, hS] at il ol
  have oi := fun a => out_in (rowK m 0 pl) a 0 0 f1
  have i2 := fun a => in_out2 (rowK m 0 pl) a 0 0 f1
  have wf := fun a h => (inside_row (m := m) (a := a) 0 [] pl h (fun x hx => by cases hx) ws).2
  simp only [List.nil_append] at wf
  generalize rowK m 0 pl = R at *
  refine ⟨⟨h0.1, b5⟩, ⟨b8, by omega⟩, fun h => absurd trivial h, fun _ => ⟨fun h => (by rw [hcn] at h; cases h), fun _ => ?_⟩⟩
  rw [f5, f4]
  refine ⟨fun z => ∃ k : Nat, (k : Int) ≤ S + 1 ∧ z.2.1 = (k : Int) ∧ z.1 = if k = 0 then -1 else inC ((k : Int) - 1) R 0 0, fun z => (S + 1 - z.2.1).toNat, ⟨0, by omega, rfl, rfl⟩, ?_⟩
  rintro last i ⟨k, hk, hi, hla⟩
  simp only at hi hla
  subst hi
  refine ⟨fun h => ?_, fun h => ?_⟩
  · have io1 := io (k : Int)
    rw [if_neg (by omega)] at io1
    have g1 := ig (k : Int) (by omega)
    have g2 := il (k : Int) (by omega) (by omega)
    have oo1 := oo (inC (k : Int) R 0 0)
    rw [if_neg (by omega)] at oo1
    have e3 := oi (k : Int) (by omega)
    have lt : last < inC (k : Int) R 0 0 := by
      rw [hla]
      split
      · omega
      · have := iu ((k : Int) - 1) (by omega)
        rw [show (k : Int) - 1 + 1 = (k : Int) by omega] at this
        exact this
    have hw : IntKind.i64.wrap ((k : Int) + 1) = ((k + 1 : Nat) : Int) := wrap_succ (by omega)
    rw [io1]
    simp only
    rw [oo1, e3, hw]
    simp only
    refine ⟨okw, okt, fun h => absurd trivial h, fun _ => ⟨fun h => absurd trivial h, fun _ => ⟨fun h => absurd trivial h, fun _ => ⟨fun h => absurd h (by omega), fun _ => ⟨⟨k + 1, by omega, rfl, ?_⟩, by omega⟩⟩⟩⟩⟩
    rw [if_neg (by omega), show ((k + 1 : Nat) : Int) - 1 = (k : Int) by omega]
  · have ek : (k : Int) = S + 1 := by omega
    rw [if_neg (by omega), show (k : Int) - 1 = 0 + S by omega, ie] at hla
    refine ⟨fun h => absurd (by omega) h, fun _ => ⟨⟨b3, b4⟩, ?_⟩⟩
    refine ⟨fun z => ∃ k : Nat, (k : Int) ≤ m + 1 ∧ z.2.1 = (k : Int) ∧ z.1 = if k = 0 then 0 else outC ((k : Int) - 1) R 0 0, fun z => (m + 1 - z.2.1).toNat, ⟨0, by omega, rfl, rfl⟩, ?_⟩
    clear hla ek h hk
    rintro last i ⟨k, hk, hi, hla⟩
    simp only at hi hla
    subst hi
    refine ⟨fun h => ?_, fun h => ?_⟩
    · refine ⟨fun z => ∃ j : Nat, j ≤ pl.length ∧ z.2.1 = (j : Int) ∧ z.1 = (pl.take j).foldl (wantS (k : Int)) (k : Int), fun z => pl.length - z.2.1.toNat, ⟨0, Nat.zero_le _, rfl, rfl⟩, ?_⟩
      rintro w i ⟨j, hj, hi, hwa⟩
      simp only at hi hwa
      subst hi
      refine ⟨fun g => ?_, fun g => ?_⟩
      · have hlt : j < pl.length := by omega
        have hwj : IntKind.i64.wrap ((j : Int) + 1) = ((j + 1 : Nat) : Int) := wrap_succ (by omega)
        have st : (pl.take (j + 1)).foldl (wantS (k : Int)) (k : Int) = wantS (k : Int) w (pl.getD j zSp) := by
          rw [take_one zSp hlt, List.foldl_append, ← hwa]
          rfl
        rw [toNat_cast, hwj]
        simp only [toNat_cast]
        generalize pl.getD j zSp = x at st ⊢
        have dec : pl.length - (j + 1) < pl.length - j := by omega
        refine ⟨⟨by omega, g⟩, fun g1 => ⟨fun g2 => ⟨⟨j + 1, hlt, rfl, ?_⟩, dec⟩, fun g2 => ⟨⟨j + 1, hlt, rfl, ?_⟩, dec⟩⟩, fun g1 => ⟨⟨j + 1, hlt, rfl, ?_⟩, dec⟩⟩
        · rw [st]; exact (if_pos ⟨g1, g2⟩).symm
        · rw [st]; exact (if_neg (fun h => g2 h.2)).symm
        · rw [st]; exact (if_neg (fun h => g1 h.1)).symm
      · rw [show j = pl.length by omega, List.take_length, want_fold 0 pl ws] at hwa
        have hwa := hwa.trans (wf (k : Int) (by omega)).symm
        have oo1 := oo (k : Int)
        rw [if_neg (by omega)] at oo1
        have g1 := og (k : Int) (by omega)
        have g2 := ol (k : Int) (by omega) (by omega)
        have io1 := io (outC (k : Int) R 0 0)
        rw [if_neg (by omega)] at io1
        have e3 := i2 (k : Int) (by omega)
        have le : last ≤ outC (k : Int) R 0 0 := by
          rw [hla]
          split
          · omega
          · have := ou ((k : Int) - 1) (by omega)
            rw [show (k : Int) - 1 + 1 = (k : Int) by omega] at this
            exact this
        have hw : IntKind.i64.wrap ((k : Int) + 1) = ((k + 1 : Nat) : Int) := wrap_succ (by omega)
        rw [oo1]
        simp only
        rw [io1, e3, hw, hwa]
        simp only
        refine ⟨okt, okw, fun h => absurd trivial h, fun _ => ⟨fun h => absurd trivial h, fun _ => ⟨fun h => absurd trivial h, fun _ => ⟨fun h => absurd h (by omega), fun _ => ⟨⟨k + 1, by omega, rfl, ?_⟩, by omega⟩⟩⟩⟩⟩
        rw [if_neg (by omega), show ((k + 1 : Nat) : Int) - 1 = (k : Int) by omega]
    · rw [if_neg (by omega), show (k : Int) - 1 = 0 + m by omega] at hla
      refine ⟨fun _ => trivial, fun h => absurd ?_ h⟩
      rw [hla, show (0 : Int) + m = 0 + (m - 0) by omega, oe]
      omega
end Go.Fr.Z16
namespace Go.Fr.Z16
open Go Go.Fr Go.Proofs
theorem wrong6 : wrongN 6 [] = 0 := wrong_zero.2 ⟨by decide, by decide, fun x hx => (by cases hx), List.Pairwise.nil⟩
theorem new6 : newI 6 [] = (some (6, [], ()), 0, ()) := by
  rw [new_fst wrong6]
  show (some ((6 : Int), sortI [], ()), (0 : Int), ()) = _
  rw [sort_id List.Pairwise.nil List.Pairwise.nil]
theorem wok6 : WOk 6 [] := ⟨by decide, by decide, by decide, fun x hx => (by cases hx), List.Pairwise.nil, List.Pairwise.nil⟩
theorem span6 : Spans 0 6 [(1, 4, ())] := ⟨by decide, by decide, by show (4 : Int) ≤ 6; decide⟩
theorem p10 : vc10 := by
  unfold vc10
  simp only [eq_self, true_and, and_true, beq_iff_eq, beq_eq_false_iff_ne, ne_eq]
  intro _ _
  rw [new6]
  obtain ⟨c1, c2⟩ := newC_ok wok6 span6 (by decide)
  have e : wovenS [] [(1, 4, ())] = [(1, 4, ())] := rfl
  have el : (6 : Int) + lens [] = 6 := rfl
  rw [e, el] at c1 c2
  have oo := outCr_ok c2 (by decide) span6 (by decide)
  have io := inCr_ok c2 (by decide) span6 (by decide)
  have ok := cr_ok c2 (by decide) span6 (by decide)
  have hh : heightOf (topT (treeOf (some (some (buildT (rowK 6 0 [(1, 4, ())]), ()), ()) : Wve))) = 1 := rfl
  have sl : ((starts 6 [(1, 4, ())]).length : Int) = 4 := by decide
  have w1 := (sizes_w wok6).2.2
  have o3 := oo 3
  have o4 := oo 4
  have i2 := io 2
  rw [sl] at i2
  have o3 : outCr _ 3 = (1, 0, ()) := o3
  have o4 : outCr _ 4 = (2, 0, ()) := o4
  have i2 : inCr _ 2 = (4, 0, ()) := i2
  simp only
  rw [c1]
  simp only
  rw [o3, o4, i2, hh]
  refine ⟨⟨by decide, fun x hx => (by cases hx)⟩, ⟨by decide, fun x hx => (by cases hx)⟩, ⟨w1, by decide⟩, ok.1, ok.1, ok.2.1, ?_⟩
  simp
end Go.Fr.Z16
namespace Go.Fr.Z16
open Go Go.Fr Go.Proofs
set_option maxRecDepth 100000
end Go.Fr.Z16
namespace Go.Fr.Z16
open Go Go.Fr Go.Proofs
def lastE (f : Int) : List Span → Int
  | [] => f
  | x :: r => lastE x.2.1 r
theorem spans_parts {m : Int} : (f : Int) → (A B : List Span) → Spans f m (A ++ B) → Spans f (lastE f A) A ∧ Spans (lastE f A) m B ∧ f ≤ lastE f A
  | f, [], B, h => ⟨Int.le_refl _, h, Int.le_refl _⟩
  | f, x :: A, B, h => by
    obtain ⟨h1, h2, h3⟩ := h
    obtain ⟨g1, g2, g3⟩ := spans_parts x.2.1 A B h3
    refine ⟨⟨h1, h2, g1⟩, g2, ?_⟩
    show f ≤ lastE x.2.1 A
    omega
end Go.Fr.Z16
namespace Go.Fr.Z16
open Go Go.Fr Go.Proofs
theorem lastE_snoc (f : Int) (A : List Span) (x : Span) : lastE f (A ++ [x]) = x.2.1 := by
  induction A generalizing f with
  | nil => rfl
  | cons y A ih => exact ih y.2.1
end Go.Fr.Z16
namespace Go.Fr.Z16
open Go Go.Fr Go.Proofs
end Go.Fr.Z16
namespace Go.Fr.Z16
open Go Go.Fr Go.Proofs
end Go.Fr.Z16
namespace Go.Fr.Z16
open Go Go.Fr Go.Proofs
def okS (n : Int) (x : Span) : Bool := decide (0 ≤ x.1 ∧ x.1 < x.2.1 ∧ x.2.1 ≤ n)
def cmpS (a b : Span) : Int := firstNZ [cmpI a.1 b.1, cmpI a.2.1 b.2.1]
def sortS (l : List Span) : List Span := sortBy cmpS l
def errF (n : Int) : List Span → List Span → Int
  | _, [] => 0
  | seen, x :: r => if okS n x = false then 1 else if x ∈ seen then 8 else errF n (seen ++ [x]) r
def hideStep (out : List Span) (x : Span) : List Span := match out.getLast? with
  | some h => if x.1 < h.2.1 then out.dropLast ++ [(h.1, if h.2.1 < x.2.1 then x.2.1 else h.2.1, ())] else out ++ [x]
  | none => out ++ [x]
def hideL (l : List Span) : List Span := l.foldl hideStep []
def newS (n : Int) (l : List Span) : Set15 :=
  if n < 0 ∨ n > 1099511627776 then (0, [], 1, ()) else if (l.length : Int) > 60 then (0, [], 5, ()) else if errF n [] l = 0 then (n, sortS l, 0, ()) else (0, [], errF n [] l, ())
def RightS (l : List Span) : Prop := l.length ≤ 1000 ∧ l.Pairwise (fun a b => a.1 ≤ b.1) ∧ ∀ x ∈ l, x.1 < x.2.1
def cOver : Contract := { arg := .pair t46 (.pair t46 .unit), res := .bool, one := true, pre := fun _ => True, fn := fun x => decide (x.1.1 < x.2.1.2.1) && decide (x.2.1.1 < x.1.2.1) }
def cRef15New : Contract := { arg := .pair t3 (.pair t23 .unit), res := t49, one := true, pre := fun x => x.2.1.length ≤ maxLen, fn := fun x => newS x.1 x.2.1 }
def cHidden : Contract := { arg := .pair t49 .unit, res := t23, one := true, pre := fun x => RightS x.1.2.1, fn := fun x => hideL x.1.2.1 }
def cCreaseFolds : Contract := lawC (.pair t25 (.pair t23 .unit)) (fun x => x.1.2.1.length ≤ maxLen ∧ x.1.2.2.1.length ≤ maxLen ∧ x.2.1.length ≤ maxLen)
end Go.Fr.Z16
namespace Go.Fr.Z16
open Go Go.Fr Go.Proofs
set_option maxRecDepth 100000
def hs6 : List (Nat × Nat × Hint) := []
def nm6 : List Nat := [3000000062]
noncomputable def E6 : Env := env tab [(8, cLongC), (10, cSix), (22, cRef15New), (12, cWoven), (23, cHidden), (11, cNewC), (21, cIsC)] [] gl hs6 nm6
def vc6 : Prop :=
 ∀
 (x :
 (Int × List Inl × List (Int × Int × Unit) × Unit) ×
 List (Int × Int × Unit) × Unit),
 List.length x.fst.snd.fst ≤ maxLen ∧ List.length x.fst.snd.snd.fst ≤ maxLen ∧ List.length x.snd.fst ≤ maxLen →
 (List.length x.fst.snd.fst ≤ maxLen ∧ List.length x.fst.snd.snd.fst ≤ maxLen) ∧
 (longC x.fst = true → True ∧ true = true) ∧
 (longC x.fst = false →
 (decide ((↑(List.length x.snd.fst) : Int) > (60 : Int)) = true → True ∧ true = true) ∧
 (decide ((↑(List.length x.snd.fst) : Int) > (60 : Int)) = false →
 List.length x.snd.fst ≤ maxLen ∧
 (((newS x.fst.fst x.snd.fst).snd.snd.fst != (0 : Int)) = true → True ∧ true = true) ∧
 (((newS x.fst.fst x.snd.fst).snd.snd.fst != (0 : Int)) = false →
 (List.length x.fst.snd.fst ≤ maxLen ∧ shortL x.fst.snd.fst) ∧
 RightS (newS x.fst.fst x.snd.fst).snd.fst ∧
 (WfN (topT (treeOf (wovenT x.fst))) ∧
 List.length (hideL (newS x.fst.fst x.snd.fst).snd.fst) ≤ (10000 : Nat)) ∧
 (((newC (wovenT x.fst) (hideL (newS x.fst.fst x.snd.fst).snd.fst)).snd.fst == (0 : Int)) =
 true →
 RightS (newS x.fst.fst x.snd.fst).snd.fst ∧
 (okTxt (x.fst.fst, x.fst.snd.fst, hideL (newS x.fst.fst x.snd.fst).snd.fst, ()) ∧
 smallW (newW x.fst.fst x.fst.snd.fst) ∧
 lowT
 (topT
 (treeOf
 (newC (wovenT x.fst) (hideL (newS x.fst.fst x.snd.fst).snd.fst)).fst))) ∧
 (isC (newC (wovenT x.fst) (hideL (newS x.fst.fst x.snd.fst).snd.fst)).fst
 (x.fst.fst, x.fst.snd.fst, hideL (newS x.fst.fst x.snd.fst).snd.fst, ()) =
 true →
 True ∧ true = true) ∧
 (isC (newC (wovenT x.fst) (hideL (newS x.fst.fst x.snd.fst).snd.fst)).fst
 (x.fst.fst, x.fst.snd.fst, hideL (newS x.fst.fst x.snd.fst).snd.fst, ()) =
 false →
 false = true)) ∧
 (((newC (wovenT x.fst) (hideL (newS x.fst.fst x.snd.fst).snd.fst)).snd.fst == (0 : Int)) =
 false →
 false = true))))
theorem vcEq6 : fnVC E6 Tryz.f6 (bodyOf Tryz.f6) cCreaseFolds = vc6 := by kernel_rfl
def hs22 : List (Nat × Nat × Hint) := [(0, 7, ⟨[.rowS 5 900000005 t46 46, .slot 27 t3], [0, 1, 4, 25, 26], [4], []⟩),
  (0, 12, ⟨[.slot 53 t3], [0, 1, 4, 5, 7, 25, 26, 27, 51, 52], [4, 7], [900000005]⟩),
  (0, 20, ⟨[.rowS 10 900000010 t46 46, .slot 11 t4, .slot 64 t3], [0, 1, 4, 7, 25, 26, 27, 62, 63], [4, 7], [900000005]⟩)]
def nm22 : List Nat := [3000000062]
noncomputable def E22 : Env := env tab [] [] gl hs22 nm22
def vc22 : Prop :=
 ∀ (x : Int × List (Int × Int × Unit) × Unit),
 let y := x.snd.fst;
 let y_1 := x.fst;
 let y_2 := (↑(List.length y) : Int);
 let y_3 := newS y_1 y;
 List.length y ≤ maxLen →
 (decide (y_1 < (0 : Int)) = true → ((0 : Int), [], (1 : Int), ()) = y_3) ∧
 (decide (y_1 < (0 : Int)) = false →
 (decide (y_1 > (1099511627776 : Int)) = true → ((0 : Int), [], (1 : Int), ()) = y_3) ∧
 (decide (y_1 > (1099511627776 : Int)) = false →
 (decide (y_2 > (60 : Int)) = true → ((0 : Int), [], (5 : Int), ()) = y_3) ∧
 (decide (y_2 > (60 : Int)) = false →
 (((0 : Int) = (0 : Int) ∧ True ∧ y_1 = y_1 ∧ y = y ∧ True ∧ y = y ∧ y_2 = y_2) ∧
 ((0 : Int) = (0 : Int) ∧
 Value.slice none (0 : Nat) (0 : Nat) = Value.slice none (0 : Nat) (0 : Nat) ∧
 (0 : Int) = (0 : Int)) ∧
 True ∧ True) ∧
 ∃ (Z : List (Int × Int × Unit) × Int × Unit → Prop),
 ∃ (μ : List (Int × Int × Unit) × Int × Unit → Nat),
 Z ([], (0 : Int), ()) ∧
 ∀ (a : List (Int × Int × Unit)),
 let y_4 := (↑(List.length a) : Int);
 ∀ (a_1 : Int),
 let y_5 := List.getD y (Int.toNat a_1) (Ty.dflt t46);
 let y_6 := IntKind.wrap IntKind.i64 (a_1 + (1 : Int));
 let y_7 := (↑(List.length (List.take (Int.toNat a_1) y)) : Int);
 let y_8 := (a, a_1, ());
 let y_9 := List.take (Int.toNat a_1) y;
 let y_10 := (y_6, ());
 let y_11 := y_5.snd.fst;
 let y_12 := y_5.fst;
 let y_13 := [y_5];
 let y_14 := decide (y_12 ≥ y_11);
 Z y_8 →
 (decide (a_1 < y_2) = true →
 ((0 : Int) ≤ a_1 ∧ a_1 < y_2) ∧
 (decide (y_12 < (0 : Int)) = true → ((0 : Int), [], (1 : Int), ()) = y_3) ∧
 (decide (y_12 < (0 : Int)) = false →
 (y_14 = true → ((0 : Int), [], (1 : Int), ()) = y_3) ∧
 (y_14 = false →
 (decide (y_11 > y_1) = true → ((0 : Int), [], (1 : Int), ()) = y_3) ∧
 (decide (y_11 > y_1) = false →
 ((0 : Int) ≤ a_1 ∧ a_1 ≤ y_2) ∧
 (((0 : Int) = (0 : Int) ∧
 y_1 = y_1 ∧
 y = y ∧
 True ∧
 True ∧
 True ∧
 y = y ∧
 y_2 = y_2 ∧ a_1 = a_1 ∧ y_9 = y_9 ∧ y_7 = y_7) ∧
 (((0 : Int) = (0 : Int) ∧
 Value.slice none (0 : Nat) (0 : Nat) =
 Value.slice none (0 : Nat) (0 : Nat) ∧
 (0 : Int) = (0 : Int)) ∧
 y_12 = y_12 ∧ y_11 = y_11) ∧
 a = a ∧ True) ∧
 ∃ (Z_1 : Int × Unit → Prop),
 ∃ (μ_1 : Int × Unit → Nat),
 Z_1 ((0 : Int), ()) ∧
 ∀ (a_7 : Int),
 let y_15 := IntKind.wrap IntKind.i64 (a_7 + (1 : Int));
 Z_1 (a_7, ()) →
 (decide (a_7 < y_7) = true →
 ((0 : Int) ≤ a_7 ∧ a_7 < y_7) ∧
 (Ty.beq t46 y_5
 (List.getD y_9 (Int.toNat a_7)
 (Ty.dflt t46)) =
 true →
 ((0 : Int), [], (8 : Int), ()) = y_3) ∧
 (Ty.beq t46 y_5
 (List.getD y_9 (Int.toNat a_7)
 (Ty.dflt t46)) =
 false →
 ((y_15 = y_15 ∧
 y_1 = y_1 ∧
 y = y ∧
 True ∧
 True ∧
 True ∧
 y = y ∧
 y_2 = y_2 ∧
 a_1 = a_1 ∧
 y_9 = y_9 ∧ y_7 = y_7) ∧
 (((0 : Int) = (0 : Int) ∧
 Value.slice none (0 : Nat) (0 : Nat) =
 Value.slice none (0 : Nat)
 (0 : Nat) ∧
 (0 : Int) = (0 : Int)) ∧
 y_12 = y_12 ∧ y_11 = y_11) ∧
 a = a ∧ True) ∧
 Z_1 (y_15, ()) ∧
 μ_1 (y_15, ()) < μ_1 (a_7, ()))) ∧
 (decide (a_7 < y_7) = false →
 (((0 : Int) = (0 : Int) ∧
 false = false ∧
 True ∧
 y_1 = y_1 ∧
 y = y ∧
 True ∧
 True ∧
 y = y ∧
 y_2 = y_2 ∧
 a_1 = a_1 ∧ True ∧ y_4 = y_4) ∧
 (((0 : Int) = (0 : Int) ∧
 Value.slice none (0 : Nat) (0 : Nat) =
 Value.slice none (0 : Nat) (0 : Nat) ∧
 (0 : Int) = (0 : Int)) ∧
 y_12 = y_12 ∧ y_11 = y_11) ∧
 True ∧ a = a ∧ True) ∧
 ∃ (Z_2 :
 List (Int × Int × Unit) × Bool × Int × Unit →
 Prop),
 ∃ (μ_2 :
 List (Int × Int × Unit) × Bool × Int × Unit →
 Nat),
 Z_2 ([], false, (0 : Int), ()) ∧
 ∀ (a_10 : List (Int × Int × Unit)),
 let y_16 := a_10 ++ y_13;
 let y_17 :=  List.length a_10 + List.length y_13;
 let y_18 := (a_10, y_10);
 let y_19 := y_17 * (16 : Nat);
 let y_20 := (y_16, y_10);
 ∀ (a_11 : Bool) (a_12 : Int),
 let y_21 :=  (a_10 ++  [List.getD a (Int.toNat a_12)  (Ty.dflt t46)],  a_11,  IntKind.wrap IntKind.i64  (a_12 + (1 : Int)),  ());
 let y_22 := (a_10, a_11, a_12, ());
 let y_23 :=  (y_16 ++  [List.getD a (Int.toNat a_12)  (Ty.dflt t46)],  true,  IntKind.wrap IntKind.i64  (a_12 + (1 : Int)),  ());
 let y_24 :=  [List.getD a (Int.toNat a_12)  (Ty.dflt t46)];
 let y_25 :=  IntKind.wrap IntKind.i64  (a_12 + (1 : Int));
 let y_26 :=  (List.getD a (Int.toNat a_12)  (Ty.dflt t46)).fst;
 let y_27 :=  (List.getD a (Int.toNat a_12)  (Ty.dflt t46)).snd.fst;
 let y_28 := a_10 ++ y_24;
 let y_29 :=  List.length a_10 + List.length y_24;
 let y_30 := y_16 ++ y_24;
 let y_31 :=  List.length y_16 + List.length y_24;
 let y_32 := y_29 * (16 : Nat);
 Z_2 y_22 →
 (decide (a_12 < y_4) = true →
 ((0 : Int) ≤ a_12 ∧ a_12 < y_4) ∧
 ((!a_11) = true →
 (decide (y_12 < y_26) = true →
 y_19 ≤
 (140737488355328 :
 Nat) ∧
 y_17 ≤ maxLen ∧
 y_31 * (16 : Nat) ≤
 (140737488355328 :
 Nat) ∧
 y_31 ≤ maxLen ∧
 ((y_25 = y_25 ∧
 true =
 true ∧
 True ∧
 y_1 =
 y_1 ∧
 y =
 y ∧
 True ∧
 True ∧
 y =
 y ∧
 y_2 =
 y_2 ∧
 a_1 =
 a_1 ∧
 True ∧
 y_4 =
 y_4) ∧
 (((0 : Int) =
 (0 :
 Int) ∧
 Value.slice
 none
 (0 :
 Nat)
 (0 :
 Nat) =
 Value.slice
 none
 (0 :
 Nat)
 (0 :
 Nat) ∧
 (0 :
 Int) =
 (0 :
 Int)) ∧
 y_12 =
 y_12 ∧
 y_11 =
 y_11) ∧
 y_30 =
 y_30 ∧
 a = a ∧
 True) ∧
 Z_2 y_23 ∧
 μ_2 y_23 <
 μ_2 y_22) ∧
 (decide (y_12 < y_26) =
 false →
 ((y_12 == y_26) = true →
 (decide
 (y_11 <
 y_27) =
 true →
 y_19 ≤
 (140737488355328 :
 Nat) ∧
 y_17 ≤ maxLen ∧
 y_31 *
 (16 :
 Nat) ≤
 (140737488355328 :
 Nat) ∧
 y_31 ≤
 maxLen ∧
 ((y_25 =
 y_25 ∧
 true =
 true ∧
 True ∧
 y_1 =
 y_1 ∧
 y =
 y ∧
 True ∧
 True ∧
 y =
 y ∧
 y_2 =
 y_2 ∧
 a_1 =
 a_1 ∧
 True ∧
 y_4 =
 y_4) ∧
 (((0 :
 Int) =
 (0 :
 Int) ∧
 Value.slice
 none
 (0 :
 Nat)
 (0 :
 Nat) =
 Value.slice
 none
 (0 :
 Nat)
 (0 :
 Nat) ∧
 (0 :
 Int) =
 (0 :
 Int)) ∧
 y_12 =
 y_12 ∧
 y_11 =
 y_11) ∧
 y_30 =
 y_30 ∧
 a =
 a ∧
 True) ∧
 Z_2
 y_23 ∧
 μ_2
 y_23 <
 μ_2
 y_22) ∧
 (decide
 (y_11 <
 y_27) =
 false →
 y_32 ≤
 (140737488355328 :
 Nat) ∧
 y_29 ≤ maxLen ∧
 ((y_25 =
 y_25 ∧
 a_11 =
 a_11 ∧
 True ∧
 y_1 =
 y_1 ∧
 y =
 y ∧
 True ∧
 True ∧
 y =
 y ∧
 y_2 =
 y_2 ∧
 a_1 =
 a_1 ∧
 True ∧
 y_4 =
 y_4) ∧
 (((0 :
 Int) =
 (0 :
 Int) ∧
 Value.slice
 none
 (0 :
 Nat)
 (0 :
 Nat) =
 Value.slice
 none
 (0 :
 Nat)
 (0 :
 Nat) ∧
 (0 :
 Int) =
 (0 :
 Int)) ∧
 y_12 =
 y_12 ∧
 y_11 =
 y_11) ∧
 y_28 =
 y_28 ∧
 a =
 a ∧
 True) ∧
 Z_2 y_21 ∧
 μ_2 y_21 <
 μ_2
 y_22)) ∧
 ((y_12 == y_26) =
 false →
 y_32 ≤
 (140737488355328 :
 Nat) ∧
 y_29 ≤ maxLen ∧
 ((y_25 = y_25 ∧
 a_11 =
 a_11 ∧
 True ∧
 y_1 =
 y_1 ∧
 y =
 y ∧
 True ∧
 True ∧
 y =
 y ∧
 y_2 =
 y_2 ∧
 a_1 =
 a_1 ∧
 True ∧
 y_4 =
 y_4) ∧
 (((0 : Int) =
 (0 :
 Int) ∧
 Value.slice
 none
 (0 :
 Nat)
 (0 :
 Nat) =
 Value.slice
 none
 (0 :
 Nat)
 (0 :
 Nat) ∧
 (0 :
 Int) =
 (0 :
 Int)) ∧
 y_12 =
 y_12 ∧
 y_11 =
 y_11) ∧
 y_28 =
 y_28 ∧
 a = a ∧
 True) ∧
 Z_2 y_21 ∧
 μ_2 y_21 <
 μ_2
 y_22))) ∧
 ((!a_11) = false →
 y_32 ≤
 (140737488355328 : Nat) ∧
 y_29 ≤ maxLen ∧
 ((y_25 = y_25 ∧
 a_11 = a_11 ∧
 True ∧
 y_1 = y_1 ∧
 y = y ∧
 True ∧
 True ∧
 y = y ∧
 y_2 =
 y_2 ∧
 a_1 =
 a_1 ∧
 True ∧
 y_4 =
 y_4) ∧
 (((0 : Int) =
 (0 : Int) ∧
 Value.slice none
 (0 : Nat)
 (0 :
 Nat) =
 Value.slice
 none
 (0 : Nat)
 (0 :
 Nat) ∧
 (0 : Int) =
 (0 : Int)) ∧
 y_12 = y_12 ∧
 y_11 = y_11) ∧
 y_28 = y_28 ∧
 a = a ∧ True) ∧
 Z_2 y_21 ∧
 μ_2 y_21 <
 μ_2 y_22)) ∧
 (decide (a_12 < y_4) = false →
 ((!a_11) = true →
 y_19 ≤ (140737488355328 : Nat) ∧
 y_17 ≤ maxLen ∧
 ((y_6 = y_6 ∧
 True ∧
 y_1 = y_1 ∧
 y = y ∧
 True ∧
 y = y ∧
 y_2 = y_2) ∧
 ((0 : Int) = (0 : Int) ∧
 Value.slice none
 (0 : Nat)
 (0 : Nat) =
 Value.slice none
 (0 : Nat)
 (0 : Nat) ∧
 (0 : Int) =
 (0 : Int)) ∧
 y_16 = y_16 ∧ True) ∧
 Z y_20 ∧ μ y_20 < μ y_8) ∧
 ((!a_11) = false →
 ((y_6 = y_6 ∧
 True ∧
 y_1 = y_1 ∧
 y = y ∧
 True ∧
 y = y ∧
 y_2 = y_2) ∧
 ((0 : Int) = (0 : Int) ∧
 Value.slice none
 (0 : Nat)
 (0 : Nat) =
 Value.slice none
 (0 : Nat)
 (0 : Nat) ∧
 (0 : Int) =
 (0 : Int)) ∧
 a_10 = a_10 ∧ True) ∧
 Z y_18 ∧
 μ y_18 < μ y_8))))))) ∧
 (decide (a_1 < y_2) = false → (y_1, a, (0 : Int), ()) = y_3))))
theorem vcEq22 : fnVC E22 Tryz.f22 (bodyOf Tryz.f22) cRef15New = vc22 := by kernel_rfl
def hs23 : List (Nat × Nat × Hint) := [(0, 4, ⟨[.rowS 3 900000003 t46 46, .slot 4 t3], [], [], []⟩)]
def nm23 : List Nat := [3000000062]
noncomputable def E23 : Env := env tab [(50, cOver)] [] gl hs23 nm23
def vc23 : Prop :=
 ∀ (x : (Int × List (Int × Int × Unit) × Int × Unit) × Unit),
 let y := x.fst.snd.fst;
 let y_1 := [] ++ y;
 RightS y →
 ((0 : Nat) + List.length y) * (16 : Nat) ≤ (140737488355328 : Nat) ∧
 (0 : Nat) + List.length y ≤ maxLen ∧
 (((0 : Int) = (0 : Int) ∧ True) ∧ y_1 = y_1 ∧ True) ∧
 ∃ (Z : List (Int × Int × Unit) × Int × Unit → Prop),
 ∃ (μ : List (Int × Int × Unit) × Int × Unit → Nat),
 Z (y_1, (0 : Int), ()) ∧
 ∀ (a : List (Int × Int × Unit)),
 let y_2 := (↑(List.length a) : Int);
 ∀ (a_1 : Int),
 let y_3 :=  [] ++ List.take (Int.toNat a_1) a ++  [((List.getD a (Int.toNat a_1) (Ty.dflt t46)).fst,  (List.getD a (Int.toNat (IntKind.wrap IntKind.i64 (a_1 + (1 : Int)))) (Ty.dflt t46)).snd)];
 let y_4 := IntKind.wrap IntKind.i64 (a_1 + (1 : Int));
 let y_5 := [] ++ List.take (Int.toNat a_1) a ++ [List.getD a (Int.toNat a_1) (Ty.dflt t46)];
 let y_6 := (a, a_1, ());
 let y_7 := IntKind.wrap IntKind.i64 (a_1 + (2 : Int));
 let y_8 := (0 : Nat) + List.length (List.take (Int.toNat a_1) a);
 let y_9 := List.getD a (Int.toNat a_1) (Ty.dflt t46);
 let y_10 := List.length ([] ++ List.take (Int.toNat a_1) a);
 let y_11 := y_10 + List.length [y_9];
 let y_12 := y_9.snd.fst;
 let y_13 := y_5 ++ List.drop (Int.toNat y_7) a;
 let y_14 := List.length y_5 + List.length (List.drop (Int.toNat y_7) a);
 let y_15 := (y_13, a_1, ());
 let y_16 :=  !(decide (y_9.fst < (List.getD a (Int.toNat y_4) (Ty.dflt t46)).snd.fst) &&  decide ((List.getD a (Int.toNat y_4) (Ty.dflt t46)).fst < y_12));
 let y_17 := decide ((List.getD a (Int.toNat y_4) (Ty.dflt t46)).snd.fst > y_12);
 let y_18 := y_10 + List.length [(y_9.fst, (List.getD a (Int.toNat y_4) (Ty.dflt t46)).snd)];
 let y_19 := (a, y_4, ());
 let y_20 := y_3 ++ List.drop (Int.toNat y_7) a;
 let y_21 := List.length y_3 + List.length (List.drop (Int.toNat y_7) a);
 let y_22 := (y_20, a_1, ());
 Z y_6 →
 (decide (y_4 < y_2) = true →
 ((0 : Int) ≤ a_1 ∧ a_1 < y_2) ∧
 ((0 : Int) ≤ y_4 ∧ y_4 < y_2) ∧
 True ∧
 (y_16 = true → ((y_4 = y_4 ∧ True) ∧ a = a ∧ True) ∧ Z y_19 ∧ μ y_19 < μ y_6) ∧
 (y_16 = false →
 ((0 : Int) ≤ a_1 ∧ a_1 < y_2) ∧
 ((0 : Int) ≤ y_4 ∧ y_4 < y_2) ∧
 (y_17 = true →
 ((0 : Int) ≤ y_4 ∧ y_4 < y_2) ∧
 ((0 : Int) ≤ a_1 ∧ a_1 ≤ y_2) ∧
 y_8 * (16 : Nat) ≤ (140737488355328 : Nat) ∧
 y_8 ≤ maxLen ∧
 ((0 : Int) ≤ a_1 ∧ a_1 < y_2) ∧
 y_18 * (16 : Nat) ≤ (140737488355328 : Nat) ∧
 y_18 ≤ maxLen ∧
 ((0 : Int) ≤ y_7 ∧ y_7 ≤ y_2) ∧
 y_21 * (16 : Nat) ≤ (140737488355328 : Nat) ∧
 y_21 ≤ maxLen ∧
 ((a_1 = a_1 ∧ True) ∧ y_20 = y_20 ∧ True) ∧
 Z y_22 ∧ μ y_22 < μ y_6) ∧
 (y_17 = false →
 ((0 : Int) ≤ a_1 ∧ a_1 ≤ y_2) ∧
 y_8 * (16 : Nat) ≤ (140737488355328 : Nat) ∧
 y_8 ≤ maxLen ∧
 ((0 : Int) ≤ a_1 ∧ a_1 < y_2) ∧
 y_11 * (16 : Nat) ≤ (140737488355328 : Nat) ∧
 y_11 ≤ maxLen ∧
 ((0 : Int) ≤ y_7 ∧ y_7 ≤ y_2) ∧
 y_14 * (16 : Nat) ≤ (140737488355328 : Nat) ∧
 y_14 ≤ maxLen ∧
 ((a_1 = a_1 ∧ True) ∧ y_13 = y_13 ∧ True) ∧
 Z y_15 ∧ μ y_15 < μ y_6))) ∧
 (decide (y_4 < y_2) = false → a = hideL y)
theorem vcEq23 : fnVC E23 Tryz.f23 (bodyOf Tryz.f23) cHidden = vc23 := by kernel_rfl
def hs50 : List (Nat × Nat × Hint) := []
def nm50 : List Nat := [3000000062]
noncomputable def E50 : Env := env tab [] [] gl hs50 nm50
def vc50 : Prop :=
 ∀ (x : (Int × Int × Unit) × (Int × Int × Unit) × Unit),
 True →
 (decide (x.fst.fst < x.snd.fst.snd.fst) = true →
 decide (x.snd.fst.fst < x.fst.snd.fst) =
 (decide (x.fst.fst < x.snd.fst.snd.fst) && decide (x.snd.fst.fst < x.fst.snd.fst))) ∧
 (decide (x.fst.fst < x.snd.fst.snd.fst) = false →
 false = (decide (x.fst.fst < x.snd.fst.snd.fst) && decide (x.snd.fst.fst < x.fst.snd.fst)))
theorem vcEq50 : fnVC E50 Tryz.f50 (bodyOf Tryz.f50) cOver = vc50 := by kernel_rfl
end Go.Fr.Z16
namespace Go.Fr.Z16
open Go Go.Fr Go.Proofs Go.Sort
theorem p50 : vc50 := by
  unfold vc50
  intro x _
  refine ⟨fun h1 => by rw [h1]; rfl, fun h1 => by rw [h1]; rfl⟩
theorem cmpS_lt {a b : Span} : cmpS a b < 0 ↔ a.1 < b.1 ∨ (a.1 = b.1 ∧ a.2.1 < b.2.1) := by
  unfold cmpS firstNZ firstNZ firstNZ cmpI
  split <;> (try split) <;> (try split) <;> (try split) <;> (try split) <;> (try split) <;> omega
theorem span_ext {a b : Span} (h1 : a.1 = b.1) (h2 : a.2.1 = b.2.1) : a = b := by
  obtain ⟨a1, a2, ⟨⟩⟩ := a
  obtain ⟨b1, b2, ⟨⟩⟩ := b
  simp only at h1 h2
  subst h1 h2
  rfl
theorem ltS {x y : Span} : ltOf cmpS x y = decide (x.1 < y.1 ∨ (x.1 = y.1 ∧ x.2.1 < y.2.1)) := by
  unfold ltOf
  exact decide_eq_decide.2 cmpS_lt
theorem swoS : SWO (ltOf cmpS) where
  irrefl x := by rw [ltS]; simp
  trans x y z h1 h2 := by rw [ltS] at *; simp at *; omega
  ntrans x y z h1 h2 := by rw [ltS] at *; simp at *; omega
theorem totS (x y : Span) (h1 : ltOf cmpS x y = false) (h2 : ltOf cmpS y x = false) : x = y := by
  rw [ltS] at h1 h2
  simp at h1 h2
  exact span_ext (by omega) (by omega)
theorem okS_iff {n : Int} {x : Span} : okS n x = true ↔ 0 ≤ x.1 ∧ x.1 < x.2.1 ∧ x.2.1 ≤ n := by simp [okS]
theorem okS_no {n : Int} {x : Span} : okS n x = false ↔ ¬ (0 ≤ x.1 ∧ x.1 < x.2.1 ∧ x.2.1 ≤ n) := by simp [okS]
theorem errS_bad {n : Int} {seen : List Span} {x : Span} {r : List Span} (h : okS n x = false) : errF n seen (x :: r) = 1 := by simp [errF, h]
theorem errS_same {n : Int} {seen : List Span} {x : Span} {r : List Span} (h : okS n x = true) (hs : x ∈ seen) : errF n seen (x :: r) = 8 := by simp [errF, h, hs]
theorem errS_on {n : Int} {seen : List Span} {x : Span} {r : List Span} (h : okS n x = true) (hs : x ∉ seen) : errF n seen (x :: r) = errF n (seen ++ [x]) r := by simp [errF, h, hs]
theorem newS_err {n : Int} {l : List Span} {e : Int} (h0 : ¬ n < 0) (h1 : ¬ n > 1099511627776) (h2 : ¬ (l.length : Int) > 60) (he : errF n [] l = e) (hne : e ≠ 0) : newS n l = (0, [], e, ()) := by
  unfold newS
  rw [if_neg (by omega), if_neg h2, he, if_neg hne]
theorem take_snocS {l : List Span} {k : Nat} (h : k < l.length) : l.take (k + 1) = l.take k ++ [l.getD k zSp] := by
  rw [List.take_succ_eq_append_getElem h, getD_of zSp h]
def insS (x : Span) (l : List Span) : List Span := insBy cmpS x l
theorem insS_lt {x y : Span} {r : List Span} (h : x.1 < y.1 ∨ (x.1 = y.1 ∧ x.2.1 < y.2.1)) : insS x (y :: r) = x :: y :: r := by
  unfold insS insBy
  rw [if_pos (cmpS_lt.2 h)]
theorem insS_ge {x y : Span} {r : List Span} (h : ¬ (x.1 < y.1 ∨ (x.1 = y.1 ∧ x.2.1 < y.2.1))) : insS x (y :: r) = y :: insS x r := by
  conv => lhs; unfold insS insBy
  rw [if_neg (fun hh => h (cmpS_lt.1 hh))]
  rfl
theorem insS_len (x : Span) (l : List Span) : (insS x l).length = l.length + 1 := by
  have := (insBy_perm (cf := cmpS) x l).length_eq
  simpa [insS] using this
def insAll (l : List Span) : List Span := l.foldl (fun o x => insS x o) []
theorem insAll_sort (l : List Span) : insAll l = sortS l := ins_sort swoS totS l
theorem insAll_len (l : List Span) : (insAll l).length = l.length := by
  rw [insAll_sort]
  exact (sortBy_perm l).length_eq
theorem insAll_snoc {l : List Span} {k : Nat} (h : k < l.length) : insAll (l.take (k + 1)) = insS (l.getD k zSp) (insAll (l.take k)) := by
  rw [take_snocS h]
  simp [insAll]
theorem p22 : vc22 := by
  unfold vc22
  simp only [eq_self, true_and, and_true, decide_eq_true_eq, decide_eq_false_iff_not, beq_iff_eq, beq_eq_false_iff_ne, bne_iff_ne, bne_eq_false_iff_eq, Bool.not_eq_true', Bool.not_eq_false', ne_eq, imp_true_iff, implies_true]
  rintro ⟨n, l, ⟨⟩⟩
  simp only [maxLen_eq, d46]
  intro hlm
  refine ⟨fun h0 => by simp [newS, h0], fun h0 => ⟨fun h1 => by simp [newS, h1], fun h1 => ⟨fun h2 => ?_, fun h2 => ?_⟩⟩⟩
  · unfold newS
    rw [if_neg (by omega), if_pos h2]
  refine ⟨fun z => ∃ k : Nat, k ≤ l.length ∧ z.2.1 = (k : Int) ∧ z.1 = insAll (l.take k) ∧ errF n [] l = errF n (l.take k) (l.drop k), fun z => l.length - z.2.1.toNat, ⟨0, Nat.zero_le _, rfl, rfl, rfl⟩, ?_⟩
  rintro out i ⟨k, hk, hi, ho, he⟩
  simp only at hi ho
  subst hi
  simp only [toNat_cast]
  refine ⟨fun h3 => ?_, fun h3 => ?_⟩
  · have hk' : k < l.length := by omega
    have hd := drop_cons zSp hk'
    rw [hd] at he
    generalize hx : l.getD k zSp = x at he ⊢
    have hwk : IntKind.i64.wrap ((k : Int) + 1) = ((k + 1 : Nat) : Int) := wrap_succ (by omega)
    refine ⟨by omega, fun h4 => ?_, fun h4 => ⟨fun h5 => ?_, fun h5 => ⟨fun h6 => ?_, fun h6 => ⟨by omega, ?_⟩⟩⟩⟩
    · exact (newS_err h0 h1 h2 (he.trans (errS_bad (okS_no.2 (by omega)))) (by decide)).symm
    · exact (newS_err h0 h1 h2 (he.trans (errS_bad (okS_no.2 (by omega)))) (by decide)).symm
    · exact (newS_err h0 h1 h2 (he.trans (errS_bad (okS_no.2 (by omega)))) (by decide)).symm
    have hok : okS n x = true := okS_iff.2 (by omega)
    have hlt : (l.take k).length = k := by simp; omega
    rw [hlt]
    refine ⟨fun z => ∃ j : Nat, j ≤ k ∧ z.1 = (j : Int) ∧ ∀ m, m < j → (l.take k).getD m zSp ≠ x, fun z => k - z.1.toNat, ⟨0, Nat.zero_le _, rfl, fun m hm => by omega⟩, ?_⟩
    rintro j0 ⟨j, hj, hj0, hne⟩
    simp only at hj0
    subst hj0
    simp only [toNat_cast]
    refine ⟨fun h7 => ⟨by omega, fun h8 => ?_, fun h8 => ?_⟩, fun h7 => ?_⟩
    · have h8 := (beqS _ _).1 h8
      have hm : x ∈ l.take k := by
        rw [h8, getD_of zSp (show j < (l.take k).length by omega)]
        exact List.getElem_mem _
      exact (newS_err h0 h1 h2 (he.trans (errS_same hok hm)) (by decide)).symm
    · have h8 := (beqS_f _ _).1 h8
      have hw : IntKind.i64.wrap ((j : Int) + 1) = ((j + 1 : Nat) : Int) := wrap_succ (by omega)
      rw [hw, toNat_cast]
      refine ⟨⟨j + 1, by omega, rfl, fun m hm => ?_⟩, by omega⟩
      by_cases e : m = j
      · subst e; exact fun hh => h8 hh.symm
      · exact hne m (by omega)
    have hjk : j = k := by omega
    subst hjk
    have hnot : x ∉ l.take j := by
      intro hm
      obtain ⟨m, hm1, hm2⟩ := List.getElem_of_mem hm
      exact hne m (by omega) (by rw [getD_of zSp hm1]; exact hm2)
    have he2 : errF n [] l = errF n (l.take (j + 1)) (l.drop (j + 1)) := by
      rw [he, errS_on hok hnot, take_snocS hk', hx]
    have hol : out.length = j := by rw [ho, insAll_len, hlt]
    have hlast : insAll (l.take (j + 1)) = insS x out := by rw [insAll_snoc hk', hx, ho]
    have fin : ∀ o : List Span, o = insS x out → (∃ k' : Nat, k' ≤ l.length ∧ ((j + 1 : Nat) : Int) = (k' : Int) ∧ o = insAll (l.take k') ∧ errF n [] l = errF n (l.take k') (l.drop k')) ∧ l.length - (((j + 1 : Nat) : Int)).toNat < l.length - j :=
      fun o hoo => ⟨⟨j + 1, hk', rfl, by rw [hlast, hoo], he2⟩, by rw [toNat_cast]; omega⟩
    rw [hol, hwk]
    refine ⟨fun z => ∃ m : Nat, m ≤ j ∧ z.2.2.1 = (m : Int) ∧ z.1.length ≤ j + 1 ∧ (z.2.1 = true → z.1 ++ out.drop m = insS x out) ∧ (z.2.1 = false → z.1 = out.take m ∧ insS x out = out.take m ++ insS x (out.drop m)), fun z => j - z.2.2.1.toNat,
      ⟨0, Nat.zero_le _, rfl, Nat.zero_le _, fun h => (by cases h), fun _ => ⟨rfl, rfl⟩⟩, ?_⟩
    rintro nx put i ⟨m, hm, hi, hnl, ht, hf⟩
    simp only at hi hnl ht hf
    subst hi
    simp only [toNat_cast]
    refine ⟨fun h8 => ?_, fun h8 => ?_⟩
    · have hm' : m < out.length := by omega
      have hdm := drop_cons zSp hm'
      have htm := take_snocS (l := out) hm'
      generalize hy : out.getD m zSp = y at hdm htm ⊢
      have hwm : IntKind.i64.wrap ((m : Int) + 1) = ((m + 1 : Nat) : Int) := wrap_succ (by omega)
      rw [hwm]
      have nlen : put = false → nx.length = m := fun h => by rw [(hf h).1]; simp; omega
      have tlen : put = true → nx.length = m + 1 := fun h => by
        have := congrArg List.length (ht h)
        rw [insS_len, List.length_append, List.length_drop] at this
        omega
      have goPut : put = false → (x.1 < y.1 ∨ (x.1 = y.1 ∧ x.2.1 < y.2.1)) → (∃ m' : Nat, m' ≤ j ∧ ((m + 1 : Nat) : Int) = (m' : Int) ∧ (nx ++ [x] ++ [y]).length ≤ j + 1 ∧ (true = true → nx ++ [x] ++ [y] ++ out.drop m' = insS x out) ∧ (true = false → nx ++ [x] ++ [y] = out.take m' ∧ insS x out = out.take m' ++ insS x (out.drop m'))) ∧ j - (((m + 1 : Nat) : Int)).toNat < j - m := by
        intro hp hl
        obtain ⟨q1, q2⟩ := hf hp
        refine ⟨⟨m + 1, by omega, rfl, by have := nlen hp; simp; omega, fun _ => ?_, fun h => by cases h⟩, by rw [toNat_cast]; omega⟩
        rw [q2, hdm, insS_lt hl, q1]
        simp
      have goOn : put = false → ¬ (x.1 < y.1 ∨ (x.1 = y.1 ∧ x.2.1 < y.2.1)) → (∃ m' : Nat, m' ≤ j ∧ ((m + 1 : Nat) : Int) = (m' : Int) ∧ (nx ++ [y]).length ≤ j + 1 ∧ (put = true → nx ++ [y] ++ out.drop m' = insS x out) ∧ (put = false → nx ++ [y] = out.take m' ∧ insS x out = out.take m' ++ insS x (out.drop m'))) ∧ j - (((m + 1 : Nat) : Int)).toNat < j - m := by
        intro hp hl
        obtain ⟨q1, q2⟩ := hf hp
        refine ⟨⟨m + 1, by omega, rfl, by have := nlen hp; simp; omega, fun h => (by rw [hp] at h; cases h), fun _ => ⟨by rw [htm, q1], ?_⟩⟩, by rw [toNat_cast]; omega⟩
        rw [q2, hdm, insS_ge hl, htm]
        simp
      have goTail : put = true → (∃ m' : Nat, m' ≤ j ∧ ((m + 1 : Nat) : Int) = (m' : Int) ∧ (nx ++ [y]).length ≤ j + 1 ∧ (put = true → nx ++ [y] ++ out.drop m' = insS x out) ∧ (put = false → nx ++ [y] = out.take m' ∧ insS x out = out.take m' ++ insS x (out.drop m'))) ∧ j - (((m + 1 : Nat) : Int)).toNat < j - m := by
        intro hp
        refine ⟨⟨m + 1, by omega, rfl, by have := tlen hp; simp; omega, fun _ => ?_, fun h => (by rw [hp] at h; cases h)⟩, by rw [toNat_cast]; omega⟩
        rw [← ht hp, hdm]
        simp
      simp only [List.length_append, List.length_singleton, List.length_cons, List.length_nil]
      simp only [List.length_append, List.length_singleton, List.length_cons, List.length_nil] at goPut goOn goTail
      refine ⟨by omega, fun h9 => ⟨fun h10 => ⟨by omega, by omega, by omega, by omega, goPut h9 (.inl h10)⟩, fun h10 => ⟨fun h11 => ⟨fun h12 => ⟨by omega, by omega, by omega, by omega, goPut h9 (.inr ⟨h11, h12⟩)⟩, fun h12 => ⟨by omega, by omega, goOn h9 (by omega)⟩⟩, fun h11 => ⟨by omega, by omega, goOn h9 (by omega)⟩⟩⟩, fun h9 => ⟨by omega, by omega, goTail h9⟩⟩
    · have hmj : m = out.length := by omega
      have hm2 : m = j := by omega
      subst hm2
      refine ⟨fun h9 => ?_, fun h9 => ?_⟩
      · obtain ⟨q1, q2⟩ := hf h9
        have e1 : nx ++ [x] = insS x out := by
          rw [q2, q1, hmj, List.drop_length]
          rfl
        refine ⟨by simp; omega, by simp; omega, ?_⟩
        exact fin _ e1
      · have e1 : nx = insS x out := by
          rw [← ht h9, hmj, List.drop_length, List.append_nil]
        exact fin _ e1
  · have hke : k = l.length := by omega
    subst hke
    rw [List.take_length] at ho
    rw [List.take_length, List.drop_length] at he
    unfold newS
    rw [if_neg (by omega), if_neg h2, he, if_pos (by rfl), ho, insAll_sort]
theorem hide_over {pre : List Span} {u y : Span} (h : y.1 < u.2.1) : hideStep (pre ++ [u]) y = pre ++ [(u.1, if u.2.1 < y.2.1 then y.2.1 else u.2.1, ())] := by
  unfold hideStep
  rw [List.getLast?_concat]
  simp only
  rw [if_pos h, List.dropLast_concat]
theorem hide_apart {pre : List Span} {u y : Span} (h : ¬ y.1 < u.2.1) : hideStep (pre ++ [u]) y = pre ++ [u] ++ [y] := by
  unfold hideStep
  rw [List.getLast?_concat]
  simp only
  rw [if_neg h]
theorem p23 : vc23 := by
  unfold vc23
  simp only [eq_self, true_and, and_true, decide_eq_true_eq, decide_eq_false_iff_not, beq_iff_eq, beq_eq_false_iff_ne, bne_iff_ne, bne_eq_false_iff_eq, Bool.not_eq_true', Bool.not_eq_false', ne_eq, imp_true_iff, implies_true]
  rintro ⟨w, ⟨⟩⟩
  simp only [maxLen_eq, d46, List.nil_append, List.length_singleton, Nat.zero_add]
  rintro ⟨hl, hs, hv⟩
  generalize w.2.1 = L at hl hs hv ⊢
  have hs : (L.map (fun x : Span => x.1)).Pairwise (· ≤ ·) := List.pairwise_map.2 hs
  refine ⟨by omega, by omega, ?_⟩
  refine ⟨fun z => ∃ i : Nat, z.2.1 = (i : Int) ∧ z.1.length ≤ 1000 ∧ (z.1.map (fun x : Span => x.1)).Pairwise (· ≤ ·) ∧ (∀ x ∈ z.1, x.1 < x.2.1) ∧ (i < z.1.length ∨ z.1 = []) ∧ i ≤ 1000 ∧ (z.1.drop (i + 1)).foldl hideStep (z.1.take (i + 1)) = hideL L, fun z => 2 * z.1.length - z.2.1.toNat, ⟨0, rfl, hl, hs, hv, ?_, Nat.zero_le _, ?_⟩, ?_⟩
  · cases L with
    | nil => exact .inr rfl
    | cons x r => exact .inl (by simp)
  · cases L with
    | nil => rfl
    | cons x r => rfl
  rintro a j ⟨i, hj, hal, has, hav, hin, hi0, hh⟩
  simp only at hj hal has hav hin hi0 hh
  subst hj
  have hw1 : IntKind.i64.wrap ((i : Int) + 1) = ((i + 1 : Nat) : Int) := wrap_succ (by omega)
  have hw2 : IntKind.i64.wrap ((i : Int) + 2) = ((i + 2 : Nat) : Int) := by
    rw [wrap_id (by omega) (by omega)]
    omega
  rw [hw1, hw2]
  simp only [toNat_cast]
  refine ⟨fun h1 => ?_, fun h1 => ?_⟩
  · have hi1 : i + 1 < a.length := by omega
    have hd := drop_cons zSp hi1
    have ht := take_one zSp (show i < a.length by omega)
    have ht2 := take_one zSp hi1
    have hsplit : a = a.take i ++ a.getD i zSp :: a.getD (i + 1) zSp :: a.drop (i + 2) := by
      rw [← drop_cons zSp hi1, ← drop_cons zSp (show i < a.length by omega), List.take_append_drop]
    have hu := hav _ (by rw [getD_of zSp (show i < a.length by omega)]; exact List.getElem_mem _ : a.getD i zSp ∈ a)
    have hy := hav _ (by rw [getD_of zSp hi1]; exact List.getElem_mem _ : a.getD (i + 1) zSp ∈ a)
    have hord : (a.getD i zSp).1 ≤ (a.getD (i + 1) zSp).1 := by
      rw [hsplit, List.map_append, List.map_cons, List.map_cons] at has
      have := (List.pairwise_append.1 has).2.1
      exact (List.pairwise_cons.1 this).1 _ (List.mem_cons_self ..)
    have hsub : ∀ m : Span, m.1 = (a.getD i zSp).1 → ((a.take i ++ [m] ++ a.drop (i + 2)).map (fun x : Span => x.1)).Pairwise (· ≤ ·) := by
      intro m hm
      refine List.Pairwise.sublist ?_ has
      conv => rhs; rw [hsplit]
      rw [List.append_assoc, List.map_append, List.map_append, List.map_append, List.map_cons, List.map_cons]
      refine List.Sublist.append (List.Sublist.refl _) ?_
      simp only [List.map_singleton, List.singleton_append, List.map_nil, List.map_cons, hm]
      exact List.Sublist.cons_cons _ (List.sublist_cons_self ..)
    have hval : ∀ m : Span, m.1 < m.2.1 → ∀ x ∈ a.take i ++ [m] ++ a.drop (i + 2), x.1 < x.2.1 := by
      intro m hm x hx
      rcases List.mem_append.1 hx with hx | hx
      · rcases List.mem_append.1 hx with hx | hx
        · exact hav x (List.mem_of_mem_take hx)
        · rw [List.mem_singleton.1 hx]; exact hm
      · exact hav x (List.mem_of_mem_drop hx)
    have hlen : ∀ m : Span, (a.take i ++ [m] ++ a.drop (i + 2)).length = a.length - 1 := by
      intro m
      simp
      omega
    have htk : ∀ m : Span, (a.take i ++ [m] ++ a.drop (i + 2)).take (i + 1) = a.take i ++ [m] ∧ (a.take i ++ [m] ++ a.drop (i + 2)).drop (i + 1) = a.drop (i + 2) := by
      intro m
      have hl2 : (a.take i ++ [m]).length = i + 1 := by simp; omega
      exact ⟨List.take_left' hl2, List.drop_left' hl2⟩
    rw [hd, List.foldl_cons, ht] at hh
    clear hsplit hd
    obtain ⟨u, hu0⟩ : ∃ u : Span, a.getD i zSp = u := ⟨_, rfl⟩
    obtain ⟨y, hy0⟩ : ∃ y : Span, a.getD (i + 1) zSp = y := ⟨_, rfl⟩
    simp only [hu0, hy0] at hh hu hy hord hsub ht ht2 ⊢
    have ltk : (a.take i).length = i := by rw [List.length_take]; omega
    have ldr : (a.drop (i + 2)).length = a.length - (i + 2) := List.length_drop ..
    have l1 : ∀ m : Span, (a.take i ++ [m]).length = i + 1 := fun m => by rw [List.length_append, ltk]; rfl
    rw [ltk, ldr]
    simp only [l1]
    refine ⟨⟨by omega, by omega⟩, ⟨by omega, by omega⟩, fun h2 => ?_, fun h2 => ?_⟩
    · have hno : ¬ y.1 < u.2.1 := by
        simp at h2
        omega
      rw [hide_apart hno, ← ht] at hh
      refine ⟨⟨i + 1, rfl, hal, has, hav, .inl hi1, by omega, ?_⟩, by omega⟩
      rw [ht2]
      exact hh
    · have hyes : y.1 < u.2.1 := by
        simp at h2
        omega
      rw [hide_over hyes] at hh
      have fin : ∀ m : Span, m = (u.1, if u.2.1 < y.2.1 then y.2.1 else u.2.1, ()) → (∃ i' : Nat, (i : Int) = (i' : Int) ∧ (a.take i ++ [m] ++ a.drop (i + 2)).length ≤ 1000 ∧ ((a.take i ++ [m] ++ a.drop (i + 2)).map (fun x : Span => x.1)).Pairwise (· ≤ ·) ∧ (∀ x ∈ a.take i ++ [m] ++ a.drop (i + 2), x.1 < x.2.1) ∧ (i' < (a.take i ++ [m] ++ a.drop (i + 2)).length ∨ a.take i ++ [m] ++ a.drop (i + 2) = []) ∧ i' ≤ 1000 ∧ ((a.take i ++ [m] ++ a.drop (i + 2)).drop (i' + 1)).foldl hideStep ((a.take i ++ [m] ++ a.drop (i + 2)).take (i' + 1)) = hideL L) ∧ 2 * (a.take i ++ [m] ++ a.drop (i + 2)).length - i < 2 * a.length - i := by
        intro m hm
        have hl3 : (a.take i ++ [m] ++ a.drop (i + 2)).length = a.length - 1 := by
          rw [List.length_append, l1, ldr]
          omega
        refine ⟨⟨i, rfl, by omega, hsub m (by rw [hm]), hval m (by rw [hm]; simp only; split <;> omega), .inl (by omega), by omega, ?_⟩, by omega⟩
        rw [(htk m).1, (htk m).2, hm]
        exact hh
      refine ⟨by omega, by omega, fun h3 => ?_, fun h3 => ?_⟩
      · refine ⟨by omega, by omega, by omega, by omega, by omega, by omega, by omega, by omega, by omega, by omega, fin _ ?_⟩
        rw [if_pos (by omega)]
      · refine ⟨by omega, by omega, by omega, by omega, by omega, by omega, by omega, by omega, by omega, fin _ ?_⟩
        rw [if_neg (by omega)]
  · have hle : a.length ≤ i + 1 := by omega
    rw [List.drop_of_length_le hle, List.take_of_length_le hle] at hh
    exact hh
end Go.Fr.Z16
namespace Go.Fr.Z16
open Go Go.Fr Go.Proofs Go.Sort
theorem spans_join {m : Int} : (f : Int) → (A B : List Span) → Spans f (lastE f A) A → Spans (lastE f A) m B → Spans f m (A ++ B)
  | _, [], _, _, h => h
  | _, x :: A, B, h, g => ⟨h.1, h.2.1, spans_join x.2.1 A B h.2.2 g⟩
theorem hide_step_ok {n : Int} {out : List Span} {y : Span} (h : Spans 0 n out) (hy : okS n y = true) (hl : ∀ x ∈ out, x.1 ≤ y.1) : Spans 0 n (hideStep out y) ∧ (∀ z : Int, y.1 ≤ z → ∀ x ∈ hideStep out y, x.1 ≤ z) ∧ (hideStep out y).length ≤ out.length + 1 := by
  obtain ⟨y1, y2, y3⟩ := okS_iff.1 hy
  rcases List.eq_nil_or_concat out with rfl | ⟨pre, u, rfl⟩
  · refine ⟨⟨y1, y2, y3⟩, fun z hz x hx => ?_, Nat.le_refl _⟩
    rw [List.mem_singleton.1 hx]
    exact hz
  · rw [List.concat_eq_append] at *
    have hu := hl u (by simp)
    obtain ⟨s1, s2, _⟩ := spans_parts 0 pre [u] h
    have s22 : u.2.1 ≤ n := s2.2.2
    have s21 : u.1 < u.2.1 := s2.2.1
    by_cases ho : y.1 < u.2.1
    · rw [hide_over ho]
      refine ⟨spans_join 0 pre _ s1 ⟨s2.1, ?_, ?_⟩, fun z hz x hx => ?_, by simp⟩
      · show u.1 < if u.2.1 < y.2.1 then y.2.1 else u.2.1
        split <;> omega
      · show (if u.2.1 < y.2.1 then y.2.1 else u.2.1) ≤ n
        split <;> omega
      · rcases List.mem_append.1 hx with hx | hx
        · have := hl x (List.mem_append_left _ hx)
          omega
        · rw [List.mem_singleton.1 hx]
          show u.1 ≤ z
          omega
    · rw [hide_apart ho]
      refine ⟨spans_join 0 (pre ++ [u]) [y] ?_ ?_, fun z hz x hx => ?_, by simp⟩
      · rw [lastE_snoc]
        exact spans_join 0 pre [u] s1 ⟨s2.1, s2.2.1, Int.le_refl _⟩
      · rw [lastE_snoc]
        exact ⟨by omega, y2, y3⟩
      · rcases List.mem_append.1 hx with hx | hx
        · have := hl x hx
          omega
        · rw [List.mem_singleton.1 hx]
          exact hz
theorem hide_spans {n : Int} : (l out : List Span) → Spans 0 n out → (∀ y ∈ l, okS n y = true) → l.Pairwise (fun a b => a.1 ≤ b.1) → (∀ x ∈ out, ∀ y ∈ l, x.1 ≤ y.1) → Spans 0 n (l.foldl hideStep out) ∧ (l.foldl hideStep out).length ≤ out.length + l.length
  | [], out, h, _, _, _ => ⟨h, Nat.le_refl _⟩
  | y :: r, out, h, ho, hp, hx => by
    obtain ⟨p1, p2⟩ := List.pairwise_cons.1 hp
    obtain ⟨s1, s2, s3⟩ := hide_step_ok h (ho y (List.mem_cons_self ..)) fun x hx' => hx x hx' y (List.mem_cons_self ..)
    obtain ⟨t1, t2⟩ := hide_spans r (hideStep out y) s1 (fun z hz => ho z (List.mem_cons_of_mem _ hz)) p2 fun x hx' z hz => s2 z.1 (p1 z hz) x hx'
    refine ⟨t1, ?_⟩
    rw [List.length_cons]
    have : ((y :: r).foldl hideStep out).length = (r.foldl hideStep (hideStep out y)).length := rfl
    omega
theorem errF_zero {n : Int} : (seen l : List Span) → errF n seen l = 0 → ∀ y ∈ l, okS n y = true
  | _, [], _ => fun y hy => by cases hy
  | seen, x :: r, h => by
    have e : errF n seen (x :: r) = if okS n x = false then 1 else if x ∈ seen then 8 else errF n (seen ++ [x]) r := rfl
    rw [e] at h
    by_cases h1 : okS n x = false
    · rw [if_pos h1] at h; cases h
    · rw [if_neg h1] at h
      by_cases h2 : x ∈ seen
      · rw [if_pos h2] at h; cases h
      · rw [if_neg h2] at h
        intro y hy
        rcases List.mem_cons.1 hy with e | hy
        · rw [e]; simpa using h1
        · exact errF_zero _ r h y hy
theorem set_ok {n : Int} {l : List Span} (h : (newS n l).2.2.1 = 0) : RightS (newS n l).2.1 ∧ Spans 0 n (hideL (newS n l).2.1) ∧ (hideL (newS n l).2.1).length ≤ 60 := by
  unfold newS at h ⊢
  by_cases h1 : n < 0 ∨ n > 1099511627776
  · rw [if_pos h1] at h; cases h
  · rw [if_neg h1] at h ⊢
    by_cases h2 : (l.length : Int) > 60
    · rw [if_pos h2] at h; cases h
    · rw [if_neg h2] at h ⊢
      by_cases h3 : errF n [] l = 0
      · rw [if_pos h3]
        have hs := errF_zero [] l h3
        have hp := sortBy_perm (cf := cmpS) l
        have ok : ∀ y ∈ sortS l, okS n y = true := fun y hy => hs y (hp.mem_iff.1 hy)
        have srt : (sortS l).Pairwise (fun a b => a.1 ≤ b.1) := by
          exact (sortBy_sorted swoS l).imp fun {a b} hh => by
            have hh : ¬ (b.1 < a.1 ∨ (b.1 = a.1 ∧ b.2.1 < a.2.1)) := fun g => hh (cmpS_lt.2 g)
            omega
        have len : (sortS l).length = l.length := hp.length_eq
        obtain ⟨t1, t2⟩ := hide_spans (n := n) (sortS l) [] (by show (0 : Int) ≤ n; omega) ok srt (fun x hx => by cases hx)
        have l60 : (sortS l).length ≤ 1000 := by omega
        refine ⟨⟨l60, srt, fun x hx => (okS_iff.1 (ok x hx)).2.1⟩, t1, ?_⟩
        show ((sortS l).foldl hideStep []).length ≤ 60
        have : ([] : List Span).length = 0 := rfl
        omega
      · rw [if_neg h3] at h; exact absurd h h3
theorem p6 : vc6 := by
  unfold vc6
  simp only [eq_self, true_and, and_true, decide_eq_true_eq, decide_eq_false_iff_not, beq_iff_eq, beq_eq_false_iff_ne, bne_iff_ne, bne_eq_false_iff_eq, ne_eq, Bool.not_eq_true', Bool.not_eq_false']
  rintro ⟨⟨n, l, hid, ⟨⟩⟩, f, ⟨⟩⟩
  simp only
  rintro ⟨h1, h2, h3⟩
  refine ⟨⟨h1, h2⟩, fun _ => trivial, fun hl => ⟨fun _ => trivial, fun g1 => ⟨h3, fun _ => trivial, fun g2 => ?_⟩⟩⟩
  obtain ⟨L, hw, e1, e2, b1, b2, b3, b4, b5, b6, b7, b8⟩ := text_all hl
  obtain ⟨r1, r2, r3⟩ := set_ok g2
  generalize hideL (newS n f).2.1 = H at *
  have lb := wok_lens hw
  have e2' : wovenT (n, l, hid, ()) = weaveI (some (n, L, ())) := e2
  obtain ⟨c1, c2⟩ := newC_ok hw r2 (by omega)
  have ll : (wovenS L H).length = H.length := List.length_map _
  have hm : n + lens L ≤ 1000000 := by have := hw.2.1; omega
  have ok := cr_ok c2 hm (wok_spans hw r2) (by omega)
  have ic := isC_ok (u := ()) hw r2 (by omega) e1 c2
  have okt : okTxt (n, l, H, ()) := ⟨b3.1, b3.2.1, b3.2.2.1, b3.2.2.2.1, by show H.length ≤ 1000; omega⟩
  rw [e2'] at b8 ⊢
  rw [c1]
  simp only
  rw [ic]
  exact ⟨⟨h1, b5⟩, r1, ⟨b8, by omega⟩, fun _ => ⟨r1, ⟨okt, b4, ok.2.2⟩, fun _ => trivial, fun h => by cases h⟩, fun h => absurd trivial h⟩
end Go.Fr.Z16
namespace Go.Fr.Z16
open Go Go.Fr Go.Proofs
set_option maxRecDepth 100000
end Go.Fr.Z16
namespace Go.Fr.Z16
open Go Go.Fr Go.Proofs
theorem p26 : vc26 := by
  unfold vc26
  simp only [eq_self, true_and, and_true, decide_eq_true_eq, decide_eq_false_iff_not, beq_iff_eq, beq_eq_false_iff_ne, bne_iff_ne, bne_eq_false_iff_eq, Bool.not_eq_true', Bool.not_eq_false', ne_eq, imp_true_iff, implies_true]
  rintro ⟨⟨n, l, e, ⟨⟩⟩, a, b, ⟨⟩⟩
  simp only [maxLen_eq, dInl]
  rintro ⟨h1, h2, h3⟩
  simp only at h1 h2
  have e : ∀ m, m = refOut (n, l, e, ()) a b ↔ m = l.foldl (fun n x => if x.2.1 < a ∨ (x.2.1 = a ∧ b = 1) then w64 (n + lenT x) else n) a := fun m => Iff.rfl
  simp only [e]
  generalize hf : (fun (n : Int) (x : Inl) => if x.2.1 < a ∨ (x.2.1 = a ∧ b = 1) then w64 (n + lenT x) else n) = f
  refine ⟨fun z => ∃ k : Nat, k ≤ l.length ∧ z.2.1 = (k : Int) ∧ z.1 = (l.take k).foldl f a, fun z => l.length - z.2.1.toNat, ⟨0, Nat.zero_le _, rfl, rfl⟩, ?_⟩
  rintro m i ⟨k, hk, hi, hm⟩
  simp only at hi hm
  subst hi
  refine ⟨fun g1 => ?_, fun g1 => ?_⟩
  · have hlt : k < l.length := by omega
    have hw : IntKind.i64.wrap ((k : Int) + 1) = ((k + 1 : Nat) : Int) := wrap_succ (by omega)
    rw [toNat_cast, hw]
    simp only [toNat_cast]
    have hx := h2 _ (getD_in zI0 hlt)
    generalize hx' : l.getD k zI0 = x at hx ⊢
    have ht : (l.take (k + 1)).foldl f a = f m x := by
      rw [take_one zI0 hlt, List.foldl_append, ← hm, hx']
      rfl
    have hs : ByteArray.size x.2.2.2.2.1 ≤ 1000000000 := Nat.le_trans hx (by decide)
    have dec : l.length - (k + 1) < l.length - k := by omega
    have y : (x.2.1 < a ∨ (x.2.1 = a ∧ b = 1)) → (∃ k' : Nat, k' ≤ l.length ∧ ((k + 1 : Nat) : Int) = (k' : Int) ∧ IntKind.i64.wrap (m + ((decodeL x.2.2.2.2.1).length : Int)) = (l.take k').foldl f a) := fun h => ⟨k + 1, hlt, rfl, by
      rw [ht, ← hf]
      show _ = if _ then _ else _
      rw [if_pos h]
      rfl⟩
    have n : ¬ (x.2.1 < a ∨ (x.2.1 = a ∧ b = 1)) → (∃ k' : Nat, k' ≤ l.length ∧ ((k + 1 : Nat) : Int) = (k' : Int) ∧ m = (l.take k').foldl f a) := fun h => ⟨k + 1, hlt, rfl, by
      rw [ht, ← hf]
      show _ = if _ then _ else _
      rw [if_neg h]⟩
    (repeat' (first | apply And.intro | intro _))
    all_goals first
      | omega
      | exact hs
      | exact y (.inl (by assumption))
      | exact y (.inr ⟨by assumption, by assumption⟩)
      | exact n (by omega)
      | exact dec
  · have hke : k = l.length := by omega
    rw [hm, hke, List.take_length]
end Go.Fr.Z16
namespace Go.Fr.Z16
open Go Go.Fr Go.Proofs
set_option maxRecDepth 100000
def hs75 : List (Nat × Nat × Hint) := []
def nm75 : List Nat := [3000000062]
noncomputable def E75 : Env := env tab [] [] gl hs75 nm75
def vc75_0 : Prop :=
 ∀ (s : Int × (Int × Int × Int × Unit) × Int × Int × Unit),
 (((0 : Int) == (3 : Int)) = true → s.fst = sizeD s (0 : Int)) ∧
 (((0 : Int) == (3 : Int)) = false →
 ((0 : Int) ≤ (0 : Int) ∧ (0 : Int) < (↑(3 : Nat) : Int)) ∧ s.snd.fst.fst = sizeD s (0 : Int))
theorem vcEq75_0 : (∀ s : Sm, fnVCat E75 Tryz.f75 (bodyOf Tryz.f75) cSizeD (s, (0 : Int), ())) = vc75_0 := by kernel_rfl
def vc75_1 : Prop :=
 ∀ (s : Int × (Int × Int × Int × Unit) × Int × Int × Unit),
 (((1 : Int) == (3 : Int)) = true → s.fst = sizeD s (1 : Int)) ∧
 (((1 : Int) == (3 : Int)) = false →
 ((0 : Int) ≤ (1 : Int) ∧ (1 : Int) < (↑(3 : Nat) : Int)) ∧ s.snd.fst.snd.fst = sizeD s (1 : Int))
theorem vcEq75_1 : (∀ s : Sm, fnVCat E75 Tryz.f75 (bodyOf Tryz.f75) cSizeD (s, (1 : Int), ())) = vc75_1 := by kernel_rfl
def vc75_2 : Prop :=
 ∀ (s : Int × (Int × Int × Int × Unit) × Int × Int × Unit),
 (((2 : Int) == (3 : Int)) = true → s.fst = sizeD s (2 : Int)) ∧
 (((2 : Int) == (3 : Int)) = false →
 ((0 : Int) ≤ (2 : Int) ∧ (2 : Int) < (↑(3 : Nat) : Int)) ∧ s.snd.fst.snd.snd.fst = sizeD s (2 : Int))
theorem vcEq75_2 : (∀ s : Sm, fnVCat E75 Tryz.f75 (bodyOf Tryz.f75) cSizeD (s, (2 : Int), ())) = vc75_2 := by kernel_rfl
def vc75_3 : Prop :=
 ∀ (s : Int × (Int × Int × Int × Unit) × Int × Int × Unit),
 (((3 : Int) == (3 : Int)) = true → s.fst = sizeD s (3 : Int)) ∧
 (((3 : Int) == (3 : Int)) = false →
 ((0 : Int) ≤ (3 : Int) ∧ (3 : Int) < (↑(3 : Nat) : Int)) ∧ s.snd.snd.fst = sizeD s (3 : Int))
theorem vcEq75_3 : (∀ s : Sm, fnVCat E75 Tryz.f75 (bodyOf Tryz.f75) cSizeD (s, (3 : Int), ())) = vc75_3 := by kernel_rfl
end Go.Fr.Z16
namespace Go.Fr.Z16
open Go Go.Fr Go.Proofs
set_option maxRecDepth 100000
theorem zero_three {d : Int} (h : 0 ≤ d ∧ d ≤ 3) : d = 0 ∨ d = 1 ∨ d = 2 ∨ d = 3 := by omega
theorem v75 : fnVC E75 Tryz.f75 (bodyOf Tryz.f75) cSizeD := by
  refine fnVC_at fun x h => ?_
  obtain ⟨s, d, ⟨⟩⟩ := x
  have hd := zero_three h
  have q0 : vc75_0 := fun s => ⟨fun h => (by cases h), fun _ => ⟨⟨by decide, by decide⟩, rfl⟩⟩
  have q1 : vc75_1 := fun s => ⟨fun h => (by cases h), fun _ => ⟨⟨by decide, by decide⟩, rfl⟩⟩
  have q2 : vc75_2 := fun s => ⟨fun h => (by cases h), fun _ => ⟨⟨by decide, by decide⟩, rfl⟩⟩
  have q3 : vc75_3 := fun s => ⟨fun _ => rfl, fun h => by cases h⟩
  rcases hd with rfl | rfl | rfl | rfl
  · exact (vcEq75_0 ▸ q0 : ∀ s : Sm, fnVCat E75 Tryz.f75 (bodyOf Tryz.f75) cSizeD (s, (0 : Int), ())) s
  · exact (vcEq75_1 ▸ q1 : ∀ s : Sm, fnVCat E75 Tryz.f75 (bodyOf Tryz.f75) cSizeD (s, (1 : Int), ())) s
  · exact (vcEq75_2 ▸ q2 : ∀ s : Sm, fnVCat E75 Tryz.f75 (bodyOf Tryz.f75) cSizeD (s, (2 : Int), ())) s
  · exact (vcEq75_3 ▸ q3 : ∀ s : Sm, fnVCat E75 Tryz.f75 (bodyOf Tryz.f75) cSizeD (s, (3 : Int), ())) s
end Go.Fr.Z16
namespace Go.Fr
open Go Go.RowKit Go.Proofs Go.Sort
section
variable {B : Nat} {w w' : World} {h : PHeap}
def encT : (T : Ty) → T.den → List Value
  | .bool, b => [.bool b]
  | .int k, n => [.int k n]
  | .str, s => [.string s]
  | .unit, _ => []
  | .sl _, _ => []
  | .opt _, _ => []
  | .mp _ _, _ => []
  | .nd _ _ _ _, _ => []
  | .pair a b, x => encT a x.1 ++ encT b x.2
theorem enc_rep : (T : Ty) → T.flat = true → (x : T.den) → rep h T x (encT T x)
  | .bool, _, _ => rfl
  | .int _, _, _ => rfl
  | .str, _, _ => rfl
  | .unit, _, _ => rfl
  | .sl _, e, _ => by cases e
  | .opt _, e, _ => by cases e
  | .mp _ _, e, _ => by cases e
  | .nd _ _ _ _, e, _ => by cases e
  | .pair a b, e, x => by
    simp only [Ty.flat, Bool.and_eq_true] at e
    exact ⟨_, _, rfl, enc_rep a e.1 x.1, enc_rep b e.2 x.2⟩
theorem rep_enc : (T : Ty) → T.flat = true → (x : T.den) → (cs : List Value) → rep h T x cs → cs = encT T x
  | .bool, _, _, _, e => e
  | .int _, _, _, _, e => e
  | .str, _, _, _, e => e
  | .unit, _, _, _, e => e
  | .sl _, e, _, _, _ => by cases e
  | .opt _, e, _, _, _ => by cases e
  | .mp _ _, e, _, _, _ => by cases e
  | .nd _ _ _ _, e, _, _, _ => by cases e
  | .pair a b, e, x, cs, ⟨c1, c2, q, h1, h2⟩ => by
    simp only [Ty.flat, Bool.and_eq_true] at e
    rw [q, rep_enc a e.1 x.1 c1 h1, rep_enc b e.2 x.2 c2 h2]
    rfl
theorem row_enc {T : Ty} (hf : T.flat = true) : (xs : List T.den) → (cs : List Value) → RowCells h T xs cs → cs = xs.flatMap (encT T)
  | [], _, e => by simp only [RowCells] at e; subst e; rfl
  | x :: xs, _, ⟨d, r, e, h1, h2⟩ => by
    subst e
    rw [row_enc hf xs r h2, rep_enc T hf x d h1]
    rfl
theorem enc_row {T : Ty} (hf : T.flat = true) : (xs : List T.den) → RowCells h T xs (xs.flatMap (encT T))
  | [] => rfl
  | x :: xs => ⟨encT T x, xs.flatMap (encT T), rfl, enc_rep T hf x, enc_row hf xs⟩
theorem enc_len {T : Ty} (hf : T.flat = true) (x : T.den) : (encT T x).length = T.size := rep_len (h := fun _ => none) T x _ (enc_rep T hf x)
theorem flatMap_get {T : Ty} (hf : T.flat = true) (d0 : T.den) : (xs : List T.den) → (j : Nat) → j < xs.length * T.size → (xs.flatMap (encT T))[j]? = (encT T (xs.getD (j / T.size) d0))[j % T.size]?
  | [], j, hj => by simp at hj
  | x :: xs, j, hj => by
    have hl := enc_len hf x
    have h0 : 0 < T.size := by
      rcases Nat.eq_zero_or_pos T.size with e | e
      · rw [e, Nat.mul_zero] at hj; omega
      · exact e
    rw [List.flatMap_cons]
    by_cases hlt : j < T.size
    · rw [List.getElem?_append_left (by omega), Nat.div_eq_of_lt hlt, Nat.mod_eq_of_lt hlt]
      rfl
    · rw [List.getElem?_append_right (by omega), hl, flatMap_get hf d0 xs (j - T.size) (by simp only [List.length_cons, Nat.add_mul] at hj; omega)]
      have e : j = (j - T.size) + T.size := by omega
      have e1 : j / T.size = (j - T.size) / T.size + 1 := by
        conv => lhs; rw [e]
        exact Nat.add_div_right _ h0
      have e2 : j % T.size = (j - T.size) % T.size := by
        conv => lhs; rw [e]
        exact Nat.add_mod_right _ _
      rw [e1, e2]
      rfl
theorem flat_list {T : Ty} (hf : T.flat = true) [Inhabited T.den] (xs : List T.den) : flatK (encT T) T.size xs.toArray = (xs.flatMap (encT T)).toArray := by
  have hlen : (xs.flatMap (encT T)).length = xs.length * T.size := by
    have := RowCells_len (h := fun _ => none) T xs _ (enc_row hf xs)
    exact this
  apply Array.ext
  · simp [hlen]
  · intro j h1 h2
    have hj : j < xs.length * T.size := by simpa [hlen] using h2
    have g := get_flatK (encT T) T.size xs.toArray (t := j) (by simpa using hj)
    rw [getElem!_pos _ j h1] at g
    rw [g]
    have := flatMap_get hf default xs j hj
    have h0 : 0 < T.size := by
      rcases Nat.eq_zero_or_pos T.size with e | e
      · rw [e, Nat.mul_zero] at hj; omega
      · exact e
    have hd : j / T.size < xs.length := Nat.div_lt_of_lt_mul (by rw [Nat.mul_comm]; exact hj)
    have e1 : xs.toArray[j / T.size]! = xs.getD (j / T.size) default := by
      simp [List.getD, hd]
    rw [e1]
    have hm : j % T.size < (encT T (xs.getD (j / T.size) default)).length := by rw [enc_len hf]; exact Nat.mod_lt _ h0
    rw [List.getElem?_eq_getElem hm] at this
    rw [getElem!_pos (encT T (xs.getD (j / T.size) default)) (j % T.size) hm]
    have h2' : (xs.flatMap (encT T))[j]? = some ((xs.flatMap (encT T)).toArray[j]) := by simp
    rw [h2'] at this
    injection this with this
    exact this.symm
theorem grow_of {w w' : World} (hb : Below w.heap.size w w') : ∃ q os', w' = Sort.grow (w.drewN q) os' := by
  refine ⟨w'.drawn - w.drawn, w'.heap.extract w.heap.size w'.heap.size, ?_⟩
  have hheap : w'.heap = w.heap ++ w'.heap.extract w.heap.size w'.heap.size := by
    apply Array.ext_getElem?
    intro i
    rw [Array.getElem?_append]
    split
    · rename_i hi; exact hb.block i hi
    · rename_i hi
      rw [Array.getElem?_extract]
      by_cases hi2 : i < w'.heap.size
      · rw [if_pos (by omega), show w.heap.size + (i - w.heap.size) = i by omega]
      · rw [if_neg (by omega), Array.getElem?_eq_none (by omega)]
  have hd := hb.drawn
  cases w' with
  | mk heap tape drawn os output =>
    simp only [Sort.grow, World.drewN] at *
    have h1 := hb.os
    have h2 := hb.tape
    have h3 := hb.output
    simp only at h1 h2 h3
    rw [← hheap, h1, h2, h3]
    congr 1
    omega
theorem cmp_lays {P : Program} {T : Ty} [Inhabited T.den] (hf : T.flat = true) (ha : T.isAgg = true) {cf : T.den → T.den → Int} {g : FuncId} (hC : CallSpec P noGl g (cOrd T cf)) (blk off size k : Nat) (w : World) :
    CmpLays P g #[] (encT T) k cf blk off size w := by
  intro m os dk hs x y
  have := hC.2 (x, y, ()) (fun _ => none) (sortWorldK (encT T) k w blk off m dk os) [T.val (encT T x), T.val (encT T y)] trivial ⟨_, _, rfl, ⟨_, enc_rep T hf x, rfl⟩, _, _, rfl, ⟨_, enc_rep T hf y, rfl⟩, rfl⟩ (fun k o hk => by cases hk) (fun g T x hg => by cases hg)
  rw [val_agg ha, val_agg ha] at this
  have e : ([Value.agg (encT T x).toArray, Value.agg (encT T y).toArray] ++ tailVals (cOrd T cf).tail).toArray = #[Value.agg (encT T x).toArray, Value.agg (encT T y).toArray] ++ #[] := by simp [tailVals, cOrd]
  rw [e] at this
  refine this.mono ?_
  rintro e w' ⟨v, h', rfl, _, _, _, hr, hb⟩
  refine ⟨?_, grow_of hb⟩
  obtain ⟨cs, q1, q2⟩ := (show vrep h' (.int .i64) (cf x y) v from hr)
  simp only [rep] at q1
  subst q1
  rw [q2]
  rfl
end
end Go.Fr
namespace Go.Fr
open Go Go.RowKit Go.Proofs Go.Sort
section
variable {α : Type}
theorem perm_of_in [Inhabited α] {d d' : Array α} (h : PermIn 0 d.size d d') : d'.toList.Perm d.toList := by
  obtain ⟨hsz, _, hperm⟩ := h
  have e1 : d'.extract 0 d.size = d' := by rw [← hsz]; exact Array.extract_size
  rw [e1, Array.extract_size] at hperm
  exact hperm
theorem sorted_of_in [Inhabited α] {cf : α → α → Int} {d : Array α} {n : Nat} (hn : n = d.size) (h : SortedIn (ltOf cf) 0 n d) : d.toList.Pairwise (fun a b => ¬ cf b a < 0) := by
  subst hn
  rw [List.pairwise_iff_getElem]
  intro i j hi hj hij
  have hi' : i < d.size := by simpa using hi
  have hj' : j < d.size := by simpa using hj
  have := h i j (Nat.zero_le _) hij hj'
  rw [getElem!_pos d j hj', getElem!_pos d i hi'] at this
  have := of_decide_eq_false this
  simpa using this
end
section
theorem sortP_spec {P : Program} {ρ : Shelf.Ren} (L : SlLaysF0.n6 P ρ) {T : Ty} (hf : T.flat = true) (ha : T.isAgg = true) (hpos : 0 < T.size) (aE : ∀ w, (isAgg (ρ.t 24)).run P w = .ok true w) (zE : ∀ w, (Go.sizeOf (ρ.t 24)).run P w = .ok T.size w)
    {f : FuncId} (hρ : ρ.f 6 = f) {e : TypeId} {fn : Func} {cd : Code} (hfn : P.funcs[f]? = some fn) (hname : fn.name ≠ "runtime.NumGoroutine") (hb : fn.body = some cd)
    {cf : T.den → T.den → Int} (hO : Sort.SWO (ltOf cf)) {g : FuncId} (eg : ∀ args w, (callFunc g args).run P w = .ok (.enter g args) w) (hC : CallSpec P noGl g (cOrd T cf)) :
    RSpec P f { t := T, e := e, pre := fun xs => List.length xs ≤ 100000, post := fun xs ys => ys.Perm xs ∧ ys.Pairwise (fun a b => ¬ cf b a < 0), back := false, tail := [g] } := by
  subst hρ
  haveI : Inhabited T.den := ⟨T.dflt⟩
  refine ⟨⟨fn, cd, hfn, hname, hb⟩, ?_⟩
  intro xs h w B v cs hp hpin hB hown hrc hfr
  have hp : List.length xs ≤ 100000 := hp
  have hown : w.ownsRow B e T.size v xs.length cs := hown
  have hrc : RowCells h T xs cs := hrc
  have hcs := row_enc hf xs cs hrc
  subst hcs
  rcases hown.2 with ⟨e0, e1⟩ | ⟨g', cap, cur, e0, f1, f2, f3⟩
  · subst e0
    have hx : xs = [] := List.eq_nil_of_length_eq_zero e1
    subst hx
    refine (AnyF.slices_SortFunc_none L none 0 (.func (.func g) #[] #[]) w).mono ?_
    rintro en w' ⟨rfl, rfl⟩
    exact ⟨_, .slice none 0 0, _, [], rfl, ⟨List.Perm.nil, List.Pairwise.nil⟩, World.ownsRow_nil _ B e T.size, by simp [RowCells], grownBy_refl _ _, ⟨fun g hg => by simp [Value.ownBlock] at hg, rfl⟩⟩
  · subst e0
    have hH : HoldsK (encT T) T.size w g' 0 xs.toArray := by
      unfold HoldsK
      rw [flat_list hf]
      exact row_holds hown
    refine (AnyQ.slices_SortFunc L T.size aE zE (encT T) (enc_len hf) (fun x v hv => rep_one (h := h) T x _ (enc_rep T hf x) v hv) cf hO g #[] g' 0 cap xs.toArray w eg (cmp_lays hf ha hC _ _ _ _ _) hH (lt_of_heap f2) (by simp; omega)).mono ?_
    rintro en w' ⟨rfl, d', q, os, hpm, hso, hw⟩
    have hpl := perm_of_in hpm
    have hsl := sorted_of_in (by have := hpm.1; simp at this ⊢; omega) hso
    generalize hys : d'.toList = ys at hpl hsl
    have hd : d' = ys.toArray := by rw [← hys]
    subst hd
    have hl : ys.length = xs.length := by simpa using hpl.length_eq
    have hw2 : w' = Sort.grow (Sort.putRow id (Sort.ahead w q) g' 0 (ys.flatMap (encT T)).toArray) os := by
      rw [hw]
      unfold sortWorldK putRowK
      rw [flat_list hf]
    have hlen := RowCells_len (h := h) T ys _ (enc_row hf ys)
    rw [hl] at hlen
    obtain ⟨g1, g2⟩ := put_row (m := xs.length) hpos hown hlen (Nat.le_refl _) hw2
    rw [List.take_of_length_le (by rw [hlen]; exact Nat.le_refl _)] at g1
    exact ⟨_, _, ys, _, rfl, ⟨by simpa using hpl, hsl⟩, by rw [hl]; exact g1, enc_row hf _, g2, fun g' hg => .inl hg, rfl⟩
end
end Go.Fr
namespace Go.Proofs
open Go.Shelf
set_option maxRecDepth 100000
def Tryz.lSort_ren : Go.Shelf.Ren := ⟨fun | 6 => 62 | 15 => 92 | 14 => 91 | 28 => 117 | 29 => 118 | 20 => 109 | 21 => 110 | 22 => 111 | 23 => 112 | 24 => 113 | 25 => 114 | 26 => 115 | 27 => 116 | 46 => 124 | 47 => 125 | 48 => 126 | 49 => 127 | 50 => 128 | 57 => 133 | n => n, fun | 22 => 22 | 24 => 68 | 25 => 129 | 3 => 3 | 39 => 171 | 0 => 0 | 53 => 196 | 55 => 198 | 4 => 4 | 46 => 189 | 45 => 188 | 50 => 193 | 5 => 5 | 9 => 9 | 66 => 203 | 70 => 207 | 76 => 211 | 77 => 43 | n => n, fun n => n⟩
theorem Tryz.lSort : SlLaysF0.n6 Tryz.prog Tryz.lSort_ren := {
  mixed := by kernel_rfl,
  f6 := ⟨Tryz.f62.name, by decide, Tryz.func62.trans (by kernel_rfl)⟩,
  f14 := ⟨Tryz.f91.name, by decide, Tryz.func91.trans (by kernel_rfl)⟩,
  f15 := Tryz.func92.trans (by kernel_rfl),
  f20 := ⟨Tryz.f109.name, by decide, Tryz.func109.trans (by kernel_rfl)⟩,
  f21 := ⟨Tryz.f110.name, by decide, Tryz.func110.trans (by kernel_rfl)⟩,
  f22 := ⟨Tryz.f111.name, by decide, Tryz.func111.trans (by kernel_rfl)⟩,
  f23 := ⟨Tryz.f112.name, by decide, Tryz.func112.trans (by kernel_rfl)⟩,
  f24 := ⟨Tryz.f113.name, by decide, Tryz.func113.trans (by kernel_rfl)⟩,
  f25 := ⟨Tryz.f114.name, by decide, Tryz.func114.trans (by kernel_rfl)⟩,
  f26 := ⟨Tryz.f115.name, by decide, Tryz.func115.trans (by kernel_rfl)⟩,
  f27 := ⟨Tryz.f116.name, by decide, Tryz.func116.trans (by kernel_rfl)⟩,
  f28 := Tryz.func117.trans (by kernel_rfl),
  f29 := Tryz.func118.trans (by kernel_rfl),
  f46 := ⟨Tryz.f124.name, by decide, Tryz.func124.trans (by kernel_rfl)⟩,
  f47 := Tryz.func125.trans (by kernel_rfl),
  f48 := Tryz.func126.trans (by kernel_rfl),
  f49 := ⟨Tryz.f127.name, by decide, Tryz.func127.trans (by kernel_rfl)⟩,
  f50 := ⟨Tryz.f128.name, by decide, Tryz.func128.trans (by kernel_rfl)⟩,
  f57 := ⟨Tryz.f133.name, by decide, Tryz.func133.trans (by kernel_rfl)⟩,
  t0 := Tryz.underlying0,
  a0 := Tryz.isAgg0,
  z0 := Tryz.sizeOf0,
  v0 := Tryz.zeroValue0,
  t3 := Tryz.underlying3,
  a3 := Tryz.isAgg3,
  z3 := Tryz.sizeOf3,
  v3 := Tryz.zeroValue3,
  t4 := Tryz.underlying4,
  a4 := Tryz.isAgg4,
  z4 := Tryz.sizeOf4,
  v4 := Tryz.zeroValue4,
  t5 := Tryz.underlying5,
  a5 := Tryz.isAgg5,
  z5 := Tryz.sizeOf5,
  v5 := Tryz.zeroValue5,
  t9 := Tryz.underlying9,
  a9 := Tryz.isAgg9,
  z9 := Tryz.sizeOf9,
  v9 := Tryz.zeroValue9,
  t22 := Tryz.underlying22,
  a22 := Tryz.isAgg22,
  z22 := Tryz.sizeOf22,
  v22 := Tryz.zeroValue22,
  t25 := Tryz.underlying129,
  a25 := Tryz.isAgg129,
  z25 := Tryz.sizeOf129,
  v25 := Tryz.zeroValue129,
  t39 := Tryz.underlying171,
  a39 := Tryz.isAgg171,
  z39 := Tryz.sizeOf171,
  v39 := Tryz.zeroValue171,
  t45 := Tryz.underlying188,
  a45 := Tryz.isAgg188,
  z45 := Tryz.sizeOf188,
  v45 := Tryz.zeroValue188,
  t46 := Tryz.underlying189,
  a46 := Tryz.isAgg189,
  z46 := Tryz.sizeOf189,
  v46 := Tryz.zeroValue189,
  t50 := Tryz.underlying193,
  a50 := Tryz.isAgg193,
  z50 := Tryz.sizeOf193,
  v50 := Tryz.zeroValue193,
  t53 := Tryz.underlying196,
  a53 := Tryz.isAgg196,
  z53 := Tryz.sizeOf196,
  v53 := Tryz.zeroValue196,
  t55 := Tryz.underlying198,
  a55 := Tryz.isAgg198,
  z55 := Tryz.sizeOf198,
  v55 := Tryz.zeroValue198,
  t66 := Tryz.underlying203,
  a66 := Tryz.isAgg203,
  z66 := Tryz.sizeOf203,
  v66 := Tryz.zeroValue203,
  t70 := Tryz.underlying207,
  a70 := Tryz.isAgg207,
  z70 := Tryz.sizeOf207,
  v70 := Tryz.zeroValue207,
  t76 := Tryz.underlying211,
  a76 := Tryz.isAgg211,
  z76 := Tryz.sizeOf211,
  v76 := Tryz.zeroValue211,
  t77 := Tryz.underlying43,
  a77 := Tryz.isAgg43,
  z77 := Tryz.sizeOf43,
  v77 := Tryz.zeroValue43 }
end Go.Proofs
namespace Go.Proofs
open Go.Shelf
set_option maxRecDepth 100000
def Tryz.lContains_ren : Go.Shelf.Ren := ⟨fun | 144 => 88 | 143 => 107 | 219 => 123 | 217 => 129 | 225 => 130 | 224 => 131 | 267 => 132 | 266 => 134 | 314 => 135 | n => n, fun | 9 => 9 | 4 => 4 | 3 => 3 | 5 => 5 | 46 => 171 | 146 => 213 | 51 => 196 | n => n, fun | 1 => 1 | n => n⟩
theorem Tryz.lContains : Lays.n144 Tryz.prog Tryz.lContains_ren := {
  mixed := by kernel_rfl,
  f143 := Tryz.func107.trans (by kernel_rfl),
  f144 := Tryz.func88.trans (by kernel_rfl),
  f217 := Tryz.func129.trans (by kernel_rfl),
  f219 := Tryz.func123.trans (by kernel_rfl),
  f224 := Tryz.func131.trans (by kernel_rfl),
  f225 := Tryz.func130.trans (by kernel_rfl),
  f266 := Tryz.func134.trans (by kernel_rfl),
  f267 := Tryz.func132.trans (by kernel_rfl),
  f314 := Tryz.func135.trans (by kernel_rfl),
  t3 := Tryz.underlying3,
  a3 := Tryz.isAgg3,
  z3 := Tryz.sizeOf3,
  v3 := Tryz.zeroValue3,
  t4 := Tryz.underlying4,
  a4 := Tryz.isAgg4,
  z4 := Tryz.sizeOf4,
  v4 := Tryz.zeroValue4,
  t5 := Tryz.underlying5,
  a5 := Tryz.isAgg5,
  z5 := Tryz.sizeOf5,
  v5 := Tryz.zeroValue5,
  t9 := Tryz.underlying9,
  a9 := Tryz.isAgg9,
  z9 := Tryz.sizeOf9,
  v9 := Tryz.zeroValue9,
  t46 := Tryz.underlying171,
  a46 := Tryz.isAgg171,
  z46 := Tryz.sizeOf171,
  v46 := Tryz.zeroValue171,
  t51 := Tryz.underlying196,
  a51 := Tryz.isAgg196,
  z51 := Tryz.sizeOf196,
  v51 := Tryz.zeroValue196,
  t146 := Tryz.underlying213,
  a146 := Tryz.isAgg213,
  z146 := Tryz.sizeOf213,
  v146 := Tryz.zeroValue213,
  g1 := by kernel_rfl }
end Go.Proofs
namespace Go.Fr.Z16
open Go Go.Fr Go.Proofs
open Go.Sort
theorem r62 (h : CallSpec Tryz.prog noGl 63 cOrder) : RSpec Tryz.prog 62 rSort :=
  sortP_spec Tryz.lSort (T := t68) rfl rfl (by decide) Tryz.isAgg68 Tryz.sizeOf68 rfl Tryz.func62 (by decide) (by kernel_rfl : Tryz.f62.body = some (bodyOf Tryz.f62)) (cf := cmpL) swoL (enters_of Tryz.func63 (by kernel_rfl) rfl) h
theorem s88 (G : Nat → Option ((t : Ty) × t.den)) : CallSpec Tryz.prog G 88 cContains := by
  refine ⟨⟨Tryz.f88, bodyOf Tryz.f88, Tryz.func88, by decide, by kernel_rfl⟩, ?_⟩
  rintro ⟨s, t, ⟨⟩⟩ h w args hp hr hin hg
  have hp : t = (ByteArray.mk #[10]) := hp
  subst hp
  obtain ⟨v, r, rfl, ⟨cs, hc, rfl⟩, v2, r2, rfl, ⟨cs2, hc2, rfl⟩, rfl⟩ := (show ∃ v r, args = v :: r ∧ vrep h .str s v ∧ ∃ v2 r2, r = v2 :: r2 ∧ vrep h .str (ByteArray.mk #[10]) v2 ∧ r2 = [] from hr)
  simp only [rep] at hc hc2
  subst hc hc2
  refine (Any.strings_Contains_one Tryz.lContains s 10 w).mono ?_
  rintro e w' ⟨rfl, rfl⟩
  refine ⟨_, h, rfl, PLe.refl h, fun k hk => .inl hk, hin, ?_, Below.refl _ _⟩
  show vrep h .bool (hasNL s) _
  refine ⟨[.bool (hasNL s)], rfl, ?_⟩
  show Value.bool _ = Value.bool (hasNL s)
  unfold hasNL
  rw [Lib.contains_iff_indexByte]
end Go.Fr.Z16
namespace Go.Fr.Z16
open Go Go.Fr Go.Proofs
theorem s105 : CallSpec Tryz.prog gl 105 cNumber := fn_spec tab_ok mixed ct_nil il_nil Tryz.func105 (by kernel_rfl) (vcEq105 ▸ p105)
theorem s82 : CallSpec Tryz.prog gl 82 cUSize := fn_spec tab_ok mixed ct_nil il_nil Tryz.func82 (by kernel_rfl) (vcEq82 ▸ p82)
theorem s83 : CallSpec Tryz.prog gl 83 cOne := fn_spec tab_ok mixed ct_nil il_nil Tryz.func83 (by kernel_rfl) (vcEq83 ▸ p83)
theorem s84 : CallSpec Tryz.prog gl 84 cRStep := fn_spec tab_ok mixed (ct_cons s105 (ct_cons s82 (ct_cons s83 ct_nil))) il_nil Tryz.func84 (by kernel_rfl) (vcEq84 ▸ p84)
theorem s53 : CallSpec Tryz.prog gl 53 cRDecode := fn_spec tab_ok mixed (ct_cons s84 ct_nil) il_nil Tryz.func53 (by kernel_rfl) (vcEq53 ▸ p53)
theorem s51 : CallSpec Tryz.prog gl 51 cRefWrong := fn_spec tab_ok mixed (ct_cons s53 ct_nil) il_nil Tryz.func51 (by kernel_rfl) (vcEq51 ▸ p51)
theorem s52 : CallSpec Tryz.prog gl 52 cREncode := fn_spec tab_ok mixed (ct_cons s82 (ct_cons s83 ct_nil)) il_nil Tryz.func52 (by kernel_rfl) (vcEq52 ▸ p52)
theorem s54 : CallSpec Tryz.prog gl 54 cAhead := fn_spec tab_ok mixed ct_nil il_nil Tryz.func54 (by kernel_rfl) (vcEq54 ▸ p54)
theorem s24 : CallSpec Tryz.prog gl 24 cRefNew := fn_spec tab_ok mixed (ct_cons s51 (ct_cons s53 (ct_cons s52 (ct_cons s54 ct_nil)))) il_nil Tryz.func24 (by kernel_rfl) (vcEq24 ▸ p24)
theorem s8 : CallSpec Tryz.prog gl 8 cLongC := fn_spec tab_ok mixed (ct_cons s24 ct_nil) il_nil Tryz.func8 (by kernel_rfl) (vcEq8 ▸ p8)
theorem s9 : CallSpec Tryz.prog gl 9 cRefRight := fn_spec tab_ok mixed ct_nil il_nil Tryz.func9 (by kernel_rfl) (vcEq9 ▸ p9)
theorem s87 : CallSpec Tryz.prog gl 87 cCount := fn_spec tab_ok mixed ct_nil il_nil Tryz.func87 (by kernel_rfl) (vcEq87 ▸ p87)
theorem s60 : CallSpec Tryz.prog gl 60 cWrong := fn_spec tab_ok mixed (ct_cons s87 (ct_cons (s88 _) ct_nil)) il_nil Tryz.func60 (by kernel_rfl) (vcEq60 ▸ p60)
theorem s90 : CallSpec Tryz.prog gl 90 cDecode := fn_spec tab_ok mixed ct_nil il_nil Tryz.func90 (by kernel_rfl) (vcEq90 ▸ p90)
theorem s108 : CallSpec Tryz.prog gl 108 cRight := fn_spec tab_ok mixed ct_nil il_nil Tryz.func108 (by kernel_rfl) (vcEq108 ▸ p108)
theorem s89 : CallSpec Tryz.prog gl 89 cEncode := fn_spec tab_ok mixed (ct_cons s108 ct_nil) il_nil Tryz.func89 (by kernel_rfl) (vcEq89 ▸ p89)
theorem s61 : CallSpec Tryz.prog gl 61 cClean := fn_spec tab_ok mixed (ct_cons s90 (ct_cons s89 ct_nil)) il_nil Tryz.func61 (by kernel_rfl) (vcEq61 ▸ p61)
theorem s94 : CallSpec Tryz.prog gl 94 cCmp := fn_spec tab_ok mixed ct_nil (il_cons Tryz.func119 (by kernel_rfl) il_nil) Tryz.func94 (by kernel_rfl) (vcEq94 ▸ p94)
theorem s93 : CallSpec Tryz.prog gl 93 cOr := fn_spec tab_ok mixed ct_nil il_nil Tryz.func93 (by kernel_rfl) (vcEq93 ▸ p93)
theorem s63 : CallSpec Tryz.prog gl 63 cOrder := fn_spec tab_ok mixed (ct_cons s94 (ct_cons s93 ct_nil)) il_nil Tryz.func63 (by kernel_rfl) (vcEq63 ▸ p63)
theorem n94 : CallSpec Tryz.prog noGl 94 cCmp := fn_spec tab_ok mixed ct_nil (il_cons Tryz.func119 (by kernel_rfl) il_nil) Tryz.func94 (by kernel_rfl) ((by kernel_rfl : fnVC (env tab [] [(119, Tryz.f119)] noGl hs94 nm94) Tryz.f94 (bodyOf Tryz.f94) cCmp = vc94) ▸ p94)
theorem n93 : CallSpec Tryz.prog noGl 93 cOr := fn_spec tab_ok mixed ct_nil il_nil Tryz.func93 (by kernel_rfl) ((by kernel_rfl : fnVC (env tab [] [] noGl hs93 nm93) Tryz.f93 (bodyOf Tryz.f93) cOr = vc93) ▸ p93)
theorem n63 : CallSpec Tryz.prog noGl 63 cOrder := fn_spec tab_ok mixed (ct_cons n94 (ct_cons n93 ct_nil)) il_nil Tryz.func63 (by kernel_rfl) ((by kernel_rfl : fnVC (env tab [(94, cCmp), (93, cOr)] [] noGl hs63 nm63) Tryz.f63 (bodyOf Tryz.f63) cOrder = vc63) ▸ p63)
theorem s32 : CallSpec Tryz.prog gl 32 cNew := fn_specR tab_ok mixed (ct_cons s60 (ct_cons s61 (ct_cons s63 ct_nil))) il_nil (rct_cons (r62 n63) rct_nil) Tryz.func32 (by kernel_rfl) (vcEq32 ▸ p32)
theorem s65 : CallSpec Tryz.prog gl 65 cLen := fn_spec tab_ok mixed ct_nil il_nil Tryz.func65 (by kernel_rfl) (vcEq65 ▸ p65)
theorem s97 : CallSpec Tryz.prog gl 97 cClone := fn_spec tab_ok mixed ct_nil il_nil Tryz.func97 (by kernel_rfl) (vcEq97 ▸ p97)
theorem s66 : CallSpec Tryz.prog gl 66 cAll := fn_spec tab_ok mixed (ct_cons s97 ct_nil) il_nil Tryz.func66 (by kernel_rfl) (vcEq66 ▸ p66)
theorem s95 : CallSpec Tryz.prog gl 95 cPlain := fn_spec tab_ok mixed ct_nil il_nil Tryz.func95 (by kernel_rfl) (vcEq95 ▸ p95)
theorem s96 : CallSpec Tryz.prog gl 96 cVirtual := fn_spec tab_ok mixed (ct_cons s87 ct_nil) il_nil Tryz.func96 (by kernel_rfl) (vcEq96 ▸ p96)
theorem s64 : CallSpec Tryz.prog gl 64 cRow := fn_spec tab_ok mixed (ct_cons s95 (ct_cons s96 ct_nil)) il_nil Tryz.func64 (by kernel_rfl) (vcEq64 ▸ p64)
theorem s99 : CallSpec Tryz.prog gl 99 cWithinN := fn_spec tab_ok mixed ct_nil il_nil Tryz.func99 (by kernel_rfl) (vcEq99 ▸ p99)
theorem s69 : CallSpec Tryz.prog gl 69 cCheck := fn_spec tab_ok mixed (ct_cons s99 ct_nil) il_nil Tryz.func69 (by kernel_rfl) (vcEq69 ▸ p69)
theorem s80 : CallSpec Tryz.prog gl 80 cOfI := fn_spec tab_ok mixed ct_nil il_nil Tryz.func80 (by kernel_rfl) (vcEq80 ▸ p80)
theorem s78 : CallSpec Tryz.prog gl 78 cAddS := fn_spec tab_ok mixed ct_nil il_nil Tryz.func78 (by kernel_rfl) (vcEq78 ▸ p78)
theorem s102 : CallSpec Tryz.prog gl 102 cAllS := fn_spec tab_ok mixed (ct_cons s80 (ct_cons s78 ct_nil)) il_nil Tryz.func102 (by kernel_rfl) (vcEq102 ▸ p102)
theorem s71 : CallSpec Tryz.prog gl 71 cLeafOf := fn_spec tab_ok mixed (ct_cons s102 ct_nil) il_nil Tryz.func71 (by kernel_rfl) (vcEq71 ▸ p71)
theorem s98 : CallSpec Tryz.prog gl 98 cHeightOf := fn_spec tab_ok mixed ct_nil il_nil Tryz.func98 (by kernel_rfl) (vcEq98 ▸ p98)
theorem s121 : CallSpec Tryz.prog gl 121 cPut := fn_spec tab_ok mixed ct_nil il_nil Tryz.func121 (by kernel_rfl) (vcEq121 ▸ p121)
theorem s79 : CallSpec Tryz.prog gl 79 cSumOf := fn_spec tab_ok mixed ct_nil il_nil Tryz.func79 (by kernel_rfl) (vcEq79 ▸ p79)
theorem s101 : CallSpec Tryz.prog gl 101 cInnerOf := fn_spec tab_ok mixed (ct_cons s98 (ct_cons s79 (ct_cons s78 ct_nil))) il_nil Tryz.func101 (by kernel_rfl) (vcEq101 ▸ p101)
theorem s120 : CallSpec Tryz.prog gl 120 cRaise := fn_spec tab_ok mixed (ct_cons s101 ct_nil) il_nil Tryz.func120 (by kernel_rfl) (vcEq120 ▸ p120)
theorem s122 : CallSpec Tryz.prog gl 122 cSpread := fn_spec tab_ok mixed (ct_cons s71 ct_nil) il_nil Tryz.func122 (by kernel_rfl) (vcEq122 ▸ p122)
theorem q100 : ∀ n, CallSpec Tryz.prog gl 100 (cMeld.cut muMeld n)
  | 0 => cut_zero Tryz.func100 (by kernel_rfl)
  | n + 1 => fn_spec tab_ok mixed (ct_cons s98 (ct_cons (q100 n) (ct_cons s121 (ct_cons s120 (ct_cons s122 ct_nil))))) il_nil Tryz.func100 (by kernel_rfl) (vcEq100 n ▸ p100 n)
theorem s100 : CallSpec Tryz.prog gl 100 cMeld := cut_all q100
theorem s70 : CallSpec Tryz.prog gl 70 cJoin := fn_spec tab_ok mixed (ct_cons s100 (ct_cons s101 ct_nil)) il_nil Tryz.func70 (by kernel_rfl) (vcEq70 ▸ p70)
theorem s37 : CallSpec Tryz.prog gl 37 cTreeNew := fn_spec tab_ok mixed (ct_cons s69 (ct_cons s71 (ct_cons s70 ct_nil))) il_nil Tryz.func37 (by kernel_rfl) (vcEq37 ▸ p37)
theorem s33 : CallSpec Tryz.prog gl 33 cWeave := fn_spec tab_ok mixed (ct_cons s65 (ct_cons s66 (ct_cons s64 (ct_cons s37 ct_nil)))) il_nil Tryz.func33 (by kernel_rfl) (vcEq33 ▸ p33)
theorem s68 : CallSpec Tryz.prog gl 68 cTreeOf := fn_spec tab_ok mixed ct_nil il_nil Tryz.func68 (by kernel_rfl) (vcEq68 ▸ p68)
theorem s77 : CallSpec Tryz.prog gl 77 cTop := fn_spec tab_ok mixed ct_nil il_nil Tryz.func77 (by kernel_rfl) (vcEq77 ▸ p77)
theorem s46 : CallSpec Tryz.prog gl 46 cSum := fn_spec tab_ok mixed (ct_cons s77 (ct_cons s79 ct_nil)) il_nil Tryz.func46 (by kernel_rfl) (vcEq46 ▸ p46)
theorem s36 : CallSpec Tryz.prog gl 36 cSizes := fn_spec tab_ok mixed (ct_cons s68 (ct_cons s46 ct_nil)) il_nil Tryz.func36 (by kernel_rfl) (vcEq36 ▸ p36)
theorem s35 : CallSpec Tryz.prog gl 35 cRightC := fn_spec tab_ok mixed (ct_cons s36 ct_nil) il_nil Tryz.func35 (by kernel_rfl) (vcEq35 ▸ p35)
theorem s75 : CallSpec Tryz.prog gl 75 cSizeD := fn_spec tab_ok mixed ct_nil il_nil Tryz.func75 (by kernel_rfl) (v75)
theorem s43 : CallSpec Tryz.prog gl 43 cFind := fn_spec tab_ok mixed (ct_cons s46 (ct_cons s75 (ct_cons s77 (ct_cons s79 (ct_cons s78 (ct_cons s80 ct_nil)))))) (il_cons Tryz.func76 (by kernel_rfl) il_nil) Tryz.func43 (by kernel_rfl) (vcEq43 ▸ p43)
theorem s74 : CallSpec Tryz.prog gl 74 cOut := fn_spec tab_ok mixed (ct_cons s68 (ct_cons s43 ct_nil)) il_nil Tryz.func74 (by kernel_rfl) (vcEq74 ▸ p74)
theorem s39 : CallSpec Tryz.prog gl 39 cPlacesC := fn_spec tab_ok mixed (ct_cons s74 ct_nil) il_nil Tryz.func39 (by kernel_rfl) (vcEq39 ▸ p39)
theorem s72 : CallSpec Tryz.prog gl 72 cPlainC := fn_spec tab_ok mixed ct_nil il_nil Tryz.func72 (by kernel_rfl) (vcEq72 ▸ p72)
theorem s73 : CallSpec Tryz.prog gl 73 cFoldC := fn_spec tab_ok mixed ct_nil il_nil Tryz.func73 (by kernel_rfl) (vcEq73 ▸ p73)
theorem s38 : CallSpec Tryz.prog gl 38 cRowC := fn_spec tab_ok mixed (ct_cons s72 (ct_cons s73 ct_nil)) il_nil Tryz.func38 (by kernel_rfl) (vcEq38 ▸ p38)
theorem s11 : CallSpec Tryz.prog gl 11 cNewC := fn_spec tab_ok mixed (ct_cons s35 (ct_cons s36 (ct_cons s39 (ct_cons s38 (ct_cons s37 ct_nil))))) il_nil Tryz.func11 (by kernel_rfl) (vcEq11 ▸ p11)
theorem s42 : CallSpec Tryz.prog gl 42 cTreeC := fn_spec tab_ok mixed ct_nil il_nil Tryz.func42 (by kernel_rfl) (vcEq42 ▸ p42)
theorem s44 : CallSpec Tryz.prog gl 44 cAt := fn_spec tab_ok mixed (ct_cons s46 (ct_cons s77 (ct_cons s79 ct_nil))) il_nil Tryz.func44 (by kernel_rfl) (vcEq44 ▸ p44)
theorem s15 : CallSpec Tryz.prog gl 15 cOutC := fn_spec tab_ok mixed (ct_cons s42 (ct_cons s43 (ct_cons s44 ct_nil))) il_nil Tryz.func15 (by kernel_rfl) (vcEq15 ▸ p15)
theorem s17 : CallSpec Tryz.prog gl 17 cInC := fn_spec tab_ok mixed (ct_cons s42 (ct_cons s43 ct_nil)) il_nil Tryz.func17 (by kernel_rfl) (vcEq17 ▸ p17)
theorem s67 : CallSpec Tryz.prog gl 67 cHeightT := fn_spec tab_ok mixed (ct_cons s77 (ct_cons s98 ct_nil)) il_nil Tryz.func67 (by kernel_rfl) (vcEq67 ▸ p67)
theorem s34 : CallSpec Tryz.prog gl 34 cHeightC := fn_spec tab_ok mixed (ct_cons s42 (ct_cons s67 ct_nil)) il_nil Tryz.func34 (by kernel_rfl) (vcEq34 ▸ p34)
theorem s10 : CallSpec Tryz.prog gl 10 cSix := fn_spec tab_ok mixed (ct_cons s32 (ct_cons s33 (ct_cons s11 (ct_cons s15 (ct_cons s17 (ct_cons s34 ct_nil)))))) il_nil Tryz.func10 (by kernel_rfl) (vcEq10 ▸ p10)
theorem s12 : CallSpec Tryz.prog gl 12 cWoven := fn_spec tab_ok mixed (ct_cons s32 (ct_cons s33 ct_nil)) il_nil Tryz.func12 (by kernel_rfl) (vcEq12 ▸ p12)
theorem s40 : CallSpec Tryz.prog gl 40 cSpots := fn_spec tab_ok mixed (ct_cons s53 ct_nil) il_nil Tryz.func40 (by kernel_rfl) (vcEq40 ▸ p40)
theorem s13 : CallSpec Tryz.prog gl 13 cSizeT := fn_spec tab_ok mixed (ct_cons s24 (ct_cons s40 ct_nil)) il_nil Tryz.func13 (by kernel_rfl) (vcEq13 ▸ p13)
theorem s26 : CallSpec Tryz.prog gl 26 cRefOut := fn_spec tab_ok mixed (ct_cons s53 ct_nil) il_nil Tryz.func26 (by kernel_rfl) (vcEq26 ▸ p26)
theorem s41 : CallSpec Tryz.prog gl 41 cRefPlaces := fn_spec tab_ok mixed (ct_cons s26 ct_nil) il_nil Tryz.func41 (by kernel_rfl) (vcEq41 ▸ p41)
theorem s14 : CallSpec Tryz.prog gl 14 cPlacesT := fn_spec tab_ok mixed (ct_cons s24 (ct_cons s41 ct_nil)) il_nil Tryz.func14 (by kernel_rfl) (vcEq14 ▸ p14)
theorem s45 : CallSpec Tryz.prog gl 45 cHides := fn_spec tab_ok mixed ct_nil il_nil Tryz.func45 (by kernel_rfl) (vcEq45 ▸ p45)
theorem s18 : CallSpec Tryz.prog gl 18 cStarts := fn_spec tab_ok mixed (ct_cons s45 ct_nil) il_nil Tryz.func18 (by kernel_rfl) (vcEq18 ▸ p18)
theorem s16 : CallSpec Tryz.prog gl 16 cRefOutC := fn_spec tab_ok mixed (ct_cons s18 (ct_cons s45 ct_nil)) il_nil Tryz.func16 (by kernel_rfl) (vcEq16 ▸ p16)
theorem s19 : CallSpec Tryz.prog gl 19 cRefInC := fn_spec tab_ok mixed (ct_cons s18 ct_nil) il_nil Tryz.func19 (by kernel_rfl) (vcEq19 ▸ p19)
theorem s3 : CallSpec Tryz.prog gl 3 cCreasePlaces := fn_spec tab_ok mixed (ct_cons s8 (ct_cons s9 (ct_cons s10 (ct_cons s12 (ct_cons s11 (ct_cons s13 (ct_cons s14 (ct_cons s15 (ct_cons s16 (ct_cons s17 (ct_cons s18 (ct_cons s19 ct_nil)))))))))))) il_nil Tryz.func3 (by kernel_rfl) (vcEq3 ▸ p3)
theorem s20 : CallSpec Tryz.prog gl 20 cSizesC := fn_spec tab_ok mixed (ct_cons s42 (ct_cons s46 ct_nil)) il_nil Tryz.func20 (by kernel_rfl) (vcEq20 ▸ p20)
theorem s4 : CallSpec Tryz.prog gl 4 cCreaseThere := fn_spec tab_ok mixed (ct_cons s8 (ct_cons s9 (ct_cons s10 (ct_cons s12 (ct_cons s11 (ct_cons s20 (ct_cons s17 (ct_cons s15 (ct_cons s14 ct_nil))))))))) il_nil Tryz.func4 (by kernel_rfl) (vcEq4 ▸ p4)
theorem s81 : CallSpec Tryz.prog gl 81 cItems := fn_spec tab_ok mixed (ct_cons s77 ct_nil) (il_cons Tryz.func104 (by kernel_rfl) (il_cons Tryz.func103 (by kernel_rfl) il_nil)) Tryz.func81 (by kernel_rfl) (vcEq81 ▸ p81)
theorem s47 : CallSpec Tryz.prog gl 47 cPiecesC := fn_spec tab_ok mixed (ct_cons s42 (ct_cons s81 ct_nil)) il_nil Tryz.func47 (by kernel_rfl) (vcEq47 ▸ p47)
theorem s48 : CallSpec Tryz.prog gl 48 cRefPiecesC := fn_spec tab_ok mixed (ct_cons s18 (ct_cons s45 ct_nil)) il_nil Tryz.func48 (by kernel_rfl) (vcEq48 ▸ p48)
theorem s49 : CallSpec Tryz.prog gl 49 cHigh := fn_spec tab_ok mixed ct_nil il_nil Tryz.func49 (by kernel_rfl) (vcEq49 ▸ p49)
theorem s21 : CallSpec Tryz.prog gl 21 cIsC := fn_spec tab_ok mixed (ct_cons s47 (ct_cons s13 (ct_cons s14 (ct_cons s48 (ct_cons s20 (ct_cons s18 (ct_cons s34 (ct_cons s49 ct_nil)))))))) il_nil Tryz.func21 (by kernel_rfl) (vcEq21 ▸ p21)
theorem s5 : CallSpec Tryz.prog gl 5 cCreaseNew := fn_spec tab_ok mixed (ct_cons s8 (ct_cons s10 (ct_cons s12 (ct_cons s11 (ct_cons s9 (ct_cons s21 ct_nil)))))) il_nil Tryz.func5 (by kernel_rfl) (vcEq5 ▸ p5)
theorem s22 : CallSpec Tryz.prog gl 22 cRef15New := fn_spec tab_ok mixed ct_nil il_nil Tryz.func22 (by kernel_rfl) (vcEq22 ▸ p22)
theorem s50 : CallSpec Tryz.prog gl 50 cOver := fn_spec tab_ok mixed ct_nil il_nil Tryz.func50 (by kernel_rfl) (vcEq50 ▸ p50)
theorem s23 : CallSpec Tryz.prog gl 23 cHidden := fn_spec tab_ok mixed (ct_cons s50 ct_nil) il_nil Tryz.func23 (by kernel_rfl) (vcEq23 ▸ p23)
theorem s6 : CallSpec Tryz.prog gl 6 cCreaseFolds := fn_spec tab_ok mixed (ct_cons s8 (ct_cons s10 (ct_cons s22 (ct_cons s12 (ct_cons s23 (ct_cons s11 (ct_cons s21 ct_nil))))))) il_nil Tryz.func6 (by kernel_rfl) (vcEq6 ▸ p6)
end Go.Fr.Z16
namespace Go.Fr
open Go Go.RowKit Go.ChangeShapes Go.WideShapes Go.ChangeAt
end Go.Fr
namespace Go.Proofs.YtckeadbpimhimaaGreatDoor
open Go Go.Fr Go.Fr.Z16 Go.ChangeShapes Go.WideShapes Go.ChangeAt Go.RowKit
theorem gMost : Tryz.prog.globalNamed "bodkin/utf.most" = some 0 := by kernel_rfl
theorem tMost : (Tryz.prog.globals[0]?).map (·.type) = some 202 := by kernel_rfl
theorem glob_of {W : World} (h : laidMetH Tryz.prog [("bodkin/utf.most", Rows.laid_bodkin_utf_most)] W) : GlobOk gl (heapOf W) := by
  rw [MakeChecks.laidMetH_plain _ _ _ (by kernel_rfl)] at h
  obtain ⟨ps, ⟨g0, t0, cs0, f0, p0, q0, hg0, ht0, hv0, hd0, hrest⟩, h2⟩ := h
  obtain rfl := Option.some.inj (gMost.symm.trans hg0)
  obtain rfl := Option.some.inj (tMost.symm.trans ht0)
  obtain ⟨xs, m1, hf, hx1, hlen, hn4, hel⟩ := DataW.trod_array Tryz.underlying202 hd0
  have c21 : Tryz.prog.cellsOf 21 = 1 := by kernel_rfl
  have len4 : cs0.toList.length = 4 := hlen.trans (by kernel_rfl)
  rw [c21] at hel
  have hcell : ∀ i : Nat, W.cell? ⟨0, i, none⟩ = cs0.toList[i]? := fun i => by rw [World.var?_cell gMost hv0 i]; simp
  generalize cs0.toList = cl at *
  match xs, cl, hn4, len4, hx1, hel, hcell with
  | [y0, y1, y2, y3], [x0, x1, x2, x3], _, _, hx1, hel, hcell =>
    have hx1 := (Prod.mk.inj hx1).1
    obtain ⟨n0, e0, z0, _⟩ := DataW.trod_int Tryz.underlying21 (hel 0 (by decide))
    obtain ⟨n1, e1, z1, _⟩ := DataW.trod_int Tryz.underlying21 (hel 1 (by decide))
    obtain ⟨n2, e2, z2, _⟩ := DataW.trod_int Tryz.underlying21 (hel 2 (by decide))
    obtain ⟨n3, e3, z3, _⟩ := DataW.trod_int Tryz.underlying21 (hel 3 (by decide))
    simp at e0 e1 e2 e3
    subst e0 e1 e2 e3 z0 z1 z2 z3
    simp only [Rows.laid_bodkin_utf_most, List.map_cons, List.map_nil, DataW.agg.injEq, List.cons.injEq, DataW.lit.injEq, Lit.int.injEq, true_and, and_true] at hx1
    obtain ⟨q0, q1, q2, q3⟩ := hx1
    subst q0 q1 q2 q3
    intro g T x hg
    unfold gl at hg
    cases hb : Nat.beq g 0 with
    | false => rw [hb] at hg; cases hg
    | true =>
      rw [hb] at hg
      have := Nat.eq_of_beq_eq_true hb
      subst this
      simp only [cond_true, Option.some.injEq] at hg
      cases hg
      refine ⟨[.int .i32 127, .int .i32 2047, .int .i32 65535, .int .i32 1114111], ⟨[_], _, rfl, rfl, [_], _, rfl, rfl, [_], _, rfl, rfl, [_], _, rfl, rfl, rfl⟩, ?_⟩
      intro j u hu
      rw [hcell_heapOf]
      have := hcell j
      rw [hu] at this
      have ha : (⟨0, 0, none⟩ : Addr).add j = ⟨0, j, none⟩ := by
        rw [add_lit, Nat.zero_add]
      rw [ha]
      exact this
theorem own : ownKnob Tryz.prog.godebug = none := by kernel_rfl
theorem laidOut : laidOutB Tryz.prog = true := by kernel_rfl
abbrev laid1 {H : Type} : List (String × DataW H) := [("bodkin/utf.most", Rows.laid_bodkin_utf_most)]
theorem door_met (os : Os) (args : Array Value) : laidMetH Tryz.prog laid1 ((World.doorLaid Tryz.prog 400 os).forCall (fun _ _ => 0) ⟨#[], args, []⟩).memory :=
  laidMetH_of_parts3 (fuel := 8) (laidMet_of_run' 8 (by kernel_rfl) (by kernel_rfl)) (by kernel_rfl) (by kernel_rfl)
end Go.Proofs.YtckeadbpimhimaaGreatDoor
