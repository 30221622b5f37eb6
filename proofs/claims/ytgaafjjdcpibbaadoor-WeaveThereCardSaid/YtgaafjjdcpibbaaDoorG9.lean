/-
  The statements' proofs. Conditions: none.
-/
import Derived.Test.YtgaafjjdcpibbaaDoorG8
import Derived.Shelf.SlSortCmp.NoneTotal
import Derived.Test.YtgaafjjdcpibbaaDoorProg
import Derived.Shelf.SlSortCmp.WholeK
import Derived.Ground.SlsfProg
import Derived.Shelf.Strings.Search3
import Derived.Ground.NamesProg
import Derived.Lib.IndexAny
import Derived.Test.YtgaafjjdcpibbaaDoorCards
import Derived.Test.YtgaafjjdcpibbaaDoorTie
import Derived.Test.YtgaafjjdcpibbaaDoorRows
import Derived.ProofKit
import Derived.LaidMore
import Derived.OpenShut
import Derived.Stop.Joined
namespace Go.Fr.C14
open Go Go.Fr Go.Proofs
theorem d122 : Ty.dflt t122 = ((NT.nil, ()) : Nd × Unit) := rfl
theorem ok_part {l m : List Itm} (h : okIts l) (hm : ∀ i ∈ m, i ∈ l) (hl : m.length ≤ l.length) : okIts m := ⟨by have := h.1; omega, fun i hi => h.2 i (hm i hi)⟩
theorem splitN_leaf (x : Lf) (a : Int) : splitN (.leaf x) a = if a ≤ 0 then (.nil, .leaf x) else if a ≥ (x.1.length : Int) then (.leaf x, .nil) else (mkLeaf (x.1.take a.toNat), mkLeaf (x.1.drop a.toNat)) := rfl
theorem splitN_inner {h : Nat} {ks : List Nd} {b : Nx} {top : Bool} (e : Wf (h + 1) top (.inner ks b)) (a : Int) : splitN (.inner ks b) a = match spK ks 0 a with
      | none => (.inner ks b, .nil)
      | some q => (join (rowN (ks.take q.1)) (splitF h (ks.getD q.1 .nil) q.2).1, join (splitF h (ks.getD q.1 .nil) q.2).2 (rowN (ks.drop (q.1 + 1)))) := by
  unfold splitN
  rw [(wf_height e).1]
  rfl
theorem splitN_kid {h : Nat} {n : Nd} (e : Wf h false n) (a : Int) : splitF h n a = splitN n a := by
  unfold splitN
  rw [(wf_height e).1]
  rfl
theorem ofLeaf_self {n : Nd} (h : (NT.asLeaf n).isSome = true) : NT.ofLeaf (NT.asLeaf n) = n := by
  cases n with
  | nil => cases h
  | leaf a => rfl
  | inner ks b => cases h
theorem ofInner_self {n : Nd} (h : (NT.asInner n).isSome = true) : NT.ofInner (NT.asInner n) = n := by
  cases n with
  | nil => cases h
  | leaf a => cases h
  | inner ks b => rfl
theorem leaf_is {n : Nd} (h : (NT.asLeaf n).isSome = true) : ∃ a, n = .leaf a := by
  cases n with
  | nil => cases h
  | leaf a => exact ⟨a, rfl⟩
  | inner ks b => cases h
theorem p70 (n : Nat) : vc70 n := by
  unfold vc70
  simp only [eq_self, true_and, and_true, decide_eq_true_eq, decide_eq_false_iff_not, beq_iff_eq, beq_eq_false_iff_ne, bne_iff_ne, bne_eq_false_iff_eq, Bool.not_eq_true', Bool.not_eq_false', ne_eq, imp_true_iff, implies_true]
  rintro ⟨x, a, ⟨⟩⟩
  simp only [maxLen_eq, ka', la']
  rintro ⟨⟨hw, hok⟩, hmu⟩
  have hf := fine_of hok.2
  have hl := hok.1
  refine ⟨fun hi => ?_, fun hi => ⟨fun hj => ⟨hj, ?_⟩, fun hj => ?_⟩⟩
  · obtain ⟨lf, rfl⟩ := leaf_is hi
    rw [itemsOf_leaf, splitN_leaf]
    have hlen : lf.1.length ≤ 100000 := hl
    have t1 : (lf.1.take a.toNat).length ≤ 9223372036854775807 := by rw [List.length_take]; omega
    have t2 : (lf.1.drop a.toNat).length ≤ 9223372036854775807 := by rw [List.length_drop]; omega
    refine ⟨fun g => ⟨hi, by rw [if_pos g]; rfl⟩, fun g => ⟨hi, fun g2 => ⟨hi, by rw [if_neg g, if_pos g2]; rfl⟩, fun g2 => ?_⟩⟩
    rw [if_neg g, if_neg g2]
    (repeat' (first | apply And.intro | intro _))
    all_goals first
      | exact hi
      | exact t1
      | exact t2
      | rfl
      | omega
  · rcases hw with rfl | ⟨h, h1, w⟩
    · cases hj
    obtain ⟨h', bx, rfl, ea, p1, k8, wk⟩ := wf_inner_of w hj
    have ei : items x = (kidsOf x).flatMap items := by
      rw [ea] at w ⊢
      exact items_inner w (by omega)
    have sp : splitN x a = match spK (kidsOf x) 0 a with
      | none => (x, .nil)
      | some q => (join (rowN ((kidsOf x).take q.1)) (splitF h' ((kidsOf x).getD q.1 .nil) q.2).1, join (splitF h' ((kidsOf x).getD q.1 .nil) q.2).2 (rowN ((kidsOf x).drop (q.1 + 1)))) := by
      rw [ea] at w ⊢
      exact splitN_inner w a
    have hmu : h' + 1 < n + 1 := by
      unfold muSplit at hmu
      rw [(wf_height w).1] at hmu
      exact hmu
    have self := ofInner_self hj
    rw [self]
    rw [ei] at hf hl hok
    clear w self ea
    generalize kidsOf x = ks at hf hl hok sp k8 wk ⊢
    refine ⟨fun z => ∃ k : Nat, k ≤ ks.length ∧ z.2.1 = (k : Int) ∧ spK (ks.drop k) k z.1 = spK ks 0 a, fun z => ks.length - z.2.1.toNat, ⟨0, Nat.zero_le _, rfl, rfl⟩, ?_⟩
    rintro a' i ⟨k, hk, hi2, hs⟩
    simp only at hi2 hs
    subst hi2
    refine ⟨fun g => ?_, fun g => ⟨hj, ?_⟩⟩
    · have hlt : k < ks.length := by omega
      have hw64 : IntKind.i64.wrap ((k : Int) + 1) = ((k + 1 : Nat) : Int) := wrap_succ (by omega)
      rw [toNat_cast, hw64]
      simp only [toNat_cast]
      have mem := getD_in (.nil : Nd) hlt
      have wkk := wk _ mem
      have fl := flat_len_le hlt
      have fm := fine_mem hf mem
      have okm : okIts (items (ks.getD k .nil)) := ok_part hok (fun i hi => List.mem_flatMap.2 ⟨_, mem, hi⟩) (len_mem mem)
      rw [drop_cons .nil hlt] at hs
      have es : spK (ks.getD k .nil :: ks.drop (k + 1)) k a' = if a' ≤ (sumOf (ks.getD k .nil)).1 then some (k, a') else spK (ks.drop (k + 1)) (k + 1) (w64 (a' - (sumOf (ks.getD k .nil)).1)) := rfl
      rw [es] at hs
      refine ⟨⟨by omega, g⟩, fun g4 => ?_, fun g4 => ⟨⟨k + 1, hlt, rfl, ?_⟩, by first | omega | (simp only [toNat_cast]; omega)⟩⟩
      · rw [if_pos g4] at hs
        rw [← hs] at sp
        simp only [] at sp
        rw [splitN_kid wkk] at sp
        have ha' : a' ≤ 9223372036854775807 := by
          have := (sum_wf h' false _ (by omega) wkk fm okm.1).1
          have := okm.1
          omega
        obtain ⟨s1, s2, s3, s4⟩ := splitN_ok (a := a') (.inr ⟨h', by omega, wf_top wkk⟩) fm okm.1 ha'
        obtain ⟨r1, r2⟩ := rowN_ok (ks := ks.take k) p1 (by omega) (by rw [List.length_take]; omega) (fun k hk => wk k (List.mem_of_mem_take hk))
        obtain ⟨r3, r4⟩ := rowN_ok (ks := ks.drop (k + 1)) p1 (by omega) (by rw [List.length_drop]; omega) (fun k hk => wk k (List.mem_of_mem_drop hk))
        have mu : muSplit (ks.getD k .nil, a', ()) < n := by
          unfold muSplit
          rw [(wf_height wkk).1]
          simp only [Int.toNat_natCast]
          omega
        have wn : WfN (ks.getD k .nil) := .inr ⟨h', by omega, wf_top wkk⟩
        have l1 : (ks.take k).length ≤ 100000 := by rw [List.length_take]; omega
        have l2 : (ks.drop (k + 1)).length ≤ 100000 := by rw [List.length_drop]; omega
        rw [sp]
        (repeat' (first | apply And.intro | intro _))
        all_goals first
          | exact wn
          | exact okm.1
          | exact okm.2 _ (by assumption)
          | exact mu
          | exact hj
          | exact l1
          | exact l2
          | exact r1
          | exact r3
          | exact s1
          | exact s2
          | rfl
          | omega
      · rw [if_neg g4] at hs
        exact hs
    · have hke : k = ks.length := by omega
      rw [hke, List.drop_length] at hs
      have hs : (none : Option (Nat × Int)) = spK ks 0 a := hs
      rw [sp, ← hs]
  · rw [nil_of hi hj]
    rfl
theorem maxI_eq (a b : Int) : (if a < b then b else a) = maxI a b := rfl
theorem p43 : vc43 := by
  unfold vc43
  simp only [eq_self, true_and, and_true, decide_eq_true_eq, decide_eq_false_iff_not, beq_iff_eq, beq_eq_false_iff_ne, bne_iff_ne, bne_eq_false_iff_eq, Bool.not_eq_true', Bool.not_eq_false', ne_eq, imp_true_iff, implies_true]
  rintro ⟨t, f, e, l, ⟨⟩⟩
  simp only [maxLen_eq, d122]
  rintro ⟨⟨hw, hok⟩, hl⟩
  have hf := fine_of hok.2
  have so := (sum_top hw hf hok.1).1
  have bad : (f < 0 ∨ e < f ∨ e > (sumOf (topT t)).1) → (none, 1, ()) = replT t f e l := fun h => by unfold replT; rw [if_pos h]
  refine ⟨fun h => bad (.inl h), fun g0 => ⟨fun h => bad (.inr (.inl h)), fun g1 => ⟨fun h => bad (.inr (.inr h)), fun g2 => ⟨hl, fun h => ?_, fun h => ?_⟩⟩⟩⟩
  · unfold replT
    rw [if_neg (by omega), if_pos h]
  · obtain ⟨n1, n2, n3⟩ := newT_zero h
    refine ⟨fun h2 => ?_, fun h2 => ?_⟩
    · unfold replT
      rw [if_neg (by omega), if_neg (fun hh => hh h), if_pos (show w64 (w64 ((sumOf (topT t)).1 - w64 (e - f)) + (l.length : Int)) > 30000 from h2)]
    · obtain ⟨b1, b2⟩ := buildT_ok hl
      have hlo := hok.1
      obtain ⟨r1, r2, r3, r4, r5, r6, r7⟩ := replN_ok (mid := buildT l) (from_ := f) (to := e) hw hf hok.1 b1 (by rw [b2]; exact hl) (by omega) (by omega) (by omega)
      have e1 : ((optL (newT l).1).getD 0 ((NT.nil, ()) : Nd × Unit)).1 = buildT l := by rw [n3]; rfl
      have e2 : (newT l).1.isSome = true := by rw [n3]; rfl
      rw [e1]
      have okd : okIts (items (splitN (topT t) f).2) := by
        rw [r3]
        exact ok_part hok (fun i hi => List.mem_of_mem_drop hi) (by rw [List.length_drop]; omega)
      have fin : (some (join (join (splitN (topT t) f).1 (buildT l)) (splitN (splitN (topT t) f).2 (IntKind.i64.wrap (e - f))).2, ()), (0 : Int), ()) = replT t f e l := by
        unfold replT
        rw [if_neg (by omega), if_neg (fun hh => hh h), if_neg (show ¬ w64 (w64 ((sumOf (topT t)).1 - w64 (e - f)) + (l.length : Int)) > 30000 from h2), n3]
        rfl
      exact ⟨⟨hw, hok⟩, ⟨r2, okd⟩, e2, ⟨r1, b1⟩, ⟨r4, r5⟩, fin⟩
theorem upd_bad {w : Wve} {old now : Span} {s : Option ISet} (h : (fitsW old (sumOf (topT (treeOf w))).2.1.1 && fitsW now (lenI s) && decide (old.1 = now.1) && decide (w64 ((sumOf (topT (treeOf w))).2.1.1 - old.2.1) = w64 (lenI s - now.2.1))) = false) : (none, 1, ()) = updW w old now s := by
  unfold updW; rw [if_pos h]
theorem p19 : vc19 := by
  unfold vc19
  simp only [eq_self, true_and, and_true, decide_eq_true_eq, decide_eq_false_iff_not, beq_iff_eq, beq_eq_false_iff_ne, bne_iff_ne, bne_eq_false_iff_eq, Bool.not_eq_true', Bool.not_eq_false', ne_eq, imp_true_iff, implies_true]
  rintro ⟨w, old, now, s, ⟨⟩⟩
  simp only [maxLen_eq, maxI_eq]
  rintro ⟨hok, hl, hs⟩
  have hfl : ((allI s).filter (inI now.1 now.2.1)).length ≤ 10000 := Nat.le_trans (List.length_filter_le _ _) hl
  have hfs : shortL ((allI s).filter (inI now.1 now.2.1)) := fun x hx => hs x (List.mem_filter.1 hx).1
  have rl := fun t f => rowF_len t f ((allI s).filter (inI now.1 now.2.1))
  have rl2 := fun t f => Nat.le_trans (rl t f) (show 2 * ((allI s).filter (inI now.1 now.2.1)).length + 1 ≤ 100000 by omega)
  refine ⟨fun h => upd_bad (by rw [h]; rfl), fun g0 => ⟨fun h => upd_bad (by rw [h, Bool.and_false]; rfl), fun g1 => ⟨fun h => upd_bad (by rw [decide_eq_false h, Bool.and_false]; rfl), fun g2 => ⟨fun h => upd_bad (by rw [decide_eq_false (show ¬ w64 ((sumOf (topT (treeOf w))).2.1.1 - old.2.1) = w64 (lenI s - now.2.1) from h), Bool.and_false]), fun g3 => ?_⟩⟩⟩⟩
  have good : (fitsW old (sumOf (topT (treeOf w))).2.1.1 && fitsW now (lenI s) && decide (old.1 = now.1) && decide (w64 ((sumOf (topT (treeOf w))).2.1.1 - old.2.1) = w64 (lenI s - now.2.1))) = true := by
    rw [g0, g1, decide_eq_true g2, decide_eq_true (show w64 ((sumOf (topT (treeOf w))).2.1.1 - old.2.1) = w64 (lenI s - now.2.1) from g3)]
    rfl
  have no : ¬ (updR w old now s).2.1 = 0 → (none, (updR w old now s).2) = updW w old now s := fun h => by
    unfold updW
    rw [good, if_neg (by decide), if_pos h]
  have yes : (updR w old now s).2.1 = 0 → (some ((updR w old now s).1, ()), 0, ()) = updW w old now s := fun h => by
    unfold updW
    rw [good, if_neg (by decide), if_neg (fun hh => hh h)]
  have hw := hok.1
  refine ⟨hw, hw, ⟨by decide, by decide⟩, hok, fun g4 => ?_, fun g4 => ?_⟩
  · have eR : updR w old now s = replT (treeOf w) (findT (treeOf w) 0 old.1 0).1.1 (maxI (findT (treeOf w) 0 old.1 0).1.1 (IntKind.i64.wrap ((findT (treeOf w) 0 old.2.1 1).1.1 + 1))) (rowF (IntKind.i64.wrap (now.2.1 + IntKind.i64.wrap (IntKind.i64.wrap ((findT (treeOf w) 0 old.2.1 1).1.2.1.2.1.1 + (atT (treeOf w) (findT (treeOf w) 0 old.2.1 1).1.1).1.2.2.1.1) - old.2.1))) (findT (treeOf w) 0 old.1 0).1.2.1.2.1.1 ((allI s).filter (inI now.1 now.2.1))) := by
      unfold updR updL updE
      rw [if_pos g4, if_pos g4]
      rfl
    rw [← eR]
    exact ⟨⟨by decide, by decide⟩, ⟨by decide, by decide⟩, hl, ⟨hfl, hfs⟩, ⟨hok, rl2 _ _⟩, no, yes⟩
  · have eR : updR w old now s = replT (treeOf w) (findT (treeOf w) 0 old.1 0).1.1 (maxI (findT (treeOf w) 0 old.1 0).1.1 (findT (treeOf w) 0 old.2.1 1).1.1) (rowF now.2.1 (findT (treeOf w) 0 old.1 0).1.2.1.2.1.1 ((allI s).filter (inI now.1 now.2.1))) := by
      unfold updR updL updE
      rw [if_neg g4, if_neg g4]
    rw [← eR]
    exact ⟨hl, ⟨hfl, hfs⟩, ⟨hok, rl2 _ _⟩, no, yes⟩
end Go.Fr.C14
namespace Go.Fr.C14
open Go Go.Fr Go.Proofs
set_option maxRecDepth 100000
def hs3 : List (Nat × Nat × Hint) := []
def nm3 : List Nat := [3000000024]
noncomputable def E3 : Env := env tab [(7, cLong), (8, cFour), (9, cNew), (10, cRefNew), (11, cWeave), (12, cOut), (13, cRefOut), (14, cIn), (15, cSpots), (16, cRefIn)] [] gl hs3 nm3
def vc3 : Prop :=
 ∀ (x : Int × List Inl × (Int × Int × Unit) × Unit),
 let y := inW (weaveI (newI x.fst x.snd.fst).fst) x.snd.snd.fst.fst;
 let y_1 := x.snd.snd.fst;
 let y_2 := x.snd.fst;
 let y_3 := x.fst;
 let y_4 := newW y_3 y_2;
 let y_5 := (newI y_3 y_2).fst;
 let y_6 := (newI y_3 y_2).snd.fst != (0 : Int);
 let y_7 := y_4.snd.snd.fst != (0 : Int);
 let y_8 := (↑(List.length (spots y_4)) : Int);
 let y_9 := outW (weaveI y_5) y_1.fst y_1.snd.fst;
 let y_10 := decide (y_1.fst > (↑(List.length (spots y_4)) : Int));
 let y_11 := decide (y_1.fst < (0 : Int));
 let y_12 := y_1.fst;
 let y_13 := y_1.snd.fst;
 let y_14 := refIn y_4 y_12;
 let y_15 := decide (y_12 > y_3);
 let y_16 := y_9.fst != refOut y_4 y_12 y_13;
 let y_17 := y_9.snd.fst;
 let y_18 := y_9.fst != (0 : Int);
 let y_19 := y_17 != (1 : Int);
 let y_20 := y_17 != (0 : Int);
 let y_21 := y.snd.fst == y_14.snd.fst;
 let y_22 := y.fst == y_14.fst;
 let y_23 := y.snd.snd.fst;
 let y_24 := y.snd.fst == (0 : Int);
 let y := y.fst == (0 : Int);
 let y_25 := y_23 == (1 : Int);
 let y_26 := y_23 == (0 : Int);
 List.length y_2 ≤ maxLen →
 List.length y_2 ≤ maxLen ∧
 (longW y_3 y_2 = true → True ∧ true = true) ∧
 (longW y_3 y_2 = false →
 (List.length y_2 ≤ maxLen ∧ shortL y_2) ∧
 (List.length y_2 ≤ maxLen ∧ shortL y_2) ∧
 (y_6 = true → (y_7 = true → True ∧ true = true) ∧ (y_7 = false → false = true)) ∧
 (y_6 = false →
 (Option.isNone y_5 = true → (y_7 = true → True ∧ true = true) ∧ (y_7 = false → false = true)) ∧
 (Option.isNone y_5 = false →
 (List.length (allI y_5) ≤ (10000 : Nat) ∧ shortL (allI y_5)) ∧
 WfN (topT (treeOf (weaveI y_5))) ∧
 (y_11 = true →
 (y_19 = true → false = true) ∧
 (y_19 = false →
 (y_18 = true → false = true) ∧
 (y_18 = false →
 okTre (treeOf (weaveI y_5)) ∧
 (y_11 = true →
 (y_25 = true →
 (y = true →
 (y_24 = true → True ∧ true = true) ∧
 (y_24 = false → false = true)) ∧
 (y = false → false = true)) ∧
 (y_25 = false → false = true)) ∧
 (y_11 = false →
 smallW y_4 ∧
 (y_10 = true →
 (y_25 = true →
 (y = true →
 (y_24 = true → True ∧ true = true) ∧
 (y_24 = false → false = true)) ∧
 (y = false → false = true)) ∧
 (y_25 = false → false = true)) ∧
 (y_10 = false →
 (smallW y_4 ∧ (0 : Int) ≤ y_12 ∧ y_12 ≤ y_8) ∧
 (y_26 = true →
 (y_22 = true →
 (y_21 = true → True ∧ true = true) ∧
 (y_21 = false → false = true)) ∧
 (y_22 = false → false = true)) ∧
 (y_26 = false → false = true)))))) ∧
 (y_11 = false →
 (y_15 = true →
 (y_19 = true → false = true) ∧
 (y_19 = false →
 (y_18 = true → false = true) ∧
 (y_18 = false →
 okTre (treeOf (weaveI y_5)) ∧
 (y_11 = true →
 (y_25 = true →
 (y = true →
 (y_24 = true → True ∧ true = true) ∧
 (y_24 = false → false = true)) ∧
 (y = false → false = true)) ∧
 (y_25 = false → false = true)) ∧
 (y_11 = false →
 smallW y_4 ∧
 (y_10 = true →
 (y_25 = true →
 (y = true →
 (y_24 = true → True ∧ true = true) ∧
 (y_24 = false → false = true)) ∧
 (y = false → false = true)) ∧
 (y_25 = false → false = true)) ∧
 (y_10 = false →
 (smallW y_4 ∧ (0 : Int) ≤ y_12 ∧ y_12 ≤ y_8) ∧
 (y_26 = true →
 (y_22 = true →
 (y_21 = true → True ∧ true = true) ∧
 (y_21 = false → false = true)) ∧
 (y_22 = false → false = true)) ∧
 (y_26 = false → false = true)))))) ∧
 (y_15 = false →
 ((y_13 != (0 : Int)) = true →
 ((y_13 != (1 : Int)) = true →
 (y_19 = true → false = true) ∧
 (y_19 = false →
 (y_18 = true → false = true) ∧
 (y_18 = false →
 okTre (treeOf (weaveI y_5)) ∧
 (y_11 = true →
 (y_25 = true →
 (y = true →
 (y_24 = true → True ∧ true = true) ∧
 (y_24 = false → false = true)) ∧
 (y = false → false = true)) ∧
 (y_25 = false → false = true)) ∧
 (y_11 = false →
 smallW y_4 ∧
 (y_10 = true →
 (y_25 = true →
 (y = true →
 (y_24 = true → True ∧ true = true) ∧
 (y_24 = false → false = true)) ∧
 (y = false → false = true)) ∧
 (y_25 = false → false = true)) ∧
 (y_10 = false →
 (smallW y_4 ∧ (0 : Int) ≤ y_12 ∧ y_12 ≤ y_8) ∧
 (y_26 = true →
 (y_22 = true →
 (y_21 = true → True ∧ true = true) ∧
 (y_21 = false → false = true)) ∧
 (y_22 = false → false = true)) ∧
 (y_26 = false → false = true)))))) ∧
 ((y_13 != (1 : Int)) = false →
 (y_20 = true → false = true) ∧
 (y_20 = false →
 smallW y_4 ∧
 (y_16 = true → false = true) ∧
 (y_16 = false →
 okTre (treeOf (weaveI y_5)) ∧
 (y_11 = true →
 (y_25 = true →
 (y = true →
 (y_24 = true → True ∧ true = true) ∧
 (y_24 = false → false = true)) ∧
 (y = false → false = true)) ∧
 (y_25 = false → false = true)) ∧
 (y_11 = false →
 smallW y_4 ∧
 (y_10 = true →
 (y_25 = true →
 (y = true →
 (y_24 = true → True ∧ true = true) ∧
 (y_24 = false → false = true)) ∧
 (y = false → false = true)) ∧
 (y_25 = false → false = true)) ∧
 (y_10 = false →
 (smallW y_4 ∧ (0 : Int) ≤ y_12 ∧ y_12 ≤ y_8) ∧
 (y_26 = true →
 (y_22 = true →
 (y_21 = true → True ∧ true = true) ∧
 (y_21 = false → false = true)) ∧
 (y_22 = false → false = true)) ∧
 (y_26 = false → false = true))))))) ∧
 ((y_13 != (0 : Int)) = false →
 (y_20 = true → false = true) ∧
 (y_20 = false →
 smallW y_4 ∧
 (y_16 = true → false = true) ∧
 (y_16 = false →
 okTre (treeOf (weaveI y_5)) ∧
 (y_11 = true →
 (y_25 = true →
 (y = true →
 (y_24 = true → True ∧ true = true) ∧
 (y_24 = false → false = true)) ∧
 (y = false → false = true)) ∧
 (y_25 = false → false = true)) ∧
 (y_11 = false →
 smallW y_4 ∧
 (y_10 = true →
 (y_25 = true →
 (y = true →
 (y_24 = true → True ∧ true = true) ∧
 (y_24 = false → false = true)) ∧
 (y = false → false = true)) ∧
 (y_25 = false → false = true)) ∧
 (y_10 = false →
 (smallW y_4 ∧ (0 : Int) ≤ y_12 ∧ y_12 ≤ y_8) ∧
 (y_26 = true →
 (y_22 = true →
 (y_21 = true → True ∧ true = true) ∧
 (y_21 = false → false = true)) ∧
 (y_22 = false → false = true)) ∧
 (y_26 = false → false = true)))))))))))
theorem vcEq3 : fnVC E3 Tryd.f3 (bodyOf Tryd.f3) cWeavePlaces = vc3 := by kernel_rfl
def hs4 : List (Nat × Nat × Hint) := [(0, 10, ⟨[.slot 10 t3, .slot 11 t3], [0, 7, 9], [], []⟩),
  (0, 13, ⟨[.slot 10 t3, .slot 12 t3], [0, 7, 9, 11], [], []⟩)]
def nm4 : List Nat := [3000000024]
noncomputable def E4 : Env := env tab [(7, cLong), (8, cFour), (9, cNew), (10, cRefNew), (11, cWeave), (17, cSizes), (12, cOut), (14, cIn)] [] gl hs4 nm4
def vc4 : Prop :=
 ∀ (x : Int × List Inl × Unit),
 let y := (newI x.fst x.snd.fst).fst;
 let y_1 := x.snd.fst;
 let y_2 := x.fst;
 let y_3 := (newW y_2 y_1).snd.snd.fst != (0 : Int);
 let y_4 := (newI y_2 y_1).snd.fst != (0 : Int);
 let y_5 := (sumOf (topT (treeOf (weaveI y)))).snd.fst.snd.fst;
 let y_6 := (outW (weaveI y) (0 : Int) (0 : Int)).fst == (0 : Int);
 List.length y_1 ≤ maxLen →
 List.length y_1 ≤ maxLen ∧
 (longW y_2 y_1 = true → True ∧ true = true) ∧
 (longW y_2 y_1 = false →
 (List.length y_1 ≤ maxLen ∧ shortL y_1) ∧
 (y_4 = true →
 (List.length y_1 ≤ maxLen ∧ shortL y_1) ∧
 (y_3 = true → True ∧ true = true) ∧ (y_3 = false → false = true)) ∧
 (y_4 = false →
 (Option.isNone y = true →
 (List.length y_1 ≤ maxLen ∧ shortL y_1) ∧
 (y_3 = true → True ∧ true = true) ∧ (y_3 = false → false = true)) ∧
 (Option.isNone y = false →
 (List.length (allI y) ≤ (10000 : Nat) ∧ shortL (allI y)) ∧
 True ∧
 ((0 : Int) = (0 : Int) ∧
 (-1 : Int) = (-1 : Int) ∧ y_2 = y_2 ∧ weaveI y = weaveI y ∧ y_5 = y_5) ∧
 ∃ (Z : Int × Int × Unit → Prop),
 ∃ (μ : Int × Int × Unit → Nat),
 Z ((-1 : Int), (0 : Int), ()) ∧
 ∀ (a a_1 : Int),
 let y_7 := IntKind.wrap IntKind.i64 (a_1 + (1 : Int));
 let y_8 := (a, a_1, ());
 Z y_8 →
 (decide (a_1 ≤ y_2) = true →
 ((0 : Int) = (0 : Int) ∧
 a = a ∧ y_2 = y_2 ∧ weaveI y = weaveI y ∧ y_5 = y_5 ∧ a_1 = a_1) ∧
 ∃ (Z_1 : Int × Int × Unit → Prop),
 ∃ (μ_1 : Int × Int × Unit → Nat),
 Z_1 (a, (0 : Int), ()) ∧
 ∀ (a : Int),
 let y_9 := (a, y_7, ());
 ∀ (a_4 : Int),
 let y_10 := (outW (weaveI y) a_1 a_4).fst;
 let y_11 := (a, a_4, ());
 let y_12 := IntKind.wrap IntKind.i64 (a_4 + (1 : Int));
 let y_13 := (outW (weaveI y) a_1 a_4).snd.fst != (0 : Int);
 let y_14 := (y_10, y_12, ());
 let y_15 := (inW (weaveI y) y_10).snd;
 let y_16 := y_15.snd.fst != (0 : Int);
 Z_1 y_11 →
 (decide (a_4 < (2 : Int)) = true →
 WfN (topT (treeOf (weaveI y))) ∧
 okTre (treeOf (weaveI y)) ∧
 (y_13 = true → false = true) ∧
 (y_13 = false →
 (y_16 = true → false = true) ∧
 (y_16 = false →
 (((inW (weaveI y) y_10).fst != a_1) = true →
 false = true) ∧
 (((inW (weaveI y) y_10).fst != a_1) = false →
 ((y_15.fst != (0 : Int)) = true →
 false = true) ∧
 ((y_15.fst != (0 : Int)) = false →
 (decide (y_10 < a) = true →
 false = true) ∧
 (decide (y_10 < a) = false →
 ((a_4 == (0 : Int)) = true →
 ((y_10 == a) = true →
 false = true) ∧
 ((y_10 == a) = false →
 (y_12 = y_12 ∧
 y_10 = y_10 ∧
 y_2 = y_2 ∧
 weaveI y = weaveI y ∧
 y_5 = y_5 ∧
 a_1 = a_1) ∧
 Z_1 y_14 ∧
 μ_1 y_14 < μ_1 y_11)) ∧
 ((a_4 == (0 : Int)) = false →
 (y_12 = y_12 ∧
 y_10 = y_10 ∧
 y_2 = y_2 ∧
 weaveI y = weaveI y ∧
 y_5 = y_5 ∧ a_1 = a_1) ∧
 Z_1 y_14 ∧
 μ_1 y_14 < μ_1 y_11))))))) ∧
 (decide (a_4 < (2 : Int)) = false →
 (y_7 = y_7 ∧
 a = a ∧ y_2 = y_2 ∧ weaveI y = weaveI y ∧ y_5 = y_5) ∧
 Z y_9 ∧ μ y_9 < μ y_8)) ∧
 (decide (a_1 ≤ y_2) = false →
 WfN (topT (treeOf (weaveI y))) ∧
 (y_6 = true →
 ((a == y_5) = true → True ∧ true = true) ∧
 ((a == y_5) = false → false = true)) ∧
 (y_6 = false → false = true)))))
theorem vcEq4 : fnVC E4 Tryd.f4 (bodyOf Tryd.f4) cWeaveThere = vc4 := by kernel_rfl
def hs5 : List (Nat × Nat × Hint) := []
def nm5 : List Nat := [3000000024]
noncomputable def E5 : Env := env tab [(7, cLong), (8, cFour), (9, cNew), (10, cRefNew), (11, cWeave), (18, cIs)] [] gl hs5 nm5
def vc5 : Prop :=
 ∀ (x : Int × List Inl × Unit),
 List.length x.snd.fst ≤ maxLen →
 List.length x.snd.fst ≤ maxLen ∧
 (longW x.fst x.snd.fst = true → True ∧ true = true) ∧
 (longW x.fst x.snd.fst = false →
 (List.length x.snd.fst ≤ maxLen ∧ shortL x.snd.fst) ∧
 (List.length x.snd.fst ≤ maxLen ∧ shortL x.snd.fst) ∧
 (((newI x.fst x.snd.fst).snd.fst != (0 : Int)) = true →
 (((newW x.fst x.snd.fst).snd.snd.fst != (0 : Int)) = true → True ∧ true = true) ∧
 (((newW x.fst x.snd.fst).snd.snd.fst != (0 : Int)) = false → false = true)) ∧
 (((newI x.fst x.snd.fst).snd.fst != (0 : Int)) = false →
 (Option.isNone (newI x.fst x.snd.fst).fst = true →
 (((newW x.fst x.snd.fst).snd.snd.fst != (0 : Int)) = true → True ∧ true = true) ∧
 (((newW x.fst x.snd.fst).snd.snd.fst != (0 : Int)) = false → false = true)) ∧
 (Option.isNone (newI x.fst x.snd.fst).fst = false →
 (List.length (allI (newI x.fst x.snd.fst).fst) ≤ (10000 : Nat) ∧
 shortL (allI (newI x.fst x.snd.fst).fst)) ∧
 (smallW (newW x.fst x.snd.fst) ∧
 (topT (treeOf (weaveI (newI x.fst x.snd.fst).fst)) = (NT.nil : Nd) ∨
 ∃ (h : Nat),
 h ≤ (3 : Nat) ∧ Wf h true (topT (treeOf (weaveI (newI x.fst x.snd.fst).fst)))) ∧
 List.length (items (topT (treeOf (weaveI (newI x.fst x.snd.fst).fst)))) ≤ (10000 : Nat)) ∧
 (isW (weaveI (newI x.fst x.snd.fst).fst) (newW x.fst x.snd.fst) = true → True ∧ true = true) ∧
 (isW (weaveI (newI x.fst x.snd.fst).fst) (newW x.fst x.snd.fst) = false → false = true))))
theorem vcEq5 : fnVC E5 Tryd.f5 (bodyOf Tryd.f5) cWeaveNew = vc5 := by kernel_rfl
def hs6 : List (Nat × Nat × Hint) := []
def nm6 : List Nat := [3000000024]
noncomputable def E6 : Env := env tab [(12, cOut), (14, cIn), (19, cUpdate), (17, cSizes), (20, cPieces), (21, cHeightW), (8, cFour)] [] gl hs6 nm6
def vc6 : Prop :=
 ∀ (x : Int × Unit),
 True →
 WfN (topT (treeOf none)) ∧
 okTre (treeOf none) ∧
 (okTre (treeOf none) ∧ List.length (allI none) ≤ (10000 : Nat) ∧ shortL (allI none)) ∧
 True ∧
 (((outW none x.fst (0 : Int)).fst == (0 : Int)) = true →
 (((inW none x.fst).fst == (0 : Int)) = true →
 (((inW none x.fst).snd.fst == (0 : Int)) = true →
 (Ty.beq t4 ((outW none x.fst (0 : Int)).snd.fst == (0 : Int)) (x.fst == (0 : Int)) = true →
 (Ty.beq t4 ((inW none x.fst).snd.snd.fst == (0 : Int)) (x.fst == (0 : Int)) = true →
 (((updW none ((0 : Int), (0 : Int), ()) ((0 : Int), (0 : Int), ()) none).snd.fst ==
 (0 : Int)) =
 true →
 (Option.isSome
 (updW none ((0 : Int), (0 : Int), ()) ((0 : Int), (0 : Int), ()) none).fst =
 true →
 ((topT
 (treeOf
 (updW none ((0 : Int), (0 : Int), ()) ((0 : Int), (0 : Int), ())
 none).fst) =
 (NT.nil : Nd) ∨
 ∃ (h : Nat),
 h ≤ (3 : Nat) ∧
 Wf h true
 (topT
 (treeOf
 (updW none ((0 : Int), (0 : Int), ()) ((0 : Int), (0 : Int), ())
 none).fst))) ∧
 List.length
 (items
 (topT
 (treeOf
 (updW none ((0 : Int), (0 : Int), ()) ((0 : Int), (0 : Int), ())
 none).fst))) ≤
 (10000 : Nat)) ∧
 (((↑(List.length
 (piecesI
 (treeOf
 (updW none ((0 : Int), (0 : Int), ())
 ((0 : Int), (0 : Int), ()) none).fst))) :
 Int) ==
 (0 : Int)) =
 true →
 (((sumOf (topT (treeOf none))).snd.fst.fst == (0 : Int)) = true →
 (((sumOf (topT (treeOf none))).snd.fst.snd.fst == (0 : Int)) = true →
 True ∧
 ((heightOf (topT (treeOf none)) == (0 : Int)) = true →
 ((topT (treeOf none) = (NT.nil : Nd) ∨
 ∃ (h : Nat),
 h ≤ (3 : Nat) ∧ Wf h true (topT (treeOf none))) ∧
 List.length (items (topT (treeOf none))) ≤
 (10000 : Nat)) ∧
 (((↑(List.length (piecesI (treeOf none))) : Int) ==
 (0 : Int)) =
 true →
 True ∧ true = true) ∧
 (((↑(List.length (piecesI (treeOf none))) : Int) ==
 (0 : Int)) =
 false →
 false = true)) ∧
 ((heightOf (topT (treeOf none)) == (0 : Int)) = false →
 false = true)) ∧
 (((sumOf (topT (treeOf none))).snd.fst.snd.fst == (0 : Int)) =
 false →
 false = true)) ∧
 (((sumOf (topT (treeOf none))).snd.fst.fst == (0 : Int)) = false →
 false = true)) ∧
 (((↑(List.length
 (piecesI
 (treeOf
 (updW none ((0 : Int), (0 : Int), ())
 ((0 : Int), (0 : Int), ()) none).fst))) :
 Int) ==
 (0 : Int)) =
 false →
 false = true)) ∧
 (Option.isSome
 (updW none ((0 : Int), (0 : Int), ()) ((0 : Int), (0 : Int), ()) none).fst =
 false →
 false = true)) ∧
 (((updW none ((0 : Int), (0 : Int), ()) ((0 : Int), (0 : Int), ()) none).snd.fst ==
 (0 : Int)) =
 false →
 false = true)) ∧
 (Ty.beq t4 ((inW none x.fst).snd.snd.fst == (0 : Int)) (x.fst == (0 : Int)) = false →
 false = true)) ∧
 (Ty.beq t4 ((outW none x.fst (0 : Int)).snd.fst == (0 : Int)) (x.fst == (0 : Int)) = false →
 false = true)) ∧
 (((inW none x.fst).snd.fst == (0 : Int)) = false → false = true)) ∧
 (((inW none x.fst).fst == (0 : Int)) = false → false = true)) ∧
 (((outW none x.fst (0 : Int)).fst == (0 : Int)) = false → false = true)
theorem vcEq6 : fnVC E6 Tryd.f6 (bodyOf Tryd.f6) cWeaveNil = vc6 := by kernel_rfl
end Go.Fr.C14
namespace Go.Fr.C14
open Go Go.Fr Go.Proofs
theorem long_short {n : Int} {l : List Inl} (h : longW n l = false) : 0 ≤ n ∧ n ≤ 300 ∧ l.length ≤ 60 ∧ shortL l := by
  unfold longW at h
  simp only [Bool.or_eq_false_iff, decide_eq_false_iff_not, List.any_eq_false, decide_eq_true_eq] at h
  refine ⟨by omega, by omega, by omega, fun x hx => ?_⟩
  have := h.2 x hx
  omega
theorem isnone_of {s : Option ISet} (h : s.isNone = false) : ¬ s = none := fun e => by rw [e] at h; cases h
theorem code_ok (n : Int) (l : List Inl) : ((newI n l).1.isNone = true ↔ wrongN n l ≠ 0) ∧ (newI n l).2.1 = wrongN n l ∧ (newW n l).2.2.1 = wrongN n l := by
  by_cases h : wrongN n l = 0
  · rw [new_fst h, newW_fst h, h]
    exact ⟨⟨fun h => (by cases h), fun h => absurd rfl h⟩, rfl, rfl⟩
  · rw [new_bad h, newW_bad h]
    exact ⟨⟨fun _ => h, fun _ => rfl⟩, rfl, rfl⟩
theorem made_all {s : Option ISet} {w : WSet} (h : Made s w) : ∃ n L, s = some (n, L, ()) ∧ w = (n, L, 0, ()) ∧ 0 ≤ n ∧ n ≤ 1099511627776 ∧ L.length ≤ 60 ∧ Inls 0 n L ∧ (∀ x ∈ L, (txt x).size ≤ 1000) ∧
    (L.length ≤ 10000 ∧ shortL L) ∧ okTre (treeOf (weaveI s)) ∧ WfN (topT (treeOf (weaveI s))) ∧ (topT (treeOf (weaveI s)) = .nil ∨ ∃ h : Nat, h ≤ 3 ∧ Wf h true (topT (treeOf (weaveI s)))) ∧ (items (topT (treeOf (weaveI s)))).length ≤ 10000 := by
  obtain ⟨_, o1, _⟩ := made_ok h
  have h' := h
  obtain ⟨n0, L0, es0, ew0, hwr, hcl, _⟩ := h'
  obtain ⟨n, L, rfl, rfl, h0, h1, hl, hi⟩ := made_inls h
  have hL : L0 = L := by
    injection es0 with e
    injection e with _ e
    injection e with e _
    exact e.symm
  subst hL
  have hsz : ∀ x ∈ L0, (txt x).size ≤ 1000 := fun x hx => by
    obtain ⟨y, hy, e⟩ := List.mem_map.1 (by rw [hcl]; exact hx : x ∈ L0.map cleanI)
    rw [← e]
    have := clean_small ((wrong_zero.1 hwr).2.2.1 y hy)
    omega
  obtain ⟨w1, w2, w3, w4, w5, _⟩ := weave_ok h0 h1 hl hi
  have et : topT (treeOf (weaveI (some (n, L0, ())))) = buildT (rowP n 0 L0) := by rw [w1]; rfl
  refine ⟨n, L0, rfl, rfl, h0, h1, hl, hi, hsz, ⟨by omega, fun x hx => Nat.le_trans (hsz x hx) (by decide)⟩, ?_⟩
  have ot : okTre (treeOf (weaveI (some (n, L0, ())))) := by
    unfold okTre
    rw [et, w3]
    exact ⟨w2, by omega, row_check h1 0 L0 (Int.le_refl _) hi⟩
  refine ⟨ot, ot.1, ?_, ?_⟩
  · rw [et]; exact low_wf w2 (by rw [w3]; omega)
  · rw [et, w3]; omega
theorem p3 : vc3 := by
  unfold vc3
  simp only [eq_self, true_and, and_true, decide_eq_true_eq, decide_eq_false_iff_not, beq_iff_eq, beq_eq_false_iff_ne, bne_iff_ne, bne_eq_false_iff_eq, Bool.not_eq_true', Bool.not_eq_false', ne_eq, imp_true_iff, implies_true]
  rintro ⟨n, l, ⟨a, b, ⟨⟩⟩, ⟨⟩⟩
  simp only [maxLen_eq]
  intro hl
  refine ⟨hl, fun hlong => ?_⟩
  obtain ⟨k1, k2, k3, k4⟩ := long_short hlong
  obtain ⟨c1, c2, c3⟩ := code_ok n l
  refine ⟨⟨hl, k4⟩, ⟨hl, k4⟩, fun h g => absurd g (by rw [c3, ← c2]; exact h), fun h0 => ⟨fun h g => absurd g (by rw [c3]; exact c1.1 h), fun hsome => ?_⟩⟩
  have hz : wrongN n l = 0 := by rw [← c2]; exact h0
  have hm := made_new hz
  have hn1 : (newW n l).1 = n := by rw [newW_fst hz]
  obtain ⟨m, L, es, ew, m0, m1, mL, mi, msz, m2, m3, m4, m5, m6⟩ := made_all hm
  have emn : m = n := by rw [ew] at hn1; exact hn1
  subst emn
  have oo := out_ok m0 m1 mL mi a b
  have io := in_ok m0 m1 mL mi a
  have el : (((spots (newW m l)).length : Nat) : Int) = m + lens L := by
    rw [ew, spots_ok m0 mi, expand_len 0 (weave_ok m0 m1 mL mi).2.2.2.2.1, (weave_ok m0 m1 mL mi).2.2.2.2.2.2.1]
  have ro : 0 ≤ a → a ≤ m → refOut (newW m l) a b = a + lensA a b L := fun h1 h2 => by rw [ew]; exact refOut_ok mL mi h1 h2 m1
  have ri : 0 ≤ a → a ≤ m + lens L → refIn (newW m l) a = ((inS a (rowP m 0 L) 0 0).1, (inS a (rowP m 0 L) 0 0).2, ()) := fun h1 h2 => by rw [ew]; exact refIn_ok m0 m1 mL mi h1 h2
  have sm : smallW (newW m l) := by rw [ew]; exact ⟨mL, msz, m0, by show m ≤ 1000; omega⟩
  rw [← es] at oo io
  rw [el]
  have oBad : (a < 0 ∨ a > m ∨ (b ≠ 0 ∧ b ≠ 1)) → (outW (weaveI (newI m l).1) a b).2.1 = 1 ∧ (outW (weaveI (newI m l).1) a b).1 = 0 := fun h => by rw [oo, if_pos h]; exact ⟨rfl, rfl⟩
  have oOk : ¬ (a < 0 ∨ a > m ∨ (b ≠ 0 ∧ b ≠ 1)) → (outW (weaveI (newI m l).1) a b).2.1 = 0 ∧ (outW (weaveI (newI m l).1) a b).1 = refOut (newW m l) a b := fun h => by rw [oo, if_neg h, ro (by omega) (by omega)]; exact ⟨rfl, rfl⟩
  have iBad : (a < 0 ∨ a > m + lens L) → (inW (weaveI (newI m l).1) a).2.2.1 = 1 ∧ (inW (weaveI (newI m l).1) a).1 = 0 ∧ (inW (weaveI (newI m l).1) a).2.1 = 0 := fun h => by rw [io, if_pos h]; exact ⟨rfl, rfl, rfl⟩
  have iOk : ¬ (a < 0 ∨ a > m + lens L) → (inW (weaveI (newI m l).1) a).2.2.1 = 0 ∧ (inW (weaveI (newI m l).1) a).1 = (refIn (newW m l) a).1 ∧ (inW (weaveI (newI m l).1) a).2.1 = (refIn (newW m l) a).2.1 := fun h => by rw [io, if_neg h, ri (by omega) (by omega)]; exact ⟨rfl, rfl, rfl⟩
  have m2' : (allI (newI m l).1).length ≤ 10000 ∧ shortL (allI (newI m l).1) := by rw [es]; exact m2
  clear oo io ro ri es ew hm hn1 c1 c2 c3 k4 hlong hl hsome h0 hz m2
  generalize outW (weaveI (newI m l).1) a b = O at oBad oOk ⊢
  generalize inW (weaveI (newI m l).1) a = I at iBad iOk ⊢
  generalize refOut (newW m l) a b = RO at oBad oOk ⊢
  generalize refIn (newW m l) a = RI at iBad iOk ⊢
  (repeat' (first | with_reducible apply And.intro | with_reducible intro _))
  all_goals first
    | exact m2'.1
    | exact m2'.2
    | exact m3
    | exact m4
    | exact sm
    | omega
theorem p5 : vc5 := by
  unfold vc5
  simp only [eq_self, true_and, and_true, decide_eq_true_eq, decide_eq_false_iff_not, beq_iff_eq, beq_eq_false_iff_ne, bne_iff_ne, bne_eq_false_iff_eq, Bool.not_eq_true', Bool.not_eq_false', ne_eq, imp_true_iff, implies_true]
  rintro ⟨n, l, ⟨⟩⟩
  simp only [maxLen_eq]
  intro hl
  refine ⟨hl, fun hlong => ?_⟩
  obtain ⟨k1, k2, k3, k4⟩ := long_short hlong
  obtain ⟨c1, c2, c3⟩ := code_ok n l
  refine ⟨⟨hl, k4⟩, ⟨hl, k4⟩, fun h g => absurd g (by rw [c3, ← c2]; exact h), fun h0 => ⟨fun h g => absurd g (by rw [c3]; exact c1.1 h), fun hsome => ?_⟩⟩
  have hz : wrongN n l = 0 := by rw [← c2]; exact h0
  have hm := made_new hz
  have hn1 : (newW n l).1 = n := by rw [newW_fst hz]
  obtain ⟨m, L, es, ew, m0, m1, mL, mi, msz, m2, m3, m4, m5, m6⟩ := made_all hm
  have emn : m = n := by rw [ew] at hn1; exact hn1
  subst emn
  have sm : smallW (newW m l) := by rw [ew]; exact ⟨mL, msz, m0, by show m ≤ 1000; omega⟩
  have m2' : (allI (newI m l).1).length ≤ 10000 ∧ shortL (allI (newI m l).1) := by rw [es]; exact m2
  obtain ⟨w1, w2, w3, w4, w5, _⟩ := weave_ok m0 m1 mL mi
  have ok := is_ok m0 m1 mL mi w2 w3
  rw [← w1, ← es, ← ew] at ok
  refine ⟨m2', ⟨sm, m5, m6⟩, ?_⟩
  rw [ok]
  exact fun h => by cases h
theorem p4 : vc4 := by
  unfold vc4
  simp only [eq_self, true_and, and_true, decide_eq_true_eq, decide_eq_false_iff_not, beq_iff_eq, beq_eq_false_iff_ne, bne_iff_ne, bne_eq_false_iff_eq, Bool.not_eq_true', Bool.not_eq_false', ne_eq, imp_true_iff, implies_true]
  rintro ⟨n, l, ⟨⟩⟩
  simp only [maxLen_eq]
  intro hl
  refine ⟨hl, fun hlong => ?_⟩
  obtain ⟨k1, k2, k3, k4⟩ := long_short hlong
  obtain ⟨c1, c2, c3⟩ := code_ok n l
  refine ⟨⟨hl, k4⟩, fun h => ⟨⟨hl, k4⟩, fun g => absurd g (by rw [c3, ← c2]; exact h)⟩, fun h0 => ⟨fun h => ⟨⟨hl, k4⟩, fun g => absurd g (by rw [c3]; exact c1.1 h)⟩, fun hsome => ?_⟩⟩
  have hz : wrongN n l = 0 := by rw [← c2]; exact h0
  have hm := made_new hz
  have hn1 : (newW n l).1 = n := by rw [newW_fst hz]
  obtain ⟨m, L, es, ew, m0, m1, mL, mi, msz, m2, m3, m4, m5, m6⟩ := made_all hm
  have emn : m = n := by rw [ew] at hn1; exact hn1
  subst emn
  have m2' : (allI (newI m l).1).length ≤ 10000 ∧ shortL (allI (newI m l).1) := by rw [es]; exact m2
  obtain ⟨w1, w2, w3, w4, w5, w6, w7, w8, w9⟩ := weave_ok m0 m1 mL mi
  have tok := fun (a b : Int) (h1 : 0 ≤ a) (h2 : a ≤ m) (hb : b = 0 ∨ b = 1) => there_ok m0 m1 mL mi h1 h2 hb
  have sz : (sumOf (topT (treeOf (weaveI (newI m l).1)))).2.1.2.1 = m + lens L := by
    have so := sum_top w2 (by rw [w3]; exact rowly_fine w5) (by rw [w3]; omega)
    unfold SumOk at so
    rw [w3, w6, w7] at so
    rw [es, w1]
    exact so.2.2
  rw [← es] at tok
  have last : m + lensA m 1 L = m + lens L := by
    rw [lensA_all fun x hx => ?_]
    have := (mi.1 x hx).2.1
    unfold isAhead
    omega
  have first : lensA 0 0 L = 0 := lensA_none fun x hx => by
    have := (mi.1 x hx).1
    unfold isAhead
    omega
  have step1 : ∀ a, lensA a 0 L ≤ lensA a 1 L := fun a => lensA_mono fun x _ h => by unfold isAhead at h ⊢; omega
  have step2 : ∀ a, lensA (a - 1) 1 L ≤ lensA a 0 L := fun a => lensA_mono fun x _ h => by unfold isAhead at h ⊢; omega
  rw [sz]
  refine ⟨m2', ?_⟩
  generalize weaveI (newI m l).1 = W at tok m3 m4 ⊢
  refine ⟨fun z => ∃ k : Nat, (k : Int) ≤ m + 1 ∧ z.2.1 = (k : Int) ∧ z.1 = (if k = 0 then -1 else (k : Int) - 1 + lensA ((k : Int) - 1) 1 L), fun z => (m + 1 - z.2.1).toNat, ⟨0, by omega, rfl, rfl⟩, ?_⟩
  rintro la i ⟨k, hk, hi, hla⟩
  simp only at hi hla
  subst hi
  have hw64 : IntKind.i64.wrap ((k : Int) + 1) = ((k + 1 : Nat) : Int) := wrap_succ (by omega)
  rw [hw64]
  refine ⟨fun g => ?_, fun g => ?_⟩
  · have t0 := tok k 0 (by omega) g (.inl rfl)
    have t1 := tok k 1 (by omega) g (.inr rfl)
    have hs2 := step2 k
    have hs1 := step1 k
    have hlast : la < (k : Int) + lensA k 0 L := by
      rw [hla]
      split
      · rename_i e
        have := lensA_nn k 0 L
        omega
      · omega
    refine ⟨fun z => ∃ j : Nat, j ≤ 2 ∧ z.2.1 = (j : Int) ∧ z.1 = (if j = 0 then la else if j = 1 then (k : Int) + lensA k 0 L else (k : Int) + lensA k 1 L), fun z => 2 - z.2.1.toNat, ⟨0, by omega, rfl, rfl⟩, ?_⟩
    rintro lb i ⟨j, hj, hi, hlb⟩
    simp only at hi hlb
    subst hi
    refine ⟨fun g2 => ?_, fun g2 => ?_⟩
    · have hj2 : j = 0 ∨ j = 1 := by omega
      rcases hj2 with rfl | rfl
      · rw [if_pos rfl] at hlb
        rw [show ((0 : Nat) : Int) = 0 from rfl, t0.1]
        simp only []
        rw [t0.2]
        simp only []
        have Zf : ∃ j : Nat, j ≤ 2 ∧ IntKind.i64.wrap (0 + 1) = (j : Int) ∧ (k : Int) + lensA k 0 L = (if j = 0 then la else if j = 1 then (k : Int) + lensA k 0 L else (k : Int) + lensA k 1 L) := ⟨1, by omega, by decide, rfl⟩
        have dec : 2 - (IntKind.i64.wrap (0 + 1)).toNat < 2 - (0 : Int).toNat := by decide
        (repeat' (first | with_reducible apply And.intro | with_reducible intro _))
        all_goals first
          | exact m3
          | exact m4
          | exact Zf
          | exact dec
          | rfl
          | exact absurd trivial (by assumption)
          | omega
      · rw [if_neg (by decide), if_pos rfl] at hlb
        rw [show ((1 : Nat) : Int) = 1 from rfl, t1.1]
        simp only []
        rw [t1.2]
        simp only []
        have Zf : ∃ j : Nat, j ≤ 2 ∧ IntKind.i64.wrap (1 + 1) = (j : Int) ∧ (k : Int) + lensA k 1 L = (if j = 0 then la else if j = 1 then (k : Int) + lensA k 0 L else (k : Int) + lensA k 1 L) := ⟨2, by omega, by decide, rfl⟩
        have dec : 2 - (IntKind.i64.wrap (1 + 1)).toNat < 2 - (1 : Int).toNat := by decide
        (repeat' (first | with_reducible apply And.intro | with_reducible intro _))
        all_goals first
          | exact m3
          | exact m4
          | exact Zf
          | exact dec
          | rfl
          | exact absurd trivial (by assumption)
          | omega
    · have hj2 : j = 2 := by omega
      subst hj2
      rw [if_neg (by decide), if_neg (by decide)] at hlb
      refine ⟨⟨k + 1, by omega, rfl, ?_⟩, by simp only []; omega⟩
      rw [if_neg (by omega)]
      simp only []
      have e : ((k + 1 : Nat) : Int) - 1 = (k : Int) := by omega
      rw [e]
      exact hlb
  · have t0 := tok 0 0 (by omega) m0 (.inl rfl)
    have hke : (k : Int) = m + 1 := by omega
    rw [if_neg (by omega), hke, show m + 1 - 1 = m by omega, last] at hla
    rw [t0.1]
    simp only []
    rw [first]
    refine ⟨m4, fun _ h => ?_, fun h => ?_⟩
    · exact absurd hla h
    · exact absurd (by omega) h
theorem p6 : vc6 := by
  unfold vc6
  simp only [eq_self, true_and, and_true, decide_eq_true_eq, decide_eq_false_iff_not, beq_iff_eq, beq_eq_false_iff_ne, bne_iff_ne, bne_eq_false_iff_eq, Bool.not_eq_true', Bool.not_eq_false', ne_eq, imp_true_iff, implies_true]
  rintro ⟨a, ⟨⟩⟩
  have o1 : okTre (treeOf none) := ⟨.inl rfl, by show (0 : Nat) ≤ _; decide, fun x hx => by cases hx⟩
  have o2 := o1.1
  have o3 : topT (treeOf none) = (.nil : Nd) ∨ ∃ h : Nat, h ≤ 3 ∧ Wf h true (topT (treeOf none)) := .inl rfl
  have ft : ∀ dim bias : Int, (dim = 0 ∨ dim = 1) → (bias = 0 ∨ bias = 1) → findT (treeOf none) dim a bias = if a = 0 then ((0, zS, 0, ()), 0, ()) else ((0, zS, 0, ()), 1, ()) := fun dim bias hd hb => by
    unfold findT
    have e : sizeD (sumOf (topT (treeOf none))) dim = 0 := by
      rcases hd with rfl | rfl <;> rfl
    rw [e]
    by_cases h : a = 0
    · rw [if_pos h, if_neg (by omega)]
      rfl
    · rw [if_neg h, if_pos (by omega)]
  have eo : outW none a 0 = if a = 0 then (0, 0, ()) else (0, 1, ()) := by
    unfold outW
    rw [ft 0 0 (.inl rfl) (.inl rfl)]
    by_cases h : a = 0
    · rw [if_pos h, if_pos h, h]; rfl
    · rw [if_neg h, if_neg h]; rfl
  have ei : inW none a = if a = 0 then (0, 0, 0, ()) else (0, 0, 1, ()) := by
    unfold inW
    rw [ft 1 1 (.inr rfl) (.inr rfl)]
    by_cases h : a = 0
    · rw [if_pos h, if_pos h, h]; rfl
    · rw [if_neg h, if_neg h]; rfl
  have eu : updW none (0, 0, ()) (0, 0, ()) none = (some (some (.nil, ()), ()), 0, ()) := by rfl
  have z1 : ∀ x : Int, Ty.beq t4 (x == 0) (a == 0) = ((x == 0) == (a == 0)) := fun _ => rfl
  have s0 : shortL (allI none) := fun x hx => by cases hx
  have e1 : piecesI (treeOf none) = [] := rfl
  have e2 : piecesI (treeOf (some (some (.nil, ()), ()))) = [] := rfl
  have e3 : (sumOf (topT (treeOf none))).2.1.1 = 0 := rfl
  have e4 : (sumOf (topT (treeOf none))).2.1.2.1 = 0 := rfl
  have e5 : heightOf (topT (treeOf none)) = 0 := rfl
  rw [eo, ei, eu]
  simp only [z1, e1, e2, e3, e4, e5]
  by_cases h : a = 0
  · subst h
    rw [if_pos rfl, if_pos rfl]
    (repeat' (first | with_reducible apply And.intro | with_reducible intro _))
    all_goals first
      | exact o1
      | exact o2
      | exact o3
      | exact s0
      | (left; rfl)
      | decide
      | (exfalso; simp_all)
      | simp_all
  · rw [if_neg h, if_neg h]
    have hb : (a == 0) = false := by simpa using h
    rw [hb]
    (repeat' (first | with_reducible apply And.intro | with_reducible intro _))
    all_goals first
      | exact o1
      | exact o2
      | exact o3
      | exact s0
      | (left; rfl)
      | decide
      | (exfalso; simp_all)
      | simp_all
abbrev i7 : Inl := (7, 1, 0, 0, ByteArray.mk #[120, 121], ())
theorem dec_xy : decodeL (ByteArray.mk #[120, 121]) = [120, 121] := by decide +kernel
theorem wrong7 : wrongN 4 [i7] = 0 := by
  refine wrong_zero.2 ⟨by decide, by decide, fun x hx => ?_, by simp⟩
  rw [List.mem_singleton.1 hx]
  refine wi_zero.2 ⟨?_, ?_, ?_⟩
  · simp only
    omega
  · show ¬ ((decodeL (ByteArray.mk #[120, 121])).length : Int) > 40
    rw [dec_xy]
    decide
  · rintro (h1 | h1)
    · cases h1
    · have h2 := (nl_dec (ByteArray.mk #[120, 121])).1 h1
      rw [dec_xy] at h2
      revert h2
      decide
theorem new7 : newI 4 [i7] = (some (4, [cleanI i7], ()), 0, ()) := by
  rw [new_fst wrong7]
  show (some ((4 : Int), sortI [cleanI i7], ()), (0 : Int), ()) = _
  rw [sort_id (List.pairwise_singleton _ _) (List.pairwise_singleton _ _)]
theorem len7 : lenT (cleanI i7) = 2 := by
  show ((decodeL (clean (ByteArray.mk #[120, 121]))).length : Int) = 2
  rw [dec_clean, dec_xy]
  rfl
theorem p8 : vc8 := by
  unfold vc8
  simp only [eq_self, true_and, and_true, decide_eq_true_eq, decide_eq_false_iff_not, beq_iff_eq, beq_eq_false_iff_ne, bne_iff_ne, bne_eq_false_iff_eq, Bool.not_eq_true', Bool.not_eq_false', ne_eq, imp_true_iff, implies_true]
  rintro ⟨⟩ -
  have sh : shortL [i7] := fun x hx => by
    rw [List.mem_singleton.1 hx]; show (2 : Nat) ≤ _; decide
  have hm := made_new wrong7
  obtain ⟨m, L, es, ew, m0, m1, mL, mi, msz, m2, m3, m4, m5, m6⟩ := made_all hm
  have e7 : (newI 4 [i7]).1 = some (4, [cleanI i7], ()) := by rw [new7]
  have e0 : (newI 4 [i7]).2.1 = 0 := by rw [new7]
  have m2' : (allI (newI 4 [i7]).1).length ≤ 10000 ∧ shortL (allI (newI 4 [i7]).1) := by rw [es]; exact m2
  rw [e7] at es
  injection es with es
  injection es with q1 q2
  injection q2 with q2 _
  subst q1 q2
  have a1 := out_ok m0 m1 mL mi 1 0
  have a2 := out_ok m0 m1 mL mi 1 1
  have a3 := in_ok m0 m1 mL mi 2
  rw [if_neg (by omega)] at a1 a2
  have l1 : lensA 1 0 [cleanI i7] = 0 := lensA_none fun x hx => by
    rw [List.mem_singleton.1 hx]
    unfold isAhead
    show ¬ ((1 : Int) < 1 ∨ ((1 : Int) = 1 ∧ (0 : Int) = 1))
    decide
  have l2 : lensA 1 1 [cleanI i7] = 2 := by
    rw [lensA_all fun x hx => ?_]
    · show lenT (cleanI i7) + 0 = 2
      rw [len7]
      rfl
    · rw [List.mem_singleton.1 hx]
      unfold isAhead
      show ((1 : Int) < 1 ∨ ((1 : Int) = 1 ∧ (1 : Int) = 1))
      decide
  have l3 : lens [cleanI i7] = 2 := by
    show lenT (cleanI i7) + 0 = 2
    rw [len7]
    rfl
  rw [l1] at a1
  rw [l2] at a2
  rw [l3, if_neg (by omega)] at a3
  have e3 : inS 2 (rowP 4 0 [cleanI i7]) 0 0 = (1, 7) := by
    show (if (2 : Int) < 1 + lenT (cleanI i7) then ((1 : Int), (7 : Int)) else inS 2 (rowP 4 1 []) (1 + 0) (1 + lenT (cleanI i7))) = _
    rw [len7]
    rfl
  rw [e3] at a3
  have eh : heightOf (topT (treeOf (weaveI (some (4, [cleanI i7], ()))))) = 1 := by
    rw [(weave_ok m0 m1 mL mi).1]
    rfl
  rw [e7] at m2' m3 m4 ⊢
  rw [e0, a1, a2, a3, eh]
  have m21 := m2'.1
  have m22 := m2'.2
  (repeat' (first | with_reducible apply And.intro | with_reducible intro _))
  all_goals first
    | exact sh
    | exact m21
    | exact m22
    | exact m3
    | exact m4
    | (rw [maxLen_eq]; decide)
    | decide
    | (exfalso; simp_all)
    | simp_all
end Go.Fr.C14
namespace Go.Fr.C14
open Go Go.Fr Go.Proofs
set_option maxRecDepth 100000
def hs64 : List (Nat × Nat × Hint) := []
def nm64 : List Nat := [3000000024]
noncomputable def E64 : Env := env tab [] [] gl hs64 nm64
def vc64_0 : Prop :=
 ∀ (s : Int × (Int × Int × Int × Unit) × Int × Int × Unit),
 (((0 : Int) == (3 : Int)) = true → s.fst = sizeD s (0 : Int)) ∧
 (((0 : Int) == (3 : Int)) = false →
 ((0 : Int) ≤ (0 : Int) ∧ (0 : Int) < (↑(3 : Nat) : Int)) ∧ s.snd.fst.fst = sizeD s (0 : Int))
theorem vcEq64_0 : (∀ s : Sm, fnVCat E64 Tryd.f64 (bodyOf Tryd.f64) cSizeD (s, (0 : Int), ())) = vc64_0 := by kernel_rfl
def vc64_1 : Prop :=
 ∀ (s : Int × (Int × Int × Int × Unit) × Int × Int × Unit),
 (((1 : Int) == (3 : Int)) = true → s.fst = sizeD s (1 : Int)) ∧
 (((1 : Int) == (3 : Int)) = false →
 ((0 : Int) ≤ (1 : Int) ∧ (1 : Int) < (↑(3 : Nat) : Int)) ∧ s.snd.fst.snd.fst = sizeD s (1 : Int))
theorem vcEq64_1 : (∀ s : Sm, fnVCat E64 Tryd.f64 (bodyOf Tryd.f64) cSizeD (s, (1 : Int), ())) = vc64_1 := by kernel_rfl
def vc64_2 : Prop :=
 ∀ (s : Int × (Int × Int × Int × Unit) × Int × Int × Unit),
 (((2 : Int) == (3 : Int)) = true → s.fst = sizeD s (2 : Int)) ∧
 (((2 : Int) == (3 : Int)) = false →
 ((0 : Int) ≤ (2 : Int) ∧ (2 : Int) < (↑(3 : Nat) : Int)) ∧ s.snd.fst.snd.snd.fst = sizeD s (2 : Int))
theorem vcEq64_2 : (∀ s : Sm, fnVCat E64 Tryd.f64 (bodyOf Tryd.f64) cSizeD (s, (2 : Int), ())) = vc64_2 := by kernel_rfl
def vc64_3 : Prop :=
 ∀ (s : Int × (Int × Int × Int × Unit) × Int × Int × Unit),
 (((3 : Int) == (3 : Int)) = true → s.fst = sizeD s (3 : Int)) ∧
 (((3 : Int) == (3 : Int)) = false →
 ((0 : Int) ≤ (3 : Int) ∧ (3 : Int) < (↑(3 : Nat) : Int)) ∧ s.snd.snd.fst = sizeD s (3 : Int))
theorem vcEq64_3 : (∀ s : Sm, fnVCat E64 Tryd.f64 (bodyOf Tryd.f64) cSizeD (s, (3 : Int), ())) = vc64_3 := by kernel_rfl
theorem zero_three {d : Int} (h : 0 ≤ d ∧ d ≤ 3) : d = 0 ∨ d = 1 ∨ d = 2 ∨ d = 3 := by omega
theorem v64 : fnVC E64 Tryd.f64 (bodyOf Tryd.f64) cSizeD := by
  refine fnVC_at fun x h => ?_
  obtain ⟨s, d, ⟨⟩⟩ := x
  have hd := zero_three h
  have q0 : vc64_0 := fun s => ⟨fun h => (by cases h), fun _ => ⟨⟨by decide, by decide⟩, rfl⟩⟩
  have q1 : vc64_1 := fun s => ⟨fun h => (by cases h), fun _ => ⟨⟨by decide, by decide⟩, rfl⟩⟩
  have q2 : vc64_2 := fun s => ⟨fun h => (by cases h), fun _ => ⟨⟨by decide, by decide⟩, rfl⟩⟩
  have q3 : vc64_3 := fun s => ⟨fun _ => rfl, fun h => by cases h⟩
  rcases hd with rfl | rfl | rfl | rfl
  · exact (vcEq64_0 ▸ q0 : ∀ s : Sm, fnVCat E64 Tryd.f64 (bodyOf Tryd.f64) cSizeD (s, (0 : Int), ())) s
  · exact (vcEq64_1 ▸ q1 : ∀ s : Sm, fnVCat E64 Tryd.f64 (bodyOf Tryd.f64) cSizeD (s, (1 : Int), ())) s
  · exact (vcEq64_2 ▸ q2 : ∀ s : Sm, fnVCat E64 Tryd.f64 (bodyOf Tryd.f64) cSizeD (s, (2 : Int), ())) s
  · exact (vcEq64_3 ▸ q3 : ∀ s : Sm, fnVCat E64 Tryd.f64 (bodyOf Tryd.f64) cSizeD (s, (3 : Int), ())) s
end Go.Fr.C14
namespace Go.Fr
open Go Go.RowKit Go.Proofs Go.Sort
section
variable {B : Nat} {w w' : World} {h : PHeap}
def encT : (T : Ty) → T.den → List Value
  | .bool, b => [.bool b]
  | .int k, n => [.int k n]
  | .str, s => [.string s]
  | .unit, _ => []
  | .sl _, _ => []
  | .opt _, _ => []
  | .mp _ _, _ => []
  | .nd _ _ _ _, _ => []
  | .pair a b, x => encT a x.1 ++ encT b x.2
theorem enc_rep : (T : Ty) → T.flat = true → (x : T.den) → rep h T x (encT T x)
  | .bool, _, _ => rfl
  | .int _, _, _ => rfl
  | .str, _, _ => rfl
  | .unit, _, _ => rfl
  | .sl _, e, _ => by cases e
  | .opt _, e, _ => by cases e
  | .mp _ _, e, _ => by cases e
  | .nd _ _ _ _, e, _ => by cases e
  | .pair a b, e, x => by
    simp only [Ty.flat, Bool.and_eq_true] at e
    exact ⟨_, _, rfl, enc_rep a e.1 x.1, enc_rep b e.2 x.2⟩
theorem rep_enc : (T : Ty) → T.flat = true → (x : T.den) → (cs : List Value) → rep h T x cs → cs = encT T x
  | .bool, _, _, _, e => e
  | .int _, _, _, _, e => e
  | .str, _, _, _, e => e
  | .unit, _, _, _, e => e
  | .sl _, e, _, _, _ => by cases e
  | .opt _, e, _, _, _ => by cases e
  | .mp _ _, e, _, _, _ => by cases e
  | .nd _ _ _ _, e, _, _, _ => by cases e
  | .pair a b, e, x, cs, ⟨c1, c2, q, h1, h2⟩ => by
    simp only [Ty.flat, Bool.and_eq_true] at e
    rw [q, rep_enc a e.1 x.1 c1 h1, rep_enc b e.2 x.2 c2 h2]
    rfl
theorem row_enc {T : Ty} (hf : T.flat = true) : (xs : List T.den) → (cs : List Value) → RowCells h T xs cs → cs = xs.flatMap (encT T)
  | [], _, e => by simp only [RowCells] at e; subst e; rfl
  | x :: xs, _, ⟨d, r, e, h1, h2⟩ => by
    subst e
    rw [row_enc hf xs r h2, rep_enc T hf x d h1]
    rfl
theorem enc_row {T : Ty} (hf : T.flat = true) : (xs : List T.den) → RowCells h T xs (xs.flatMap (encT T))
  | [] => rfl
  | x :: xs => ⟨encT T x, xs.flatMap (encT T), rfl, enc_rep T hf x, enc_row hf xs⟩
theorem enc_len {T : Ty} (hf : T.flat = true) (x : T.den) : (encT T x).length = T.size := rep_len (h := fun _ => none) T x _ (enc_rep T hf x)
theorem flatMap_get {T : Ty} (hf : T.flat = true) (d0 : T.den) : (xs : List T.den) → (j : Nat) → j < xs.length * T.size → (xs.flatMap (encT T))[j]? = (encT T (xs.getD (j / T.size) d0))[j % T.size]?
  | [], j, hj => by simp at hj
  | x :: xs, j, hj => by
    have hl := enc_len hf x
    have h0 : 0 < T.size := by
      rcases Nat.eq_zero_or_pos T.size with e | e
      · rw [e, Nat.mul_zero] at hj; omega
      · exact e
    rw [List.flatMap_cons]
    by_cases hlt : j < T.size
    · rw [List.getElem?_append_left (by omega), Nat.div_eq_of_lt hlt, Nat.mod_eq_of_lt hlt]
      rfl
    · rw [List.getElem?_append_right (by omega), hl, flatMap_get hf d0 xs (j - T.size) (by simp only [List.length_cons, Nat.add_mul] at hj; omega)]
      have e : j = (j - T.size) + T.size := by omega
      have e1 : j / T.size = (j - T.size) / T.size + 1 := by
        conv => lhs; rw [e]
        exact Nat.add_div_right _ h0
      have e2 : j % T.size = (j - T.size) % T.size := by
        conv => lhs; rw [e]
        exact Nat.add_mod_right _ _
      rw [e1, e2]
      rfl
theorem flat_list {T : Ty} (hf : T.flat = true) [Inhabited T.den] (xs : List T.den) : flatK (encT T) T.size xs.toArray = (xs.flatMap (encT T)).toArray := by
  have hlen : (xs.flatMap (encT T)).length = xs.length * T.size := by
    have := RowCells_len (h := fun _ => none) T xs _ (enc_row hf xs)
    exact this
  apply Array.ext
  · simp [hlen]
  · intro j h1 h2
    have hj : j < xs.length * T.size := by simpa [hlen] using h2
    have g := get_flatK (encT T) T.size xs.toArray (t := j) (by simpa using hj)
    rw [getElem!_pos _ j h1] at g
    rw [g]
    have := flatMap_get hf default xs j hj
    have h0 : 0 < T.size := by
      rcases Nat.eq_zero_or_pos T.size with e | e
      · rw [e, Nat.mul_zero] at hj; omega
      · exact e
    have hd : j / T.size < xs.length := Nat.div_lt_of_lt_mul (by rw [Nat.mul_comm]; exact hj)
    have e1 : xs.toArray[j / T.size]! = xs.getD (j / T.size) default := by
      simp [List.getD, hd]
    rw [e1]
    have hm : j % T.size < (encT T (xs.getD (j / T.size) default)).length := by rw [enc_len hf]; exact Nat.mod_lt _ h0
    rw [List.getElem?_eq_getElem hm] at this
    rw [getElem!_pos (encT T (xs.getD (j / T.size) default)) (j % T.size) hm]
    have h2' : (xs.flatMap (encT T))[j]? = some ((xs.flatMap (encT T)).toArray[j]) := by simp
    rw [h2'] at this
    injection this with this
    exact this.symm
theorem grow_of {w w' : World} (hb : Below w.heap.size w w') : ∃ q os', w' = Sort.grow (w.drewN q) os' := by
  refine ⟨w'.drawn - w.drawn, w'.heap.extract w.heap.size w'.heap.size, ?_⟩
  have hheap : w'.heap = w.heap ++ w'.heap.extract w.heap.size w'.heap.size := by
    apply Array.ext_getElem?
    intro i
    rw [Array.getElem?_append]
    split
    · rename_i hi; exact hb.block i hi
    · rename_i hi
      rw [Array.getElem?_extract]
      by_cases hi2 : i < w'.heap.size
      · rw [if_pos (by omega), show w.heap.size + (i - w.heap.size) = i by omega]
      · rw [if_neg (by omega), Array.getElem?_eq_none (by omega)]
  have hd := hb.drawn
  cases w' with
  | mk heap tape drawn os output =>
    simp only [Sort.grow, World.drewN] at *
    have h1 := hb.os
    have h2 := hb.tape
    have h3 := hb.output
    simp only at h1 h2 h3
    rw [← hheap, h1, h2, h3]
    congr 1
    omega
theorem cmp_lays {P : Program} {T : Ty} [Inhabited T.den] (hf : T.flat = true) (ha : T.isAgg = true) {cf : T.den → T.den → Int} {g : FuncId} (hC : CallSpec P noGl g (cOrd T cf)) (blk off size k : Nat) (w : World) :
    CmpLays P g #[] (encT T) k cf blk off size w := by
  intro m os dk hs x y
  have := hC.2 (x, y, ()) (fun _ => none) (sortWorldK (encT T) k w blk off m dk os) [T.val (encT T x), T.val (encT T y)] trivial ⟨_, _, rfl, ⟨_, enc_rep T hf x, rfl⟩, _, _, rfl, ⟨_, enc_rep T hf y, rfl⟩, rfl⟩ (fun k o hk => by cases hk) (fun g T x hg => by cases hg)
  rw [val_agg ha, val_agg ha] at this
  have e : ([Value.agg (encT T x).toArray, Value.agg (encT T y).toArray] ++ tailVals (cOrd T cf).tail).toArray = #[Value.agg (encT T x).toArray, Value.agg (encT T y).toArray] ++ #[] := by simp [tailVals, cOrd]
  rw [e] at this
  refine this.mono ?_
  rintro e w' ⟨v, h', rfl, _, _, _, hr, hb⟩
  refine ⟨?_, grow_of hb⟩
  obtain ⟨cs, q1, q2⟩ := (show vrep h' (.int .i64) (cf x y) v from hr)
  simp only [rep] at q1
  subst q1
  rw [q2]
  rfl
theorem sortF_spec {P : Program} {ρ : Shelf.Ren} (L : SlLaysF0.n6 P ρ) {T : Ty} (hf : T.flat = true) (ha : T.isAgg = true) (hpos : 0 < T.size) (aE : ∀ w, (isAgg (ρ.t 24)).run P w = .ok true w) (zE : ∀ w, (Go.sizeOf (ρ.t 24)).run P w = .ok T.size w)
    {f : FuncId} (hρ : ρ.f 6 = f) {e : TypeId} {fn : Func} {cd : Code} (hfn : P.funcs[f]? = some fn) (hname : fn.name ≠ "runtime.NumGoroutine") (hb : fn.body = some cd)
    {cf : T.den → T.den → Int} (hO : Sort.SWO (ltOf cf)) (hT : ∀ x y, (ltOf cf) x y = false → (ltOf cf) y x = false → x = y) {g : FuncId} (eg : ∀ args w, (callFunc g args).run P w = .ok (.enter g args) w) (hC : CallSpec P noGl g (cOrd T cf)) :
    RSpec P f { t := T, e := e, pre := fun xs => List.length xs ≤ 100000, post := fun xs ys => ys = sortBy cf xs, back := false, tail := [g] } := by
  subst hρ
  haveI : Inhabited T.den := ⟨T.dflt⟩
  refine ⟨⟨fn, cd, hfn, hname, hb⟩, ?_⟩
  intro xs h w B v cs hp hpin hB hown hrc hfr
  have hp : List.length xs ≤ 100000 := hp
  have hown : w.ownsRow B e T.size v xs.length cs := hown
  have hrc : RowCells h T xs cs := hrc
  have hcs := row_enc hf xs cs hrc
  subst hcs
  rcases hown.2 with ⟨e0, e1⟩ | ⟨g', cap, cur, e0, f1, f2, f3⟩
  · subst e0
    have hx : xs = [] := List.eq_nil_of_length_eq_zero e1
    subst hx
    refine (AnyF.slices_SortFunc_none L none 0 (.func (.func g) #[] #[]) w).mono ?_
    rintro en w' ⟨rfl, rfl⟩
    exact ⟨_, .slice none 0 0, _, [], rfl, rfl, by simpa [sortBy] using World.ownsRow_nil _ B e T.size, by simp [RowCells, sortBy], grownBy_refl _ _, ⟨fun g hg => by simp [Value.ownBlock] at hg, rfl⟩⟩
  · subst e0
    have hH : HoldsK (encT T) T.size w g' 0 xs.toArray := by
      unfold HoldsK
      rw [flat_list hf]
      exact row_holds hown
    refine (AnyQ.slices_SortFunc_total L T.size aE zE (encT T) (enc_len hf) (fun x v hv => rep_one (h := h) T x _ (enc_rep T hf x) v hv) cf hO g #[] g' 0 cap xs.toArray w eg (cmp_lays hf ha hC _ _ _ _ _) hH (lt_of_heap f2) (by simp; omega) hT).mono ?_
    rintro en w' ⟨rfl, q, os, hw⟩
    have hl : (sortBy cf xs).length = xs.length := List.length_mergeSort xs
    have hw2 : w' = Sort.grow (Sort.putRow id (Sort.ahead w q) g' 0 ((sortBy cf xs).flatMap (encT T)).toArray) os := by
      rw [hw]
      unfold sortWorldK putRowK
      rw [flat_list hf]
      rfl
    have hlen := RowCells_len (h := h) T (sortBy cf xs) _ (enc_row hf (sortBy cf xs))
    rw [hl] at hlen
    obtain ⟨g1, g2⟩ := put_row (m := xs.length) hpos hown hlen (Nat.le_refl _) hw2
    rw [List.take_of_length_le (by rw [hlen]; exact Nat.le_refl _)] at g1
    refine ⟨_, _, sortBy cf xs, _, rfl, rfl, by rw [hl]; exact g1, enc_row hf _, g2, fun g' hg => .inl hg, rfl⟩
end
end Go.Fr
namespace Go.Fr
open Go Go.RowKit Go.Proofs Go.Sort
section
variable {α : Type}
theorem perm_of_in [Inhabited α] {d d' : Array α} (h : PermIn 0 d.size d d') : d'.toList.Perm d.toList := by
  obtain ⟨hsz, _, hperm⟩ := h
  have e1 : d'.extract 0 d.size = d' := by rw [← hsz]; exact Array.extract_size
  rw [e1, Array.extract_size] at hperm
  exact hperm
theorem sorted_of_in [Inhabited α] {cf : α → α → Int} {d : Array α} {n : Nat} (hn : n = d.size) (h : SortedIn (ltOf cf) 0 n d) : d.toList.Pairwise (fun a b => ¬ cf b a < 0) := by
  subst hn
  rw [List.pairwise_iff_getElem]
  intro i j hi hj hij
  have hi' : i < d.size := by simpa using hi
  have hj' : j < d.size := by simpa using hj
  have := h i j (Nat.zero_le _) hij hj'
  rw [getElem!_pos d j hj', getElem!_pos d i hi'] at this
  have := of_decide_eq_false this
  simpa using this
end
section
theorem sortP_spec {P : Program} {ρ : Shelf.Ren} (L : SlLaysF0.n6 P ρ) {T : Ty} (hf : T.flat = true) (ha : T.isAgg = true) (hpos : 0 < T.size) (aE : ∀ w, (isAgg (ρ.t 24)).run P w = .ok true w) (zE : ∀ w, (Go.sizeOf (ρ.t 24)).run P w = .ok T.size w)
    {f : FuncId} (hρ : ρ.f 6 = f) {e : TypeId} {fn : Func} {cd : Code} (hfn : P.funcs[f]? = some fn) (hname : fn.name ≠ "runtime.NumGoroutine") (hb : fn.body = some cd)
    {cf : T.den → T.den → Int} (hO : Sort.SWO (ltOf cf)) {g : FuncId} (eg : ∀ args w, (callFunc g args).run P w = .ok (.enter g args) w) (hC : CallSpec P noGl g (cOrd T cf)) :
    RSpec P f { t := T, e := e, pre := fun xs => List.length xs ≤ 100000, post := fun xs ys => ys.Perm xs ∧ ys.Pairwise (fun a b => ¬ cf b a < 0), back := false, tail := [g] } := by
  subst hρ
  haveI : Inhabited T.den := ⟨T.dflt⟩
  refine ⟨⟨fn, cd, hfn, hname, hb⟩, ?_⟩
  intro xs h w B v cs hp hpin hB hown hrc hfr
  have hp : List.length xs ≤ 100000 := hp
  have hown : w.ownsRow B e T.size v xs.length cs := hown
  have hrc : RowCells h T xs cs := hrc
  have hcs := row_enc hf xs cs hrc
  subst hcs
  rcases hown.2 with ⟨e0, e1⟩ | ⟨g', cap, cur, e0, f1, f2, f3⟩
  · subst e0
    have hx : xs = [] := List.eq_nil_of_length_eq_zero e1
    subst hx
    refine (AnyF.slices_SortFunc_none L none 0 (.func (.func g) #[] #[]) w).mono ?_
    rintro en w' ⟨rfl, rfl⟩
    exact ⟨_, .slice none 0 0, _, [], rfl, ⟨List.Perm.nil, List.Pairwise.nil⟩, World.ownsRow_nil _ B e T.size, by simp [RowCells], grownBy_refl _ _, ⟨fun g hg => by simp [Value.ownBlock] at hg, rfl⟩⟩
  · subst e0
    have hH : HoldsK (encT T) T.size w g' 0 xs.toArray := by
      unfold HoldsK
      rw [flat_list hf]
      exact row_holds hown
    refine (AnyQ.slices_SortFunc L T.size aE zE (encT T) (enc_len hf) (fun x v hv => rep_one (h := h) T x _ (enc_rep T hf x) v hv) cf hO g #[] g' 0 cap xs.toArray w eg (cmp_lays hf ha hC _ _ _ _ _) hH (lt_of_heap f2) (by simp; omega)).mono ?_
    rintro en w' ⟨rfl, d', q, os, hpm, hso, hw⟩
    have hpl := perm_of_in hpm
    have hsl := sorted_of_in (by have := hpm.1; simp at this ⊢; omega) hso
    generalize hys : d'.toList = ys at hpl hsl
    have hd : d' = ys.toArray := by rw [← hys]
    subst hd
    have hl : ys.length = xs.length := by simpa using hpl.length_eq
    have hw2 : w' = Sort.grow (Sort.putRow id (Sort.ahead w q) g' 0 (ys.flatMap (encT T)).toArray) os := by
      rw [hw]
      unfold sortWorldK putRowK
      rw [flat_list hf]
    have hlen := RowCells_len (h := h) T ys _ (enc_row hf ys)
    rw [hl] at hlen
    obtain ⟨g1, g2⟩ := put_row (m := xs.length) hpos hown hlen (Nat.le_refl _) hw2
    rw [List.take_of_length_le (by rw [hlen]; exact Nat.le_refl _)] at g1
    exact ⟨_, _, ys, _, rfl, ⟨by simpa using hpl, hsl⟩, by rw [hl]; exact g1, enc_row hf _, g2, fun g' hg => .inl hg, rfl⟩
end
end Go.Fr
namespace Go.Proofs
open Go.Shelf
set_option maxRecDepth 100000
def Tryd.lSort_ren : Go.Shelf.Ren := ⟨fun | 6 => 24 | 15 => 52 | 14 => 51 | 28 => 86 | 29 => 87 | 20 => 78 | 21 => 79 | 22 => 80 | 23 => 81 | 24 => 82 | 25 => 83 | 26 => 84 | 27 => 85 | 46 => 97 | 47 => 98 | 48 => 99 | 49 => 100 | 50 => 101 | 57 => 109 | n => n, fun | 22 => 22 | 24 => 57 | 25 => 66 | 3 => 3 | 39 => 108 | 0 => 0 | 53 => 159 | 55 => 161 | 4 => 4 | 46 => 152 | 45 => 151 | 50 => 156 | 5 => 5 | 9 => 9 | 66 => 170 | 70 => 174 | 76 => 181 | 77 => 47 | n => n, fun n => n⟩
theorem Tryd.lSort : SlLaysF0.n6 Tryd.prog Tryd.lSort_ren := {
  mixed := by kernel_rfl,
  f6 := ⟨Tryd.f24.name, by decide, Tryd.func24.trans (by kernel_rfl)⟩,
  f14 := ⟨Tryd.f51.name, by decide, Tryd.func51.trans (by kernel_rfl)⟩,
  f15 := Tryd.func52.trans (by kernel_rfl),
  f20 := ⟨Tryd.f78.name, by decide, Tryd.func78.trans (by kernel_rfl)⟩,
  f21 := ⟨Tryd.f79.name, by decide, Tryd.func79.trans (by kernel_rfl)⟩,
  f22 := ⟨Tryd.f80.name, by decide, Tryd.func80.trans (by kernel_rfl)⟩,
  f23 := ⟨Tryd.f81.name, by decide, Tryd.func81.trans (by kernel_rfl)⟩,
  f24 := ⟨Tryd.f82.name, by decide, Tryd.func82.trans (by kernel_rfl)⟩,
  f25 := ⟨Tryd.f83.name, by decide, Tryd.func83.trans (by kernel_rfl)⟩,
  f26 := ⟨Tryd.f84.name, by decide, Tryd.func84.trans (by kernel_rfl)⟩,
  f27 := ⟨Tryd.f85.name, by decide, Tryd.func85.trans (by kernel_rfl)⟩,
  f28 := Tryd.func86.trans (by kernel_rfl),
  f29 := Tryd.func87.trans (by kernel_rfl),
  f46 := ⟨Tryd.f97.name, by decide, Tryd.func97.trans (by kernel_rfl)⟩,
  f47 := Tryd.func98.trans (by kernel_rfl),
  f48 := Tryd.func99.trans (by kernel_rfl),
  f49 := ⟨Tryd.f100.name, by decide, Tryd.func100.trans (by kernel_rfl)⟩,
  f50 := ⟨Tryd.f101.name, by decide, Tryd.func101.trans (by kernel_rfl)⟩,
  f57 := ⟨Tryd.f109.name, by decide, Tryd.func109.trans (by kernel_rfl)⟩,
  t0 := Tryd.underlying0,
  a0 := Tryd.isAgg0,
  z0 := Tryd.sizeOf0,
  v0 := Tryd.zeroValue0,
  t3 := Tryd.underlying3,
  a3 := Tryd.isAgg3,
  z3 := Tryd.sizeOf3,
  v3 := Tryd.zeroValue3,
  t4 := Tryd.underlying4,
  a4 := Tryd.isAgg4,
  z4 := Tryd.sizeOf4,
  v4 := Tryd.zeroValue4,
  t5 := Tryd.underlying5,
  a5 := Tryd.isAgg5,
  z5 := Tryd.sizeOf5,
  v5 := Tryd.zeroValue5,
  t9 := Tryd.underlying9,
  a9 := Tryd.isAgg9,
  z9 := Tryd.sizeOf9,
  v9 := Tryd.zeroValue9,
  t22 := Tryd.underlying22,
  a22 := Tryd.isAgg22,
  z22 := Tryd.sizeOf22,
  v22 := Tryd.zeroValue22,
  t25 := Tryd.underlying66,
  a25 := Tryd.isAgg66,
  z25 := Tryd.sizeOf66,
  v25 := Tryd.zeroValue66,
  t39 := Tryd.underlying108,
  a39 := Tryd.isAgg108,
  z39 := Tryd.sizeOf108,
  v39 := Tryd.zeroValue108,
  t45 := Tryd.underlying151,
  a45 := Tryd.isAgg151,
  z45 := Tryd.sizeOf151,
  v45 := Tryd.zeroValue151,
  t46 := Tryd.underlying152,
  a46 := Tryd.isAgg152,
  z46 := Tryd.sizeOf152,
  v46 := Tryd.zeroValue152,
  t50 := Tryd.underlying156,
  a50 := Tryd.isAgg156,
  z50 := Tryd.sizeOf156,
  v50 := Tryd.zeroValue156,
  t53 := Tryd.underlying159,
  a53 := Tryd.isAgg159,
  z53 := Tryd.sizeOf159,
  v53 := Tryd.zeroValue159,
  t55 := Tryd.underlying161,
  a55 := Tryd.isAgg161,
  z55 := Tryd.sizeOf161,
  v55 := Tryd.zeroValue161,
  t66 := Tryd.underlying170,
  a66 := Tryd.isAgg170,
  z66 := Tryd.sizeOf170,
  v66 := Tryd.zeroValue170,
  t70 := Tryd.underlying174,
  a70 := Tryd.isAgg174,
  z70 := Tryd.sizeOf174,
  v70 := Tryd.zeroValue174,
  t76 := Tryd.underlying181,
  a76 := Tryd.isAgg181,
  z76 := Tryd.sizeOf181,
  v76 := Tryd.zeroValue181,
  t77 := Tryd.underlying47,
  a77 := Tryd.isAgg47,
  z77 := Tryd.sizeOf47,
  v77 := Tryd.zeroValue47 }
end Go.Proofs
namespace Go.Proofs
open Go.Shelf
set_option maxRecDepth 100000
def Tryd.lContains_ren : Go.Shelf.Ren := ⟨fun | 144 => 48 | 143 => 76 | 219 => 96 | 217 => 105 | 225 => 106 | 224 => 107 | 267 => 108 | 266 => 110 | 314 => 111 | n => n, fun | 9 => 9 | 4 => 4 | 3 => 3 | 5 => 5 | 46 => 108 | 146 => 183 | 51 => 159 | n => n, fun | 1 => 1 | n => n⟩
theorem Tryd.lContains : Lays.n144 Tryd.prog Tryd.lContains_ren := {
  mixed := by kernel_rfl,
  f143 := Tryd.func76.trans (by kernel_rfl),
  f144 := Tryd.func48.trans (by kernel_rfl),
  f217 := Tryd.func105.trans (by kernel_rfl),
  f219 := Tryd.func96.trans (by kernel_rfl),
  f224 := Tryd.func107.trans (by kernel_rfl),
  f225 := Tryd.func106.trans (by kernel_rfl),
  f266 := Tryd.func110.trans (by kernel_rfl),
  f267 := Tryd.func108.trans (by kernel_rfl),
  f314 := Tryd.func111.trans (by kernel_rfl),
  t3 := Tryd.underlying3,
  a3 := Tryd.isAgg3,
  z3 := Tryd.sizeOf3,
  v3 := Tryd.zeroValue3,
  t4 := Tryd.underlying4,
  a4 := Tryd.isAgg4,
  z4 := Tryd.sizeOf4,
  v4 := Tryd.zeroValue4,
  t5 := Tryd.underlying5,
  a5 := Tryd.isAgg5,
  z5 := Tryd.sizeOf5,
  v5 := Tryd.zeroValue5,
  t9 := Tryd.underlying9,
  a9 := Tryd.isAgg9,
  z9 := Tryd.sizeOf9,
  v9 := Tryd.zeroValue9,
  t46 := Tryd.underlying108,
  a46 := Tryd.isAgg108,
  z46 := Tryd.sizeOf108,
  v46 := Tryd.zeroValue108,
  t51 := Tryd.underlying159,
  a51 := Tryd.isAgg159,
  z51 := Tryd.sizeOf159,
  v51 := Tryd.zeroValue159,
  t146 := Tryd.underlying183,
  a146 := Tryd.isAgg183,
  z146 := Tryd.sizeOf183,
  v146 := Tryd.zeroValue183,
  g1 := by kernel_rfl }
end Go.Proofs
namespace Go.Fr.C14
open Go Go.Fr Go.Proofs
open Go.Sort
theorem r24 (h : CallSpec Tryd.prog noGl 25 cOrder) : RSpec Tryd.prog 24 rSort :=
  sortP_spec Tryd.lSort (T := t57) rfl rfl (by decide) Tryd.isAgg57 Tryd.sizeOf57 rfl Tryd.func24 (by decide) (by kernel_rfl : Tryd.f24.body = some (bodyOf Tryd.f24)) (cf := cmpL) swoL (enters_of Tryd.func25 (by kernel_rfl) rfl) h
theorem s48 (G : Nat → Option ((t : Ty) × t.den)) : CallSpec Tryd.prog G 48 cContains := by
  refine ⟨⟨Tryd.f48, bodyOf Tryd.f48, Tryd.func48, by decide, by kernel_rfl⟩, ?_⟩
  rintro ⟨s, t, ⟨⟩⟩ h w args hp hr hin hg
  have hp : t = (ByteArray.mk #[10]) := hp
  subst hp
  obtain ⟨v, r, rfl, ⟨cs, hc, rfl⟩, v2, r2, rfl, ⟨cs2, hc2, rfl⟩, rfl⟩ := (show ∃ v r, args = v :: r ∧ vrep h .str s v ∧ ∃ v2 r2, r = v2 :: r2 ∧ vrep h .str (ByteArray.mk #[10]) v2 ∧ r2 = [] from hr)
  simp only [rep] at hc hc2
  subst hc hc2
  refine (Any.strings_Contains_one Tryd.lContains s 10 w).mono ?_
  rintro e w' ⟨rfl, rfl⟩
  refine ⟨_, h, rfl, PLe.refl h, fun k hk => .inl hk, hin, ?_, Below.refl _ _⟩
  show vrep h .bool (hasNL s) _
  refine ⟨[.bool (hasNL s)], rfl, ?_⟩
  show Value.bool _ = Value.bool (hasNL s)
  unfold hasNL
  rw [Lib.contains_iff_indexByte]
end Go.Fr.C14
namespace Go.Fr.C14
open Go Go.Fr Go.Proofs
theorem s7 : CallSpec Tryd.prog gl 7 cLong := fn_spec tab_ok mixed ct_nil il_nil Tryd.func7 (by kernel_rfl) (vcEq7 ▸ p7)
theorem s47 : CallSpec Tryd.prog gl 47 cCount := fn_spec tab_ok mixed ct_nil il_nil Tryd.func47 (by kernel_rfl) (vcEq47 ▸ p47)
theorem s22 : CallSpec Tryd.prog gl 22 cWrong := fn_spec tab_ok mixed (ct_cons s47 (ct_cons (s48 _) ct_nil)) il_nil Tryd.func22 (by kernel_rfl) (vcEq22 ▸ p22)
theorem s50 : CallSpec Tryd.prog gl 50 cDecode := fn_spec tab_ok mixed ct_nil il_nil Tryd.func50 (by kernel_rfl) (vcEq50 ▸ p50)
theorem s77 : CallSpec Tryd.prog gl 77 cRight := fn_spec tab_ok mixed ct_nil il_nil Tryd.func77 (by kernel_rfl) (vcEq77 ▸ p77)
theorem s49 : CallSpec Tryd.prog gl 49 cEncode := fn_spec tab_ok mixed (ct_cons s77 ct_nil) il_nil Tryd.func49 (by kernel_rfl) (vcEq49 ▸ p49)
theorem s23 : CallSpec Tryd.prog gl 23 cClean := fn_spec tab_ok mixed (ct_cons s50 (ct_cons s49 ct_nil)) il_nil Tryd.func23 (by kernel_rfl) (vcEq23 ▸ p23)
theorem s54 : CallSpec Tryd.prog gl 54 cCmp := fn_spec tab_ok mixed ct_nil (il_cons Tryd.func88 (by kernel_rfl) il_nil) Tryd.func54 (by kernel_rfl) (vcEq54 ▸ p54)
theorem s53 : CallSpec Tryd.prog gl 53 cOr := fn_spec tab_ok mixed ct_nil il_nil Tryd.func53 (by kernel_rfl) (vcEq53 ▸ p53)
theorem s25 : CallSpec Tryd.prog gl 25 cOrder := fn_spec tab_ok mixed (ct_cons s54 (ct_cons s53 ct_nil)) il_nil Tryd.func25 (by kernel_rfl) (vcEq25 ▸ p25)
theorem n54 : CallSpec Tryd.prog noGl 54 cCmp := fn_spec tab_ok mixed ct_nil (il_cons Tryd.func88 (by kernel_rfl) il_nil) Tryd.func54 (by kernel_rfl) ((by kernel_rfl : fnVC (env tab [] [(88, Tryd.f88)] noGl hs54 nm54) Tryd.f54 (bodyOf Tryd.f54) cCmp = vc54) ▸ p54)
theorem n53 : CallSpec Tryd.prog noGl 53 cOr := fn_spec tab_ok mixed ct_nil il_nil Tryd.func53 (by kernel_rfl) ((by kernel_rfl : fnVC (env tab [] [] noGl hs53 nm53) Tryd.f53 (bodyOf Tryd.f53) cOr = vc53) ▸ p53)
theorem n25 : CallSpec Tryd.prog noGl 25 cOrder := fn_spec tab_ok mixed (ct_cons n54 (ct_cons n53 ct_nil)) il_nil Tryd.func25 (by kernel_rfl) ((by kernel_rfl : fnVC (env tab [(54, cCmp), (53, cOr)] [] noGl hs25 nm25) Tryd.f25 (bodyOf Tryd.f25) cOrder = vc25) ▸ p25)
theorem s9 : CallSpec Tryd.prog gl 9 cNew := fn_specR tab_ok mixed (ct_cons s22 (ct_cons s23 (ct_cons s25 ct_nil))) il_nil (rct_cons (r24 n25) rct_nil) Tryd.func9 (by kernel_rfl) (vcEq9 ▸ p9)
theorem s32 : CallSpec Tryd.prog gl 32 cLen := fn_spec tab_ok mixed ct_nil il_nil Tryd.func32 (by kernel_rfl) (vcEq32 ▸ p32)
theorem s63 : CallSpec Tryd.prog gl 63 cClone := fn_spec tab_ok mixed ct_nil il_nil Tryd.func63 (by kernel_rfl) (vcEq63 ▸ p63)
theorem s33 : CallSpec Tryd.prog gl 33 cAll := fn_spec tab_ok mixed (ct_cons s63 ct_nil) il_nil Tryd.func33 (by kernel_rfl) (vcEq33 ▸ p33)
theorem s61 : CallSpec Tryd.prog gl 61 cPlain := fn_spec tab_ok mixed ct_nil il_nil Tryd.func61 (by kernel_rfl) (vcEq61 ▸ p61)
theorem s62 : CallSpec Tryd.prog gl 62 cVirtual := fn_spec tab_ok mixed (ct_cons s47 ct_nil) il_nil Tryd.func62 (by kernel_rfl) (vcEq62 ▸ p62)
theorem s31 : CallSpec Tryd.prog gl 31 cRow := fn_spec tab_ok mixed (ct_cons s61 (ct_cons s62 ct_nil)) il_nil Tryd.func31 (by kernel_rfl) (vcEq31 ▸ p31)
theorem s90 : CallSpec Tryd.prog gl 90 cWithinN := fn_spec tab_ok mixed ct_nil il_nil Tryd.func90 (by kernel_rfl) (vcEq90 ▸ p90)
theorem s58 : CallSpec Tryd.prog gl 58 cCheck := fn_spec tab_ok mixed (ct_cons s90 ct_nil) il_nil Tryd.func58 (by kernel_rfl) (vcEq58 ▸ p58)
theorem s69 : CallSpec Tryd.prog gl 69 cOfI := fn_spec tab_ok mixed ct_nil il_nil Tryd.func69 (by kernel_rfl) (vcEq69 ▸ p69)
theorem s67 : CallSpec Tryd.prog gl 67 cAddS := fn_spec tab_ok mixed ct_nil il_nil Tryd.func67 (by kernel_rfl) (vcEq67 ▸ p67)
theorem s93 : CallSpec Tryd.prog gl 93 cAllS := fn_spec tab_ok mixed (ct_cons s69 (ct_cons s67 ct_nil)) il_nil Tryd.func93 (by kernel_rfl) (vcEq93 ▸ p93)
theorem s60 : CallSpec Tryd.prog gl 60 cLeafOf := fn_spec tab_ok mixed (ct_cons s93 ct_nil) il_nil Tryd.func60 (by kernel_rfl) (vcEq60 ▸ p60)
theorem s75 : CallSpec Tryd.prog gl 75 cHeightOf := fn_spec tab_ok mixed ct_nil il_nil Tryd.func75 (by kernel_rfl) (vcEq75 ▸ p75)
theorem s103 : CallSpec Tryd.prog gl 103 cPut := fn_spec tab_ok mixed ct_nil il_nil Tryd.func103 (by kernel_rfl) (vcEq103 ▸ p103)
theorem s68 : CallSpec Tryd.prog gl 68 cSumOf := fn_spec tab_ok mixed ct_nil il_nil Tryd.func68 (by kernel_rfl) (vcEq68 ▸ p68)
theorem s92 : CallSpec Tryd.prog gl 92 cInnerOf := fn_spec tab_ok mixed (ct_cons s75 (ct_cons s68 (ct_cons s67 ct_nil))) il_nil Tryd.func92 (by kernel_rfl) (vcEq92 ▸ p92)
theorem s102 : CallSpec Tryd.prog gl 102 cRaise := fn_spec tab_ok mixed (ct_cons s92 ct_nil) il_nil Tryd.func102 (by kernel_rfl) (vcEq102 ▸ p102)
theorem s104 : CallSpec Tryd.prog gl 104 cSpread := fn_spec tab_ok mixed (ct_cons s60 ct_nil) il_nil Tryd.func104 (by kernel_rfl) (vcEq104 ▸ p104)
theorem q91 : ∀ n, CallSpec Tryd.prog gl 91 (cMeld.cut muMeld n)
  | 0 => cut_zero Tryd.func91 (by kernel_rfl)
  | n + 1 => fn_spec tab_ok mixed (ct_cons s75 (ct_cons (q91 n) (ct_cons s103 (ct_cons s102 (ct_cons s104 ct_nil))))) il_nil Tryd.func91 (by kernel_rfl) (vcEq91 n ▸ p91 n)
theorem s91 : CallSpec Tryd.prog gl 91 cMeld := cut_all q91
theorem s59 : CallSpec Tryd.prog gl 59 cJoin := fn_spec tab_ok mixed (ct_cons s91 (ct_cons s92 ct_nil)) il_nil Tryd.func59 (by kernel_rfl) (vcEq59 ▸ p59)
theorem s30 : CallSpec Tryd.prog gl 30 cTreeNew := fn_spec tab_ok mixed (ct_cons s58 (ct_cons s60 (ct_cons s59 ct_nil))) il_nil Tryd.func30 (by kernel_rfl) (vcEq30 ▸ p30)
theorem s11 : CallSpec Tryd.prog gl 11 cWeave := fn_spec tab_ok mixed (ct_cons s32 (ct_cons s33 (ct_cons s31 (ct_cons s30 ct_nil)))) il_nil Tryd.func11 (by kernel_rfl) (vcEq11 ▸ p11)
theorem s34 : CallSpec Tryd.prog gl 34 cTreeOf := fn_spec tab_ok mixed ct_nil il_nil Tryd.func34 (by kernel_rfl) (vcEq34 ▸ p34)
theorem s66 : CallSpec Tryd.prog gl 66 cTop := fn_spec tab_ok mixed ct_nil il_nil Tryd.func66 (by kernel_rfl) (vcEq66 ▸ p66)
theorem s37 : CallSpec Tryd.prog gl 37 cSum := fn_spec tab_ok mixed (ct_cons s66 (ct_cons s68 ct_nil)) il_nil Tryd.func37 (by kernel_rfl) (vcEq37 ▸ p37)
theorem s64 : CallSpec Tryd.prog gl 64 cSizeD := fn_spec tab_ok mixed ct_nil il_nil Tryd.func64 (by kernel_rfl) (v64)
theorem s35 : CallSpec Tryd.prog gl 35 cFind := fn_spec tab_ok mixed (ct_cons s37 (ct_cons s64 (ct_cons s66 (ct_cons s68 (ct_cons s67 (ct_cons s69 ct_nil)))))) (il_cons Tryd.func65 (by kernel_rfl) il_nil) Tryd.func35 (by kernel_rfl) (vcEq35 ▸ p35)
theorem s12 : CallSpec Tryd.prog gl 12 cOut := fn_spec tab_ok mixed (ct_cons s34 (ct_cons s35 ct_nil)) il_nil Tryd.func12 (by kernel_rfl) (vcEq12 ▸ p12)
theorem s36 : CallSpec Tryd.prog gl 36 cAt := fn_spec tab_ok mixed (ct_cons s37 (ct_cons s66 (ct_cons s68 ct_nil))) il_nil Tryd.func36 (by kernel_rfl) (vcEq36 ▸ p36)
theorem s14 : CallSpec Tryd.prog gl 14 cIn := fn_spec tab_ok mixed (ct_cons s34 (ct_cons s35 (ct_cons s36 ct_nil))) il_nil Tryd.func14 (by kernel_rfl) (vcEq14 ▸ p14)
theorem s46 : CallSpec Tryd.prog gl 46 cHeightT := fn_spec tab_ok mixed (ct_cons s66 (ct_cons s75 ct_nil)) il_nil Tryd.func46 (by kernel_rfl) (vcEq46 ▸ p46)
theorem s21 : CallSpec Tryd.prog gl 21 cHeightW := fn_spec tab_ok mixed (ct_cons s34 (ct_cons s46 ct_nil)) il_nil Tryd.func21 (by kernel_rfl) (vcEq21 ▸ p21)
theorem s8 : CallSpec Tryd.prog gl 8 cFour := fn_spec tab_ok mixed (ct_cons s9 (ct_cons s11 (ct_cons s12 (ct_cons s14 (ct_cons s21 ct_nil))))) il_nil Tryd.func8 (by kernel_rfl) (vcEq8 ▸ p8)
theorem s89 : CallSpec Tryd.prog gl 89 cNumber := fn_spec tab_ok mixed ct_nil il_nil Tryd.func89 (by kernel_rfl) (vcEq89 ▸ p89)
theorem s55 : CallSpec Tryd.prog gl 55 cUSize := fn_spec tab_ok mixed ct_nil il_nil Tryd.func55 (by kernel_rfl) (vcEq55 ▸ p55)
theorem s56 : CallSpec Tryd.prog gl 56 cOne := fn_spec tab_ok mixed ct_nil il_nil Tryd.func56 (by kernel_rfl) (vcEq56 ▸ p56)
theorem s57 : CallSpec Tryd.prog gl 57 cRStep := fn_spec tab_ok mixed (ct_cons s89 (ct_cons s55 (ct_cons s56 ct_nil))) il_nil Tryd.func57 (by kernel_rfl) (vcEq57 ▸ p57)
theorem s28 : CallSpec Tryd.prog gl 28 cRDecode := fn_spec tab_ok mixed (ct_cons s57 ct_nil) il_nil Tryd.func28 (by kernel_rfl) (vcEq28 ▸ p28)
theorem s26 : CallSpec Tryd.prog gl 26 cRefWrong := fn_spec tab_ok mixed (ct_cons s28 ct_nil) il_nil Tryd.func26 (by kernel_rfl) (vcEq26 ▸ p26)
theorem s27 : CallSpec Tryd.prog gl 27 cREncode := fn_spec tab_ok mixed (ct_cons s55 (ct_cons s56 ct_nil)) il_nil Tryd.func27 (by kernel_rfl) (vcEq27 ▸ p27)
theorem s29 : CallSpec Tryd.prog gl 29 cAhead := fn_spec tab_ok mixed ct_nil il_nil Tryd.func29 (by kernel_rfl) (vcEq29 ▸ p29)
theorem s10 : CallSpec Tryd.prog gl 10 cRefNew := fn_spec tab_ok mixed (ct_cons s26 (ct_cons s28 (ct_cons s27 (ct_cons s29 ct_nil)))) il_nil Tryd.func10 (by kernel_rfl) (vcEq10 ▸ p10)
theorem s13 : CallSpec Tryd.prog gl 13 cRefOut := fn_spec tab_ok mixed (ct_cons s28 ct_nil) il_nil Tryd.func13 (by kernel_rfl) (vcEq13 ▸ p13)
theorem s15 : CallSpec Tryd.prog gl 15 cSpots := fn_spec tab_ok mixed (ct_cons s28 ct_nil) il_nil Tryd.func15 (by kernel_rfl) (vcEq15 ▸ p15)
theorem s16 : CallSpec Tryd.prog gl 16 cRefIn := fn_spec tab_ok mixed (ct_cons s15 ct_nil) il_nil Tryd.func16 (by kernel_rfl) (vcEq16 ▸ p16)
theorem s3 : CallSpec Tryd.prog gl 3 cWeavePlaces := fn_spec tab_ok mixed (ct_cons s7 (ct_cons s8 (ct_cons s9 (ct_cons s10 (ct_cons s11 (ct_cons s12 (ct_cons s13 (ct_cons s14 (ct_cons s15 (ct_cons s16 ct_nil)))))))))) il_nil Tryd.func3 (by kernel_rfl) (vcEq3 ▸ p3)
theorem s17 : CallSpec Tryd.prog gl 17 cSizes := fn_spec tab_ok mixed (ct_cons s34 (ct_cons s37 ct_nil)) il_nil Tryd.func17 (by kernel_rfl) (vcEq17 ▸ p17)
theorem s4 : CallSpec Tryd.prog gl 4 cWeaveThere := fn_spec tab_ok mixed (ct_cons s7 (ct_cons s8 (ct_cons s9 (ct_cons s10 (ct_cons s11 (ct_cons s17 (ct_cons s12 (ct_cons s14 ct_nil)))))))) il_nil Tryd.func4 (by kernel_rfl) (vcEq4 ▸ p4)
theorem s45 : CallSpec Tryd.prog gl 45 cItems := fn_spec tab_ok mixed (ct_cons s66 ct_nil) (il_cons Tryd.func74 (by kernel_rfl) (il_cons Tryd.func73 (by kernel_rfl) il_nil)) Tryd.func45 (by kernel_rfl) (vcEq45 ▸ p45)
theorem s20 : CallSpec Tryd.prog gl 20 cPieces := fn_spec tab_ok mixed (ct_cons s34 (ct_cons s45 ct_nil)) il_nil Tryd.func20 (by kernel_rfl) (vcEq20 ▸ p20)
theorem s39 : CallSpec Tryd.prog gl 39 cRefsP := fn_spec tab_ok mixed ct_nil il_nil Tryd.func39 (by kernel_rfl) (vcEq39 ▸ p39)
theorem s40 : CallSpec Tryd.prog gl 40 cRefPieces := fn_spec tab_ok mixed (ct_cons s15 ct_nil) il_nil Tryd.func40 (by kernel_rfl) (vcEq40 ▸ p40)
theorem s38 : CallSpec Tryd.prog gl 38 cSameP := fn_spec tab_ok mixed ct_nil il_nil Tryd.func38 (by kernel_rfl) (vcEq38 ▸ p38)
theorem s41 : CallSpec Tryd.prog gl 41 cHigh := fn_spec tab_ok mixed ct_nil il_nil Tryd.func41 (by kernel_rfl) (vcEq41 ▸ p41)
theorem s18 : CallSpec Tryd.prog gl 18 cIs := fn_spec tab_ok mixed (ct_cons s17 (ct_cons s20 (ct_cons s15 (ct_cons s39 (ct_cons s40 (ct_cons s38 (ct_cons s21 (ct_cons s41 ct_nil)))))))) il_nil Tryd.func18 (by kernel_rfl) (vcEq18 ▸ p18)
theorem s5 : CallSpec Tryd.prog gl 5 cWeaveNew := fn_spec tab_ok mixed (ct_cons s7 (ct_cons s8 (ct_cons s9 (ct_cons s10 (ct_cons s11 (ct_cons s18 ct_nil)))))) il_nil Tryd.func5 (by kernel_rfl) (vcEq5 ▸ p5)
theorem s42 : CallSpec Tryd.prog gl 42 cFits := fn_spec tab_ok mixed ct_nil il_nil Tryd.func42 (by kernel_rfl) (vcEq42 ▸ p42)
theorem sO63 : CallSpec Tryd.prog gl 63 cCloneO := fn_specO tab_ok mixed ct_nil il_nil rct_nil Tryd.func63 (by kernel_rfl) (vcEqO63 ▸ pO63)
theorem sO33 : CallSpec Tryd.prog gl 33 cAllO := fn_specO tab_ok mixed (ct_cons sO63 ct_nil) il_nil rct_nil Tryd.func33 (by kernel_rfl) (vcEqO33 ▸ pO33)
theorem s44 : CallSpec Tryd.prog gl 44 cBetween := fn_spec tab_ok mixed (ct_cons sO33 ct_nil) (il_cons Tryd.func72 (by kernel_rfl) (il_cons Tryd.func71 (by kernel_rfl) (il_cons Tryd.func95 (by kernel_rfl) il_nil))) Tryd.func44 (by kernel_rfl) (vcEq44 ▸ p44)
theorem s94 : CallSpec Tryd.prog gl 94 cRowN := fn_spec tab_ok mixed (ct_cons s92 ct_nil) il_nil Tryd.func94 (by kernel_rfl) (vcEq94 ▸ p94)
theorem q70 : ∀ n, CallSpec Tryd.prog gl 70 (cSplit.cut muSplit n)
  | 0 => cut_zero Tryd.func70 (by kernel_rfl)
  | n + 1 => fn_spec tab_ok mixed (ct_cons s60 (ct_cons s68 (ct_cons (q70 n) (ct_cons s94 (ct_cons s59 ct_nil))))) il_nil Tryd.func70 (by kernel_rfl) (vcEq70 n ▸ p70 n)
theorem s70 : CallSpec Tryd.prog gl 70 cSplit := cut_all q70
theorem s43 : CallSpec Tryd.prog gl 43 cReplace := fn_spec tab_ok mixed (ct_cons s37 (ct_cons s30 (ct_cons s66 (ct_cons s70 (ct_cons s59 ct_nil))))) il_nil Tryd.func43 (by kernel_rfl) (vcEq43 ▸ p43)
theorem s19 : CallSpec Tryd.prog gl 19 cUpdate := fn_spec tab_ok mixed (ct_cons s17 (ct_cons s42 (ct_cons s32 (ct_cons s34 (ct_cons s35 (ct_cons s36 (ct_cons s44 (ct_cons s31 (ct_cons s43 ct_nil))))))))) il_nil Tryd.func19 (by kernel_rfl) (vcEq19 ▸ p19)
theorem s6 : CallSpec Tryd.prog gl 6 cWeaveNil := fn_spec tab_ok mixed (ct_cons s12 (ct_cons s14 (ct_cons s19 (ct_cons s17 (ct_cons s20 (ct_cons s21 (ct_cons s8 ct_nil))))))) il_nil Tryd.func6 (by kernel_rfl) (vcEq6 ▸ p6)
end Go.Fr.C14
namespace Go.Proofs.YtgaafjjdcpibbaaDoor
open Go Go.Fr Go.Fr.C14 Go.ChangeShapes Go.WideShapes Go.ChangeAt Go.RowKit
theorem gMost : Tryd.prog.globalNamed "bodkin/utf.most" = some 0 := by kernel_rfl
theorem tMost : (Tryd.prog.globals[0]?).map (·.type) = some 169 := by kernel_rfl
theorem glob_of {W : World} (h : laidMetH Tryd.prog [("bodkin/utf.most", Rows.laid_bodkin_utf_most)] W) : GlobOk gl (heapOf W) := by
  rw [MakeChecks.laidMetH_plain _ _ _ (by kernel_rfl)] at h
  obtain ⟨ps, ⟨g0, t0, cs0, f0, p0, q0, hg0, ht0, hv0, hd0, hrest⟩, h2⟩ := h
  obtain rfl := Option.some.inj (gMost.symm.trans hg0)
  obtain rfl := Option.some.inj (tMost.symm.trans ht0)
  obtain ⟨xs, m1, hf, hx1, hlen, hn4, hel⟩ := DataW.trod_array Tryd.underlying169 hd0
  have c21 : Tryd.prog.cellsOf 21 = 1 := by kernel_rfl
  have len4 : cs0.toList.length = 4 := hlen.trans (by kernel_rfl)
  rw [c21] at hel
  have hcell : ∀ i : Nat, W.cell? ⟨0, i, none⟩ = cs0.toList[i]? := fun i => by rw [World.var?_cell gMost hv0 i]; simp
  generalize cs0.toList = cl at *
  match xs, cl, hn4, len4, hx1, hel, hcell with
  | [y0, y1, y2, y3], [x0, x1, x2, x3], _, _, hx1, hel, hcell =>
    have hx1 := (Prod.mk.inj hx1).1
    obtain ⟨n0, e0, z0, _⟩ := DataW.trod_int Tryd.underlying21 (hel 0 (by decide))
    obtain ⟨n1, e1, z1, _⟩ := DataW.trod_int Tryd.underlying21 (hel 1 (by decide))
    obtain ⟨n2, e2, z2, _⟩ := DataW.trod_int Tryd.underlying21 (hel 2 (by decide))
    obtain ⟨n3, e3, z3, _⟩ := DataW.trod_int Tryd.underlying21 (hel 3 (by decide))
    simp at e0 e1 e2 e3
    subst e0 e1 e2 e3 z0 z1 z2 z3
    simp only [Rows.laid_bodkin_utf_most, List.map_cons, List.map_nil, DataW.agg.injEq, List.cons.injEq, DataW.lit.injEq, Lit.int.injEq, true_and, and_true] at hx1
    obtain ⟨q0, q1, q2, q3⟩ := hx1
    subst q0 q1 q2 q3
    intro g T x hg
    unfold gl at hg
    cases hb : Nat.beq g 0 with
    | false => rw [hb] at hg; cases hg
    | true =>
      rw [hb] at hg
      have := Nat.eq_of_beq_eq_true hb
      subst this
      simp only [cond_true, Option.some.injEq] at hg
      cases hg
      refine ⟨[.int .i32 127, .int .i32 2047, .int .i32 65535, .int .i32 1114111], ⟨[_], _, rfl, rfl, [_], _, rfl, rfl, [_], _, rfl, rfl, [_], _, rfl, rfl, rfl⟩, ?_⟩
      intro j u hu
      rw [hcell_heapOf]
      have := hcell j
      rw [hu] at this
      have ha : (⟨0, 0, none⟩ : Addr).add j = ⟨0, j, none⟩ := by
        rw [add_lit, Nat.zero_add]
      rw [ha]
      exact this
theorem own : ownKnob Tryd.prog.godebug = none := by kernel_rfl
theorem laidOut : laidOutB Tryd.prog = true := by kernel_rfl
abbrev laid1 {H : Type} : List (String × DataW H) := [("bodkin/utf.most", Rows.laid_bodkin_utf_most)]
theorem door_met (os : Os) (args : Array Value) : laidMetH Tryd.prog laid1 ((World.doorLaid Tryd.prog 400 os).forCall (fun _ _ => 0) ⟨#[], args, []⟩).memory :=
  laidMetH_of_parts3 (fuel := 8) (laidMet_of_run' 8 (by kernel_rfl) (by kernel_rfl)) (by kernel_rfl) (by kernel_rfl)
set_option maxRecDepth 100000 in
theorem weavePlacesLifted (os : Os) (started : os.Started) (H : Type) (enc : TypeId × Value → H) :
    ReturnsInHanded {} Tryd.checked os 3 .any (fun w args => (Rows.weavePlacesSpec.pre enc Tryd.prog Tryd.f3 [] false w args ∧ laidMetH Tryd.prog laid1 w) ∧ sizedMet enc Tryd.prog Tryd.f3 (OpenSpec.ofChange Rows.weavePlacesSpec) false w args)
      (Rows.weavePlacesSpec.post enc Tryd.prog Tryd.f3 false true false false) :=
  law_lifted_laid (C := Tryd.checked) (tb := 4) (X := fun w => laidMetH Tryd.prog laid1 w) (fun _ _ hh h => h.of_heap hh) own started (by kernel_rfl) Tryd.func3
    (ChangeSpec.witness_shaped (enc := enc) (C := Tryd.checked) (os := os) (X := fun w _ => laidMetH Tryd.prog laid1 w) false (World.doorLaid Tryd.prog 400 os) #[.int .i64 0, .slice none 0 0, .agg #[.int .i64 0, .int .i64 0]] 8 rfl (World.shaped_of_RefB (by kernel_rfl) (by kernel_rfl)) (by kernel_rfl) (by kernel_rfl) (by kernel_rfl) (door_met os _))
    (by kernel_rfl) laidOut rfl rfl (fun ds h => by
      match ds, h with
      | [d1, d2, d3], _ => rfl) (fun W h => glob_of h) s3 (fun y h => h.2.1.1)
theorem weavePlacesOver : Rows.WeavePlacesSaid :=
  OpenClaim.holds_of_wide 3 Tryd.f3 rfl rfl rfl rfl rfl rfl rfl ⟨rfl, rfl, rfl, rfl, rfl⟩ rfl rfl rfl rfl rfl (by kernel_rfl) Tryd.func3 (by kernel_rfl)
    (of_decide_eq_true (by kernel_rfl)) (by unfold Func.isWrapper; first | (rw [if_pos (by decide +kernel)]; kernel_rfl) | (rw [if_neg (by decide +kernel)]; exact ⟨rfl, rfl⟩))
    (fun os started H enc _ => weavePlacesLifted os started H enc)
theorem weavePlacesProved : Rows.WeavePlacesCardSaid :=
  Claim7.holds_tied_plain_at .later [] [.data] true (true, "d7bd3278ff9cc9fb20e19d488f669561d3a8046e90ab38a7c5e080bb24088551") true
    weavePlacesOver (fun _ h => by cases h) (by kernel_rfl) (fun _ h => by cases h) weavePlaces_row_tie rfl ⟨rfl, rfl⟩ (by kernel_rfl) rfl
    (fun f fn hf hfn => by
      obtain rfl : f = 3 := Option.some.inj ((show Tryd.prog.funcNamed "bodkin/bodkinlaw14.WeavePlaces" = some 3 by kernel_rfl).symm.trans hf) |>.symm
      obtain rfl : fn = Tryd.f3 := (Option.some.inj (Tryd.func3.symm.trans hfn)).symm
      exact ⟨by kernel_rfl, fun j t ht => by
        rw [Tryd.params3] at ht
        have hm : t ∈ [3, 22, 24] := by simpa using Array.mem_of_getElem? ht
        have hall : ([3, 22, 24].all fun u => !Tryd.prog.wantsStandIn u) = true := by kernel_rfl
        exact (show Tryd.prog.wantsStandIn t = false by simpa using List.all_eq_true.1 hall t hm)⟩)
    (by kernel_rfl)
#print axioms weavePlacesProved
set_option maxRecDepth 100000 in
theorem weaveThereLifted (os : Os) (started : os.Started) (H : Type) (enc : TypeId × Value → H) :
    ReturnsInHanded {} Tryd.checked os 4 .any (fun w args => (Rows.weaveThereSpec.pre enc Tryd.prog Tryd.f4 [] false w args ∧ laidMetH Tryd.prog laid1 w) ∧ sizedMet enc Tryd.prog Tryd.f4 (OpenSpec.ofChange Rows.weaveThereSpec) false w args)
      (Rows.weaveThereSpec.post enc Tryd.prog Tryd.f4 false true false false) :=
  law_lifted_laid (C := Tryd.checked) (tb := 4) (X := fun w => laidMetH Tryd.prog laid1 w) (fun _ _ hh h => h.of_heap hh) own started (by kernel_rfl) Tryd.func4
    (ChangeSpec.witness_shaped (enc := enc) (C := Tryd.checked) (os := os) (X := fun w _ => laidMetH Tryd.prog laid1 w) false (World.doorLaid Tryd.prog 400 os) #[.int .i64 0, .slice none 0 0] 8 rfl (World.shaped_of_RefB (by kernel_rfl) (by kernel_rfl)) (by kernel_rfl) (by kernel_rfl) (by kernel_rfl) (door_met os _))
    (by kernel_rfl) laidOut rfl rfl (fun ds h => by
      match ds, h with
      | [d1, d2], _ => rfl) (fun W h => glob_of h) s4 (fun y h => h.2.1.1)
theorem weaveThereOver : Rows.WeaveThereSaid :=
  OpenClaim.holds_of_wide 4 Tryd.f4 rfl rfl rfl rfl rfl rfl rfl ⟨rfl, rfl, rfl, rfl, rfl⟩ rfl rfl rfl rfl rfl (by kernel_rfl) Tryd.func4 (by kernel_rfl)
    (of_decide_eq_true (by kernel_rfl)) (by unfold Func.isWrapper; first | (rw [if_pos (by decide +kernel)]; kernel_rfl) | (rw [if_neg (by decide +kernel)]; exact ⟨rfl, rfl⟩))
    (fun os started H enc _ => weaveThereLifted os started H enc)
theorem weaveThereProved : Rows.WeaveThereCardSaid :=
  Claim7.holds_tied_plain_at .later [] [.data] true (true, "d7bd3278ff9cc9fb20e19d488f669561d3a8046e90ab38a7c5e080bb24088551") true
    weaveThereOver (fun _ h => by cases h) (by kernel_rfl) (fun _ h => by cases h) weaveThere_row_tie rfl ⟨rfl, rfl⟩ (by kernel_rfl) rfl
    (fun f fn hf hfn => by
      obtain rfl : f = 4 := Option.some.inj ((show Tryd.prog.funcNamed "bodkin/bodkinlaw14.WeaveThere" = some 4 by kernel_rfl).symm.trans hf) |>.symm
      obtain rfl : fn = Tryd.f4 := (Option.some.inj (Tryd.func4.symm.trans hfn)).symm
      exact ⟨by kernel_rfl, fun j t ht => by
        rw [Tryd.params4] at ht
        have hm : t ∈ [3, 22] := by simpa using Array.mem_of_getElem? ht
        have hall : ([3, 22].all fun u => !Tryd.prog.wantsStandIn u) = true := by kernel_rfl
        exact (show Tryd.prog.wantsStandIn t = false by simpa using List.all_eq_true.1 hall t hm)⟩)
    (by kernel_rfl)
#print axioms weaveThereProved
set_option maxRecDepth 100000 in
theorem weaveNewLifted (os : Os) (started : os.Started) (H : Type) (enc : TypeId × Value → H) :
    ReturnsInHanded {} Tryd.checked os 5 .any (fun w args => (Rows.weaveNewSpec.pre enc Tryd.prog Tryd.f5 [] false w args ∧ laidMetH Tryd.prog laid1 w) ∧ sizedMet enc Tryd.prog Tryd.f5 (OpenSpec.ofChange Rows.weaveNewSpec) false w args)
      (Rows.weaveNewSpec.post enc Tryd.prog Tryd.f5 false true false false) :=
  law_lifted_laid (C := Tryd.checked) (tb := 4) (X := fun w => laidMetH Tryd.prog laid1 w) (fun _ _ hh h => h.of_heap hh) own started (by kernel_rfl) Tryd.func5
    (ChangeSpec.witness_shaped (enc := enc) (C := Tryd.checked) (os := os) (X := fun w _ => laidMetH Tryd.prog laid1 w) false (World.doorLaid Tryd.prog 400 os) #[.int .i64 0, .slice none 0 0] 8 rfl (World.shaped_of_RefB (by kernel_rfl) (by kernel_rfl)) (by kernel_rfl) (by kernel_rfl) (by kernel_rfl) (door_met os _))
    (by kernel_rfl) laidOut rfl rfl (fun ds h => by
      match ds, h with
      | [d1, d2], _ => rfl) (fun W h => glob_of h) s5 (fun y h => h.2.1.1)
theorem weaveNewOver : Rows.WeaveNewSaid :=
  OpenClaim.holds_of_wide 5 Tryd.f5 rfl rfl rfl rfl rfl rfl rfl ⟨rfl, rfl, rfl, rfl, rfl⟩ rfl rfl rfl rfl rfl (by kernel_rfl) Tryd.func5 (by kernel_rfl)
    (of_decide_eq_true (by kernel_rfl)) (by unfold Func.isWrapper; first | (rw [if_pos (by decide +kernel)]; kernel_rfl) | (rw [if_neg (by decide +kernel)]; exact ⟨rfl, rfl⟩))
    (fun os started H enc _ => weaveNewLifted os started H enc)
theorem weaveNewProved : Rows.WeaveNewCardSaid :=
  Claim7.holds_tied_plain_at .later [] [.data] true (true, "d7bd3278ff9cc9fb20e19d488f669561d3a8046e90ab38a7c5e080bb24088551") true
    weaveNewOver (fun _ h => by cases h) (by kernel_rfl) (fun _ h => by cases h) weaveNew_row_tie rfl ⟨rfl, rfl⟩ (by kernel_rfl) rfl
    (fun f fn hf hfn => by
      obtain rfl : f = 5 := Option.some.inj ((show Tryd.prog.funcNamed "bodkin/bodkinlaw14.WeaveNew" = some 5 by kernel_rfl).symm.trans hf) |>.symm
      obtain rfl : fn = Tryd.f5 := (Option.some.inj (Tryd.func5.symm.trans hfn)).symm
      exact ⟨by kernel_rfl, fun j t ht => by
        rw [Tryd.params5] at ht
        have hm : t ∈ [3, 22] := by simpa using Array.mem_of_getElem? ht
        have hall : ([3, 22].all fun u => !Tryd.prog.wantsStandIn u) = true := by kernel_rfl
        exact (show Tryd.prog.wantsStandIn t = false by simpa using List.all_eq_true.1 hall t hm)⟩)
    (by kernel_rfl)
#print axioms weaveNewProved
set_option maxRecDepth 100000 in
theorem weaveNilLifted (os : Os) (started : os.Started) (H : Type) (enc : TypeId × Value → H) :
    ReturnsInHanded {} Tryd.checked os 6 .any (fun w args => (Rows.weaveNilSpec.pre enc Tryd.prog Tryd.f6 [] false w args ∧ laidMetH Tryd.prog laid1 w) ∧ sizedMet enc Tryd.prog Tryd.f6 (OpenSpec.ofChange Rows.weaveNilSpec) false w args)
      (Rows.weaveNilSpec.post enc Tryd.prog Tryd.f6 false true false false) :=
  law_lifted_laid (C := Tryd.checked) (tb := 4) (X := fun w => laidMetH Tryd.prog laid1 w) (fun _ _ hh h => h.of_heap hh) own started (by kernel_rfl) Tryd.func6
    (ChangeSpec.witness_shaped (enc := enc) (C := Tryd.checked) (os := os) (X := fun w _ => laidMetH Tryd.prog laid1 w) false (World.doorLaid Tryd.prog 400 os) #[.int .i64 0] 8 rfl (World.shaped_of_RefB (by kernel_rfl) (by kernel_rfl)) (by kernel_rfl) (by kernel_rfl) (by kernel_rfl) (door_met os _))
    (by kernel_rfl) laidOut rfl rfl (fun ds h => by
      match ds, h with
      | [d1], _ => rfl) (fun W h => glob_of h) s6 (fun _ _ => trivial)
theorem weaveNilOver : Rows.WeaveNilSaid :=
  OpenClaim.holds_of_wide 6 Tryd.f6 rfl rfl rfl rfl rfl rfl rfl ⟨rfl, rfl, rfl, rfl, rfl⟩ rfl rfl rfl rfl rfl (by kernel_rfl) Tryd.func6 (by kernel_rfl)
    (of_decide_eq_true (by kernel_rfl)) (by unfold Func.isWrapper; first | (rw [if_pos (by decide +kernel)]; kernel_rfl) | (rw [if_neg (by decide +kernel)]; exact ⟨rfl, rfl⟩))
    (fun os started H enc _ => weaveNilLifted os started H enc)
theorem weaveNilProved : Rows.WeaveNilCardSaid :=
  Claim7.holds_tied_plain_at .later [] [.data] true (true, "d7bd3278ff9cc9fb20e19d488f669561d3a8046e90ab38a7c5e080bb24088551") true
    weaveNilOver (fun _ h => by cases h) (by kernel_rfl) (fun _ h => by cases h) weaveNil_row_tie rfl ⟨rfl, rfl⟩ (by kernel_rfl) rfl
    (fun f fn hf hfn => by
      obtain rfl : f = 6 := Option.some.inj ((show Tryd.prog.funcNamed "bodkin/bodkinlaw14.WeaveNil" = some 6 by kernel_rfl).symm.trans hf) |>.symm
      obtain rfl : fn = Tryd.f6 := (Option.some.inj (Tryd.func6.symm.trans hfn)).symm
      exact ⟨by kernel_rfl, fun j t ht => by
        rw [Tryd.params6] at ht
        have hm : t ∈ [3] := by simpa using Array.mem_of_getElem? ht
        have hall : ([3].all fun u => !Tryd.prog.wantsStandIn u) = true := by kernel_rfl
        exact (show Tryd.prog.wantsStandIn t = false by simpa using List.all_eq_true.1 hall t hm)⟩)
    (by kernel_rfl)
#print axioms weaveNilProved
end Go.Proofs.YtgaafjjdcpibbaaDoor
