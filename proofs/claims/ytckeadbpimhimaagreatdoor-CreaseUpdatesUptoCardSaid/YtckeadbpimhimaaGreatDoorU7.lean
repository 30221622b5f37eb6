/-
  The statements' proofs. Conditions: none.
-/
import Derived.Test.YtckeadbpimhimaaGreatDoorU6
import Derived.Shelf.SlSortCmp.NoneTotal
import Derived.Test.YtckeadbpimhimaaGreatDoorProg
import Derived.Shelf.SlSortCmp.WholeK
import Derived.Ground.SlsfProg
import Derived.Shelf.Strings.Search3
import Derived.Ground.NamesProg
import Derived.Lib.IndexAny
import Derived.Deep.DeepHandedRow
import Derived.LaidLaws
import Derived.Test.YtckeadbpimhimaaGreatDoorCards
import Derived.Test.YtckeadbpimhimaaGreatDoorTie
import Derived.Test.YtckeadbpimhimaaGreatDoorRows
import Derived.ProofKit
import Derived.LaidMore
import Derived.OpenShut
import Derived.Stop.Joined
namespace Go.Fr.Z16
open Go Go.Fr Go.Proofs
theorem spans_base {f t f' t' : Int} : {l : List Span} → Spans f t l → f' ≤ t' → (∀ x ∈ l, f' ≤ x.1 ∧ x.2.1 ≤ t') → Spans f' t' l
  | [], _, h, _ => h
  | x :: r, h, _, hx => by
    obtain ⟨h1, h2, h3⟩ := h
    have a := hx x (List.mem_cons_self ..)
    exact ⟨a.1, h2, spans_base h3 a.2 fun y hy => ⟨(spans_all h3 y hy).1, (hx y (List.mem_cons_of_mem _ hy)).2⟩⟩
theorem filter_all {α : Type} {p : α → Bool} {l : List α} (h : ∀ x ∈ l, p x = true) : l.filter p = l := List.filter_eq_self.2 h
theorem filter_nil {α : Type} {p : α → Bool} {l : List α} (h : ∀ x ∈ l, p x = false) : l.filter p = [] := List.filter_eq_nil_iff.2 fun x hx hh => by rw [h x hx] at hh; cases hh
theorem flat_single {α : Type} {f : α → List α} {l : List α} (h : ∀ x ∈ l, f x = [x]) : l.flatMap f = l := by
  induction l with
  | nil => rfl
  | cons x r ih => rw [List.flatMap_cons, h x (List.mem_cons_self ..), ih fun y hy => h y (List.mem_cons_of_mem _ hy)]; rfl
theorem flat_none {α β : Type} {f : α → List β} {l : List α} (h : ∀ x ∈ l, f x = []) : l.flatMap f = [] := by
  induction l with
  | nil => rfl
  | cons x r ih => rw [List.flatMap_cons, h x (List.mem_cons_self ..), ih fun y hy => h y (List.mem_cons_of_mem _ hy)]; rfl
theorem flat_map {α β : Type} {f : α → List β} {g : α → β} {l : List α} (h : ∀ x ∈ l, f x = [g x]) : l.flatMap f = l.map g := by
  induction l with
  | nil => rfl
  | cons x r ih => rw [List.flatMap_cons, h x (List.mem_cons_self ..), ih fun y hy => h y (List.mem_cons_of_mem _ hy)]; rfl
def outS2 (o n x : Span) : List Span := if x.2.1 ≤ n.1 then [x] else if x.1 ≥ n.2.1 then [(w64 (x.1 - w64 (n.2.1 - o.2.1)), w64 (x.2.1 - w64 (n.2.1 - o.2.1)), ())] else []
theorem outB_eq (o n : Span) (l : List Span) : outB o n l = l.flatMap (outS2 o n) := rfl
theorem updC_bad {n m : Int} {L : List Inl} {a l : List Span} {c : Wve} {old now : Span} (hW : WOk n L) (h : CrOf m a c) (hm : m ≤ 1000000) (sp : Spans 0 m a) (hn : a.length ≤ 1000) (hl : Spans 0 n l)
    (h0 : 0 ≤ old.1) (h1 : old.1 ≤ old.2.1) (h2 : old.2.1 ≤ m)
    (hb : acrossL a old.1 = true ∨ acrossL a old.2.1 = true ∨ acrossL (wovenS L l) now.1 = true ∨ acrossL (wovenS L l) now.2.1 = true) : updC c old now (weaveI (some (n, L, ()))) l = (none, 1, ()) := by
  obtain ⟨p1, _⟩ := places_w hW hl
  unfold updC
  split
  · rfl
  · rw [if_pos]
    rw [p1, Bool.and_eq_false_iff]
    rcases hb with hb | hb | hb | hb
    · refine .inr ?_
      obtain ⟨x, hx, ha⟩ := List.any_eq_true.1 hb
      have := ed_bad h hm sp hn h0 (by omega) (.inl rfl) hx ha
      unfold edgesC
      rw [if_pos (show edBad1 c old = true from this)]
    · refine .inr ?_
      obtain ⟨x, hx, ha⟩ := List.any_eq_true.1 hb
      have := ed_bad h hm sp hn (by omega) h2 (.inr rfl) hx ha
      unfold edgesC
      split
      · rfl
      · rw [if_pos (show edBad2 c old = true from this)]
    · refine .inl ?_
      obtain ⟨x, hx, ha⟩ := List.any_eq_true.1 hb
      unfold withinC
      rw [if_pos]
      exact List.any_eq_true.2 ⟨x, hx, by rw [ha]; rfl⟩
    · refine .inl ?_
      obtain ⟨x, hx, ha⟩ := List.any_eq_true.1 hb
      unfold withinC
      rw [if_pos]
      exact List.any_eq_true.2 ⟨x, hx, by rw [ha, Bool.or_true]⟩
theorem across_none {l : List Span} {v : Int} (h : acrossL l v = false) : ∀ x ∈ l, acrossS x v = false := fun x hx => by
  have := List.any_eq_false.1 h x hx
  simpa using this
theorem within_mid {u v : Int} {P M Q : List Span} {now : Span} (hu : now.1 = u) (hv : now.2.1 = v) (huv : u ≤ v) (hP : ∀ x ∈ P, x.1 < x.2.1 ∧ x.2.1 ≤ u) (hM : ∀ x ∈ M, x.1 < x.2.1 ∧ u ≤ x.1 ∧ x.2.1 ≤ v) (hQ : ∀ x ∈ Q, x.1 < x.2.1 ∧ v ≤ x.1)
    (n1 : ∀ x ∈ P ++ (M ++ Q), acrossS x now.1 = false) (n2 : ∀ x ∈ P ++ (M ++ Q), acrossS x now.2.1 = false) : withinC (P ++ (M ++ Q)) now = (M, true, ()) := by
  unfold withinC
  rw [if_neg, List.filter_append, List.filter_append, filter_nil (l := P), filter_all (l := M), filter_nil (l := Q)]
  · simp
  · intro x hx
    have := hQ x hx
    simp
    omega
  · intro x hx
    have := hM x hx
    simp
    omega
  · intro x hx
    have := hP x hx
    simp
    omega
  · intro hh
    obtain ⟨x, hx, hh⟩ := List.any_eq_true.1 hh
    rw [n1 x hx, n2 x hx] at hh
    cases hh
theorem outA_mid {u v : Int} {P M Q : List Span} {old : Span} (hu : old.1 = u) (hv : old.2.1 = v) (huv : u ≤ v) (hP : ∀ x ∈ P, x.1 < x.2.1 ∧ x.2.1 ≤ u) (hM : ∀ x ∈ M, x.1 < x.2.1 ∧ u ≤ x.1 ∧ x.2.1 ≤ v) (hQ : ∀ x ∈ Q, x.1 < x.2.1 ∧ v ≤ x.1) :
    (P ++ (M ++ Q)).filter (outA old) = P ++ Q := by
  rw [List.filter_append, List.filter_append, filter_all (l := P), filter_nil (l := M), filter_all (l := Q)]
  · rfl
  · intro x hx
    have := hQ x hx
    unfold outA
    simp
    omega
  · intro x hx
    have := hM x hx
    unfold outA
    simp
    omega
  · intro x hx
    have := hP x hx
    unfold outA
    simp
    omega
theorem outB_mid {u v g : Int} {P M Q : List Span} {old now : Span} (hu : now.1 = u) (hv : now.2.1 = v) (hg : now.2.1 - old.2.1 = g) (hb : -1000000 ≤ g ∧ g ≤ 1000000) (huv : u ≤ v) (hP : ∀ x ∈ P, x.1 < x.2.1 ∧ x.2.1 ≤ u) (hM : ∀ x ∈ M, x.1 < x.2.1 ∧ u ≤ x.1 ∧ x.2.1 ≤ v) (hQ : ∀ x ∈ Q, x.1 < x.2.1 ∧ v ≤ x.1)
    (hq : ∀ x ∈ Q, 0 ≤ x.1 ∧ x.2.1 ≤ 1000000) : outB old now (P ++ (M ++ Q)) = P ++ Q.map (shiftS (-g)) := by
  rw [outB_eq, List.flatMap_append, List.flatMap_append, flat_single (l := P), flat_none (l := M), flat_map (l := Q) (g := shiftS (-g))]
  · rfl
  · intro x hx
    have := hQ x hx
    have := hq x hx
    unfold outS2 shiftS
    rw [if_neg (by omega), if_pos (by omega), w64_id (n := now.2.1 - old.2.1) (by omega) (by omega), w64_id (by omega) (by omega), w64_id (by omega) (by omega), hg]
    rfl
  · intro x hx
    have := hM x hx
    unfold outS2
    rw [if_neg (by omega), if_neg (by omega)]
  · intro x hx
    have := hP x hx
    unfold outS2
    rw [if_pos (by omega)]
theorem updC_ok {n m : Int} {L : List Inl} {a l : List Span} {c : Wve} {old now : Span} (hW : WOk n L) (h : CrOf m a c) (hm : m ≤ 900000) (sp : Spans 0 m a) (hn : a.length ≤ 100) (hl : Spans 0 n l) (hll : l.length ≤ 100)
    (h0 : 0 ≤ old.1) (h1 : old.1 ≤ old.2.1) (h2 : old.2.1 ≤ m) (k0 : now.1 = old.1) (k1 : now.1 ≤ now.2.1) (k2 : now.2.1 ≤ n + lens L) (hd : m - old.2.1 = n + lens L - now.2.1)
    (a1 : acrossL a old.1 = false) (a2 : acrossL a old.2.1 = false) (b1 : acrossL (wovenS L l) now.1 = false) (b2 : acrossL (wovenS L l) now.2.1 = false) :
    ∃ d, updC c old now (weaveI (some (n, L, ()))) l = (d, 0, ()) ∧ d ≠ none ∧ (a.filter (outA old) = outB old now (wovenS L l) → CrOf (n + lens L) (wovenS L l) d) := by
  obtain ⟨s1, s2, s3⟩ := sizes_w hW
  obtain ⟨p1, p2⟩ := places_w hW hl
  have lb := wok_lens hW
  have wsp := wok_spans hW hl
  have ll : (wovenS L l).length = l.length := List.length_map _
  have hnn := hW.2.1
  have hn0 := hW.1
  obtain ⟨f1, f2, f3, f4, f5, f6, f7, f8, f9⟩ := cr_fine h (by omega) sp (by omega)
  obtain ⟨P, M, Q, ea, aP, aM, aQ⟩ := split_two sp h1 (across_none a1) (across_none a2)
  obtain ⟨P2, M2, Q2, eb, bP, bM, bQ⟩ := split_two wsp k1 (across_none b1) (across_none b2)
  generalize hb : wovenS L l = b at *
  generalize hm2 : n + lens L = m2 at *
  obtain ⟨g, hg⟩ : ∃ g, g = m2 - m := ⟨_, rfl⟩
  have gw : now.2.1 = old.2.1 + g := by omega
  obtain ⟨e1, e2, e3⟩ := ed_first (R := M ++ Q) (now := now) h (by omega) sp (by omega) h0 (by omega) k0 ea aP (fun x hx => by
    rcases List.mem_append.1 hx with hx | hx
    · exact (aM x hx).2.1
    · have := (aQ x hx).2; omega)
  obtain ⟨e4, e5, e6⟩ := ed_last (G := P ++ M) (Q := Q) (now := now) (g := g) h (by omega) sp (by omega) (by omega) h2 gw (by omega) (by rw [ea, List.append_assoc]) (fun x hx => by
    rcases List.mem_append.1 hx with hx | hx
    · have := aP x hx; omega
    · exact ⟨(aM x hx).1, (aM x hx).2.2⟩) (fun x hx => (aQ x hx).2)
  have sp' := sp
  rw [ea] at sp'
  obtain ⟨sP, sMQ, le0⟩ := spans_parts 0 P _ sp'
  obtain ⟨sM, sQ, le1⟩ := spans_parts _ M Q sMQ
  have leu := lastE_le (m := m) 0 P h0 fun x hx => (aP x hx).2
  have hs := firstS_ge Q h2 fun x hx => (aQ x hx).2
  obtain ⟨q1, q2, q3⟩ := spans_first sQ
  have r1 : rowK (firstS m Q) 0 (P ++ M) = rowK (lastE 0 P) 0 P ++ rowK (firstS m Q) (lastE 0 P) M := row_left 0 P M
  have r2 : rowK m 0 a = rowK (firstS m Q) 0 (P ++ M) ++ rowK m (firstS m Q) Q := by rw [ea, ← List.append_assoc]; exact row_right _ _
  have len := rowK_len (t := m) 0 a
  have l2 : (rowK (firstS m Q) 0 (P ++ M)).length ≤ (rowK m 0 a).length := by rw [r2, List.length_append]; omega
  have l1 : (rowK (lastE 0 P) 0 P).length ≤ (rowK (firstS m Q) 0 (P ++ M)).length := by rw [r1, List.length_append]; omega
  have eE : edgesC c old now = (((rowK (lastE 0 P) 0 P).length : Int), ((rowK (firstS m Q) 0 (P ++ M)).length : Int), (lastE 0 P, firstS m Q + g, ()), true, ()) := by
    unfold edgesC
    rw [e1, e4, e2, e3, e5, e6]
    rw [if_neg (by decide), if_neg (by decide)]
    have : maxI ((rowK (lastE 0 P) 0 P).length : Int) ((rowK (firstS m Q) 0 (P ++ M)).length : Int) = ((rowK (firstS m Q) 0 (P ++ M)).length : Int) := by
      unfold maxI
      split <;> omega
    rw [this]
  have wsp' := wsp
  rw [eb] at wsp'
  obtain ⟨tP, tMQ, _⟩ := spans_parts 0 P2 _ wsp'
  obtain ⟨tM, tQ, _⟩ := spans_parts _ M2 Q2 tMQ
  have sM2 : Spans (lastE 0 P) (firstS m Q + g) M2 := spans_base tM (by omega) fun x hx => by
    have := bM x hx
    omega
  have M2l : M2.length ≤ b.length := by rw [eb, List.length_append, List.length_append]; omega
  have rl := rowK_len (t := firstS m Q + g) (lastE 0 P) M2
  have eW : withinC b now = (M2, true, ()) := by
    rw [eb]
    exact within_mid rfl rfl k1 bP bM bQ (fun x hx => across_none b1 x (by rw [eb]; exact hx)) (fun x hx => across_none b2 x (by rw [eb]; exact hx))
  have eR := rowC_eq (t := firstS m Q + g) (by omega) (lastE 0 P) M2 (by omega) sM2
  have nt := newT_ok (l := rowK (firstS m Q + g) (lastE 0 P) M2) (by omega) (rowK_check (by omega) (by omega) sM2)
  obtain ⟨bo1, bo2⟩ := buildT_ok (l := rowK (firstS m Q + g) (lastE 0 P) M2) (by omega)
  have so := (sum_top h.2.1 f2 (by omega)).1
  rw [h.2.2] at so f2 f3
  have rp := replN_ok (n := topT (treeOf c)) (mid := buildT (rowK (firstS m Q + g) (lastE 0 P) M2)) (from_ := ((rowK (lastE 0 P) 0 P).length : Int)) (to := ((rowK (firstS m Q) 0 (P ++ M)).length : Int)) h.2.1 (by rw [h.2.2]; exact f2) (by rw [h.2.2]; omega) bo1 (by rw [bo2]; omega) (by omega) (by omega) (by omega)
  obtain ⟨_, _, _, _, _, rp6, rp7⟩ := rp
  have eU : updCR c old now (weaveI (some (n, L, ()))) l = (some (replN (topT (treeOf c)) (buildT (rowK (firstS m Q + g) (lastE 0 P) M2)) ((rowK (lastE 0 P) 0 P).length : Int) ((rowK (firstS m Q) 0 (P ++ M)).length : Int), ()), 0, ()) := by
    unfold updCR
    rw [p1, eE, eW]
    simp only
    rw [eR]
    unfold replT
    rw [nt, so, if_neg (by omega), if_neg (by simp), if_neg]
    · rfl
    · rw [w64_id (n := ((rowK (firstS m Q) 0 (P ++ M)).length : Int) - ((rowK (lastE 0 P) 0 P).length : Int)) (by omega) (by omega), w64_id (n := ((rowK m 0 a).length : Int) - _) (by omega) (by omega), w64_id (by omega) (by omega)]
      omega
  refine ⟨some ((updCR c old now (weaveI (some (n, L, ()))) l).1, ()), ?_, by simp, fun ho => ?_⟩
  · unfold updC
    rw [s1, s2, f4, p1, eW, eE]
    rw [if_neg, if_neg (by simp), if_neg (by rw [eU]; simp)]
    rw [(rightL_iff 0 l hn0).2 hl]
    have x1 : fitsW old m = true := by unfold fitsW; simp; omega
    have x2 : fitsW now m2 = true := by unfold fitsW; simp; omega
    rw [x1, x2, decide_eq_true k0.symm, hd, decide_eq_true rfl]
    decide
  · rw [eU]
    refine ⟨by simp, rp6, ?_⟩
    show items (replN _ _ _ _) = _
    rw [rp7, h.2.2, bo2, toNat_cast, toNat_cast]
    have bd : ∀ x ∈ Q2, 0 ≤ x.1 ∧ x.2.1 ≤ 1000000 := fun x hx => by
      have := spans_all wsp x (by rw [eb]; exact List.mem_append_right _ (List.mem_append_right _ hx))
      omega
    rw [ea, outA_mid rfl rfl h1 aP aM aQ, eb, outB_mid (g := g) rfl rfl (by omega) (by omega) k1 bP bM bQ bd] at ho
    have eP : P = P2 := by
      have := congrArg (List.filter fun x : Span => decide (x.2.1 ≤ old.1)) ho
      rw [List.filter_append, List.filter_append, filter_all (l := P), filter_nil (l := Q), filter_all (l := P2), filter_nil (l := Q2.map (shiftS (-g)))] at this
      · simpa using this
      · intro x hx
        obtain ⟨y, hy, e⟩ := List.mem_map.1 hx
        have := bQ y hy
        rw [← e]
        unfold shiftS
        simp
        omega
      · intro x hx
        have := bP x hx
        simp
        omega
      · intro x hx
        have := aQ x hx
        simp
        omega
      · intro x hx
        have := aP x hx
        simp
        omega
    subst eP
    have eQ : Q = Q2.map (shiftS (-g)) := List.append_cancel_left ho
    have eQ2 : Q2 = Q.map (shiftS g) := by
      rw [eQ, List.map_map]
      have : (shiftS g ∘ shiftS (-g)) = id := by
        funext x
        obtain ⟨x1, x2, ⟨⟩⟩ := x
        show ((x1 + -g + g, x2 + -g + g, ()) : Span) = (x1, x2, ())
        rw [show x1 + -g + g = x1 by omega, show x2 + -g + g = x2 by omega]
      rw [this, List.map_id]
    have ef : firstS m2 Q2 = firstS m Q + g := by
      rw [eQ2]
      cases Q with
      | nil => show m2 = m + g; omega
      | cons x r => rfl
    have em : m2 = m + g := by omega
    have rr : rowK m2 0 b = rowK (lastE 0 P) 0 P ++ (rowK (firstS m Q + g) (lastE 0 P) M2 ++ rowK m (firstS m Q) Q) := by
      rw [eb, row_left, row_right, ef]
      congr 2
      rw [eQ2, em]
      exact row_shift _ _
    rw [rr, r2]
    have t1 : (rowK (firstS m Q) 0 (P ++ M) ++ rowK m (firstS m Q) Q).take (rowK (lastE 0 P) 0 P).length = rowK (lastE 0 P) 0 P := by
      rw [r1, List.append_assoc]
      exact List.take_left ..
    rw [t1, List.drop_left, List.append_assoc]
end Go.Fr.Z16
namespace Go.Fr.Z16
open Go Go.Fr Go.Proofs
theorem made_same {s : Option ISet} {w : WSet} (h : Made s w) : newW w.1 w.2.1 = w ∧ w.2.2.1 = 0 ∧ w.2.1.length ≤ 60 := by
  obtain ⟨n, L, _, e, h1, h2, h3⟩ := h
  subst e
  refine ⟨?_, rfl, ?_⟩
  · show newW n L = (n, L, 0, ())
    rw [newW_fst h1, h2, sort_id (wrong_zero.1 h1).2.2.2 h3]
  · have := (wrong_zero.1 h1).2.1
    show L.length ≤ 60
    omega
theorem splice_made {s : Option ISet} {w : WSet} (h : Made s w) (rm : List Int) (add : List Inl) (h0 : (spliceW w rm add).2.2.1 = 0) : ∃ s', Made s' (spliceW w rm add) ∧ (spliceW w rm add).1 = w.1 := by
  rcases splice_same h rm add with ⟨_, h2⟩ | ⟨_, h1, h2⟩
  · rw [h2] at h0; cases h0
  · rw [h2] at h0 ⊢
    have hw : wrongN (lenI s) (left (allI s) rm ++ add) = 0 := by rw [← (code_ok _ _).2.2]; exact h0
    refine ⟨_, made_new hw, ?_⟩
    rw [newW_fst hw]
    exact (made_ok h).2.2.2.1.symm
theorem fits2_of {n m : Int} {o w : Span} (h : (fitsW o n && (fitsW w m && (decide (o.1 = w.1) && decide (w64 (n - o.2.1) = w64 (m - w.2.1))))) = true) : fits2 n m o w = true := by
  unfold fitsW at h
  unfold fits2
  simp only [Bool.and_eq_true, decide_eq_true_eq] at h ⊢
  obtain ⟨⟨⟨h1, h2⟩, h3⟩, ⟨⟨h4, h5⟩, h6⟩, h7, h8⟩ := h
  exact ⟨⟨⟨⟨⟨⟨h1, h2⟩, h3⟩, h7.symm⟩, h5⟩, h6⟩, h8⟩
theorem fits2_to {n m : Int} {o w : Span} (h : fits2 n m o w = true) : 0 ≤ o.1 ∧ o.1 ≤ o.2.1 ∧ o.2.1 ≤ n ∧ w.1 = o.1 ∧ w.1 ≤ w.2.1 ∧ w.2.1 ≤ m ∧ w64 (n - o.2.1) = w64 (m - w.2.1) := by
  unfold fits2 at h
  simp only [Bool.and_eq_true, decide_eq_true_eq] at h
  obtain ⟨⟨⟨⟨⟨⟨h1, h2⟩, h3⟩, h4⟩, h5⟩, h6⟩, h7⟩ := h
  exact ⟨h1, h2, h3, h4, h5, h6, h7⟩
theorem p7 : vc7 := by
  unfold vc7
  simp only [eq_self, true_and, and_true, decide_eq_true_eq, decide_eq_false_iff_not, beq_iff_eq, beq_eq_false_iff_ne, bne_iff_ne, bne_eq_false_iff_eq, ne_eq, Bool.not_eq_true', Bool.not_eq_false']
  rintro ⟨⟨n, l, hid, ⟨⟩⟩, ⟨⟨af, at_, ⟨⟩⟩, rm, add, hid2, ⟨⟩⟩, ⟨⟩⟩
  simp only
  rintro ⟨h1, h2, h3, h4, h5, h6⟩
  refine ⟨⟨h1, h2⟩, fun _ => trivial, fun hl => ⟨h2, fun _ => trivial, fun hr => ⟨fun _ => trivial, fun g1 => ⟨fun _ => trivial, fun g2 => ⟨fun _ => trivial, fun g3 => ?_⟩⟩⟩⟩⟩
  obtain ⟨L, hw, e1, e2, b1, b2, b3, b4, b5, b6, b7, b8⟩ := text_all hl
  have okw0 := (made_ok b7).2.2.1
  have spm := splice_made b7 rm add
  rw [e1] at okw0 spm b4 ⊢
  refine ⟨⟨h1, b5⟩, ⟨okw0, by omega, by omega, h6⟩, fun _ => trivial, fun g4 => ?_⟩
  obtain ⟨s', ms, mn⟩ := spm g4
  obtain ⟨k1, k2, k3⟩ := made_same ms
  generalize spliceW (n, L, 0, ()) rm add = w2 at *
  obtain ⟨n2, L2, er2, ⟨⟩⟩ := w2
  have mn : n2 = n := mn
  have k2 : er2 = 0 := k2
  subst mn
  subst k2
  have k3 : L2.length ≤ 60 := k3
  have k1 : newW n2 L2 = (n2, L2, 0, ()) := k1
  simp only at *
  refine ⟨⟨by rw [maxLen_eq]; omega, h5⟩, fun _ => trivial, fun hl2 => ⟨fun _ => trivial, fun g5 => ⟨fun _ => trivial, fun g6 => ⟨fun _ => trivial, fun g7 => ?_⟩⟩⟩⟩
  obtain ⟨L', hw2, e1', e2', b1', b2', b3', b4', b5', b6', b7', b8'⟩ := text_all hl2
  have eL : L' = L2 := by
    rw [k1] at e1'
    exact (congrArg (fun w : WSet => w.2.1) e1').symm
  subst eL
  have lb := wok_lens hw
  have lb2 := wok_lens hw2
  have nn0 := hw.1
  have sp : Spans 0 n2 hid := (rightL_iff 0 hid hw.1).1 hr
  obtain ⟨c1, c2⟩ := newC_ok hw sp (by omega)
  have ll : (wovenS L hid).length = hid.length := List.length_map _
  have ws := wok_spans hw sp
  have hm : n2 + lens L ≤ 1000000 := by omega
  have ok := cr_ok c2 hm ws (by omega)
  have ic := isC_ok (u := ()) hw sp (by omega) e1 c2
  have ez := sizeT_ok (hid := hid) (u := ()) hw e1
  have ep := placesT_ok (u := ()) hw e1 sp
  have ez2 := sizeT_ok (hid := hid2) (u := ()) hw2 k1
  have pl2 := places_len (n2, L', hid2, ())
  have sm2 : smallW (n2, L', 0, ()) := by rw [k1] at b4'; exact b4'
  have ref : ∀ a bias, 0 ≤ a → a ≤ n2 → refOut (n2, L, 0, ()) a bias = a + lensA a bias L := fun a bias h0 h1 => refOut_ok hw.2.2.1 hw.2.2.2 h0 h1 (by omega)
  have ref2 : ∀ a bias, 0 ≤ a → a ≤ n2 → refOut (n2, L', 0, ()) a bias = a + lensA a bias L' := fun a bias h0 h1 => refOut_ok hw2.2.2.1 hw2.2.2.2 h0 h1 (by omega)
  have inn : (weaveI (some (n2, L', ()))).isNone = false := by
    rw [(weave_ok hw2.1 (by omega) hw2.2.2.1 hw2.2.2.2).1]
    rfl
  obtain ⟨z1, z2, z3⟩ := sizes_w hw2
  have w8 := (sizes_w hw).2.2
  have o1 := lensA_nn af 0 L
  have o2 := lensA_le at_ 1 L
  have o3 := lensA_mono (a := af) (b := 0) (c := at_) (d := 1) (l := L) (fun y _ hh => by unfold isAhead at hh ⊢; omega)
  rw [k1] at b4' ⊢
  rw [e2, e2', c1]
  simp only
  rw [ref af 0 (by omega) (by omega), ref at_ 1 (by omega) (by omega), ref2 af 0 (by omega) (by omega), ref2 at_ 1 (by omega) (by omega)]
  rw [ez, ez2, ep, inn]
  have cnn : (some (some (buildT (rowK (n2 + lens L) 0 (wovenS L hid)), ()), ()) : Wve).isNone = false := rfl
  rw [cnn]
  have f4 := (cr_fine c2 hm ws (by omega)).2.2.2.1
  generalize (some (some (buildT (rowK (n2 + lens L) 0 (wovenS L hid)), ()), ()) : Wve) = c at *
  generalize hO : ((af + lensA af 0 L, at_ + lensA at_ 1 L, ()) : Span) = O at *
  generalize hN : ((af + lensA af 0 L', at_ + lensA at_ 1 L', ()) : Span) = N at *
  have O1 : af + lensA af 0 L = O.1 := by rw [← hO]
  have O2 : at_ + lensA at_ 1 L = O.2.1 := by rw [← hO]
  have N1 : af + lensA af 0 L' = N.1 := by rw [← hN]
  have N2 : at_ + lensA at_ 1 L' = N.2.1 := by rw [← hN]
  have badU : rightL n2 0 hid2 = false ∨ fits2 (n2 + lens L) (n2 + lens L') O N = false → updC c O N (weaveI (some (n2, L', ()))) hid2 = (none, 1, ()) := fun hb => by
    unfold updC
    rw [if_pos]
    rw [z1, z2, f4]
    rcases hb with hb | hb
    · rw [hb, Bool.false_and]
    · rw [Bool.and_eq_false_iff]
      refine .inr ?_
      cases hh : (fitsW O (n2 + lens L) && (fitsW N (n2 + lens L') && (decide (O.1 = N.1) && decide (w64 (n2 + lens L - O.2.1) = w64 (n2 + lens L' - N.2.1))))) with
      | false => rfl
      | true => rw [fits2_of hh] at hb; cases hb
  have isb : ∀ {U : Wve × Int × Unit}, U = (none, 1, ()) → (U.2.1 = 1 → (U.1.isNone = true → True) ∧ (U.1.isNone = false → false = true)) ∧ (¬ U.2.1 = 1 → false = true) := fun hU => by
    rw [hU]
    exact ⟨fun _ => ⟨fun _ => trivial, fun h => by cases h⟩, fun h => absurd rfl h⟩
  have b30 : hid2.length ≤ 100 := by omega
  have m9 : hid2.length ≤ 9223372036854775807 := by omega
  have y1 : (wovenS L hid).length ≤ maxLen := by rw [maxLen_eq]; omega
  have y2 : (placesT (n2, L', hid2, ())).length ≤ maxLen := by rw [pl2, maxLen_eq]; exact m9
  have y3 : (placesT (n2, L', hid2, ())).length ≤ 100000 := by rw [pl2]; show hid2.length ≤ 100000; omega
  have y4 : (wovenS L hid).length ≤ 100000 := by omega
  refine ⟨⟨h1, b5⟩, ⟨w8, by omega⟩, ⟨by rw [maxLen_eq]; omega, b5'⟩, fun h => absurd trivial h, fun _ => ⟨fun h => (by cases h), fun _ => ⟨fun h => (by cases h), fun _ => ?_⟩⟩⟩
  refine ⟨⟨h1, b5⟩, b4, b4, sm2, sm2, ⟨ok.1, z3, by omega⟩, h5, fun hq => isb (badU (.inl hq)), fun hr2 => ⟨⟨b3, b4⟩, ⟨b3', b4'⟩, fun hq => isb (badU (.inr hq)), fun hf2 => ?_⟩⟩
  have sp2 : Spans 0 n2 hid2 := (rightL_iff 0 hid2 hw.1).1 hr2
  have ep2 := placesT_ok (u := ()) hw2 k1 sp2
  rw [ep2] at y2 y3 ⊢
  obtain ⟨q1, q2, q3, q4, q5, q6, q7⟩ := fits2_to hf2
  rw [w64_id (by omega) (by omega), w64_id (by omega) (by omega)] at q7
  have bad : (acrossL (wovenS L hid) O.1 = true ∨ acrossL (wovenS L hid) O.2.1 = true ∨ acrossL (wovenS L' hid2) N.1 = true ∨ acrossL (wovenS L' hid2) N.2.1 = true) → updC c O N (weaveI (some (n2, L', ()))) hid2 = (none, 1, ()) := fun hb =>
    updC_bad hw2 c2 hm ws (by omega) sp2 q1 q2 q3 hb
  refine ⟨⟨b3, b4⟩, ⟨b3', b4'⟩, y1, fun hq => isb (bad (.inl (by rw [← O1]; exact hq))), fun a1 => ⟨y1, fun hq => isb (bad (.inr (.inl (by rw [← O2]; exact hq)))), fun a2 => ⟨y2, fun hq => isb (bad (.inr (.inr (.inl (by rw [← N1]; exact hq))))), fun a3 => ⟨y2, fun hq => isb (bad (.inr (.inr (.inr (by rw [← N2]; exact hq))))), fun a4 => ?_⟩⟩⟩⟩
  rw [O1] at a1
  rw [O2] at a2
  rw [N1] at a3
  rw [N2] at a4
  obtain ⟨d, eU, dn, hd⟩ := updC_ok hw2 c2 (by omega) ws (by omega) sp2 (by omega) q1 q2 q3 q4 q5 q6 q7 a1 a2 a3 a4
  rw [eU]
  simp only
  have dns : d.isNone = false := by
    cases d with
    | none => exact absurd rfl dn
    | some d => rfl
  rw [dns, ic]
  refine ⟨fun h => absurd trivial h, fun _ => ⟨fun h => (by cases h), fun _ => ⟨⟨b3, b4, ok.2.2⟩, fun h => (by cases h), fun _ => ⟨⟨by have := hw.2.2.1; omega, by omega⟩, fun _ => trivial, fun hb => ⟨⟨y4, y3⟩, fun _ => trivial, fun ho => ?_⟩⟩⟩⟩⟩
  have ll2 : (wovenS L' hid2).length = hid2.length := List.length_map _
  have cd := hd (by
    unfold outsideB at ho
    exact of_decide_eq_true ho)
  have okd := cr_ok cd (by omega) (wok_spans hw2 sp2) (by omega)
  have icd := isC_ok (u := ()) hw2 sp2 (by omega) k1 cd
  rw [icd]
  exact ⟨⟨b3', b4', okd.2.2⟩, fun _ => trivial, fun h => by cases h⟩
end Go.Fr.Z16
namespace Go.Fr.Z16
open Go Go.Fr Go.Proofs
end Go.Fr.Z16
namespace Go.Fr.Z16
open Go Go.Fr Go.Proofs
set_option maxRecDepth 100000
end Go.Fr.Z16
namespace Go.Fr.Z16
open Go Go.Fr Go.Proofs Go.Sort
end Go.Fr.Z16
namespace Go.Fr.Z16
open Go Go.Fr Go.Proofs Go.Sort
end Go.Fr.Z16
namespace Go.Fr.Z16
open Go Go.Fr Go.Proofs
set_option maxRecDepth 100000
def hs56 : List (Nat × Nat × Hint) := []
def nm56 : List Nat := [3000000062]
noncomputable def E56 : Env := env tab [] [] gl hs56 nm56
def vc56 : Prop :=
 ∀ (x : (Int × Int × Unit) × Int × Unit),
 True →
 (decide (x.fst.fst ≥ (0 : Int)) = true →
 (decide (x.fst.snd.fst ≥ x.fst.fst) = true → decide (x.fst.snd.fst ≤ x.snd.fst) = fitsW x.fst x.snd.fst) ∧
 (decide (x.fst.snd.fst ≥ x.fst.fst) = false → false = fitsW x.fst x.snd.fst)) ∧
 (decide (x.fst.fst ≥ (0 : Int)) = false → false = fitsW x.fst x.snd.fst)
theorem vcEq56 : fnVC E56 Tryz.f56 (bodyOf Tryz.f56) cFits = vc56 := by kernel_rfl
end Go.Fr.Z16
namespace Go.Fr.Z16
open Go Go.Fr Go.Proofs
theorem p56 : vc56 := by
  unfold vc56
  simp only [decide_eq_true_eq, decide_eq_false_iff_not]
  rintro ⟨s, n, ⟨⟩⟩ -
  simp only
  refine ⟨fun h1 => ⟨fun h2 => ?_, fun h2 => ?_⟩, fun h1 => ?_⟩
  · unfold fitsW
    rw [decide_eq_true (show 0 ≤ s.1 from h1), decide_eq_true (show s.1 ≤ s.2.1 from h2)]
    rfl
  · unfold fitsW
    rw [decide_eq_false (show ¬ s.1 ≤ s.2.1 from h2)]
    simp
  · unfold fitsW
    rw [decide_eq_false (show ¬ 0 ≤ s.1 from h1)]
    rfl
theorem p28 : vc28 := by
  unfold vc28
  simp only [decide_eq_true_eq, decide_eq_false_iff_not, beq_iff_eq, beq_eq_false_iff_ne, ne_eq]
  rintro ⟨n, m, ⟨o, w, ⟨⟩⟩, ⟨⟩⟩
  simp only []
  have yes : ∀ b : Bool, o.1 ≥ 0 → o.1 ≤ o.2.1 → o.2.1 ≤ n → w.1 = o.1 → w.1 ≤ w.2.1 → w.2.1 ≤ m → b = decide (w64 (n - o.2.1) = w64 (m - w.2.1)) → b = fits2 n m o w := fun b h1 h2 h3 h4 h5 h6 hb => by
    unfold fits2
    rw [decide_eq_true h1, decide_eq_true h2, decide_eq_true h3, decide_eq_true h4, decide_eq_true h5, decide_eq_true h6, hb]
    rfl
  have no : ¬ (o.1 ≥ 0 ∧ o.1 ≤ o.2.1 ∧ o.2.1 ≤ n ∧ w.1 = o.1 ∧ w.1 ≤ w.2.1 ∧ w.2.1 ≤ m) → false = fits2 n m o w := fun h => by
    cases hf : fits2 n m o w with
    | false => rfl
    | true =>
      unfold fits2 at hf
      simp only [Bool.and_eq_true, decide_eq_true_eq] at hf
      exact absurd ⟨hf.1.1.1.1.1.1, hf.1.1.1.1.1.2, hf.1.1.1.1.2, hf.1.1.1.2, hf.1.1.2, hf.1.2⟩ h
  (repeat' (first | with_reducible apply And.intro | with_reducible intro _))
  all_goals first
    | decide
    | exact yes _ (by assumption) (by assumption) (by assumption) (by assumption) (by assumption) (by assumption) rfl
    | exact no (by omega)
theorem p26 : vc26 := by
  unfold vc26
  simp only [eq_self, true_and, and_true, decide_eq_true_eq, decide_eq_false_iff_not, beq_iff_eq, beq_eq_false_iff_ne, bne_iff_ne, bne_eq_false_iff_eq, Bool.not_eq_true', Bool.not_eq_false', ne_eq, imp_true_iff, implies_true]
  rintro ⟨⟨n, l, e, ⟨⟩⟩, a, b, ⟨⟩⟩
  simp only [maxLen_eq, dInl]
  rintro ⟨h1, h2, h3⟩
  simp only at h1 h2
  have e : ∀ m, m = refOut (n, l, e, ()) a b ↔ m = l.foldl (fun n x => if x.2.1 < a ∨ (x.2.1 = a ∧ b = 1) then w64 (n + lenT x) else n) a := fun m => Iff.rfl
  simp only [e]
  generalize hf : (fun (n : Int) (x : Inl) => if x.2.1 < a ∨ (x.2.1 = a ∧ b = 1) then w64 (n + lenT x) else n) = f
  refine ⟨fun z => ∃ k : Nat, k ≤ l.length ∧ z.2.1 = (k : Int) ∧ z.1 = (l.take k).foldl f a, fun z => l.length - z.2.1.toNat, ⟨0, Nat.zero_le _, rfl, rfl⟩, ?_⟩
  rintro m i ⟨k, hk, hi, hm⟩
  simp only at hi hm
  subst hi
  refine ⟨fun g1 => ?_, fun g1 => ?_⟩
  · have hlt : k < l.length := by omega
    have hw : IntKind.i64.wrap ((k : Int) + 1) = ((k + 1 : Nat) : Int) := wrap_succ (by omega)
    rw [toNat_cast, hw]
    simp only [toNat_cast]
    have hx := h2 _ (getD_in zI0 hlt)
    generalize hx' : l.getD k zI0 = x at hx ⊢
    have ht : (l.take (k + 1)).foldl f a = f m x := by
      rw [take_one zI0 hlt, List.foldl_append, ← hm, hx']
      rfl
    have hs : ByteArray.size x.2.2.2.2.1 ≤ 1000000000 := Nat.le_trans hx (by decide)
    have dec : l.length - (k + 1) < l.length - k := by omega
    have y : (x.2.1 < a ∨ (x.2.1 = a ∧ b = 1)) → (∃ k' : Nat, k' ≤ l.length ∧ ((k + 1 : Nat) : Int) = (k' : Int) ∧ IntKind.i64.wrap (m + ((decodeL x.2.2.2.2.1).length : Int)) = (l.take k').foldl f a) := fun h => ⟨k + 1, hlt, rfl, by
      rw [ht, ← hf]
      show _ = if _ then _ else _
      rw [if_pos h]
      rfl⟩
    have n : ¬ (x.2.1 < a ∨ (x.2.1 = a ∧ b = 1)) → (∃ k' : Nat, k' ≤ l.length ∧ ((k + 1 : Nat) : Int) = (k' : Int) ∧ m = (l.take k').foldl f a) := fun h => ⟨k + 1, hlt, rfl, by
      rw [ht, ← hf]
      show _ = if _ then _ else _
      rw [if_neg h]⟩
    (repeat' (first | apply And.intro | intro _))
    all_goals first
      | omega
      | exact hs
      | exact y (.inl (by assumption))
      | exact y (.inr ⟨by assumption, by assumption⟩)
      | exact n (by omega)
      | exact dec
  · have hke : k = l.length := by omega
    rw [hm, hke, List.take_length]
end Go.Fr.Z16
namespace Go.Fr.Z16
open Go Go.Fr Go.Proofs
set_option maxRecDepth 100000
def hs75 : List (Nat × Nat × Hint) := []
def nm75 : List Nat := [3000000062]
noncomputable def E75 : Env := env tab [] [] gl hs75 nm75
def vc75_0 : Prop :=
 ∀ (s : Int × (Int × Int × Int × Unit) × Int × Int × Unit),
 (((0 : Int) == (3 : Int)) = true → s.fst = sizeD s (0 : Int)) ∧
 (((0 : Int) == (3 : Int)) = false →
 ((0 : Int) ≤ (0 : Int) ∧ (0 : Int) < (↑(3 : Nat) : Int)) ∧ s.snd.fst.fst = sizeD s (0 : Int))
theorem vcEq75_0 : (∀ s : Sm, fnVCat E75 Tryz.f75 (bodyOf Tryz.f75) cSizeD (s, (0 : Int), ())) = vc75_0 := by kernel_rfl
def vc75_1 : Prop :=
 ∀ (s : Int × (Int × Int × Int × Unit) × Int × Int × Unit),
 (((1 : Int) == (3 : Int)) = true → s.fst = sizeD s (1 : Int)) ∧
 (((1 : Int) == (3 : Int)) = false →
 ((0 : Int) ≤ (1 : Int) ∧ (1 : Int) < (↑(3 : Nat) : Int)) ∧ s.snd.fst.snd.fst = sizeD s (1 : Int))
theorem vcEq75_1 : (∀ s : Sm, fnVCat E75 Tryz.f75 (bodyOf Tryz.f75) cSizeD (s, (1 : Int), ())) = vc75_1 := by kernel_rfl
def vc75_2 : Prop :=
 ∀ (s : Int × (Int × Int × Int × Unit) × Int × Int × Unit),
 (((2 : Int) == (3 : Int)) = true → s.fst = sizeD s (2 : Int)) ∧
 (((2 : Int) == (3 : Int)) = false →
 ((0 : Int) ≤ (2 : Int) ∧ (2 : Int) < (↑(3 : Nat) : Int)) ∧ s.snd.fst.snd.snd.fst = sizeD s (2 : Int))
theorem vcEq75_2 : (∀ s : Sm, fnVCat E75 Tryz.f75 (bodyOf Tryz.f75) cSizeD (s, (2 : Int), ())) = vc75_2 := by kernel_rfl
def vc75_3 : Prop :=
 ∀ (s : Int × (Int × Int × Int × Unit) × Int × Int × Unit),
 (((3 : Int) == (3 : Int)) = true → s.fst = sizeD s (3 : Int)) ∧
 (((3 : Int) == (3 : Int)) = false →
 ((0 : Int) ≤ (3 : Int) ∧ (3 : Int) < (↑(3 : Nat) : Int)) ∧ s.snd.snd.fst = sizeD s (3 : Int))
theorem vcEq75_3 : (∀ s : Sm, fnVCat E75 Tryz.f75 (bodyOf Tryz.f75) cSizeD (s, (3 : Int), ())) = vc75_3 := by kernel_rfl
end Go.Fr.Z16
namespace Go.Fr.Z16
open Go Go.Fr Go.Proofs
set_option maxRecDepth 100000
theorem zero_three {d : Int} (h : 0 ≤ d ∧ d ≤ 3) : d = 0 ∨ d = 1 ∨ d = 2 ∨ d = 3 := by omega
theorem v75 : fnVC E75 Tryz.f75 (bodyOf Tryz.f75) cSizeD := by
  refine fnVC_at fun x h => ?_
  obtain ⟨s, d, ⟨⟩⟩ := x
  have hd := zero_three h
  have q0 : vc75_0 := fun s => ⟨fun h => (by cases h), fun _ => ⟨⟨by decide, by decide⟩, rfl⟩⟩
  have q1 : vc75_1 := fun s => ⟨fun h => (by cases h), fun _ => ⟨⟨by decide, by decide⟩, rfl⟩⟩
  have q2 : vc75_2 := fun s => ⟨fun h => (by cases h), fun _ => ⟨⟨by decide, by decide⟩, rfl⟩⟩
  have q3 : vc75_3 := fun s => ⟨fun _ => rfl, fun h => by cases h⟩
  rcases hd with rfl | rfl | rfl | rfl
  · exact (vcEq75_0 ▸ q0 : ∀ s : Sm, fnVCat E75 Tryz.f75 (bodyOf Tryz.f75) cSizeD (s, (0 : Int), ())) s
  · exact (vcEq75_1 ▸ q1 : ∀ s : Sm, fnVCat E75 Tryz.f75 (bodyOf Tryz.f75) cSizeD (s, (1 : Int), ())) s
  · exact (vcEq75_2 ▸ q2 : ∀ s : Sm, fnVCat E75 Tryz.f75 (bodyOf Tryz.f75) cSizeD (s, (2 : Int), ())) s
  · exact (vcEq75_3 ▸ q3 : ∀ s : Sm, fnVCat E75 Tryz.f75 (bodyOf Tryz.f75) cSizeD (s, (3 : Int), ())) s
end Go.Fr.Z16
namespace Go.Fr
open Go Go.RowKit Go.Proofs Go.Sort
section
variable {B : Nat} {w w' : World} {h : PHeap}
def encT : (T : Ty) → T.den → List Value
  | .bool, b => [.bool b]
  | .int k, n => [.int k n]
  | .str, s => [.string s]
  | .unit, _ => []
  | .sl _, _ => []
  | .opt _, _ => []
  | .mp _ _, _ => []
  | .nd _ _ _ _, _ => []
  | .pair a b, x => encT a x.1 ++ encT b x.2
theorem enc_rep : (T : Ty) → T.flat = true → (x : T.den) → rep h T x (encT T x)
  | .bool, _, _ => rfl
  | .int _, _, _ => rfl
  | .str, _, _ => rfl
  | .unit, _, _ => rfl
  | .sl _, e, _ => by cases e
  | .opt _, e, _ => by cases e
  | .mp _ _, e, _ => by cases e
  | .nd _ _ _ _, e, _ => by cases e
  | .pair a b, e, x => by
    simp only [Ty.flat, Bool.and_eq_true] at e
    exact ⟨_, _, rfl, enc_rep a e.1 x.1, enc_rep b e.2 x.2⟩
theorem rep_enc : (T : Ty) → T.flat = true → (x : T.den) → (cs : List Value) → rep h T x cs → cs = encT T x
  | .bool, _, _, _, e => e
  | .int _, _, _, _, e => e
  | .str, _, _, _, e => e
  | .unit, _, _, _, e => e
  | .sl _, e, _, _, _ => by cases e
  | .opt _, e, _, _, _ => by cases e
  | .mp _ _, e, _, _, _ => by cases e
  | .nd _ _ _ _, e, _, _, _ => by cases e
  | .pair a b, e, x, cs, ⟨c1, c2, q, h1, h2⟩ => by
    simp only [Ty.flat, Bool.and_eq_true] at e
    rw [q, rep_enc a e.1 x.1 c1 h1, rep_enc b e.2 x.2 c2 h2]
    rfl
theorem row_enc {T : Ty} (hf : T.flat = true) : (xs : List T.den) → (cs : List Value) → RowCells h T xs cs → cs = xs.flatMap (encT T)
  | [], _, e => by simp only [RowCells] at e; subst e; rfl
  | x :: xs, _, ⟨d, r, e, h1, h2⟩ => by
    subst e
    rw [row_enc hf xs r h2, rep_enc T hf x d h1]
    rfl
theorem enc_row {T : Ty} (hf : T.flat = true) : (xs : List T.den) → RowCells h T xs (xs.flatMap (encT T))
  | [] => rfl
  | x :: xs => ⟨encT T x, xs.flatMap (encT T), rfl, enc_rep T hf x, enc_row hf xs⟩
theorem enc_len {T : Ty} (hf : T.flat = true) (x : T.den) : (encT T x).length = T.size := rep_len (h := fun _ => none) T x _ (enc_rep T hf x)
theorem flatMap_get {T : Ty} (hf : T.flat = true) (d0 : T.den) : (xs : List T.den) → (j : Nat) → j < xs.length * T.size → (xs.flatMap (encT T))[j]? = (encT T (xs.getD (j / T.size) d0))[j % T.size]?
  | [], j, hj => by simp at hj
  | x :: xs, j, hj => by
    have hl := enc_len hf x
    have h0 : 0 < T.size := by
      rcases Nat.eq_zero_or_pos T.size with e | e
      · rw [e, Nat.mul_zero] at hj; omega
      · exact e
    rw [List.flatMap_cons]
    by_cases hlt : j < T.size
    · rw [List.getElem?_append_left (by omega), Nat.div_eq_of_lt hlt, Nat.mod_eq_of_lt hlt]
      rfl
    · rw [List.getElem?_append_right (by omega), hl, flatMap_get hf d0 xs (j - T.size) (by simp only [List.length_cons, Nat.add_mul] at hj; omega)]
      have e : j = (j - T.size) + T.size := by omega
      have e1 : j / T.size = (j - T.size) / T.size + 1 := by
        conv => lhs; rw [e]
        exact Nat.add_div_right _ h0
      have e2 : j % T.size = (j - T.size) % T.size := by
        conv => lhs; rw [e]
        exact Nat.add_mod_right _ _
      rw [e1, e2]
      rfl
theorem flat_list {T : Ty} (hf : T.flat = true) [Inhabited T.den] (xs : List T.den) : flatK (encT T) T.size xs.toArray = (xs.flatMap (encT T)).toArray := by
  have hlen : (xs.flatMap (encT T)).length = xs.length * T.size := by
    have := RowCells_len (h := fun _ => none) T xs _ (enc_row hf xs)
    exact this
  apply Array.ext
  · simp [hlen]
  · intro j h1 h2
    have hj : j < xs.length * T.size := by simpa [hlen] using h2
    have g := get_flatK (encT T) T.size xs.toArray (t := j) (by simpa using hj)
    rw [getElem!_pos _ j h1] at g
    rw [g]
    have := flatMap_get hf default xs j hj
    have h0 : 0 < T.size := by
      rcases Nat.eq_zero_or_pos T.size with e | e
      · rw [e, Nat.mul_zero] at hj; omega
      · exact e
    have hd : j / T.size < xs.length := Nat.div_lt_of_lt_mul (by rw [Nat.mul_comm]; exact hj)
    have e1 : xs.toArray[j / T.size]! = xs.getD (j / T.size) default := by
      simp [List.getD, hd]
    rw [e1]
    have hm : j % T.size < (encT T (xs.getD (j / T.size) default)).length := by rw [enc_len hf]; exact Nat.mod_lt _ h0
    rw [List.getElem?_eq_getElem hm] at this
    rw [getElem!_pos (encT T (xs.getD (j / T.size) default)) (j % T.size) hm]
    have h2' : (xs.flatMap (encT T))[j]? = some ((xs.flatMap (encT T)).toArray[j]) := by simp
    rw [h2'] at this
    injection this with this
    exact this.symm
theorem grow_of {w w' : World} (hb : Below w.heap.size w w') : ∃ q os', w' = Sort.grow (w.drewN q) os' := by
  refine ⟨w'.drawn - w.drawn, w'.heap.extract w.heap.size w'.heap.size, ?_⟩
  have hheap : w'.heap = w.heap ++ w'.heap.extract w.heap.size w'.heap.size := by
    apply Array.ext_getElem?
    intro i
    rw [Array.getElem?_append]
    split
    · rename_i hi; exact hb.block i hi
    · rename_i hi
      rw [Array.getElem?_extract]
      by_cases hi2 : i < w'.heap.size
      · rw [if_pos (by omega), show w.heap.size + (i - w.heap.size) = i by omega]
      · rw [if_neg (by omega), Array.getElem?_eq_none (by omega)]
  have hd := hb.drawn
  cases w' with
  | mk heap tape drawn os output =>
    simp only [Sort.grow, World.drewN] at *
    have h1 := hb.os
    have h2 := hb.tape
    have h3 := hb.output
    simp only at h1 h2 h3
    rw [← hheap, h1, h2, h3]
    congr 1
    omega
theorem cmp_lays {P : Program} {T : Ty} [Inhabited T.den] (hf : T.flat = true) (ha : T.isAgg = true) {cf : T.den → T.den → Int} {g : FuncId} (hC : CallSpec P noGl g (cOrd T cf)) (blk off size k : Nat) (w : World) :
    CmpLays P g #[] (encT T) k cf blk off size w := by
  intro m os dk hs x y
  have := hC.2 (x, y, ()) (fun _ => none) (sortWorldK (encT T) k w blk off m dk os) [T.val (encT T x), T.val (encT T y)] trivial ⟨_, _, rfl, ⟨_, enc_rep T hf x, rfl⟩, _, _, rfl, ⟨_, enc_rep T hf y, rfl⟩, rfl⟩ (fun k o hk => by cases hk) (fun g T x hg => by cases hg)
  rw [val_agg ha, val_agg ha] at this
  have e : ([Value.agg (encT T x).toArray, Value.agg (encT T y).toArray] ++ tailVals (cOrd T cf).tail).toArray = #[Value.agg (encT T x).toArray, Value.agg (encT T y).toArray] ++ #[] := by simp [tailVals, cOrd]
  rw [e] at this
  refine this.mono ?_
  rintro e w' ⟨v, h', rfl, _, _, _, hr, hb⟩
  refine ⟨?_, grow_of hb⟩
  obtain ⟨cs, q1, q2⟩ := (show vrep h' (.int .i64) (cf x y) v from hr)
  simp only [rep] at q1
  subst q1
  rw [q2]
  rfl
end
end Go.Fr
namespace Go.Fr
open Go Go.RowKit Go.Proofs Go.Sort
section
variable {α : Type}
theorem perm_of_in [Inhabited α] {d d' : Array α} (h : PermIn 0 d.size d d') : d'.toList.Perm d.toList := by
  obtain ⟨hsz, _, hperm⟩ := h
  have e1 : d'.extract 0 d.size = d' := by rw [← hsz]; exact Array.extract_size
  rw [e1, Array.extract_size] at hperm
  exact hperm
theorem sorted_of_in [Inhabited α] {cf : α → α → Int} {d : Array α} {n : Nat} (hn : n = d.size) (h : SortedIn (ltOf cf) 0 n d) : d.toList.Pairwise (fun a b => ¬ cf b a < 0) := by
  subst hn
  rw [List.pairwise_iff_getElem]
  intro i j hi hj hij
  have hi' : i < d.size := by simpa using hi
  have hj' : j < d.size := by simpa using hj
  have := h i j (Nat.zero_le _) hij hj'
  rw [getElem!_pos d j hj', getElem!_pos d i hi'] at this
  have := of_decide_eq_false this
  simpa using this
end
section
theorem sortP_spec {P : Program} {ρ : Shelf.Ren} (L : SlLaysF0.n6 P ρ) {T : Ty} (hf : T.flat = true) (ha : T.isAgg = true) (hpos : 0 < T.size) (aE : ∀ w, (isAgg (ρ.t 24)).run P w = .ok true w) (zE : ∀ w, (Go.sizeOf (ρ.t 24)).run P w = .ok T.size w)
    {f : FuncId} (hρ : ρ.f 6 = f) {e : TypeId} {fn : Func} {cd : Code} (hfn : P.funcs[f]? = some fn) (hname : fn.name ≠ "runtime.NumGoroutine") (hb : fn.body = some cd)
    {cf : T.den → T.den → Int} (hO : Sort.SWO (ltOf cf)) {g : FuncId} (eg : ∀ args w, (callFunc g args).run P w = .ok (.enter g args) w) (hC : CallSpec P noGl g (cOrd T cf)) :
    RSpec P f { t := T, e := e, pre := fun xs => List.length xs ≤ 100000, post := fun xs ys => ys.Perm xs ∧ ys.Pairwise (fun a b => ¬ cf b a < 0), back := false, tail := [g] } := by
  subst hρ
  haveI : Inhabited T.den := ⟨T.dflt⟩
  refine ⟨⟨fn, cd, hfn, hname, hb⟩, ?_⟩
  intro xs h w B v cs hp hpin hB hown hrc hfr
  have hp : List.length xs ≤ 100000 := hp
  have hown : w.ownsRow B e T.size v xs.length cs := hown
  have hrc : RowCells h T xs cs := hrc
  have hcs := row_enc hf xs cs hrc
  subst hcs
  rcases hown.2 with ⟨e0, e1⟩ | ⟨g', cap, cur, e0, f1, f2, f3⟩
  · subst e0
    have hx : xs = [] := List.eq_nil_of_length_eq_zero e1
    subst hx
    refine (AnyF.slices_SortFunc_none L none 0 (.func (.func g) #[] #[]) w).mono ?_
    rintro en w' ⟨rfl, rfl⟩
    exact ⟨_, .slice none 0 0, _, [], rfl, ⟨List.Perm.nil, List.Pairwise.nil⟩, World.ownsRow_nil _ B e T.size, by simp [RowCells], grownBy_refl _ _, ⟨fun g hg => by simp [Value.ownBlock] at hg, rfl⟩⟩
  · subst e0
    have hH : HoldsK (encT T) T.size w g' 0 xs.toArray := by
      unfold HoldsK
      rw [flat_list hf]
      exact row_holds hown
    refine (AnyQ.slices_SortFunc L T.size aE zE (encT T) (enc_len hf) (fun x v hv => rep_one (h := h) T x _ (enc_rep T hf x) v hv) cf hO g #[] g' 0 cap xs.toArray w eg (cmp_lays hf ha hC _ _ _ _ _) hH (lt_of_heap f2) (by simp; omega)).mono ?_
    rintro en w' ⟨rfl, d', q, os, hpm, hso, hw⟩
    have hpl := perm_of_in hpm
    have hsl := sorted_of_in (by have := hpm.1; simp at this ⊢; omega) hso
    generalize hys : d'.toList = ys at hpl hsl
    have hd : d' = ys.toArray := by rw [← hys]
    subst hd
    have hl : ys.length = xs.length := by simpa using hpl.length_eq
    have hw2 : w' = Sort.grow (Sort.putRow id (Sort.ahead w q) g' 0 (ys.flatMap (encT T)).toArray) os := by
      rw [hw]
      unfold sortWorldK putRowK
      rw [flat_list hf]
    have hlen := RowCells_len (h := h) T ys _ (enc_row hf ys)
    rw [hl] at hlen
    obtain ⟨g1, g2⟩ := put_row (m := xs.length) hpos hown hlen (Nat.le_refl _) hw2
    rw [List.take_of_length_le (by rw [hlen]; exact Nat.le_refl _)] at g1
    exact ⟨_, _, ys, _, rfl, ⟨by simpa using hpl, hsl⟩, by rw [hl]; exact g1, enc_row hf _, g2, fun g' hg => .inl hg, rfl⟩
end
end Go.Fr
namespace Go.Proofs
open Go.Shelf
set_option maxRecDepth 100000
def Tryz.lSort_ren : Go.Shelf.Ren := ⟨fun | 6 => 62 | 15 => 92 | 14 => 91 | 28 => 117 | 29 => 118 | 20 => 109 | 21 => 110 | 22 => 111 | 23 => 112 | 24 => 113 | 25 => 114 | 26 => 115 | 27 => 116 | 46 => 124 | 47 => 125 | 48 => 126 | 49 => 127 | 50 => 128 | 57 => 133 | n => n, fun | 22 => 22 | 24 => 68 | 25 => 129 | 3 => 3 | 39 => 171 | 0 => 0 | 53 => 196 | 55 => 198 | 4 => 4 | 46 => 189 | 45 => 188 | 50 => 193 | 5 => 5 | 9 => 9 | 66 => 203 | 70 => 207 | 76 => 211 | 77 => 43 | n => n, fun n => n⟩
theorem Tryz.lSort : SlLaysF0.n6 Tryz.prog Tryz.lSort_ren := {
  mixed := by kernel_rfl,
  f6 := ⟨Tryz.f62.name, by decide, Tryz.func62.trans (by kernel_rfl)⟩,
  f14 := ⟨Tryz.f91.name, by decide, Tryz.func91.trans (by kernel_rfl)⟩,
  f15 := Tryz.func92.trans (by kernel_rfl),
  f20 := ⟨Tryz.f109.name, by decide, Tryz.func109.trans (by kernel_rfl)⟩,
  f21 := ⟨Tryz.f110.name, by decide, Tryz.func110.trans (by kernel_rfl)⟩,
  f22 := ⟨Tryz.f111.name, by decide, Tryz.func111.trans (by kernel_rfl)⟩,
  f23 := ⟨Tryz.f112.name, by decide, Tryz.func112.trans (by kernel_rfl)⟩,
  f24 := ⟨Tryz.f113.name, by decide, Tryz.func113.trans (by kernel_rfl)⟩,
  f25 := ⟨Tryz.f114.name, by decide, Tryz.func114.trans (by kernel_rfl)⟩,
  f26 := ⟨Tryz.f115.name, by decide, Tryz.func115.trans (by kernel_rfl)⟩,
  f27 := ⟨Tryz.f116.name, by decide, Tryz.func116.trans (by kernel_rfl)⟩,
  f28 := Tryz.func117.trans (by kernel_rfl),
  f29 := Tryz.func118.trans (by kernel_rfl),
  f46 := ⟨Tryz.f124.name, by decide, Tryz.func124.trans (by kernel_rfl)⟩,
  f47 := Tryz.func125.trans (by kernel_rfl),
  f48 := Tryz.func126.trans (by kernel_rfl),
  f49 := ⟨Tryz.f127.name, by decide, Tryz.func127.trans (by kernel_rfl)⟩,
  f50 := ⟨Tryz.f128.name, by decide, Tryz.func128.trans (by kernel_rfl)⟩,
  f57 := ⟨Tryz.f133.name, by decide, Tryz.func133.trans (by kernel_rfl)⟩,
  t0 := Tryz.underlying0,
  a0 := Tryz.isAgg0,
  z0 := Tryz.sizeOf0,
  v0 := Tryz.zeroValue0,
  t3 := Tryz.underlying3,
  a3 := Tryz.isAgg3,
  z3 := Tryz.sizeOf3,
  v3 := Tryz.zeroValue3,
  t4 := Tryz.underlying4,
  a4 := Tryz.isAgg4,
  z4 := Tryz.sizeOf4,
  v4 := Tryz.zeroValue4,
  t5 := Tryz.underlying5,
  a5 := Tryz.isAgg5,
  z5 := Tryz.sizeOf5,
  v5 := Tryz.zeroValue5,
  t9 := Tryz.underlying9,
  a9 := Tryz.isAgg9,
  z9 := Tryz.sizeOf9,
  v9 := Tryz.zeroValue9,
  t22 := Tryz.underlying22,
  a22 := Tryz.isAgg22,
  z22 := Tryz.sizeOf22,
  v22 := Tryz.zeroValue22,
  t25 := Tryz.underlying129,
  a25 := Tryz.isAgg129,
  z25 := Tryz.sizeOf129,
  v25 := Tryz.zeroValue129,
  t39 := Tryz.underlying171,
  a39 := Tryz.isAgg171,
  z39 := Tryz.sizeOf171,
  v39 := Tryz.zeroValue171,
  t45 := Tryz.underlying188,
  a45 := Tryz.isAgg188,
  z45 := Tryz.sizeOf188,
  v45 := Tryz.zeroValue188,
  t46 := Tryz.underlying189,
  a46 := Tryz.isAgg189,
  z46 := Tryz.sizeOf189,
  v46 := Tryz.zeroValue189,
  t50 := Tryz.underlying193,
  a50 := Tryz.isAgg193,
  z50 := Tryz.sizeOf193,
  v50 := Tryz.zeroValue193,
  t53 := Tryz.underlying196,
  a53 := Tryz.isAgg196,
  z53 := Tryz.sizeOf196,
  v53 := Tryz.zeroValue196,
  t55 := Tryz.underlying198,
  a55 := Tryz.isAgg198,
  z55 := Tryz.sizeOf198,
  v55 := Tryz.zeroValue198,
  t66 := Tryz.underlying203,
  a66 := Tryz.isAgg203,
  z66 := Tryz.sizeOf203,
  v66 := Tryz.zeroValue203,
  t70 := Tryz.underlying207,
  a70 := Tryz.isAgg207,
  z70 := Tryz.sizeOf207,
  v70 := Tryz.zeroValue207,
  t76 := Tryz.underlying211,
  a76 := Tryz.isAgg211,
  z76 := Tryz.sizeOf211,
  v76 := Tryz.zeroValue211,
  t77 := Tryz.underlying43,
  a77 := Tryz.isAgg43,
  z77 := Tryz.sizeOf43,
  v77 := Tryz.zeroValue43 }
end Go.Proofs
namespace Go.Proofs
open Go.Shelf
set_option maxRecDepth 100000
def Tryz.lContains_ren : Go.Shelf.Ren := ⟨fun | 144 => 88 | 143 => 107 | 219 => 123 | 217 => 129 | 225 => 130 | 224 => 131 | 267 => 132 | 266 => 134 | 314 => 135 | n => n, fun | 9 => 9 | 4 => 4 | 3 => 3 | 5 => 5 | 46 => 171 | 146 => 213 | 51 => 196 | n => n, fun | 1 => 1 | n => n⟩
theorem Tryz.lContains : Lays.n144 Tryz.prog Tryz.lContains_ren := {
  mixed := by kernel_rfl,
  f143 := Tryz.func107.trans (by kernel_rfl),
  f144 := Tryz.func88.trans (by kernel_rfl),
  f217 := Tryz.func129.trans (by kernel_rfl),
  f219 := Tryz.func123.trans (by kernel_rfl),
  f224 := Tryz.func131.trans (by kernel_rfl),
  f225 := Tryz.func130.trans (by kernel_rfl),
  f266 := Tryz.func134.trans (by kernel_rfl),
  f267 := Tryz.func132.trans (by kernel_rfl),
  f314 := Tryz.func135.trans (by kernel_rfl),
  t3 := Tryz.underlying3,
  a3 := Tryz.isAgg3,
  z3 := Tryz.sizeOf3,
  v3 := Tryz.zeroValue3,
  t4 := Tryz.underlying4,
  a4 := Tryz.isAgg4,
  z4 := Tryz.sizeOf4,
  v4 := Tryz.zeroValue4,
  t5 := Tryz.underlying5,
  a5 := Tryz.isAgg5,
  z5 := Tryz.sizeOf5,
  v5 := Tryz.zeroValue5,
  t9 := Tryz.underlying9,
  a9 := Tryz.isAgg9,
  z9 := Tryz.sizeOf9,
  v9 := Tryz.zeroValue9,
  t46 := Tryz.underlying171,
  a46 := Tryz.isAgg171,
  z46 := Tryz.sizeOf171,
  v46 := Tryz.zeroValue171,
  t51 := Tryz.underlying196,
  a51 := Tryz.isAgg196,
  z51 := Tryz.sizeOf196,
  v51 := Tryz.zeroValue196,
  t146 := Tryz.underlying213,
  a146 := Tryz.isAgg213,
  z146 := Tryz.sizeOf213,
  v146 := Tryz.zeroValue213,
  g1 := by kernel_rfl }
end Go.Proofs
namespace Go.Fr.Z16
open Go Go.Fr Go.Proofs
open Go.Sort
theorem r62 (h : CallSpec Tryz.prog noGl 63 cOrder) : RSpec Tryz.prog 62 rSort :=
  sortP_spec Tryz.lSort (T := t68) rfl rfl (by decide) Tryz.isAgg68 Tryz.sizeOf68 rfl Tryz.func62 (by decide) (by kernel_rfl : Tryz.f62.body = some (bodyOf Tryz.f62)) (cf := cmpL) swoL (enters_of Tryz.func63 (by kernel_rfl) rfl) h
theorem s88 (G : Nat → Option ((t : Ty) × t.den)) : CallSpec Tryz.prog G 88 cContains := by
  refine ⟨⟨Tryz.f88, bodyOf Tryz.f88, Tryz.func88, by decide, by kernel_rfl⟩, ?_⟩
  rintro ⟨s, t, ⟨⟩⟩ h w args hp hr hin hg
  have hp : t = (ByteArray.mk #[10]) := hp
  subst hp
  obtain ⟨v, r, rfl, ⟨cs, hc, rfl⟩, v2, r2, rfl, ⟨cs2, hc2, rfl⟩, rfl⟩ := (show ∃ v r, args = v :: r ∧ vrep h .str s v ∧ ∃ v2 r2, r = v2 :: r2 ∧ vrep h .str (ByteArray.mk #[10]) v2 ∧ r2 = [] from hr)
  simp only [rep] at hc hc2
  subst hc hc2
  refine (Any.strings_Contains_one Tryz.lContains s 10 w).mono ?_
  rintro e w' ⟨rfl, rfl⟩
  refine ⟨_, h, rfl, PLe.refl h, fun k hk => .inl hk, hin, ?_, Below.refl _ _⟩
  show vrep h .bool (hasNL s) _
  refine ⟨[.bool (hasNL s)], rfl, ?_⟩
  show Value.bool _ = Value.bool (hasNL s)
  unfold hasNL
  rw [Lib.contains_iff_indexByte]
end Go.Fr.Z16
namespace Go.Fr.Z16
open Go Go.Fr Go.Proofs
theorem s105 : CallSpec Tryz.prog gl 105 cNumber := fn_spec tab_ok mixed ct_nil il_nil Tryz.func105 (by kernel_rfl) (vcEq105 ▸ p105)
theorem s82 : CallSpec Tryz.prog gl 82 cUSize := fn_spec tab_ok mixed ct_nil il_nil Tryz.func82 (by kernel_rfl) (vcEq82 ▸ p82)
theorem s83 : CallSpec Tryz.prog gl 83 cOne := fn_spec tab_ok mixed ct_nil il_nil Tryz.func83 (by kernel_rfl) (vcEq83 ▸ p83)
theorem s84 : CallSpec Tryz.prog gl 84 cRStep := fn_spec tab_ok mixed (ct_cons s105 (ct_cons s82 (ct_cons s83 ct_nil))) il_nil Tryz.func84 (by kernel_rfl) (vcEq84 ▸ p84)
theorem s53 : CallSpec Tryz.prog gl 53 cRDecode := fn_spec tab_ok mixed (ct_cons s84 ct_nil) il_nil Tryz.func53 (by kernel_rfl) (vcEq53 ▸ p53)
theorem s51 : CallSpec Tryz.prog gl 51 cRefWrong := fn_spec tab_ok mixed (ct_cons s53 ct_nil) il_nil Tryz.func51 (by kernel_rfl) (vcEq51 ▸ p51)
theorem s52 : CallSpec Tryz.prog gl 52 cREncode := fn_spec tab_ok mixed (ct_cons s82 (ct_cons s83 ct_nil)) il_nil Tryz.func52 (by kernel_rfl) (vcEq52 ▸ p52)
theorem s54 : CallSpec Tryz.prog gl 54 cAhead := fn_spec tab_ok mixed ct_nil il_nil Tryz.func54 (by kernel_rfl) (vcEq54 ▸ p54)
theorem s24 : CallSpec Tryz.prog gl 24 cRefNew := fn_spec tab_ok mixed (ct_cons s51 (ct_cons s53 (ct_cons s52 (ct_cons s54 ct_nil)))) il_nil Tryz.func24 (by kernel_rfl) (vcEq24 ▸ p24)
theorem s8 : CallSpec Tryz.prog gl 8 cLongC := fn_spec tab_ok mixed (ct_cons s24 ct_nil) il_nil Tryz.func8 (by kernel_rfl) (vcEq8 ▸ p8)
theorem s9 : CallSpec Tryz.prog gl 9 cRefRight := fn_spec tab_ok mixed ct_nil il_nil Tryz.func9 (by kernel_rfl) (vcEq9 ▸ p9)
theorem s87 : CallSpec Tryz.prog gl 87 cCount := fn_spec tab_ok mixed ct_nil il_nil Tryz.func87 (by kernel_rfl) (vcEq87 ▸ p87)
theorem s60 : CallSpec Tryz.prog gl 60 cWrong := fn_spec tab_ok mixed (ct_cons s87 (ct_cons (s88 _) ct_nil)) il_nil Tryz.func60 (by kernel_rfl) (vcEq60 ▸ p60)
theorem s90 : CallSpec Tryz.prog gl 90 cDecode := fn_spec tab_ok mixed ct_nil il_nil Tryz.func90 (by kernel_rfl) (vcEq90 ▸ p90)
theorem s108 : CallSpec Tryz.prog gl 108 cRight := fn_spec tab_ok mixed ct_nil il_nil Tryz.func108 (by kernel_rfl) (vcEq108 ▸ p108)
theorem s89 : CallSpec Tryz.prog gl 89 cEncode := fn_spec tab_ok mixed (ct_cons s108 ct_nil) il_nil Tryz.func89 (by kernel_rfl) (vcEq89 ▸ p89)
theorem s61 : CallSpec Tryz.prog gl 61 cClean := fn_spec tab_ok mixed (ct_cons s90 (ct_cons s89 ct_nil)) il_nil Tryz.func61 (by kernel_rfl) (vcEq61 ▸ p61)
theorem s94 : CallSpec Tryz.prog gl 94 cCmp := fn_spec tab_ok mixed ct_nil (il_cons Tryz.func119 (by kernel_rfl) il_nil) Tryz.func94 (by kernel_rfl) (vcEq94 ▸ p94)
theorem s93 : CallSpec Tryz.prog gl 93 cOr := fn_spec tab_ok mixed ct_nil il_nil Tryz.func93 (by kernel_rfl) (vcEq93 ▸ p93)
theorem s63 : CallSpec Tryz.prog gl 63 cOrder := fn_spec tab_ok mixed (ct_cons s94 (ct_cons s93 ct_nil)) il_nil Tryz.func63 (by kernel_rfl) (vcEq63 ▸ p63)
theorem n94 : CallSpec Tryz.prog noGl 94 cCmp := fn_spec tab_ok mixed ct_nil (il_cons Tryz.func119 (by kernel_rfl) il_nil) Tryz.func94 (by kernel_rfl) ((by kernel_rfl : fnVC (env tab [] [(119, Tryz.f119)] noGl hs94 nm94) Tryz.f94 (bodyOf Tryz.f94) cCmp = vc94) ▸ p94)
theorem n93 : CallSpec Tryz.prog noGl 93 cOr := fn_spec tab_ok mixed ct_nil il_nil Tryz.func93 (by kernel_rfl) ((by kernel_rfl : fnVC (env tab [] [] noGl hs93 nm93) Tryz.f93 (bodyOf Tryz.f93) cOr = vc93) ▸ p93)
theorem n63 : CallSpec Tryz.prog noGl 63 cOrder := fn_spec tab_ok mixed (ct_cons n94 (ct_cons n93 ct_nil)) il_nil Tryz.func63 (by kernel_rfl) ((by kernel_rfl : fnVC (env tab [(94, cCmp), (93, cOr)] [] noGl hs63 nm63) Tryz.f63 (bodyOf Tryz.f63) cOrder = vc63) ▸ p63)
theorem s32 : CallSpec Tryz.prog gl 32 cNew := fn_specR tab_ok mixed (ct_cons s60 (ct_cons s61 (ct_cons s63 ct_nil))) il_nil (rct_cons (r62 n63) rct_nil) Tryz.func32 (by kernel_rfl) (vcEq32 ▸ p32)
theorem s65 : CallSpec Tryz.prog gl 65 cLen := fn_spec tab_ok mixed ct_nil il_nil Tryz.func65 (by kernel_rfl) (vcEq65 ▸ p65)
theorem s97 : CallSpec Tryz.prog gl 97 cClone := fn_spec tab_ok mixed ct_nil il_nil Tryz.func97 (by kernel_rfl) (vcEq97 ▸ p97)
theorem s66 : CallSpec Tryz.prog gl 66 cAll := fn_spec tab_ok mixed (ct_cons s97 ct_nil) il_nil Tryz.func66 (by kernel_rfl) (vcEq66 ▸ p66)
theorem s95 : CallSpec Tryz.prog gl 95 cPlain := fn_spec tab_ok mixed ct_nil il_nil Tryz.func95 (by kernel_rfl) (vcEq95 ▸ p95)
theorem s96 : CallSpec Tryz.prog gl 96 cVirtual := fn_spec tab_ok mixed (ct_cons s87 ct_nil) il_nil Tryz.func96 (by kernel_rfl) (vcEq96 ▸ p96)
theorem s64 : CallSpec Tryz.prog gl 64 cRow := fn_spec tab_ok mixed (ct_cons s95 (ct_cons s96 ct_nil)) il_nil Tryz.func64 (by kernel_rfl) (vcEq64 ▸ p64)
theorem s99 : CallSpec Tryz.prog gl 99 cWithinN := fn_spec tab_ok mixed ct_nil il_nil Tryz.func99 (by kernel_rfl) (vcEq99 ▸ p99)
theorem s69 : CallSpec Tryz.prog gl 69 cCheck := fn_spec tab_ok mixed (ct_cons s99 ct_nil) il_nil Tryz.func69 (by kernel_rfl) (vcEq69 ▸ p69)
theorem s80 : CallSpec Tryz.prog gl 80 cOfI := fn_spec tab_ok mixed ct_nil il_nil Tryz.func80 (by kernel_rfl) (vcEq80 ▸ p80)
theorem s78 : CallSpec Tryz.prog gl 78 cAddS := fn_spec tab_ok mixed ct_nil il_nil Tryz.func78 (by kernel_rfl) (vcEq78 ▸ p78)
theorem s102 : CallSpec Tryz.prog gl 102 cAllS := fn_spec tab_ok mixed (ct_cons s80 (ct_cons s78 ct_nil)) il_nil Tryz.func102 (by kernel_rfl) (vcEq102 ▸ p102)
theorem s71 : CallSpec Tryz.prog gl 71 cLeafOf := fn_spec tab_ok mixed (ct_cons s102 ct_nil) il_nil Tryz.func71 (by kernel_rfl) (vcEq71 ▸ p71)
theorem s98 : CallSpec Tryz.prog gl 98 cHeightOf := fn_spec tab_ok mixed ct_nil il_nil Tryz.func98 (by kernel_rfl) (vcEq98 ▸ p98)
theorem s121 : CallSpec Tryz.prog gl 121 cPut := fn_spec tab_ok mixed ct_nil il_nil Tryz.func121 (by kernel_rfl) (vcEq121 ▸ p121)
theorem s79 : CallSpec Tryz.prog gl 79 cSumOf := fn_spec tab_ok mixed ct_nil il_nil Tryz.func79 (by kernel_rfl) (vcEq79 ▸ p79)
theorem s101 : CallSpec Tryz.prog gl 101 cInnerOf := fn_spec tab_ok mixed (ct_cons s98 (ct_cons s79 (ct_cons s78 ct_nil))) il_nil Tryz.func101 (by kernel_rfl) (vcEq101 ▸ p101)
theorem s120 : CallSpec Tryz.prog gl 120 cRaise := fn_spec tab_ok mixed (ct_cons s101 ct_nil) il_nil Tryz.func120 (by kernel_rfl) (vcEq120 ▸ p120)
theorem s122 : CallSpec Tryz.prog gl 122 cSpread := fn_spec tab_ok mixed (ct_cons s71 ct_nil) il_nil Tryz.func122 (by kernel_rfl) (vcEq122 ▸ p122)
theorem q100 : ∀ n, CallSpec Tryz.prog gl 100 (cMeld.cut muMeld n)
  | 0 => cut_zero Tryz.func100 (by kernel_rfl)
  | n + 1 => fn_spec tab_ok mixed (ct_cons s98 (ct_cons (q100 n) (ct_cons s121 (ct_cons s120 (ct_cons s122 ct_nil))))) il_nil Tryz.func100 (by kernel_rfl) (vcEq100 n ▸ p100 n)
theorem s100 : CallSpec Tryz.prog gl 100 cMeld := cut_all q100
theorem s70 : CallSpec Tryz.prog gl 70 cJoin := fn_spec tab_ok mixed (ct_cons s100 (ct_cons s101 ct_nil)) il_nil Tryz.func70 (by kernel_rfl) (vcEq70 ▸ p70)
theorem s37 : CallSpec Tryz.prog gl 37 cTreeNew := fn_spec tab_ok mixed (ct_cons s69 (ct_cons s71 (ct_cons s70 ct_nil))) il_nil Tryz.func37 (by kernel_rfl) (vcEq37 ▸ p37)
theorem s33 : CallSpec Tryz.prog gl 33 cWeave := fn_spec tab_ok mixed (ct_cons s65 (ct_cons s66 (ct_cons s64 (ct_cons s37 ct_nil)))) il_nil Tryz.func33 (by kernel_rfl) (vcEq33 ▸ p33)
theorem s68 : CallSpec Tryz.prog gl 68 cTreeOf := fn_spec tab_ok mixed ct_nil il_nil Tryz.func68 (by kernel_rfl) (vcEq68 ▸ p68)
theorem s77 : CallSpec Tryz.prog gl 77 cTop := fn_spec tab_ok mixed ct_nil il_nil Tryz.func77 (by kernel_rfl) (vcEq77 ▸ p77)
theorem s46 : CallSpec Tryz.prog gl 46 cSum := fn_spec tab_ok mixed (ct_cons s77 (ct_cons s79 ct_nil)) il_nil Tryz.func46 (by kernel_rfl) (vcEq46 ▸ p46)
theorem s36 : CallSpec Tryz.prog gl 36 cSizes := fn_spec tab_ok mixed (ct_cons s68 (ct_cons s46 ct_nil)) il_nil Tryz.func36 (by kernel_rfl) (vcEq36 ▸ p36)
theorem s35 : CallSpec Tryz.prog gl 35 cRightC := fn_spec tab_ok mixed (ct_cons s36 ct_nil) il_nil Tryz.func35 (by kernel_rfl) (vcEq35 ▸ p35)
theorem s75 : CallSpec Tryz.prog gl 75 cSizeD := fn_spec tab_ok mixed ct_nil il_nil Tryz.func75 (by kernel_rfl) (v75)
theorem s43 : CallSpec Tryz.prog gl 43 cFind := fn_spec tab_ok mixed (ct_cons s46 (ct_cons s75 (ct_cons s77 (ct_cons s79 (ct_cons s78 (ct_cons s80 ct_nil)))))) (il_cons Tryz.func76 (by kernel_rfl) il_nil) Tryz.func43 (by kernel_rfl) (vcEq43 ▸ p43)
theorem s74 : CallSpec Tryz.prog gl 74 cOut := fn_spec tab_ok mixed (ct_cons s68 (ct_cons s43 ct_nil)) il_nil Tryz.func74 (by kernel_rfl) (vcEq74 ▸ p74)
theorem s39 : CallSpec Tryz.prog gl 39 cPlacesC := fn_spec tab_ok mixed (ct_cons s74 ct_nil) il_nil Tryz.func39 (by kernel_rfl) (vcEq39 ▸ p39)
theorem s72 : CallSpec Tryz.prog gl 72 cPlainC := fn_spec tab_ok mixed ct_nil il_nil Tryz.func72 (by kernel_rfl) (vcEq72 ▸ p72)
theorem s73 : CallSpec Tryz.prog gl 73 cFoldC := fn_spec tab_ok mixed ct_nil il_nil Tryz.func73 (by kernel_rfl) (vcEq73 ▸ p73)
theorem s38 : CallSpec Tryz.prog gl 38 cRowC := fn_spec tab_ok mixed (ct_cons s72 (ct_cons s73 ct_nil)) il_nil Tryz.func38 (by kernel_rfl) (vcEq38 ▸ p38)
theorem s11 : CallSpec Tryz.prog gl 11 cNewC := fn_spec tab_ok mixed (ct_cons s35 (ct_cons s36 (ct_cons s39 (ct_cons s38 (ct_cons s37 ct_nil))))) il_nil Tryz.func11 (by kernel_rfl) (vcEq11 ▸ p11)
theorem s42 : CallSpec Tryz.prog gl 42 cTreeC := fn_spec tab_ok mixed ct_nil il_nil Tryz.func42 (by kernel_rfl) (vcEq42 ▸ p42)
theorem s44 : CallSpec Tryz.prog gl 44 cAt := fn_spec tab_ok mixed (ct_cons s46 (ct_cons s77 (ct_cons s79 ct_nil))) il_nil Tryz.func44 (by kernel_rfl) (vcEq44 ▸ p44)
theorem s15 : CallSpec Tryz.prog gl 15 cOutC := fn_spec tab_ok mixed (ct_cons s42 (ct_cons s43 (ct_cons s44 ct_nil))) il_nil Tryz.func15 (by kernel_rfl) (vcEq15 ▸ p15)
theorem s17 : CallSpec Tryz.prog gl 17 cInC := fn_spec tab_ok mixed (ct_cons s42 (ct_cons s43 ct_nil)) il_nil Tryz.func17 (by kernel_rfl) (vcEq17 ▸ p17)
theorem s67 : CallSpec Tryz.prog gl 67 cHeightT := fn_spec tab_ok mixed (ct_cons s77 (ct_cons s98 ct_nil)) il_nil Tryz.func67 (by kernel_rfl) (vcEq67 ▸ p67)
theorem s34 : CallSpec Tryz.prog gl 34 cHeightC := fn_spec tab_ok mixed (ct_cons s42 (ct_cons s67 ct_nil)) il_nil Tryz.func34 (by kernel_rfl) (vcEq34 ▸ p34)
theorem s10 : CallSpec Tryz.prog gl 10 cSix := fn_spec tab_ok mixed (ct_cons s32 (ct_cons s33 (ct_cons s11 (ct_cons s15 (ct_cons s17 (ct_cons s34 ct_nil)))))) il_nil Tryz.func10 (by kernel_rfl) (vcEq10 ▸ p10)
theorem s12 : CallSpec Tryz.prog gl 12 cWoven := fn_spec tab_ok mixed (ct_cons s32 (ct_cons s33 ct_nil)) il_nil Tryz.func12 (by kernel_rfl) (vcEq12 ▸ p12)
theorem s40 : CallSpec Tryz.prog gl 40 cSpots := fn_spec tab_ok mixed (ct_cons s53 ct_nil) il_nil Tryz.func40 (by kernel_rfl) (vcEq40 ▸ p40)
theorem s13 : CallSpec Tryz.prog gl 13 cSizeT := fn_spec tab_ok mixed (ct_cons s24 (ct_cons s40 ct_nil)) il_nil Tryz.func13 (by kernel_rfl) (vcEq13 ▸ p13)
theorem s26 : CallSpec Tryz.prog gl 26 cRefOut := fn_spec tab_ok mixed (ct_cons s53 ct_nil) il_nil Tryz.func26 (by kernel_rfl) (vcEq26 ▸ p26)
theorem s41 : CallSpec Tryz.prog gl 41 cRefPlaces := fn_spec tab_ok mixed (ct_cons s26 ct_nil) il_nil Tryz.func41 (by kernel_rfl) (vcEq41 ▸ p41)
theorem s14 : CallSpec Tryz.prog gl 14 cPlacesT := fn_spec tab_ok mixed (ct_cons s24 (ct_cons s41 ct_nil)) il_nil Tryz.func14 (by kernel_rfl) (vcEq14 ▸ p14)
theorem s45 : CallSpec Tryz.prog gl 45 cHides := fn_spec tab_ok mixed ct_nil il_nil Tryz.func45 (by kernel_rfl) (vcEq45 ▸ p45)
theorem s18 : CallSpec Tryz.prog gl 18 cStarts := fn_spec tab_ok mixed (ct_cons s45 ct_nil) il_nil Tryz.func18 (by kernel_rfl) (vcEq18 ▸ p18)
theorem s16 : CallSpec Tryz.prog gl 16 cRefOutC := fn_spec tab_ok mixed (ct_cons s18 (ct_cons s45 ct_nil)) il_nil Tryz.func16 (by kernel_rfl) (vcEq16 ▸ p16)
theorem s19 : CallSpec Tryz.prog gl 19 cRefInC := fn_spec tab_ok mixed (ct_cons s18 ct_nil) il_nil Tryz.func19 (by kernel_rfl) (vcEq19 ▸ p19)
theorem s3 : CallSpec Tryz.prog gl 3 cCreasePlaces := fn_spec tab_ok mixed (ct_cons s8 (ct_cons s9 (ct_cons s10 (ct_cons s12 (ct_cons s11 (ct_cons s13 (ct_cons s14 (ct_cons s15 (ct_cons s16 (ct_cons s17 (ct_cons s18 (ct_cons s19 ct_nil)))))))))))) il_nil Tryz.func3 (by kernel_rfl) (vcEq3 ▸ p3)
theorem s20 : CallSpec Tryz.prog gl 20 cSizesC := fn_spec tab_ok mixed (ct_cons s42 (ct_cons s46 ct_nil)) il_nil Tryz.func20 (by kernel_rfl) (vcEq20 ▸ p20)
theorem s4 : CallSpec Tryz.prog gl 4 cCreaseThere := fn_spec tab_ok mixed (ct_cons s8 (ct_cons s9 (ct_cons s10 (ct_cons s12 (ct_cons s11 (ct_cons s20 (ct_cons s17 (ct_cons s15 (ct_cons s14 ct_nil))))))))) il_nil Tryz.func4 (by kernel_rfl) (vcEq4 ▸ p4)
theorem s81 : CallSpec Tryz.prog gl 81 cItems := fn_spec tab_ok mixed (ct_cons s77 ct_nil) (il_cons Tryz.func104 (by kernel_rfl) (il_cons Tryz.func103 (by kernel_rfl) il_nil)) Tryz.func81 (by kernel_rfl) (vcEq81 ▸ p81)
theorem s47 : CallSpec Tryz.prog gl 47 cPiecesC := fn_spec tab_ok mixed (ct_cons s42 (ct_cons s81 ct_nil)) il_nil Tryz.func47 (by kernel_rfl) (vcEq47 ▸ p47)
theorem s48 : CallSpec Tryz.prog gl 48 cRefPiecesC := fn_spec tab_ok mixed (ct_cons s18 (ct_cons s45 ct_nil)) il_nil Tryz.func48 (by kernel_rfl) (vcEq48 ▸ p48)
theorem s49 : CallSpec Tryz.prog gl 49 cHigh := fn_spec tab_ok mixed ct_nil il_nil Tryz.func49 (by kernel_rfl) (vcEq49 ▸ p49)
theorem s21 : CallSpec Tryz.prog gl 21 cIsC := fn_spec tab_ok mixed (ct_cons s47 (ct_cons s13 (ct_cons s14 (ct_cons s48 (ct_cons s20 (ct_cons s18 (ct_cons s34 (ct_cons s49 ct_nil)))))))) il_nil Tryz.func21 (by kernel_rfl) (vcEq21 ▸ p21)
theorem s5 : CallSpec Tryz.prog gl 5 cCreaseNew := fn_spec tab_ok mixed (ct_cons s8 (ct_cons s10 (ct_cons s12 (ct_cons s11 (ct_cons s9 (ct_cons s21 ct_nil)))))) il_nil Tryz.func5 (by kernel_rfl) (vcEq5 ▸ p5)
theorem s55 : CallSpec Tryz.prog gl 55 cTimes := fn_spec tab_ok mixed ct_nil il_nil Tryz.func55 (by kernel_rfl) (vcEq55 ▸ p55)
theorem s25 : CallSpec Tryz.prog gl 25 cRefSplice := fn_spec tab_ok mixed (ct_cons s55 (ct_cons s24 ct_nil)) il_nil Tryz.func25 (by kernel_rfl) (vcEq25 ▸ p25)
theorem s56 : CallSpec Tryz.prog gl 56 cFits := fn_spec tab_ok mixed ct_nil il_nil Tryz.func56 (by kernel_rfl) (vcEq56 ▸ p56)
theorem s85 : CallSpec Tryz.prog gl 85 cAcross := fn_spec tab_ok mixed ct_nil il_nil Tryz.func85 (by kernel_rfl) (vcEq85 ▸ p85)
theorem s57 : CallSpec Tryz.prog gl 57 cWithinC := fn_spec tab_ok mixed (ct_cons s85 ct_nil) il_nil Tryz.func57 (by kernel_rfl) (vcEq57 ▸ p57)
theorem s58 : CallSpec Tryz.prog gl 58 cEdges := fn_spec tab_ok mixed (ct_cons s42 (ct_cons s43 (ct_cons s44 (ct_cons s85 ct_nil)))) il_nil Tryz.func58 (by kernel_rfl) (vcEq58 ▸ p58)
theorem s106 : CallSpec Tryz.prog gl 106 cRowN := fn_spec tab_ok mixed (ct_cons s101 ct_nil) il_nil Tryz.func106 (by kernel_rfl) (vcEq106 ▸ p106)
theorem q86 : ∀ n, CallSpec Tryz.prog gl 86 (cSplit.cut muSplit n)
  | 0 => cut_zero Tryz.func86 (by kernel_rfl)
  | n + 1 => fn_spec tab_ok mixed (ct_cons s71 (ct_cons s79 (ct_cons (q86 n) (ct_cons s106 (ct_cons s70 ct_nil))))) il_nil Tryz.func86 (by kernel_rfl) (vcEq86 n ▸ p86 n)
theorem s86 : CallSpec Tryz.prog gl 86 cSplit := cut_all q86
theorem s59 : CallSpec Tryz.prog gl 59 cReplace := fn_spec tab_ok mixed (ct_cons s46 (ct_cons s37 (ct_cons s77 (ct_cons s86 (ct_cons s70 ct_nil))))) il_nil Tryz.func59 (by kernel_rfl) (vcEq59 ▸ p59)
theorem s27 : CallSpec Tryz.prog gl 27 cUpdC := fn_spec tab_ok mixed (ct_cons s20 (ct_cons s36 (ct_cons s35 (ct_cons s56 (ct_cons s39 (ct_cons s57 (ct_cons s58 (ct_cons s42 (ct_cons s38 (ct_cons s59 ct_nil)))))))))) il_nil Tryz.func27 (by kernel_rfl) (vcEq27 ▸ p27)
theorem s28 : CallSpec Tryz.prog gl 28 cFits2 := fn_spec tab_ok mixed ct_nil il_nil Tryz.func28 (by kernel_rfl) (vcEq28 ▸ p28)
theorem s29 : CallSpec Tryz.prog gl 29 cAcrossL := fn_spec tab_ok mixed ct_nil il_nil Tryz.func29 (by kernel_rfl) (vcEq29 ▸ p29)
theorem s30 : CallSpec Tryz.prog gl 30 cBeside := fn_spec tab_ok mixed ct_nil il_nil Tryz.func30 (by kernel_rfl) (vcEq30 ▸ p30)
theorem s31 : CallSpec Tryz.prog gl 31 cOutside := fn_spec tab_ok mixed ct_nil il_nil Tryz.func31 (by kernel_rfl) (vcEq31 ▸ p31)
theorem s7 : CallSpec Tryz.prog gl 7 cCreaseUpdates := fn_spec tab_ok mixed (ct_cons s8 (ct_cons s9 (ct_cons s10 (ct_cons s24 (ct_cons s25 (ct_cons s12 (ct_cons s11 (ct_cons s26 (ct_cons s27 (ct_cons s13 (ct_cons s28 (ct_cons s14 (ct_cons s29 (ct_cons s21 (ct_cons s30 (ct_cons s31 ct_nil)))))))))))))))) il_nil Tryz.func7 (by kernel_rfl) (vcEq7 ▸ p7)
end Go.Fr.Z16
namespace Go.Fr
open Go Go.RowKit Go.ChangeShapes Go.WideShapes Go.ChangeAt
@[reducible] def condSpec (s : ChangeSpec) (k : (H : Type) → List (DataW H) → Bool) : OpenSpec := { OpenSpec.ofChange s with cond := some k }
theorem witness_row_shaped {H : Type} {enc : TypeId × Value → H} {C : Checked} {os : Os} {f : FuncId} {fn : Func} {s : OpenSpec} {conds : List PathCond} {apart : Bool} {laid : List (String × DataW Unit)} (w0 : World) (args : Array Value) (hos : w0.os = os)
    (hsh : (w0.forCall (fun _ _ => 0) ⟨#[], args, []⟩).Shaped C.prog)
    (hok : Input.okWideB C.prog (w0.forCall (fun _ _ => 0) ⟨#[], args, []⟩) f ⟨#[], args, []⟩ = true)
    (hrow : s.preRow enc C.prog fn conds apart laid (w0.forCall (fun _ _ => 0) ⟨#[], args, []⟩).memory args) :
    ∃ (w : World) (tape : Tape) (i : Input), w.os = os ∧ (w.forCall tape i).Shaped C.prog ∧ i.vars = [] ∧ Input.okWide C.prog (w.forCall tape i) .any w.heap.size f i ∧
      s.preRow enc C.prog fn conds apart laid (w.forCall tape i).memory i.args ∧ (({} : Assume)).holds C.prog (lone (Frame.enter C.prog f i.args .normal) [] (w.forCall tape i)) :=
  ⟨w0, fun _ _ => 0, ⟨#[], args, []⟩, hos, hsh, (Input.okWide_of_okWideB (base := 0) hok).1, (Input.okWide_of_okWideB hok).2, hrow, by
    simp only [Assume.holds]
    exact ⟨by simp, by simp, fun _ => Modest.zero, by simp, by simp⟩⟩
theorem law_lifted_upto {C : Checked} {os : Os} {H : Type} {enc : TypeId × Value → H} {f : FuncId} {fn : Func} {A : Ty} {tb : TypeId} {s : ChangeSpec} {k : (H : Type) → List (DataW H) → Bool} {pre : A.den → Prop} {conds : List PathCond} {gl : Nat → Option ((t : Ty) × t.den)} {laid : List (String × DataW Unit)} {β : DataW H → Nat} {m : Nat} {F : Stop.Interp}
    (hβ : IsBulk β) (hk : ∀ ds : List (DataW H), k H ds = true → (ds.map β).sum ≤ m)
    (own : ownKnob C.prog.godebug = none) (started : os.Started) (noInit : C.prog.inits.idxOf? f = none) (hfn : C.prog.funcs[f]? = some fn)
    (witness : ∃ (w : World) (tape : Tape) (i : Input), w.os = os ∧ (w.forCall tape i).Shaped C.prog ∧ i.vars = [] ∧ Input.okWide C.prog (w.forCall tape i) .any w.heap.size f i ∧
      (condSpec s k).preRow enc C.prog fn conds false laid (w.forCall tape i).memory i.args ∧ (({} : Assume)).holds C.prog (lone (Frame.enter C.prog f i.args .normal) [] (w.forCall tape i)))
    (hok : lawOk C.prog fn A tb = true) (hl : laidOutB C.prog = true) (hr : fn.resultTypes = #[tb]) (hs : s.vars = []) (hf : ∀ ds : List (DataW H), ds.length = fn.params.toList.length → s.fn H ds = { results := [.lit (.bool true)], args := ds })
    (hG : ∀ W : World, laidMetH C.prog laid W → GlobOk gl (heapOf W)) (hK : CallSpec C.prog gl f (lawC A pre)) (hpre : ∀ y : A.den, wf A y → bulk A y ≤ m → pre y) :
    ReturnsInHanded {} C os f .any ((condSpec s k).preRow enc C.prog fn conds false laid) (((condSpec s k).at F).post enc C.prog fn false true false false) := by
  refine returnsInHanded_of_row (C := C) (s := condSpec s k) (F := F) own started noInit hfn witness ?_
  intro W base args ds gs before hval hW _ hc _ hL _ _
  have hb := hk _ (hc k rfl)
  rw [List.map_append, List.sum_append] at hb
  exact law_post (s := s) (β := β) (gl := gl) (hG W hL) hok hl hr hs hf hK hval hW (fun y hy h _ => hpre y hy (by have := h hβ; omega))
end Go.Fr
namespace Go.Proofs.YtckeadbpimhimaaGreatDoor
open Go Go.Fr Go.Fr.Z16 Go.ChangeShapes Go.WideShapes Go.ChangeAt Go.RowKit
theorem gMost : Tryz.prog.globalNamed "bodkin/utf.most" = some 0 := by kernel_rfl
theorem tMost : (Tryz.prog.globals[0]?).map (·.type) = some 202 := by kernel_rfl
theorem glob_of {W : World} (h : laidMetH Tryz.prog [("bodkin/utf.most", Rows.laid_bodkin_utf_most)] W) : GlobOk gl (heapOf W) := by
  rw [MakeChecks.laidMetH_plain _ _ _ (by kernel_rfl)] at h
  obtain ⟨ps, ⟨g0, t0, cs0, f0, p0, q0, hg0, ht0, hv0, hd0, hrest⟩, h2⟩ := h
  obtain rfl := Option.some.inj (gMost.symm.trans hg0)
  obtain rfl := Option.some.inj (tMost.symm.trans ht0)
  obtain ⟨xs, m1, hf, hx1, hlen, hn4, hel⟩ := DataW.trod_array Tryz.underlying202 hd0
  have c21 : Tryz.prog.cellsOf 21 = 1 := by kernel_rfl
  have len4 : cs0.toList.length = 4 := hlen.trans (by kernel_rfl)
  rw [c21] at hel
  have hcell : ∀ i : Nat, W.cell? ⟨0, i, none⟩ = cs0.toList[i]? := fun i => by rw [World.var?_cell gMost hv0 i]; simp
  generalize cs0.toList = cl at *
  match xs, cl, hn4, len4, hx1, hel, hcell with
  | [y0, y1, y2, y3], [x0, x1, x2, x3], _, _, hx1, hel, hcell =>
    have hx1 := (Prod.mk.inj hx1).1
    obtain ⟨n0, e0, z0, _⟩ := DataW.trod_int Tryz.underlying21 (hel 0 (by decide))
    obtain ⟨n1, e1, z1, _⟩ := DataW.trod_int Tryz.underlying21 (hel 1 (by decide))
    obtain ⟨n2, e2, z2, _⟩ := DataW.trod_int Tryz.underlying21 (hel 2 (by decide))
    obtain ⟨n3, e3, z3, _⟩ := DataW.trod_int Tryz.underlying21 (hel 3 (by decide))
    simp at e0 e1 e2 e3
    subst e0 e1 e2 e3 z0 z1 z2 z3
    simp only [Rows.laid_bodkin_utf_most, List.map_cons, List.map_nil, DataW.agg.injEq, List.cons.injEq, DataW.lit.injEq, Lit.int.injEq, true_and, and_true] at hx1
    obtain ⟨q0, q1, q2, q3⟩ := hx1
    subst q0 q1 q2 q3
    intro g T x hg
    unfold gl at hg
    cases hb : Nat.beq g 0 with
    | false => rw [hb] at hg; cases hg
    | true =>
      rw [hb] at hg
      have := Nat.eq_of_beq_eq_true hb
      subst this
      simp only [cond_true, Option.some.injEq] at hg
      cases hg
      refine ⟨[.int .i32 127, .int .i32 2047, .int .i32 65535, .int .i32 1114111], ⟨[_], _, rfl, rfl, [_], _, rfl, rfl, [_], _, rfl, rfl, [_], _, rfl, rfl, rfl⟩, ?_⟩
      intro j u hu
      rw [hcell_heapOf]
      have := hcell j
      rw [hu] at this
      have ha : (⟨0, 0, none⟩ : Addr).add j = ⟨0, j, none⟩ := by
        rw [add_lit, Nat.zero_add]
      rw [ha]
      exact this
theorem own : ownKnob Tryz.prog.godebug = none := by kernel_rfl
theorem laidOut : laidOutB Tryz.prog = true := by kernel_rfl
abbrev laid1 {H : Type} : List (String × DataW H) := [("bodkin/utf.most", Rows.laid_bodkin_utf_most)]
theorem door_met (os : Os) (args : Array Value) : laidMetH Tryz.prog laid1 ((World.doorLaid Tryz.prog 400 os).forCall (fun _ _ => 0) ⟨#[], args, []⟩).memory :=
  laidMetH_of_parts3 (fuel := 8) (laidMet_of_run' 8 (by kernel_rfl) (by kernel_rfl)) (by kernel_rfl) (by kernel_rfl)
end Go.Proofs.YtckeadbpimhimaaGreatDoor
