/-
  The statements' proofs. Conditions: none.
-/
import Derived.Test.YtckeadbpimhimaaDoorG4
import Derived.Shelf.SlSortCmp.NoneTotal
import Derived.Test.YtckeadbpimhimaaDoorProg
import Derived.Shelf.SlSortCmp.WholeK
import Derived.Ground.SlsfProg
import Derived.Shelf.Strings.Search3
import Derived.Ground.NamesProg
import Derived.Lib.IndexAny
import Derived.Test.YtckeadbpimhimaaDoorCards
import Derived.Test.YtckeadbpimhimaaDoorTie
import Derived.Test.YtckeadbpimhimaaDoorRows
import Derived.ProofKit
import Derived.LaidMore
import Derived.OpenShut
import Derived.Stop.Joined
namespace Go.Fr.D16
open Go Go.Fr Go.Proofs
theorem leafLoop (l r0 : List Itm) (K : List Itm → Prop) (hs : r0.length + l.length ≤ 1000000) (hK : K (r0 ++ l)) :
    ∃ (Z : Int × List Itm × Unit → Prop), ∃ (μ : Int × List Itm × Unit → Nat), Z (0, r0, ()) ∧ ∀ (i : Int) (r : List Itm), Z (i, r, ()) →
      (i < (l.length : Int) → (0 ≤ i ∧ i < (l.length : Int)) ∧ (r.length + [l.getD i.toNat zItm].length) * 64 ≤ 140737488355328 ∧ r.length + [l.getD i.toNat zItm].length ≤ 9223372036854775807 ∧
        Z (IntKind.i64.wrap (i + 1), r ++ [l.getD i.toNat zItm], ()) ∧ μ (IntKind.i64.wrap (i + 1), r ++ [l.getD i.toNat zItm], ()) < μ (i, r, ())) ∧
      (¬ i < (l.length : Int) → K r) := by
  refine ⟨fun z => ∃ k : Nat, k ≤ l.length ∧ z.1 = (k : Int) ∧ z.2.1 = r0 ++ l.take k, fun z => l.length - z.1.toNat, ⟨0, Nat.zero_le _, rfl, by simp⟩, ?_⟩
  rintro i r ⟨k, hk, hi, hr⟩
  simp only at hi hr
  subst hi
  have hrl : r.length = r0.length + k := by rw [hr, List.length_append, List.length_take]; omega
  refine ⟨fun h => ?_, fun h => ?_⟩
  · have hlt : k < l.length := by omega
    have hw : IntKind.i64.wrap ((k : Int) + 1) = ((k + 1 : Nat) : Int) := wrap_succ (by omega)
    rw [toNat_cast, hw]
    simp only [toNat_cast, List.length_singleton]
    exact ⟨⟨by omega, h⟩, by omega, by omega, ⟨k + 1, hlt, rfl, by rw [hr, take_one zItm hlt, List.append_assoc]⟩, by omega⟩
  · have hke : k = l.length := by omega
    rw [hr, hke, List.take_length]
    exact hK
def KidsAt (ks : List Nd) (r0 : List Itm) (z : Int × List Itm × Unit) : Prop := ∃ k : Nat, k ≤ ks.length ∧ z.1 = (k : Int) ∧ z.2.1 = r0 ++ (ks.take k).flatMap items
theorem kids_step {ks : List Nd} {r0 r : List Itm} {k : Nat} (h : k < ks.length) (hr : r = r0 ++ (ks.take k).flatMap items) (hl : ks.length ≤ 100000) :
    KidsAt ks r0 (IntKind.i64.wrap ((k : Int) + 1), r ++ items (ks.getD k .nil), ()) ∧ ks.length - (IntKind.i64.wrap ((k : Int) + 1)).toNat < ks.length - ((k : Int)).toNat := by
  have hw : IntKind.i64.wrap ((k : Int) + 1) = ((k + 1 : Nat) : Int) := wrap_succ (by omega)
  rw [hw, toNat_cast, toNat_cast]
  refine ⟨⟨k + 1, h, rfl, ?_⟩, by omega⟩
  show r ++ items (ks.getD k .nil) = _
  rw [hr, take_one .nil h, List.flatMap_append]
  simp
theorem kids_part {ks : List Nd} {k : Nat} (h : k < ks.length) : ((ks.take k).flatMap items).length + (items (ks.getD k .nil)).length ≤ (ks.flatMap items).length := by
  have hs : ks = ks.take k ++ (ks.getD k .nil :: ks.drop (k + 1)) := by
    conv => lhs; rw [← List.take_append_drop k ks]
    rw [drop_cons .nil h]
  conv => rhs; rw [hs]
  rw [List.flatMap_append, List.flatMap_cons, List.length_append, List.length_append]
  omega
theorem inner_of {n : Nd} (h : (NT.asInner n).isSome = true) : ∃ b, n = .inner (kidsOf n) b := by
  cases n with
  | nil => cases h
  | leaf a => cases h
  | inner ks b => exact ⟨b, rfl⟩
theorem leaf_of {n : Nd} (h : (NT.asLeaf n).isSome = true) : items n = itemsOf n := by
  cases n with
  | nil => cases h
  | leaf a => rfl
  | inner ks b => cases h
theorem nil_of {n : Nd} (h1 : (NT.asLeaf n).isSome = false) (h2 : (NT.asInner n).isSome = false) : n = .nil := by
  cases n with
  | nil => rfl
  | leaf a => cases h1
  | inner ks b => cases h2
theorem kids_wf {h : Nat} {top : Bool} {n : Nd} (e : Wf h top n) (hh : h ≤ 100) (hi : (NT.asInner n).isSome = true) : 2 ≤ h ∧ (kidsOf n).length ≤ 8 ∧ items n = (kidsOf n).flatMap items ∧ ∀ k : Nat, k < (kidsOf n).length → Wf (h - 1) false ((kidsOf n).getD k .nil) := by
  obtain ⟨b, hb⟩ := inner_of hi
  rw [hb] at e
  cases h with
  | zero => exact e.elim
  | succ h =>
    have hi2 := items_inner e (by omega)
    obtain ⟨w1, w2, w3, w4, w5, w6⟩ := e
    exact ⟨by omega, w3, by rw [← hi2, ← hb], fun k hk => w6 _ (getD_in .nil hk)⟩
theorem p23 : vc23 := by
  unfold vc23
  simp only [eq_self, true_and, and_true, decide_eq_true_eq, decide_eq_false_iff_not]
  rintro ⟨t, ⟨⟩⟩
  simp only [maxLen_eq, ka', la', d47]
  rintro ⟨hw, hl⟩
  generalize topT t = n at hw hl ⊢
  refine ⟨fun h => ⟨h, ?_⟩, fun h1 => ⟨fun h2 => ⟨h2, ?_⟩, fun h2 => ?_⟩⟩
  · rw [leaf_of h] at hl ⊢
    exact leafLoop _ _ (fun r => r = itemsOf n) (by simp; omega) (by simp)
  · obtain ⟨h, hh, w⟩ := hw.resolve_left (fun e => by rw [e] at h2; cases h2)
    obtain ⟨w1, w2, w3, w4⟩ := kids_wf w (by omega) h2
    rw [w3] at hl ⊢
    refine ⟨KidsAt (kidsOf n) [], fun z => (kidsOf n).length - z.1.toNat, ⟨0, Nat.zero_le _, rfl, rfl⟩, ?_⟩
    rintro i r ⟨k, hk, hi, hr⟩
    simp only at hi hr
    subst hi
    refine ⟨fun hlt => ?_, fun hge => by rw [hr, show k = (kidsOf n).length by omega, List.take_length, List.nil_append]⟩
    have hlt' : k < (kidsOf n).length := by omega
    have hp := kids_part hlt'
    obtain ⟨st1, st2⟩ := kids_step hlt' hr (by omega)
    have wk := w4 k hlt'
    have hrl : r.length = (((kidsOf n).take k).flatMap items).length := by rw [hr]; simp
    rw [toNat_cast]
    refine ⟨⟨by omega, hlt⟩, ?_⟩
    generalize hm : (kidsOf n).getD k .nil = m at wk hp st1 ⊢
    refine ⟨fun g1 => ⟨g1, ?_⟩, fun g1 => ⟨fun g2 => ⟨g2, ?_⟩, fun g2 => absurd (nil_of g1 g2) (wf_height wk).2.2⟩⟩
    · rw [leaf_of g1] at st1 hp
      exact leafLoop _ _ (fun r' => KidsAt (kidsOf n) [] (IntKind.i64.wrap ((k : Int) + 1), r', ()) ∧ (kidsOf n).length - (IntKind.i64.wrap ((k : Int) + 1)).toNat < (kidsOf n).length - ((k : Int)).toNat) (by omega) ⟨st1, st2⟩
    · obtain ⟨v1, v2, v3, v4⟩ := kids_wf wk (by omega) g2
      rw [v3] at st1 hp
      refine ⟨KidsAt (kidsOf m) r, fun z => (kidsOf m).length - z.1.toNat, ⟨0, Nat.zero_le _, rfl, by simp⟩, ?_⟩
      rintro i2 r2 ⟨k2, hk2, hi2, hr2⟩
      simp only at hi2 hr2
      subst hi2
      refine ⟨fun hlt2 => ?_, fun hge => by rw [hr2, show k2 = (kidsOf m).length by omega, List.take_length]; exact ⟨st1, st2⟩⟩
      have hlt2' : k2 < (kidsOf m).length := by omega
      have hp2 := kids_part hlt2'
      obtain ⟨su1, su2⟩ := kids_step hlt2' hr2 (by omega)
      have wk2 := v4 k2 hlt2'
      have hrl2 : r2.length = r.length + (((kidsOf m).take k2).flatMap items).length := by rw [hr2, List.length_append]
      rw [toNat_cast]
      refine ⟨⟨by omega, hlt2⟩, ?_⟩
      generalize hm2 : (kidsOf m).getD k2 .nil = m2 at wk2 hp2 su1 ⊢
      refine ⟨fun g3 => ⟨g3, ?_⟩, fun g3 => ⟨fun g4 => ⟨g4, ?_⟩, fun g4 => absurd (nil_of g3 g4) (wf_height wk2).2.2⟩⟩
      · rw [leaf_of g3] at su1 hp2
        exact leafLoop _ _ (fun r' => KidsAt (kidsOf m) r (IntKind.i64.wrap ((k2 : Int) + 1), r', ()) ∧ (kidsOf m).length - (IntKind.i64.wrap ((k2 : Int) + 1)).toNat < (kidsOf m).length - ((k2 : Int)).toNat) (by omega) ⟨su1, su2⟩
      · obtain ⟨u1, u2, u3, u4⟩ := kids_wf wk2 (by omega) g4
        rw [u3] at su1 hp2
        refine ⟨KidsAt (kidsOf m2) r2, fun z => (kidsOf m2).length - z.1.toNat, ⟨0, Nat.zero_le _, rfl, by simp⟩, ?_⟩
        rintro i3 r3 ⟨k3, hk3, hi3, hr3⟩
        simp only at hi3 hr3
        subst hi3
        refine ⟨fun hlt3 => ?_, fun hge => by rw [hr3, show k3 = (kidsOf m2).length by omega, List.take_length]; exact ⟨su1, su2⟩⟩
        have hlt3' : k3 < (kidsOf m2).length := by omega
        have hp3 := kids_part hlt3'
        obtain ⟨sv1, sv2⟩ := kids_step hlt3' hr3 (by omega)
        have wk3 := u4 k3 hlt3'
        have hrl3 : r3.length = r2.length + (((kidsOf m2).take k3).flatMap items).length := by rw [hr3, List.length_append]
        rw [toNat_cast]
        refine ⟨⟨by omega, hlt3⟩, ?_⟩
        generalize hm3 : (kidsOf m2).getD k3 .nil = m3 at wk3 hp3 sv1 ⊢
        refine ⟨fun g5 => ⟨g5, ?_⟩, fun g5 => ⟨fun g6 => ?_, fun g6 => absurd (nil_of g5 g6) (wf_height wk3).2.2⟩⟩
        · rw [leaf_of g5] at sv1 hp3
          exact leafLoop _ _ (fun r' => KidsAt (kidsOf m2) r2 (IntKind.i64.wrap ((k3 : Int) + 1), r', ()) ∧ (kidsOf m2).length - (IntKind.i64.wrap ((k3 : Int) + 1)).toNat < (kidsOf m2).length - ((k3 : Int)).toNat) (by omega) ⟨sv1, sv2⟩
        · have := (kids_wf wk3 (by omega) g6).1
          omega
  · rw [nil_of h1 h2]
    rfl
end Go.Fr.D16
namespace Go.Fr.D16
open Go Go.Fr Go.Proofs
theorem fine_of {l : List Itm} (h : ∀ x ∈ l, checkI x = 0) : Fine l := fun i hi => by
  have := h i hi
  unfold checkI at this
  split at this
  · rename_i g
    simp [withinN] at g
    show 0 ≤ i.2.2.1.1 ∧ i.2.2.1.1 ≤ 1099511627776 ∧ 0 ≤ i.2.2.1.2.1 ∧ i.2.2.1.2.1 ≤ 1099511627776
    omega
  · cases this
theorem wf_inner_of {h : Nat} {top : Bool} {n : Nd} (e : Wf h top n) (hi : (NT.asInner n).isSome = true) : ∃ h' b, h = h' + 1 ∧ n = .inner (kidsOf n) b ∧ 1 ≤ h' ∧ (kidsOf n).length ≤ 8 ∧ ∀ k ∈ kidsOf n, Wf h' false k := by
  obtain ⟨b, hb⟩ := inner_of hi
  rw [hb] at e
  cases h with
  | zero => exact e.elim
  | succ h =>
    obtain ⟨w1, w2, w3, w4, w5, w6⟩ := e
    exact ⟨h, b, rfl, hb, w1, w3, w6⟩
theorem not_inner {n : Nd} (h : (NT.asInner n).isSome = false) (hn : NT.isNil n = false) : ∃ a, n = .leaf a := by
  cases n with
  | nil => cases hn
  | leaf a => exact ⟨a, rfl⟩
  | inner ks b => cases h
theorem findF_leaf (dim v bias : Int) (m : Nat) (a : Lf) (s : Sm) (vis : Int) : findF dim v bias (m + 1) (.leaf a) s vis = (findL dim v bias a.1 s, w64 (vis + 1)) := rfl
theorem findF_inner (dim v bias : Int) (m : Nat) (ks : List Nd) (b : Nx) (s : Sm) (vis : Int) : findF dim v bias (m + 1) (.inner ks b) s vis = findF dim v bias m (findK dim v bias ks s).2 (findK dim v bias ks s).1 (w64 (vis + 1)) := rfl
theorem findF_none (dim v bias : Int) (m : Nat) (s : Sm) (vis : Int) : findF dim v bias m .nil s vis = (s, vis) := by cases m <;> rfl
theorem findL_yes {dim v bias : Int} {i : Itm} {r : List Itm} {s : Sm} (h : reach v bias (sizeD (addS s (ofI i)) dim) = true) : findL dim v bias (i :: r) s = s := by
  unfold findL; rw [if_pos h]
theorem findL_no {dim v bias : Int} {i : Itm} {r : List Itm} {s : Sm} (h : reach v bias (sizeD (addS s (ofI i)) dim) = false) : findL dim v bias (i :: r) s = findL dim v bias r (addS s (ofI i)) := by
  conv => lhs; unfold findL
  rw [if_neg (by rw [h]; decide)]
theorem findK_yes {dim v bias : Int} {k : Nd} {r : List Nd} {s : Sm} (h : reach v bias (sizeD (addS s (sumOf k)) dim) = true) : findK dim v bias (k :: r) s = (s, k) := by
  unfold findK; rw [if_pos h]
theorem findK_no {dim v bias : Int} {k : Nd} {r : List Nd} {s : Sm} (h : reach v bias (sizeD (addS s (sumOf k)) dim) = false) : findK dim v bias (k :: r) s = findK dim v bias r (addS s (sumOf k)) := by
  conv => lhs; unfold findK
  rw [if_neg (by rw [h]; decide)]
theorem reach_gt {v bias e : Int} (h : e > v) : reach v bias e = true := by unfold reach; simp; omega
theorem reach_eq {v bias e : Int} (h : bias = 0) (h2 : e = v) : reach v bias e = true := by unfold reach; simp; omega
theorem reach_no {v bias e : Int} (h : ¬ e > v) (h2 : ¬ (bias = 0 ∧ e = v)) : reach v bias e = false := by unfold reach; simp; omega
theorem itemsOf_leaf (a : Lf) : itemsOf (.leaf a : Nd) = a.1 := rfl
def LeafAt (dim v bias : Int) (l : List Itm) (s0 : Sm) (z : Int × Int × Int × Int × Int × Int × Int × Unit) : Prop :=
  ∃ k : Nat, k ≤ l.length ∧ z.1 = (k : Int) ∧ findL dim v bias (l.drop k) (z.2.1, (z.2.2.1, z.2.2.2.1, z.2.2.2.2.1, ()), z.2.2.2.2.2.1, z.2.2.2.2.2.2.1, ()) = findL dim v bias l s0
def NodeAt (dim v bias : Int) (ks : List Nd) (s0 : Sm) (z : Nd × Int × Int × Int × Int × Int × Int × Int × Unit) : Prop :=
  z.1 = .nil ∧ ∃ k : Nat, k ≤ ks.length ∧ z.2.1 = (k : Int) ∧ findK dim v bias (ks.drop k) (z.2.2.1, (z.2.2.2.1, z.2.2.2.2.1, z.2.2.2.2.2.1, ()), z.2.2.2.2.2.2.1, z.2.2.2.2.2.2.2.1, ()) = findK dim v bias ks s0
def SeekAt (dim v bias : Int) (t : Nd) (z : Nd × Int × Int × Int × Int × Int × Int × Int × Unit) : Prop :=
  ∃ m h : Nat, h ≤ m ∧ m ≤ 101 ∧ (z.1 = .nil ∨ Wf h true z.1) ∧ findF dim v bias m z.1 (z.2.1, (z.2.2.1, z.2.2.2.1, z.2.2.2.2.1, ()), z.2.2.2.2.2.1, z.2.2.2.2.2.2.1, ()) z.2.2.2.2.2.2.2.1 = findF dim v bias 101 t zS 0
theorem p12 : vc12 := by
  unfold vc12
  simp only [eq_self, true_and, and_true, decide_eq_true_eq, decide_eq_false_iff_not, beq_iff_eq, beq_eq_false_iff_ne, bne_iff_ne, bne_eq_false_iff_eq, Bool.not_eq_true', Bool.not_eq_false', ne_eq]
  rintro ⟨t, dim, v, bias, ⟨⟩⟩
  simp only [ka', la', d47]
  intro hw
  have bad : (dim < 0 ∨ dim > 3 ∨ v < 0 ∨ v > sizeD (sumOf (topT t)) dim ∨ (bias ≠ 0 ∧ bias ≠ 1)) → ((0, (0, (0, 0, 0, ()), 0, 0, ()), 0, ()), 1, ()) = findT t dim v bias := fun h => by
    unfold findT; rw [if_pos h]; rfl
  refine ⟨fun h => bad (.inl h), fun g0 => ⟨fun h => bad (.inr (.inl h)), fun g1 => ⟨fun h => bad (.inr (.inr (.inl h))), fun g2 => ⟨by omega, fun h => bad (.inr (.inr (.inr (.inl h)))), fun g3 => ?_⟩⟩⟩⟩
  refine ⟨fun b0 => ⟨fun b1 => bad (.inr (.inr (.inr (.inr ⟨b0, b1⟩)))), fun b1 => ?_⟩, fun b0 => ?_⟩
  all_goals
    have hb : bias = 0 ∨ bias = 1 := by omega
    clear bad
    have res : ∀ (s : Sm) (vis : Int), (s, vis) = findF dim v bias 101 (topT t) zS 0 → ((s.1, s, vis, ()), 0, ()) = findT t dim v bias := fun s vis h => by
      unfold findT
      rw [if_neg (by omega)]
      unfold findP
      rw [← h]
    generalize topT t = n0 at hw res ⊢
    generalize findT t dim v bias = R at res ⊢
    have hz : ∃ h : Nat, h ≤ 101 ∧ (n0 = .nil ∨ Wf h true n0) := by
      rcases hw with e | ⟨h, h1, w⟩
      · exact ⟨0, by omega, .inl e⟩
      · exact ⟨h, by omega, .inr w⟩
    obtain ⟨h00, hz1, hz2⟩ := hz
    refine ⟨SeekAt dim v bias n0, fun z => (heightOf z.1).toNat, ⟨101, h00, hz1, Nat.le_refl _, hz2, rfl⟩, ?_⟩
    clear hz1 hz2 hw
    rintro a n b c d e f vis ⟨m, h, hm, hm2, hw, hf⟩
    simp only at hw hf
    refine ⟨fun hn => ⟨fun hi => ⟨fun hl => ⟨hl, ?_⟩, fun hl => absurd (nil_of hl hi) (isNil_f.1 hn)⟩, fun hi => ⟨hi, ?_⟩⟩, fun hn => ⟨fun hl => ?_, fun hl => ?_⟩⟩
    · obtain ⟨lf, rfl⟩ := not_inner hi hn
      have w := hw.resolve_left (isNil_f.1 hn)
      obtain ⟨m, rfl⟩ : ∃ m', m = m' + 1 := ⟨m - 1, by have := (wf_height w).2.1; omega⟩
      rw [findF_leaf] at hf
      rw [itemsOf_leaf]
      have hl8 : lf.1.length ≤ 8 := by
        cases h with
        | zero => exact w.elim
        | succ h => exact w.2.2.1
      generalize lf.1 = l at hf hl8 ⊢
      clear w hw hm hm2
      refine ⟨LeafAt dim v bias l (n, (b, c, d, ()), e, f, ()), fun z => l.length - z.1.toNat, ⟨0, Nat.zero_le _, rfl, rfl⟩, ?_⟩
      rintro i n' b' c' d' e' f' ⟨k, hk, hi2, hs⟩
      simp only at hi2 hs
      subst hi2
      refine ⟨fun g => ?_, fun g => ?_⟩
      · have hlt : k < l.length := by omega
        have hw64 : IntKind.i64.wrap ((k : Int) + 1) = ((k + 1 : Nat) : Int) := wrap_succ (by omega)
        rw [toNat_cast, hw64]
        rw [drop_cons zItm hlt] at hs
        generalize l.getD k zItm = it at hs ⊢
        have stop : reach v bias (sizeD (addS (n', (b', c', d', ()), e', f', ()) (ofI it)) dim) = true → ((n', (n', (b', c', d', ()), e', f', ()), IntKind.i64.wrap (vis + 1), ()), 0, ()) = R := fun hr => by
          rw [findL_yes hr] at hs
          rw [← hs] at hf
          exact res _ _ hf
        have go : reach v bias (sizeD (addS (n', (b', c', d', ()), e', f', ()) (ofI it)) dim) = false → ∀ s : Sm, s = addS (n', (b', c', d', ()), e', f', ()) (ofI it) → LeafAt dim v bias l (n, (b, c, d, ()), e, f, ()) (((k + 1 : Nat) : Int), s.1, s.2.1.1, s.2.1.2.1, s.2.1.2.2.1, s.2.2) := fun hr s hs2 => ⟨k + 1, hlt, rfl, by
          rw [findL_no hr, ← hs2] at hs
          exact hs⟩
        have dec : ∀ x : Int × Int × Int × Int × Int × Int × Unit, l.length - (((k + 1 : Nat) : Int)).toNat < l.length - ((k : Int)).toNat := fun _ => by simp only [toNat_cast]; omega
        refine ⟨⟨by omega, g⟩, by omega, fun g4 => stop (reach_gt g4), fun g4 => ⟨fun g5 => ⟨fun g6 => stop (reach_eq g5 g6), fun g6 => ⟨go (reach_no g4 (fun hh => g6 hh.2)) _ rfl, dec (0, 0, 0, 0, 0, 0, ())⟩⟩, fun g5 => ⟨go (reach_no g4 (fun hh => g5 hh.1)) _ rfl, dec (0, 0, 0, 0, 0, 0, ())⟩⟩⟩
      · have hke : k = l.length := by omega
        rw [hke, List.drop_length] at hs
        have hs : ((n', (b', c', d', ()), e', f', ()) : Sm) = findL dim v bias l (n, (b, c, d, ()), e, f, ()) := hs
        rw [← hs] at hf
        exact res _ _ hf
    · have w := hw.resolve_left (isNil_f.1 hn)
      obtain ⟨h', bx, rfl, ea, h1, k8, wk⟩ := wf_inner_of w hi
      obtain ⟨m, rfl⟩ : ∃ m', m = m' + 1 := ⟨m - 1, by omega⟩
      rw [ea, findF_inner] at hf
      have ha : heightOf a = ((h' + 1 : Nat) : Int) := (wf_height w).1
      generalize kidsOf a = ks at hf k8 wk ⊢
      refine ⟨NodeAt dim v bias ks (n, (b, c, d, ()), e, f, ()), fun z => ks.length - z.2.1.toNat, ⟨rfl, 0, Nat.zero_le _, rfl, rfl⟩, ?_⟩
      rintro kn i n' b' c' d' e' f' ⟨hkn, k, hk, hi2, hs⟩
      simp only at hkn hi2 hs
      subst hi2 hkn
      refine ⟨fun g => ?_, fun g => ?_⟩
      · have hlt : k < ks.length := by omega
        have hw64 : IntKind.i64.wrap ((k : Int) + 1) = ((k + 1 : Nat) : Int) := wrap_succ (by omega)
        rw [toNat_cast, hw64]
        rw [drop_cons .nil hlt] at hs
        have wkk := wk _ (getD_in .nil hlt)
        generalize ks.getD k .nil = it at hs wkk ⊢
        have stop : reach v bias (sizeD (addS (n', (b', c', d', ()), e', f', ()) (sumOf it)) dim) = true → SeekAt dim v bias n0 (it, n', b', c', d', e', f', IntKind.i64.wrap (vis + 1), ()) := fun hr => ⟨m, h', by omega, by omega, .inr (wf_top wkk), by
          rw [findK_yes hr] at hs
          rw [← hs] at hf
          exact hf⟩
        have low : (heightOf it).toNat < (heightOf a).toNat := by
          rw [ha, (wf_height wkk).1]; omega
        have go : reach v bias (sizeD (addS (n', (b', c', d', ()), e', f', ()) (sumOf it)) dim) = false → ∀ s : Sm, s = addS (n', (b', c', d', ()), e', f', ()) (sumOf it) → NodeAt dim v bias ks (n, (b, c, d, ()), e, f, ()) (.nil, ((k + 1 : Nat) : Int), s.1, s.2.1.1, s.2.1.2.1, s.2.1.2.2.1, s.2.2) := fun hr s hs2 => ⟨rfl, k + 1, hlt, rfl, by
          rw [findK_no hr, ← hs2] at hs
          exact hs⟩
        have dec : ks.length - (((k + 1 : Nat) : Int)).toNat < ks.length - ((k : Int)).toNat := by simp only [toNat_cast]; omega
        refine ⟨⟨by omega, g⟩, by omega, fun g4 => ⟨stop (reach_gt g4), low⟩, fun g4 => ⟨fun g5 => ⟨fun g6 => ⟨stop (reach_eq g5 g6), low⟩, fun g6 => ⟨go (reach_no g4 (fun hh => g6 hh.2)) _ rfl, dec⟩⟩, fun g5 => ⟨go (reach_no g4 (fun hh => g5 hh.1)) _ rfl, dec⟩⟩⟩
      · have hke : k = ks.length := by omega
        rw [hke, List.drop_length] at hs
        have hs : (((n', (b', c', d', ()), e', f', ()), .nil) : Sm × Nd) = findK dim v bias ks (n, (b, c, d, ()), e, f, ()) := hs
        rw [← hs] at hf
        exact ⟨⟨m, 0, Nat.zero_le _, by omega, .inl rfl, hf⟩, by show (heightOf (NT.nil : Nd)).toNat < (heightOf a).toNat; rw [ha]; show 0 < _; omega⟩
    · rw [isNil_t.1 hn] at hl; cases hl
    · rw [isNil_t.1 hn, findF_none] at hf
      exact res (n, (b, c, d, ()), e, f, ()) vis hf
theorem flat_at {ks : List Nd} {k j : Nat} (h : k < ks.length) (hj : j < (items (ks.getD k .nil)).length) : (ks.flatMap items).getD (((ks.take k).flatMap items).length + j) zItm = (items (ks.getD k .nil)).getD j zItm := by
  have hs : ks = ks.take k ++ (ks.getD k .nil :: ks.drop (k + 1)) := by
    conv => lhs; rw [← List.take_append_drop k ks]
    rw [drop_cons .nil h]
  generalize ks.getD k .nil = x at hs hj ⊢
  generalize ks.take k = a at hs ⊢
  rw [hs, List.flatMap_append, List.flatMap_cons, getD_app_r _ (by omega), getD_app_l _ (by omega)]
  congr 1
  omega
def DownAt (it : Itm) (z : Int × Nd × Unit) : Prop := ∃ h : Nat, h ≤ 100 ∧ Wf h true z.2.1 ∧ 0 ≤ z.1 ∧ z.1 < ((items z.2.1).length : Int) ∧ Fine (items z.2.1) ∧ (items z.2.1).length ≤ 100000 ∧ (items z.2.1).getD z.1.toNat zItm = it
theorem p13 : vc13 := by
  unfold vc13
  simp only [eq_self, true_and, and_true, decide_eq_true_eq, decide_eq_false_iff_not, Bool.not_eq_true', Bool.not_eq_false']
  rintro ⟨t, i0, ⟨⟩⟩
  simp only [ka', la', d47]
  rintro ⟨hw, hl, hc⟩
  have hf := fine_of hc
  have so := sum_top hw hf hl
  rw [so.1]
  have bad : (i0 < 0 ∨ i0 ≥ ((items (topT t)).length : Int)) → ((0, 0, (0, 0, 0, ()), 0, ByteArray.empty, ()), 1, ()) = atT t i0 := fun h => by
    unfold atT; rw [if_pos h]; rfl
  refine ⟨fun h => bad (.inl h), fun g0 => ⟨fun h => bad (.inr h), fun g1 => ?_⟩⟩
  have res : ∀ it, it = (items (topT t)).getD i0.toNat zItm → (it, 0, ()) = atT t i0 := fun it h => by
    unfold atT; rw [if_neg (by omega), h]
  have hz : DownAt ((items (topT t)).getD i0.toNat zItm) (i0, topT t, ()) := by
    rcases hw with e | ⟨h, h1, w⟩
    · exfalso
      rw [e, items_nil] at g1
      simp at g1
      omega
    · exact ⟨h, h1, w, by omega, by show i0 < ((items (topT t)).length : Int); omega, hf, hl, rfl⟩
  generalize (items (topT t)).getD i0.toNat zItm = it0 at hz res
  refine ⟨DownAt it0, fun z => (heightOf z.2.1).toNat, hz, ?_⟩
  rintro i n ⟨h, h1, w, i1, i2, nf, nl, hit⟩
  simp only at w i1 i2 nf nl hit
  have hn : NT.isNil n = false := isNil_f.2 (wf_height w).2.2
  refine ⟨fun hi => ?_, fun hi => ⟨hi, ?_⟩⟩
  · obtain ⟨a, rfl⟩ := not_inner hi hn
    rw [items_leaf] at i2 hit
    rw [itemsOf_leaf]
    exact ⟨rfl, rfl, ⟨i1, i2⟩, res _ hit⟩
  · obtain ⟨h', bx, rfl, ea, p1, k8, wk⟩ := wf_inner_of w hi
    have ei : items n = (kidsOf n).flatMap items := by
      rw [ea] at w ⊢
      exact items_inner w (by omega)
    have hh : heightOf n = ((h' + 1 : Nat) : Int) := (wf_height w).1
    rw [ei] at i2 nf nl hit
    generalize kidsOf n = ks at i2 nf nl hit k8 wk ⊢
    refine ⟨fun z => z.2.1 = n ∧ ∃ k : Nat, k ≤ ks.length ∧ z.2.2.1 = (k : Int) ∧ 0 ≤ z.1 ∧ z.1 + (((ks.take k).flatMap items).length : Int) = i, fun z => ks.length - z.2.2.1.toNat, ⟨rfl, 0, Nat.zero_le _, rfl, i1, by show i + 0 = i; omega⟩, ?_⟩
    rintro j n' m ⟨hn', k, hk, hm, j0, hj⟩
    simp only at hn' hm j0 hj
    subst hn' hm
    refine ⟨fun g => ?_, fun g => ?_⟩
    · have hlt : k < ks.length := by omega
      have hw64 : IntKind.i64.wrap ((k : Int) + 1) = ((k + 1 : Nat) : Int) := wrap_succ (by omega)
      rw [toNat_cast, hw64]
      have mem := getD_in (.nil : Nd) hlt
      have wkk := wk _ mem
      have sk := sum_wf h' false _ (by omega) wkk (fine_mem nf mem) (Nat.le_trans (len_mem mem) nl)
      have hlm := len_mem mem
      have tk : ((ks.take (k + 1)).flatMap items).length = ((ks.take k).flatMap items).length + (items (ks.getD k .nil)).length := by
        rw [take_one .nil hlt, List.flatMap_append, List.length_append]
        simp
      have fa := fun j => flat_at (j := j) hlt
      have fm := fine_mem nf mem
      rw [sk.1]
      generalize ks.getD k .nil = kid at wkk hlm tk fa fm ⊢
      have hws : IntKind.i64.wrap (j - ((items kid).length : Int)) = j - ((items kid).length : Int) := wrap_id (by omega) (by omega)
      rw [hws]
      refine ⟨⟨by omega, g⟩, fun g4 => ⟨⟨rfl, k + 1, hlt, rfl, by simp only []; omega, by simp only []; omega⟩, by simp only [toNat_cast]; omega⟩, fun g4 => ⟨⟨h', by omega, wf_top wkk, j0, by show j < ((items kid).length : Int); omega, fm, by show (items kid).length ≤ _; omega, ?_⟩, ?_⟩⟩
      · show (items kid).getD j.toNat zItm = it0
        rw [← fa j.toNat (by omega), ← hit]
        congr 1
        omega
      · show (heightOf kid).toNat < (heightOf n').toNat
        rw [hh, (wf_height wkk).1]; omega
    · exfalso
      have hke : k = ks.length := by omega
      rw [hke, List.take_length] at hj
      omega
end Go.Fr.D16
namespace Go.Fr.D16
open Go Go.Fr Go.Proofs
set_option maxRecDepth 100000
def hs20 : List (Nat × Nat × Hint) := []
def nm20 : List Nat := [3000000047]
noncomputable def E20 : Env := env tab [(22, cSum), (37, cTreeNew), (30, cTop), (38, cSplit), (39, cJoin)] [] gl hs20 nm20
def vc20 : Prop :=
 ∀
 (x :
 Option (Nd × Unit) ×
 Int × Int × List Itm × Unit),
 let y := x.snd.snd;
 let y_1 := x.snd.fst;
 let y_2 := x.fst;
 let y_3 := (sumOf (topT y_2)).fst;
 let y_4 := splitN (topT y_2) y_1;
 let y_5 :=  IntKind.wrap IntKind.i64  (IntKind.wrap IntKind.i64 (y_3 - IntKind.wrap IntKind.i64 (y.fst - y_1)) + (↑(List.length y.snd.fst) : Int));
 let y_6 := replT y_2 y_1 y.fst y.snd.fst;
 let y_7 := y.snd.fst;
 let y_8 := (splitN y_4.snd (IntKind.wrap IntKind.i64 (y.fst - y_1))).snd;
 let y_9 := decide (y.fst > y_3);
 let y := decide (y.fst < y_1);
 let y_10 := join y_4.fst (List.getD (optL (newT y_7).fst) (0 : Nat) (Ty.dflt t95)).fst;
 let y_11 := (newT y_7).snd.fst != (0 : Int);
 okTre y_2 ∧ List.length y_7 ≤ (100000 : Nat) →
 True ∧
 (decide (y_1 < (0 : Int)) = true → (none, (1 : Int), ()) = y_6) ∧
 (decide (y_1 < (0 : Int)) = false →
 (y = true → (none, (1 : Int), ()) = y_6) ∧
 (y = false →
 (y_9 = true → (none, (1 : Int), ()) = y_6) ∧
 (y_9 = false →
 List.length y_7 ≤ (100000 : Nat) ∧
 (y_11 = true → (none, (newT y_7).snd) = y_6) ∧
 (y_11 = false →
 (decide (y_5 > (30000 : Int)) = true → (none, (5 : Int), ()) = y_6) ∧
 (decide (y_5 > (30000 : Int)) = false →
 True ∧
 (WfN (topT y_2) ∧ okIts (items (topT y_2))) ∧
 (WfN y_4.snd ∧ okIts (items y_4.snd)) ∧
 Option.isSome (newT y_7).fst = true ∧
 (WfN y_4.fst ∧ WfN (List.getD (optL (newT y_7).fst) (0 : Nat) (Ty.dflt t95)).fst) ∧
 (WfN y_10 ∧ WfN y_8) ∧ (some (join y_10 y_8, ()), (0 : Int), ()) = y_6)))))
theorem vcEq20 : fnVC E20 Tryd.f20 (bodyOf Tryd.f20) cReplace = vc20 := by kernel_rfl
def hs38 : List (Nat × Nat × Hint) := [(0, 12, ⟨[.slot 1 t3, .slot 57 t3], [7, 55, 56], [], []⟩)]
def nm38 : List Nat := [3000000047]
noncomputable def E38 (nn : Nat) : Env := env tab [(53, cLeafOf), (32, cSumOf), (38, cSplit.cut muSplit nn), (54, cRowN), (39, cJoin)] [] gl hs38 nm38
def vc38 (nn : Nat) : Prop :=
 ∀ (x : Nd × Int × Unit),
 let y :=  (List.getD (optL (NT.asInner x.fst)) (0 : Nat)  (([], (0, zS, ())) : List Nd × Nx)).fst;
 let y_1 := x.snd.fst;
 let y_2 := NT.asLeaf x.fst;
 let y_3 := NT.asInner x.fst;
 let y_4 := x.fst;
 let y_5 := Option.isSome y_3;
 let y_6 := (List.getD (optL y_2) (0 : Nat) (([], zS, ()) : Lf)).fst;
 let y_7 := ((splitN y_4 y_1).fst, (splitN y_4 y_1).snd, ());
 let y_8 := decide (y_1 ≥ (↑(List.length y_6) : Int));
 let y_9 := List.take (Int.toNat y_1) y_6;
 let y_10 := List.drop (Int.toNat y_1) y_6;
 let y_11 := (↑(List.length y) : Int);
 (WfN y_4 ∧ okIts (items y_4)) ∧ muSplit x < nn + (1 : Nat) →
 (Option.isSome y_2 = true →
 (decide (y_1 ≤ (0 : Int)) = true → Option.isSome y_2 = true ∧ (NT.nil, NT.ofLeaf y_2, ()) = y_7) ∧
 (decide (y_1 ≤ (0 : Int)) = false →
 Option.isSome y_2 = true ∧
 (y_8 = true → Option.isSome y_2 = true ∧ (NT.ofLeaf y_2, (NT.nil : Nd), ()) = y_7) ∧
 (y_8 = false →
 Option.isSome y_2 = true ∧
 ((0 : Int) ≤ y_1 ∧ y_1 ≤ y_1 ∧ y_1 ≤ (↑(List.length y_6) : Int)) ∧
 List.length y_9 ≤ maxLen ∧
 Option.isSome (some (mkLf y_9)) = true ∧
 Option.isSome y_2 = true ∧
 ((0 : Int) ≤ y_1 ∧ y_1 ≤ (↑(List.length y_6) : Int)) ∧
 List.length y_10 ≤ maxLen ∧
 Option.isSome (some (mkLf y_10)) = true ∧
 (NT.ofLeaf (some (mkLf y_9)), NT.ofLeaf (some (mkLf y_10)), ()) = y_7))) ∧
 (Option.isSome y_2 = false →
 (Option.isSome y_3 = true →
 y_5 = true ∧
 ((0 : Int) = (0 : Int) ∧ y_1 = y_1 ∧ y_3 = y_3 ∧ y = y ∧ y_11 = y_11) ∧
 ∃ (Z : Int × Int × Unit → Prop),
 ∃ (μ : Int × Int × Unit → Nat),
 Z (y_1, (0 : Int), ()) ∧
 ∀ (a a_1 : Int),
 let y_12 :=  List.getD y (Int.toNat a_1)  (NT.nil : Nd);
 let y_13 := IntKind.wrap IntKind.i64 (a_1 + (1 : Int));
 let y_14 := List.take (Int.toNat a_1) y;
 let y_15 := (a, a_1, ());
 let y_16 := List.drop (Int.toNat y_13) y;
 let y_17 := (sumOf y_12).fst;
 let y_18 := (IntKind.wrap IntKind.i64 (a - y_17), y_13, ());
 Z y_15 →
 (decide (a_1 < y_11) = true →
 ((0 : Int) ≤ a_1 ∧ a_1 < y_11) ∧
 True ∧
 (decide (a ≤ y_17) = true →
 ((WfN y_12 ∧ okIts (items y_12)) ∧ muSplit (y_12, a, ()) < nn) ∧
 y_5 = true ∧
 ((0 : Int) ≤ a_1 ∧ a_1 ≤ a_1 ∧ a_1 ≤ y_11) ∧
 List.length y_14 ≤ (100000 : Nat) ∧
 (WfN (rowN y_14) ∧ WfN (splitN y_12 a).fst) ∧
 y_5 = true ∧
 ((0 : Int) ≤ y_13 ∧ y_13 ≤ y_11) ∧
 List.length y_16 ≤ (100000 : Nat) ∧
 (WfN (splitN y_12 a).snd ∧ WfN (rowN y_16)) ∧
 (join (rowN y_14) (splitN y_12 a).fst,
 join (splitN y_12 a).snd (rowN y_16), ()) =
 y_7) ∧
 (decide (a ≤ y_17) = false →
 (y_13 = y_13 ∧
 IntKind.wrap IntKind.i64 (a - y_17) = IntKind.wrap IntKind.i64 (a - y_17) ∧
 y_3 = y_3 ∧ y = y ∧ y_11 = y_11) ∧
 Z y_18 ∧ μ y_18 < μ y_15)) ∧
 (decide (a_1 < y_11) = false → y_5 = true ∧ (NT.ofInner y_3, (NT.nil : Nd), ()) = y_7)) ∧
 (Option.isSome y_3 = false → (NT.nil, (NT.nil : Nd), ()) = y_7))
theorem vcEq38 (nn : Nat) : fnVC (E38 nn) Tryd.f38 (bodyOf Tryd.f38) (cSplit.cut muSplit (nn + 1)) = vc38 nn := by kernel_rfl
end Go.Fr.D16
namespace Go.Fr.D16
open Go Go.Fr Go.Proofs
theorem d95 : Ty.dflt t95 = ((NT.nil, ()) : Nd × Unit) := rfl
theorem ok_part {l m : List Itm} (h : okIts l) (hm : ∀ i ∈ m, i ∈ l) (hl : m.length ≤ l.length) : okIts m := ⟨by have := h.1; omega, fun i hi => h.2 i (hm i hi)⟩
theorem splitN_leaf (x : Lf) (a : Int) : splitN (.leaf x) a = if a ≤ 0 then (.nil, .leaf x) else if a ≥ (x.1.length : Int) then (.leaf x, .nil) else (mkLeaf (x.1.take a.toNat), mkLeaf (x.1.drop a.toNat)) := rfl
theorem splitN_inner {h : Nat} {ks : List Nd} {b : Nx} {top : Bool} (e : Wf (h + 1) top (.inner ks b)) (a : Int) : splitN (.inner ks b) a = match spK ks 0 a with
      | none => (.inner ks b, .nil)
      | some q => (join (rowN (ks.take q.1)) (splitF h (ks.getD q.1 .nil) q.2).1, join (splitF h (ks.getD q.1 .nil) q.2).2 (rowN (ks.drop (q.1 + 1)))) := by
  unfold splitN
  rw [(wf_height e).1]
  rfl
theorem splitN_kid {h : Nat} {n : Nd} (e : Wf h false n) (a : Int) : splitF h n a = splitN n a := by
  unfold splitN
  rw [(wf_height e).1]
  rfl
theorem ofInner_self {n : Nd} (h : (NT.asInner n).isSome = true) : NT.ofInner (NT.asInner n) = n := by
  cases n with
  | nil => cases h
  | leaf a => cases h
  | inner ks b => rfl
theorem leaf_is {n : Nd} (h : (NT.asLeaf n).isSome = true) : ∃ a, n = .leaf a := by
  cases n with
  | nil => cases h
  | leaf a => exact ⟨a, rfl⟩
  | inner ks b => cases h
theorem p38 (n : Nat) : vc38 n := by
  unfold vc38
  simp only [eq_self, true_and, and_true, decide_eq_true_eq, decide_eq_false_iff_not]
  rintro ⟨x, a, ⟨⟩⟩
  simp only [maxLen_eq, ka', la']
  rintro ⟨⟨hw, hok⟩, hmu⟩
  have hf := fine_of hok.2
  have hl := hok.1
  refine ⟨fun hi => ?_, fun hi => ⟨fun hj => ⟨hj, ?_⟩, fun hj => ?_⟩⟩
  · obtain ⟨lf, rfl⟩ := leaf_is hi
    rw [itemsOf_leaf, splitN_leaf]
    have hlen : lf.1.length ≤ 100000 := hl
    have t1 : (lf.1.take a.toNat).length ≤ 9223372036854775807 := by rw [List.length_take]; omega
    have t2 : (lf.1.drop a.toNat).length ≤ 9223372036854775807 := by rw [List.length_drop]; omega
    refine ⟨fun g => ⟨hi, by rw [if_pos g]; rfl⟩, fun g => ⟨hi, fun g2 => ⟨hi, by rw [if_neg g, if_pos g2]; rfl⟩, fun g2 => ?_⟩⟩
    rw [if_neg g, if_neg g2]
    (repeat' (first | apply And.intro | intro _))
    all_goals first
      | exact hi
      | exact t1
      | exact t2
      | rfl
      | omega
  · rcases hw with rfl | ⟨h, h1, w⟩
    · cases hj
    obtain ⟨h', bx, rfl, ea, p1, k8, wk⟩ := wf_inner_of w hj
    have ei : items x = (kidsOf x).flatMap items := by
      rw [ea] at w ⊢
      exact items_inner w (by omega)
    have sp : splitN x a = match spK (kidsOf x) 0 a with
      | none => (x, .nil)
      | some q => (join (rowN ((kidsOf x).take q.1)) (splitF h' ((kidsOf x).getD q.1 .nil) q.2).1, join (splitF h' ((kidsOf x).getD q.1 .nil) q.2).2 (rowN ((kidsOf x).drop (q.1 + 1)))) := by
      rw [ea] at w ⊢
      exact splitN_inner w a
    have hmu : h' + 1 < n + 1 := by
      unfold muSplit at hmu
      rw [(wf_height w).1] at hmu
      exact hmu
    have self := ofInner_self hj
    rw [self]
    rw [ei] at hf hl hok
    clear w self ea
    generalize kidsOf x = ks at hf hl hok sp k8 wk ⊢
    refine ⟨fun z => ∃ k : Nat, k ≤ ks.length ∧ z.2.1 = (k : Int) ∧ spK (ks.drop k) k z.1 = spK ks 0 a, fun z => ks.length - z.2.1.toNat, ⟨0, Nat.zero_le _, rfl, rfl⟩, ?_⟩
    rintro a' i ⟨k, hk, hi2, hs⟩
    simp only at hi2 hs
    subst hi2
    refine ⟨fun g => ?_, fun g => ⟨hj, ?_⟩⟩
    · have hlt : k < ks.length := by omega
      have hw64 : IntKind.i64.wrap ((k : Int) + 1) = ((k + 1 : Nat) : Int) := wrap_succ (by omega)
      rw [toNat_cast, hw64]
      simp only [toNat_cast]
      have mem := getD_in (.nil : Nd) hlt
      have wkk := wk _ mem
      have fl := flat_len_le hlt
      have fm := fine_mem hf mem
      have okm : okIts (items (ks.getD k .nil)) := ok_part hok (fun i hi => List.mem_flatMap.2 ⟨_, mem, hi⟩) (len_mem mem)
      rw [drop_cons .nil hlt] at hs
      have es : spK (ks.getD k .nil :: ks.drop (k + 1)) k a' = if a' ≤ (sumOf (ks.getD k .nil)).1 then some (k, a') else spK (ks.drop (k + 1)) (k + 1) (w64 (a' - (sumOf (ks.getD k .nil)).1)) := rfl
      rw [es] at hs
      refine ⟨⟨by omega, g⟩, fun g4 => ?_, fun g4 => ⟨⟨k + 1, hlt, rfl, ?_⟩, by first | omega | (simp only [toNat_cast]; omega)⟩⟩
      · rw [if_pos g4] at hs
        rw [← hs] at sp
        simp only [] at sp
        rw [splitN_kid wkk] at sp
        have ha' : a' ≤ 9223372036854775807 := by
          have := (sum_wf h' false _ (by omega) wkk fm okm.1).1
          have := okm.1
          omega
        obtain ⟨s1, s2, s3, s4⟩ := splitN_ok (a := a') (.inr ⟨h', by omega, wf_top wkk⟩) fm okm.1 ha'
        obtain ⟨r1, r2⟩ := rowN_ok (ks := ks.take k) p1 (by omega) (by rw [List.length_take]; omega) (fun k hk => wk k (List.mem_of_mem_take hk))
        obtain ⟨r3, r4⟩ := rowN_ok (ks := ks.drop (k + 1)) p1 (by omega) (by rw [List.length_drop]; omega) (fun k hk => wk k (List.mem_of_mem_drop hk))
        have mu : muSplit (ks.getD k .nil, a', ()) < n := by
          unfold muSplit
          rw [(wf_height wkk).1]
          simp only [Int.toNat_natCast]
          omega
        have wn : WfN (ks.getD k .nil) := .inr ⟨h', by omega, wf_top wkk⟩
        have l1 : (ks.take k).length ≤ 100000 := by rw [List.length_take]; omega
        have l2 : (ks.drop (k + 1)).length ≤ 100000 := by rw [List.length_drop]; omega
        rw [sp]
        (repeat' (first | apply And.intro | intro _))
        all_goals first
          | exact wn
          | exact okm.1
          | exact okm.2 _ (by assumption)
          | exact mu
          | exact hj
          | exact l1
          | exact l2
          | exact r1
          | exact r3
          | exact s1
          | exact s2
          | rfl
          | omega
      · rw [if_neg g4] at hs
        exact hs
    · have hke : k = ks.length := by omega
      rw [hke, List.drop_length] at hs
      have hs : (none : Option (Nat × Int)) = spK ks 0 a := hs
      rw [sp, ← hs]
  · rw [nil_of hi hj]
    rfl
theorem p20 : vc20 := by
  unfold vc20
  simp only [true_and, decide_eq_true_eq, decide_eq_false_iff_not, bne_iff_ne, bne_eq_false_iff_eq, ne_eq]
  rintro ⟨t, f, e, l, ⟨⟩⟩
  simp only [d95]
  rintro ⟨⟨hw, hok⟩, hl⟩
  have hf := fine_of hok.2
  have so := (sum_top hw hf hok.1).1
  have bad : (f < 0 ∨ e < f ∨ e > (sumOf (topT t)).1) → (none, 1, ()) = replT t f e l := fun h => by unfold replT; rw [if_pos h]
  refine ⟨fun h => bad (.inl h), fun g0 => ⟨fun h => bad (.inr (.inl h)), fun g1 => ⟨fun h => bad (.inr (.inr h)), fun g2 => ⟨hl, fun h => ?_, fun h => ?_⟩⟩⟩⟩
  · unfold replT
    rw [if_neg (by omega), if_pos h]
  · obtain ⟨n1, n2, n3⟩ := newT_zero h
    refine ⟨fun h2 => ?_, fun h2 => ?_⟩
    · unfold replT
      rw [if_neg (by omega), if_neg (fun hh => hh h), if_pos (show w64 (w64 ((sumOf (topT t)).1 - w64 (e - f)) + (l.length : Int)) > 30000 from h2)]
    · obtain ⟨b1, b2⟩ := buildT_ok hl
      have hlo := hok.1
      obtain ⟨r1, r2, r3, r4, r5, r6, r7⟩ := replN_ok (mid := buildT l) (from_ := f) (to := e) hw hf hok.1 b1 (by rw [b2]; exact hl) (by omega) (by omega) (by omega)
      have e1 : ((optL (newT l).1).getD 0 ((NT.nil, ()) : Nd × Unit)).1 = buildT l := by rw [n3]; rfl
      have e2 : (newT l).1.isSome = true := by rw [n3]; rfl
      rw [e1]
      have okd : okIts (items (splitN (topT t) f).2) := by
        rw [r3]
        exact ok_part hok (fun i hi => List.mem_of_mem_drop hi) (by rw [List.length_drop]; omega)
      have fin : (some (join (join (splitN (topT t) f).1 (buildT l)) (splitN (splitN (topT t) f).2 (IntKind.i64.wrap (e - f))).2, ()), (0 : Int), ()) = replT t f e l := by
        unfold replT
        rw [if_neg (by omega), if_neg (fun hh => hh h), if_neg (show ¬ w64 (w64 ((sumOf (topT t)).1 - w64 (e - f)) + (l.length : Int)) > 30000 from h2), n3]
        rfl
      exact ⟨⟨hw, hok⟩, ⟨r2, okd⟩, e2, ⟨r1, b1⟩, ⟨r4, r5⟩, fin⟩
end Go.Fr.D16
namespace Go.Fr.D16
open Go Go.Fr Go.Proofs
end Go.Fr.D16
namespace Go.Fr.D16
open Go Go.Fr Go.Proofs
set_option maxRecDepth 100000
def hs4 : List (Nat × Nat × Hint) := []
def nm4 : List Nat := [3000000047]
noncomputable def E4 : Env := env tab [(11, cTreeC), (12, cFind), (13, cAt)] [] gl hs4 nm4
def vc4 : Prop :=
 ∀ (x : Option (Option (Nd × Unit) × Unit) × Int × Unit),
 okTre (treeOf x.fst) →
 True ∧
 WfN (topT (treeOf x.fst)) ∧
 (((findT (treeOf x.fst) (0 : Int) x.snd.fst (1 : Int)).snd.fst != (0 : Int)) = true →
 ((0 : Int), (findT (treeOf x.fst) (0 : Int) x.snd.fst (1 : Int)).snd) = outCr x.fst x.snd.fst) ∧
 (((findT (treeOf x.fst) (0 : Int) x.snd.fst (1 : Int)).snd.fst != (0 : Int)) = false →
 True ∧
 okTre (treeOf x.fst) ∧
 (((atT (treeOf x.fst) (findT (treeOf x.fst) (0 : Int) x.snd.fst (1 : Int)).fst.fst).fst.fst ==
 (1 : Int)) =
 true →
 ((0 : Int) ≤ (1 : Int) ∧ (1 : Int) < (↑(3 : Nat) : Int)) ∧
 ((findT (treeOf x.fst) (0 : Int) x.snd.fst (1 : Int)).fst.snd.fst.snd.fst.snd.fst, (0 : Int),
 ()) =
 outCr x.fst x.snd.fst) ∧
 (((atT (treeOf x.fst) (findT (treeOf x.fst) (0 : Int) x.snd.fst (1 : Int)).fst.fst).fst.fst ==
 (1 : Int)) =
 false →
 ((0 : Int) ≤ (1 : Int) ∧ (1 : Int) < (↑(3 : Nat) : Int)) ∧
 ((0 : Int) ≤ (0 : Int) ∧ (0 : Int) < (↑(3 : Nat) : Int)) ∧
 (IntKind.wrap IntKind.i64
 (IntKind.wrap IntKind.i64
 ((findT (treeOf x.fst) (0 : Int) x.snd.fst (1 : Int)).fst.snd.fst.snd.fst.snd.fst +
 x.snd.fst) -
 (findT (treeOf x.fst) (0 : Int) x.snd.fst (1 : Int)).fst.snd.fst.snd.fst.fst),
 (0 : Int), ()) =
 outCr x.fst x.snd.fst))
theorem vcEq4 : fnVC E4 Tryd.f4 (bodyOf Tryd.f4) cOutC = vc4 := by kernel_rfl
def hs5 : List (Nat × Nat × Hint) := []
def nm5 : List Nat := [3000000047]
noncomputable def E5 : Env := env tab [(11, cTreeC), (12, cFind)] [] gl hs5 nm5
def vc5 : Prop :=
 ∀ (x : Option (Option (Nd × Unit) × Unit) × Int × Unit),
 WfN (topT (treeOf x.fst)) →
 True ∧
 WfN (topT (treeOf x.fst)) ∧
 (((findT (treeOf x.fst) (1 : Int) x.snd.fst (1 : Int)).snd.fst != (0 : Int)) = true →
 ((0 : Int), (findT (treeOf x.fst) (1 : Int) x.snd.fst (1 : Int)).snd) = inCr x.fst x.snd.fst) ∧
 (((findT (treeOf x.fst) (1 : Int) x.snd.fst (1 : Int)).snd.fst != (0 : Int)) = false →
 ((0 : Int) ≤ (0 : Int) ∧ (0 : Int) < (↑(3 : Nat) : Int)) ∧
 ((0 : Int) ≤ (1 : Int) ∧ (1 : Int) < (↑(3 : Nat) : Int)) ∧
 (IntKind.wrap IntKind.i64
 (IntKind.wrap IntKind.i64
 ((findT (treeOf x.fst) (1 : Int) x.snd.fst (1 : Int)).fst.snd.fst.snd.fst.fst + x.snd.fst) -
 (findT (treeOf x.fst) (1 : Int) x.snd.fst (1 : Int)).fst.snd.fst.snd.fst.snd.fst),
 (0 : Int), ()) =
 inCr x.fst x.snd.fst)
theorem vcEq5 : fnVC E5 Tryd.f5 (bodyOf Tryd.f5) cInC = vc5 := by kernel_rfl
def hs6 : List (Nat × Nat × Hint) := []
def nm6 : List Nat := [3000000047]
noncomputable def E6 : Env := env tab [(7, cSizesC), (14, cSizes), (15, cRightC), (16, cFits), (18, cPlacesC), (17, cWithinC), (19, cEdges), (11, cTreeC), (21, cRowC), (20, cReplace)] [] gl hs6 nm6
def vc6 : Prop :=
 ∀
 (x :
 Option (Option (Nd × Unit) × Unit) ×
 (Int × Int × Unit) ×
 (Int × Int × Unit) ×
 Option (Option (Nd × Unit) × Unit) ×
 List (Int × Int × Unit) × Unit),
 let y := x.snd.snd;
 let y_1 := x.snd.fst;
 let y_2 := x.fst;
 let y_3 := (edgesC y_2 y_1 y.fst).snd;
 let y_4 :=  replT (treeOf y_2) (edgesC y_2 y_1 y.fst).fst y_3.fst  (rowC y_3.snd.fst.snd.fst y_3.snd.fst.fst (withinC (placesC y.snd.fst y.snd.snd.fst) y.fst).fst);
 let y_5 := updC y_2 y_1 y.fst y.snd.fst y.snd.snd.fst;
 let y_6 := y_3.snd;
 let y_7 := y.snd;
 let y_8 := y_1.fst != y.fst.fst;
 let y_9 :=  IntKind.wrap IntKind.i64 (nW y_2 - y_1.snd.fst) !=  IntKind.wrap IntKind.i64 ((sumOf (topT (treeOf y_7.fst))).snd.fst.snd.fst - y.fst.snd.fst);
 let y_10 := y_7.snd.fst;
 let y_11 := y_7.fst;
 let y_12 := !fitsW y.fst (sumOf (topT (treeOf y_11))).snd.fst.snd.fst;
 let y := withinC (placesC y_11 y_10) y.fst;
 let y_13 := y_4.snd.fst != (0 : Int);
 okTre (treeOf y_2) ∧ WfN (topT (treeOf y_11)) ∧ List.length y_10 ≤ (10000 : Nat) →
 True ∧
 True ∧
 List.length y_10 ≤ maxLen ∧
 ((!rightL (nW y_11) (0 : Int) y_10) = true → (none, (1 : Int), ()) = y_5) ∧
 ((!rightL (nW y_11) (0 : Int) y_10) = false →
 True ∧
 ((!fitsW y_1 (nW y_2)) = true → (none, (1 : Int), ()) = y_5) ∧
 ((!fitsW y_1 (nW y_2)) = false →
 True ∧
 (y_12 = true → (none, (1 : Int), ()) = y_5) ∧
 (y_12 = false →
 (y_8 = true → (none, (1 : Int), ()) = y_5) ∧
 (y_8 = false →
 (y_9 = true → (none, (1 : Int), ()) = y_5) ∧
 (y_9 = false →
 (WfN (topT (treeOf y_11)) ∧ List.length y_10 ≤ (100000 : Nat)) ∧
 List.length (placesC y_11 y_10) ≤ (100000 : Nat) ∧
 okTre (treeOf y_2) ∧
 ((!y.snd.fst) = true → (none, (1 : Int), ()) = y_5) ∧
 ((!y.snd.fst) = false →
 ((!y_6.snd.fst) = true → (none, (1 : Int), ()) = y_5) ∧
 ((!y_6.snd.fst) = false →
 True ∧
 List.length y.fst ≤ (10000 : Nat) ∧
 (okTre (treeOf y_2) ∧
 List.length (rowC y_6.fst.snd.fst y_6.fst.fst y.fst) ≤
 (100000 : Nat)) ∧
 (y_13 = true → (none, y_4.snd) = y_5) ∧
 (y_13 = false →
 (some (y_4.fst, ()), (0 : Int), ()) = y_5))))))))
theorem vcEq6 : fnVC E6 Tryd.f6 (bodyOf Tryd.f6) cUpdC = vc6 := by kernel_rfl
def hs7 : List (Nat × Nat × Hint) := []
def nm7 : List Nat := [3000000047]
noncomputable def E7 : Env := env tab [(11, cTreeC), (22, cSum)] [] gl hs7 nm7
def vc7 : Prop :=
 ∀ (x : Option (Option (Nd × Unit) × Unit) × Unit),
 True →
 True ∧
 True ∧
 ((0 : Int) ≤ (0 : Int) ∧ (0 : Int) < (↑(3 : Nat) : Int)) ∧
 ((0 : Int) ≤ (1 : Int) ∧ (1 : Int) < (↑(3 : Nat) : Int)) ∧
 ((sumOf (topT (treeOf x.fst))).snd.fst.fst, (sumOf (topT (treeOf x.fst))).snd.fst.snd.fst, ()) =
 (nW x.fst, mW x.fst, ())
theorem vcEq7 : fnVC E7 Tryd.f7 (bodyOf Tryd.f7) cSizesC = vc7 := by kernel_rfl
def hs8 : List (Nat × Nat × Hint) := [(0, 3, ⟨[.rowS 3 900000003 t68 68, .slot 11 t3], [9, 10], [], []⟩)]
def nm8 : List Nat := [3000000047]
noncomputable def E8 : Env := env tab [(11, cTreeC), (23, cItems)] [] gl hs8 nm8
def vc8 : Prop :=
 ∀ (x : Option (Option (Nd × Unit) × Unit) × Unit),
 let y := items (topT (treeOf x.fst));
 let y_1 := (↑(List.length y) : Int);
 lowT (topT (treeOf x.fst)) →
 True ∧
 ((topT (treeOf x.fst) = (NT.nil : Nd) ∨ ∃ (h : Nat), h ≤ (4 : Nat) ∧ Wf h true (topT (treeOf x.fst))) ∧
 List.length y ≤ (100000 : Nat)) ∧
 (((0 : Int) = (0 : Int) ∧ True ∧ y = y ∧ y_1 = y_1) ∧ True ∧ True) ∧
 ∃ (Z : List (Int × Int × Unit) × Int × Unit → Prop),
 ∃ (μ : List (Int × Int × Unit) × Int × Unit → Nat),
 Z ([], (0 : Int), ()) ∧
 ∀ (a : List (Int × Int × Unit)) (a_1 : Int),
 let y_2 := ((List.getD y (Int.toNat a_1) (Ty.dflt t47)).snd.snd.fst.snd.fst, ());
 let y_3 := (a, a_1, ());
 let y_4 := IntKind.wrap IntKind.i64 (a_1 + (1 : Int));
 let y_5 := (List.getD y (Int.toNat a_1) (Ty.dflt t47)).fst == (1 : Int);
 let y_6 := [((List.getD y (Int.toNat a_1) (Ty.dflt t47)).snd.snd.fst.fst, y_2)];
 let y_7 := a ++ [((0 : Int), y_2)];
 let y_8 := List.length a + List.length [((0 : Int), y_2)];
 let y_9 := (y_7, y_4, ());
 let y_10 := (a ++ y_6, y_4, ());
 Z y_3 →
 (decide (a_1 < y_1) = true →
 ((0 : Int) ≤ a_1 ∧ a_1 < y_1) ∧
 ((0 : Int) ≤ (1 : Int) ∧ (1 : Int) < (↑(3 : Nat) : Int)) ∧
 (y_5 = true →
 ((0 : Int) ≤ (0 : Int) ∧ (0 : Int) < (↑(3 : Nat) : Int)) ∧
 (List.length a + List.length y_6) * (16 : Nat) ≤ (140737488355328 : Nat) ∧
 List.length a + List.length y_6 ≤ maxLen ∧
 ((y_4 = y_4 ∧ True ∧ y = y ∧ y_1 = y_1) ∧ a ++ y_6 = a ++ y_6 ∧ True) ∧
 Z y_10 ∧ μ y_10 < μ y_3) ∧
 (y_5 = false →
 y_8 * (16 : Nat) ≤ (140737488355328 : Nat) ∧
 y_8 ≤ maxLen ∧
 ((y_4 = y_4 ∧ True ∧ y = y ∧ y_1 = y_1) ∧ y_7 = y_7 ∧ True) ∧
 Z y_9 ∧ μ y_9 < μ y_3)) ∧
 (decide (a_1 < y_1) = false → a = piecesC (treeOf x.fst))
theorem vcEq8 : fnVC E8 Tryd.f8 (bodyOf Tryd.f8) cPiecesC = vc8 := by kernel_rfl
def hs9 : List (Nat × Nat × Hint) := []
def nm9 : List Nat := [3000000047]
noncomputable def E9 : Env := env tab [(11, cTreeC), (24, cHeightT)] [] gl hs9 nm9
def vc9 : Prop :=
 ∀ (x : Option (Option (Nd × Unit) × Unit) × Unit),
 True → True ∧ True ∧ heightOf (topT (treeOf x.fst)) = heightOf (topT (treeOf x.fst))
theorem vcEq9 : fnVC E9 Tryd.f9 (bodyOf Tryd.f9) cHeightC = vc9 := by kernel_rfl
def hs11 : List (Nat × Nat × Hint) := []
def nm11 : List Nat := [3000000047]
noncomputable def E11 : Env := env tab [] [] gl hs11 nm11
def vc11 : Prop :=
 ∀ (x : Option (Option (Nd × Unit) × Unit) × Unit),
 True →
 (Option.isNone x.fst = true → none = treeOf x.fst) ∧
 (Option.isNone x.fst = false →
 Option.isSome x.fst = true ∧ (List.getD (optL x.fst) (0 : Nat) (Ty.dflt t64)).fst = treeOf x.fst)
theorem vcEq11 : fnVC E11 Tryd.f11 (bodyOf Tryd.f11) cTreeC = vc11 := by kernel_rfl
def hs15 : List (Nat × Nat × Hint) := [(0, 4, ⟨[.slot 7 t3, .slot 17 t3], [5, 15, 16], [], []⟩)]
def nm15 : List Nat := [3000000047]
noncomputable def E15 : Env := env tab [(14, cSizes)] [] gl hs15 nm15
def vc15 : Prop :=
 ∀
 (x :
 Option (Option (Nd × Unit) × Unit) ×
 List (Int × Int × Unit) × Unit),
 let y := x.snd.fst;
 let y_1 := (sumOf (topT (treeOf x.fst))).snd.fst.fst;
 let y_2 := (↑(List.length y) : Int);
 let y_3 := rightL (nW x.fst) (0 : Int) y;
 List.length y ≤ maxLen →
 True ∧
 ((0 : Int) = (0 : Int) ∧ (0 : Int) = (0 : Int) ∧ y_1 = y_1 ∧ y = y ∧ y_2 = y_2) ∧
 ∃ (Z : Int × Int × Unit → Prop),
 ∃ (μ : Int × Int × Unit → Nat),
 Z ((0 : Int), (0 : Int), ()) ∧
 ∀ (a a_1 : Int),
 let y_4 := (List.getD y (Int.toNat a_1) (Ty.dflt t29)).snd.fst;
 let y_5 := (List.getD y (Int.toNat a_1) (Ty.dflt t29)).fst;
 let y_6 := (a, a_1, ());
 let y_7 := IntKind.wrap IntKind.i64 (a_1 + (1 : Int));
 let y_8 := (y_4, y_7, ());
 let y_9 := decide (y_4 ≤ y_5);
 Z y_6 →
 (decide (a_1 < y_2) = true →
 ((0 : Int) ≤ a_1 ∧ a_1 < y_2) ∧
 (decide (y_5 < a) = true → false = y_3) ∧
 (decide (y_5 < a) = false →
 (y_9 = true → false = y_3) ∧
 (y_9 = false →
 (decide (y_4 > y_1) = true → false = y_3) ∧
 (decide (y_4 > y_1) = false →
 (y_7 = y_7 ∧ y_4 = y_4 ∧ y_1 = y_1 ∧ y = y ∧ y_2 = y_2) ∧
 Z y_8 ∧ μ y_8 < μ y_6)))) ∧
 (decide (a_1 < y_2) = false → true = y_3)
theorem vcEq15 : fnVC E15 Tryd.f15 (bodyOf Tryd.f15) cRightC = vc15 := by kernel_rfl
def hs17 : List (Nat × Nat × Hint) := [(0, 3, ⟨[.rowS 6 900000006 t29 29, .slot 11 t3], [3, 9, 10], [3], []⟩)]
def nm17 : List Nat := [3000000047]
noncomputable def E17 : Env := env tab [(35, cAcross)] [] gl hs17 nm17
def vc17 : Prop :=
 ∀ (x : List (Int × Int × Unit) × (Int × Int × Unit) × Unit),
 let y := x.snd.fst;
 let y_1 := x.fst;
 let y_2 := (↑(List.length y_1) : Int);
 let y_3 := y.snd.fst;
 let y_4 := y.fst;
 List.length y_1 ≤ (100000 : Nat) →
 (((0 : Int) = (0 : Int) ∧ True ∧ True ∧ y_1 = y_1 ∧ y_2 = y_2) ∧ (y_4 = y_4 ∧ y_3 = y_3) ∧ True ∧ True) ∧
 ∃ (Z : List (Int × Int × Unit) × Int × Unit → Prop),
 ∃ (μ : List (Int × Int × Unit) × Int × Unit → Nat),
 Z ([], (0 : Int), ()) ∧
 ∀ (a : List (Int × Int × Unit)) (a_1 : Int),
 let y_5 := (a, IntKind.wrap IntKind.i64 (a_1 + (1 : Int)), ());
 let y_6 := (a, a_1, ());
 let y_7 := List.getD y_1 (Int.toNat a_1) (Ty.dflt t29);
 let y_8 := IntKind.wrap IntKind.i64 (a_1 + (1 : Int));
 let y_9 := (a ++ [y_7], y_8, ());
 let y_10 := y_7.snd.fst;
 let y_11 := a ++ [y_7];
 let y_12 := y_7.fst;
 Z y_6 →
 (decide (a_1 < y_2) = true →
 ((0 : Int) ≤ a_1 ∧ a_1 < y_2) ∧
 True ∧
 (acrossS y_7 y_4 = true → ([], false, ()) = withinC y_1 y) ∧
 (acrossS y_7 y_4 = false →
 True ∧
 (acrossS y_7 y_3 = true → ([], false, ()) = withinC y_1 y) ∧
 (acrossS y_7 y_3 = false →
 (decide (y_12 ≥ y_4) = true →
 (decide (y_10 ≤ y_3) = true →
 (List.length a + List.length [y_7]) * (16 : Nat) ≤ (140737488355328 : Nat) ∧
 List.length a + List.length [y_7] ≤ maxLen ∧
 ((y_8 = y_8 ∧ True ∧ True ∧ y_1 = y_1 ∧ y_2 = y_2) ∧
 (y_4 = y_4 ∧ y_3 = y_3) ∧ y_11 = y_11 ∧ True) ∧
 Z y_9 ∧ μ y_9 < μ y_6) ∧
 (decide (y_10 ≤ y_3) = false →
 ((y_8 = y_8 ∧ True ∧ True ∧ y_1 = y_1 ∧ y_2 = y_2) ∧
 (y_4 = y_4 ∧ y_3 = y_3) ∧ a = a ∧ True) ∧
 Z y_5 ∧ μ y_5 < μ y_6)) ∧
 (decide (y_12 ≥ y_4) = false →
 ((y_8 = y_8 ∧ True ∧ True ∧ y_1 = y_1 ∧ y_2 = y_2) ∧
 (y_4 = y_4 ∧ y_3 = y_3) ∧ a = a ∧ True) ∧
 Z y_5 ∧ μ y_5 < μ y_6)))) ∧
 (decide (a_1 < y_2) = false → (a, true, ()) = withinC y_1 y)
theorem vcEq17 : fnVC E17 Tryd.f17 (bodyOf Tryd.f17) cWithinC = vc17 := by kernel_rfl
def hs18 : List (Nat × Nat × Hint) := [(0, 3, ⟨[.rowS 5 900000005 t29 29, .slot 14 t3], [0, 12, 13], [], []⟩)]
def nm18 : List Nat := [3000000047]
noncomputable def E18 : Env := env tab [(36, cOut)] [] gl hs18 nm18
def vc18 : Prop :=
 ∀
 (x :
 Option (Option (Nd × Unit) × Unit) ×
 List (Int × Int × Unit) × Unit),
 let y := x.snd.fst;
 let y_1 := x.fst;
 let y_2 := (↑(List.length y) : Int);
 WfN (topT (treeOf y_1)) ∧ List.length y ≤ (100000 : Nat) →
 (((0 : Int) = (0 : Int) ∧ True ∧ y_1 = y_1 ∧ y = y ∧ y_2 = y_2) ∧ True ∧ True) ∧
 ∃ (Z : List (Int × Int × Unit) × Int × Unit → Prop),
 ∃ (μ : List (Int × Int × Unit) × Int × Unit → Nat),
 Z ([], (0 : Int), ()) ∧
 ∀ (a : List (Int × Int × Unit)) (a_1 : Int),
 let y_3 :=  [((outW y_1 (List.getD y (Int.toNat a_1) (Ty.dflt t29)).fst (1 : Int)).fst,  (outW y_1 (List.getD y (Int.toNat a_1) (Ty.dflt t29)).snd.fst (0 : Int)).fst, ())];
 let y_4 := (a, a_1, ());
 let y_5 := IntKind.wrap IntKind.i64 (a_1 + (1 : Int));
 let y_6 := (a ++ y_3, y_5, ());
 Z y_4 →
 (decide (a_1 < y_2) = true →
 ((0 : Int) ≤ a_1 ∧ a_1 < y_2) ∧
 WfN (topT (treeOf y_1)) ∧
 WfN (topT (treeOf y_1)) ∧
 (List.length a + List.length y_3) * (16 : Nat) ≤ (140737488355328 : Nat) ∧
 List.length a + List.length y_3 ≤ maxLen ∧
 ((y_5 = y_5 ∧ True ∧ y_1 = y_1 ∧ y = y ∧ y_2 = y_2) ∧ a ++ y_3 = a ++ y_3 ∧ True) ∧
 Z y_6 ∧ μ y_6 < μ y_4) ∧
 (decide (a_1 < y_2) = false → a = placesC y_1 y)
theorem vcEq18 : fnVC E18 Tryd.f18 (bodyOf Tryd.f18) cPlacesC = vc18 := by kernel_rfl
def hs19 : List (Nat × Nat × Hint) := []
def nm19 : List Nat := [3000000047]
noncomputable def E19 : Env := env tab [(11, cTreeC), (12, cFind), (13, cAt), (35, cAcross)] [] gl hs19 nm19
def vc19 : Prop :=
 ∀
 (x :
 Option (Option (Nd × Unit) × Unit) ×
 (Int × Int × Unit) × (Int × Int × Unit) × Unit),
 let y := (findT (treeOf x.fst) (0 : Int) x.snd.fst.snd.fst (1 : Int)).fst;
 let y_1 := (findT (treeOf x.fst) (0 : Int) x.snd.fst.fst (0 : Int)).fst;
 let y_2 := edgesC x.fst x.snd.fst x.snd.snd.fst;
 let y_3 := ((0 : Int), (0 : Int), x.snd.snd.fst, false, ());
 let y_4 := treeOf x.fst;
 let y_5 := x.snd.snd.fst;
 let y_6 := x.snd.fst;
 let y_7 := IntKind.wrap IntKind.i64 (y.snd.fst.snd.fst.fst + (atT y_4 y.fst).fst.snd.snd.fst.fst);
 let y_8 := IntKind.wrap IntKind.i64 (y_1.snd.fst.snd.fst.fst + (atT y_4 y_1.fst).fst.snd.snd.fst.fst);
 let y_9 := y_1.fst;
 let y_10 := y_1.snd.fst.snd.fst.fst;
 let y_11 := (y_10, y_5.snd);
 let y_12 := IntKind.wrap IntKind.i64 (y_9 + (1 : Int));
 let y_13 := (atT y_4 y_9).fst.fst == (0 : Int);
 let y_14 := (atT y_4 y_9).snd.fst == (0 : Int);
 let y_15 := acrossS (y_10, y_8, ()) y_6.fst;
 let y_16 := y_8 == y_6.fst;
 let y_17 := acrossS (y.snd.fst.snd.fst.fst, y_7, ()) y_6.snd.fst;
 let y_18 := if y_9 < y.fst then y.fst else y_9;
 let y_19 := (IntKind.wrap IntKind.i64 (y_5.snd.fst + IntKind.wrap IntKind.i64 (y_7 - y_6.snd.fst)), ());
 let y_20 := (y_12, if y_12 < y.fst then y.fst else y_12, y_5, true, ());
 let y_21 := (atT y_4 y.fst).fst.fst == (0 : Int);
 let y_22 := (atT y_4 y.fst).snd.fst == (0 : Int);
 let y_23 :=  if y_9 < IntKind.wrap IntKind.i64 (y.fst + (1 : Int)) then IntKind.wrap IntKind.i64 (y.fst + (1 : Int)) else y_9;
 let y := IntKind.wrap IntKind.i64 (y.fst + (1 : Int));
 let y_24 := (y_9, y_23, (y_5.fst, y_19), true, ());
 let y_25 := (y_9, y_18, y_5, true, ());
 let y_26 := (y_9, y_18, y_11, true, ());
 okTre y_4 →
 True ∧
 WfN (topT y_4) ∧
 True ∧
 okTre y_4 ∧
 (y_14 = true →
 ((0 : Int) ≤ (0 : Int) ∧ (0 : Int) < (↑(3 : Nat) : Int)) ∧
 ((0 : Int) ≤ (0 : Int) ∧ (0 : Int) < (↑(3 : Nat) : Int)) ∧
 ((0 : Int) ≤ (0 : Int) ∧ (0 : Int) < (↑(3 : Nat) : Int)) ∧
 (y_13 = true →
 True ∧
 WfN (topT y_4) ∧
 True ∧
 okTre y_4 ∧
 (y_22 = true →
 ((0 : Int) ≤ (0 : Int) ∧ (0 : Int) < (↑(3 : Nat) : Int)) ∧
 ((0 : Int) ≤ (0 : Int) ∧ (0 : Int) < (↑(3 : Nat) : Int)) ∧
 ((0 : Int) ≤ (0 : Int) ∧ (0 : Int) < (↑(3 : Nat) : Int)) ∧
 (y_21 = true → (y_9, y_23, (y_10, y_19), true, ()) = y_2) ∧
 (y_21 = false →
 True ∧
 (y_17 = true → ((0 : Int), (0 : Int), y_11, false, ()) = y_2) ∧
 (y_17 = false → y_26 = y_2))) ∧
 (y_22 = false → y_26 = y_2)) ∧
 (y_13 = false →
 True ∧
 (y_15 = true → y_3 = y_2) ∧
 (y_15 = false →
 (y_16 = true →
 True ∧
 WfN (topT y_4) ∧
 True ∧
 okTre y_4 ∧
 (y_22 = true →
 ((0 : Int) ≤ (0 : Int) ∧ (0 : Int) < (↑(3 : Nat) : Int)) ∧
 ((0 : Int) ≤ (0 : Int) ∧ (0 : Int) < (↑(3 : Nat) : Int)) ∧
 ((0 : Int) ≤ (0 : Int) ∧ (0 : Int) < (↑(3 : Nat) : Int)) ∧
 (y_21 = true →
 (y_12, if y_12 < y then y else y_12, (y_5.fst, y_19), true,
 ()) =
 y_2) ∧
 (y_21 = false →
 True ∧
 (y_17 = true → y_3 = y_2) ∧ (y_17 = false → y_20 = y_2))) ∧
 (y_22 = false → y_20 = y_2)) ∧
 (y_16 = false →
 True ∧
 WfN (topT y_4) ∧
 True ∧
 okTre y_4 ∧
 (y_22 = true →
 ((0 : Int) ≤ (0 : Int) ∧ (0 : Int) < (↑(3 : Nat) : Int)) ∧
 ((0 : Int) ≤ (0 : Int) ∧ (0 : Int) < (↑(3 : Nat) : Int)) ∧
 ((0 : Int) ≤ (0 : Int) ∧ (0 : Int) < (↑(3 : Nat) : Int)) ∧
 (y_21 = true → y_24 = y_2) ∧
 (y_21 = false →
 True ∧
 (y_17 = true → y_3 = y_2) ∧ (y_17 = false → y_25 = y_2))) ∧
 (y_22 = false → y_25 = y_2))))) ∧
 (y_14 = false →
 True ∧
 WfN (topT y_4) ∧
 True ∧
 okTre y_4 ∧
 (y_22 = true →
 ((0 : Int) ≤ (0 : Int) ∧ (0 : Int) < (↑(3 : Nat) : Int)) ∧
 ((0 : Int) ≤ (0 : Int) ∧ (0 : Int) < (↑(3 : Nat) : Int)) ∧
 ((0 : Int) ≤ (0 : Int) ∧ (0 : Int) < (↑(3 : Nat) : Int)) ∧
 (y_21 = true → y_24 = y_2) ∧
 (y_21 = false → True ∧ (y_17 = true → y_3 = y_2) ∧ (y_17 = false → y_25 = y_2))) ∧
 (y_22 = false → y_25 = y_2))
theorem vcEq19 : fnVC E19 Tryd.f19 (bodyOf Tryd.f19) cEdges = vc19 := by kernel_rfl
def hs21 : List (Nat × Nat × Hint) := [(0, 3, ⟨[.slot 0 t3, .rowS 7 900000007 t47 47, .slot 12 t3], [1, 10, 11], [], []⟩)]
def nm21 : List Nat := [3000000047]
noncomputable def E21 : Env := env tab [(40, cPlainC), (41, cFoldC)] [] gl hs21 nm21
def vc21 : Prop :=
 ∀ (x : Int × Int × List (Int × Int × Unit) × Unit),
 let y := x.snd.snd.fst;
 let y_1 := x.snd.fst;
 let y_2 := x.fst;
 let y_3 := (↑(List.length y) : Int);
 let y_4 := rowC y_1 y_2 y;
 List.length y ≤ (10000 : Nat) →
 (((0 : Int) = (0 : Int) ∧ True ∧ y_2 = y_2 ∧ y_1 = y_1 ∧ y = y ∧ y_3 = y_3) ∧ True ∧ True) ∧
 ∃ (Z : Int × List Itm × Int × Unit → Prop),
 ∃ (μ : Int × List Itm × Int × Unit → Nat),
 Z (y_2, [], (0 : Int), ()) ∧
 ∀ (a : Int),
 let y_5 := [plainC (IntKind.wrap IntKind.i64 (y_1 - a))];
 ∀ (a_1 : List Itm) (a_2 : Int),
 let y_6 :=  [foldC  (IntKind.wrap IntKind.i64  ((List.getD y (Int.toNat a_2) (Ty.dflt t29)).snd.fst -  (List.getD y (Int.toNat a_2) (Ty.dflt t29)).fst))];
 let y_7 := (a, a_1, a_2, ());
 let y_8 := (List.getD y (Int.toNat a_2) (Ty.dflt t29)).fst;
 let y_9 := (List.getD y (Int.toNat a_2) (Ty.dflt t29)).snd.fst;
 let y_10 := IntKind.wrap IntKind.i64 (a_2 + (1 : Int));
 let y_11 := [plainC (IntKind.wrap IntKind.i64 (y_8 - a))];
 let y_12 := a_1 ++ y_11 ++ y_6;
 let y_13 := (y_9, a_1 ++ y_6, y_10, ());
 let y_14 := List.length (a_1 ++ y_11) + List.length y_6;
 let y_15 := (y_9, y_12, y_10, ());
 Z y_7 →
 (decide (a_2 < y_3) = true →
 ((0 : Int) ≤ a_2 ∧ a_2 < y_3) ∧
 (decide (y_8 > a) = true →
 True ∧
 (List.length a_1 + List.length y_11) * (64 : Nat) ≤ (140737488355328 : Nat) ∧
 List.length a_1 + List.length y_11 ≤ maxLen ∧
 True ∧
 y_14 * (64 : Nat) ≤ (140737488355328 : Nat) ∧
 y_14 ≤ maxLen ∧
 ((y_10 = y_10 ∧ True ∧ y_9 = y_9 ∧ y_1 = y_1 ∧ y = y ∧ y_3 = y_3) ∧
 y_12 = y_12 ∧ True) ∧
 Z y_15 ∧ μ y_15 < μ y_7) ∧
 (decide (y_8 > a) = false →
 True ∧
 (List.length a_1 + List.length y_6) * (64 : Nat) ≤ (140737488355328 : Nat) ∧
 List.length a_1 + List.length y_6 ≤ maxLen ∧
 ((y_10 = y_10 ∧ True ∧ y_9 = y_9 ∧ y_1 = y_1 ∧ y = y ∧ y_3 = y_3) ∧
 a_1 ++ y_6 = a_1 ++ y_6 ∧ True) ∧
 Z y_13 ∧ μ y_13 < μ y_7)) ∧
 (decide (a_2 < y_3) = false →
 (decide (y_1 > a) = true →
 True ∧
 (List.length a_1 + List.length y_5) * (64 : Nat) ≤ (140737488355328 : Nat) ∧
 List.length a_1 + List.length y_5 ≤ maxLen ∧ a_1 ++ y_5 = y_4) ∧
 (decide (y_1 > a) = false → a_1 = y_4))
theorem vcEq21 : fnVC E21 Tryd.f21 (bodyOf Tryd.f21) cRowC = vc21 := by kernel_rfl
def hs26 : List (Nat × Nat × Hint) := []
def nm26 : List Nat := [3000000047]
noncomputable def E26 : Env := env tab [(15, cRightC), (14, cSizes), (18, cPlacesC), (21, cRowC), (37, cTreeNew)] [] gl hs26 nm26
def vc26 : Prop :=
 ∀
 (x :
 Option (Option (Nd × Unit) × Unit) ×
 List (Int × Int × Unit) × Unit),
 WfN (topT (treeOf x.fst)) ∧ List.length x.snd.fst ≤ (10000 : Nat) →
 List.length x.snd.fst ≤ maxLen ∧
 ((!rightL (nW x.fst) (0 : Int) x.snd.fst) = true → (none, (1 : Int), ()) = newC x.fst x.snd.fst) ∧
 ((!rightL (nW x.fst) (0 : Int) x.snd.fst) = false →
 True ∧
 (WfN (topT (treeOf x.fst)) ∧ List.length x.snd.fst ≤ (100000 : Nat)) ∧
 List.length (placesC x.fst x.snd.fst) ≤ (10000 : Nat) ∧
 List.length (rowC (sumOf (topT (treeOf x.fst))).snd.fst.snd.fst (0 : Int) (placesC x.fst x.snd.fst)) ≤
 (100000 : Nat) ∧
 (((newT
 (rowC (sumOf (topT (treeOf x.fst))).snd.fst.snd.fst (0 : Int)
 (placesC x.fst x.snd.fst))).snd.fst !=
 (0 : Int)) =
 true →
 (none,
 (newT
 (rowC (sumOf (topT (treeOf x.fst))).snd.fst.snd.fst (0 : Int)
 (placesC x.fst x.snd.fst))).snd) =
 newC x.fst x.snd.fst) ∧
 (((newT
 (rowC (sumOf (topT (treeOf x.fst))).snd.fst.snd.fst (0 : Int)
 (placesC x.fst x.snd.fst))).snd.fst !=
 (0 : Int)) =
 false →
 (some
 ((newT
 (rowC (sumOf (topT (treeOf x.fst))).snd.fst.snd.fst (0 : Int)
 (placesC x.fst x.snd.fst))).fst,
 ()),
 (0 : Int), ()) =
 newC x.fst x.snd.fst))
theorem vcEq26 : fnVC E26 Tryd.f26 (bodyOf Tryd.f26) cNewC = vc26 := by kernel_rfl
def hs35 : List (Nat × Nat × Hint) := []
def nm35 : List Nat := [3000000047]
noncomputable def E35 : Env := env tab [] [] gl hs35 nm35
def vc35 : Prop :=
 ∀ (x : (Int × Int × Unit) × Int × Unit),
 True →
 (decide (x.fst.fst < x.snd.fst) = true → decide (x.snd.fst < x.fst.snd.fst) = acrossS x.fst x.snd.fst) ∧
 (decide (x.fst.fst < x.snd.fst) = false → false = acrossS x.fst x.snd.fst)
theorem vcEq35 : fnVC E35 Tryd.f35 (bodyOf Tryd.f35) cAcross = vc35 := by kernel_rfl
def hs40 : List (Nat × Nat × Hint) := []
def nm40 : List Nat := [3000000047]
noncomputable def E40 : Env := env tab [] [] gl hs40 nm40
def vc40 : Prop :=
 ∀ (x : Int × Unit),
 True → ((0 : Int), (0 : Int), (x.fst, x.fst, (0 : Int), ()), (0 : Int), ByteArray.empty, ()) = plainC x.fst
theorem vcEq40 : fnVC E40 Tryd.f40 (bodyOf Tryd.f40) cPlainC = vc40 := by kernel_rfl
def hs41 : List (Nat × Nat × Hint) := []
def nm41 : List Nat := [3000000047]
noncomputable def E41 : Env := env tab [] [] gl hs41 nm41
def vc41 : Prop :=
 ∀ (x : Int × Unit),
 True → ((1 : Int), (0 : Int), (x.fst, (1 : Int), (0 : Int), ()), (0 : Int), ByteArray.empty, ()) = foldC x.fst
theorem vcEq41 : fnVC E41 Tryd.f41 (bodyOf Tryd.f41) cFoldC = vc41 := by kernel_rfl
end Go.Fr.D16
namespace Go.Fr.D16
open Go Go.Fr Go.Proofs
theorem d29 : Ty.dflt t29 = zSp := rfl
theorem p40 : vc40 := by
  unfold vc40
  intro x _
  rfl
theorem p41 : vc41 := by
  unfold vc41
  intro x _
  rfl
theorem p9 : vc9 := by
  unfold vc9
  intro x _
  exact ⟨trivial, trivial, rfl⟩
theorem p11 : vc11 := by
  unfold vc11
  rintro ⟨s, ⟨⟩⟩ -
  cases s with
  | none => exact ⟨fun _ => rfl, fun h => by cases h⟩
  | some s => exact ⟨fun h => (by cases h), fun _ => ⟨rfl, rfl⟩⟩
theorem p7 : vc7 := by
  unfold vc7
  intro x
  (repeat' (first | apply And.intro | intro _))
  all_goals first
    | decide
    | rfl
    | trivial
theorem p35 : vc35 := by
  unfold vc35
  rintro ⟨x, a, ⟨⟩⟩ -
  refine ⟨fun h => ?_, fun h => ?_⟩
  · have h : decide (x.1 < a) = true := h
    show decide (a < x.2.1) = (decide (x.1 < a) && decide (a < x.2.1))
    rw [h]; rfl
  · have h : decide (x.1 < a) = false := h
    show false = (decide (x.1 < a) && decide (a < x.2.1))
    rw [h]; rfl
theorem rightL_at {n f : Int} {l : List Span} {k : Nat} (h : k < l.length) : rightL n f (l.drop k) = if (l.getD k zSp).1 < f ∨ (l.getD k zSp).2.1 ≤ (l.getD k zSp).1 ∨ (l.getD k zSp).2.1 > n then false else rightL n (l.getD k zSp).2.1 (l.drop (k + 1)) := by
  rw [drop_cons zSp h]
  rfl
def RightAt (n : Int) (l : List Span) (z : Int × Int × Unit) : Prop := ∃ k : Nat, k ≤ l.length ∧ z.2.1 = (k : Int) ∧ rightL n 0 l = rightL n z.1 (l.drop k)
theorem right_loop {n : Int} {l : List Span} (hl : l.length ≤ 9223372036854775807) {f : Int} {k : Nat} (hk : k ≤ l.length) (hr : rightL n 0 l = rightL n f (l.drop k)) :
    ((k : Int) < (l.length : Int) → ((l.getD k zSp).1 < f → false = rightL n 0 l) ∧ (¬ (l.getD k zSp).1 < f → ((l.getD k zSp).2.1 ≤ (l.getD k zSp).1 → false = rightL n 0 l) ∧ (¬ (l.getD k zSp).2.1 ≤ (l.getD k zSp).1 →
      ((l.getD k zSp).2.1 > n → false = rightL n 0 l) ∧ (¬ (l.getD k zSp).2.1 > n → RightAt n l ((l.getD k zSp).2.1, ((k + 1 : Nat) : Int), ()))))) ∧ (¬ (k : Int) < (l.length : Int) → true = rightL n 0 l) := by
  refine ⟨fun h => ?_, fun h => ?_⟩
  · have hlt : k < l.length := by omega
    rw [rightL_at hlt] at hr
    refine ⟨fun g => ?_, fun g => ⟨fun g2 => ?_, fun g2 => ⟨fun g3 => ?_, fun g3 => ⟨k + 1, hlt, rfl, ?_⟩⟩⟩⟩
    · rw [hr, if_pos (.inl g)]
    · rw [hr, if_pos (.inr (.inl g2))]
    · rw [hr, if_pos (.inr (.inr g3))]
    · rw [hr, if_neg (by omega)]
  · rw [hr, show k = l.length by omega, List.drop_length]
    rfl
theorem p15 : vc15 := by
  unfold vc15
  simp only [eq_self, true_and, and_true, decide_eq_true_eq, decide_eq_false_iff_not]
  rintro ⟨w, l, ⟨⟩⟩
  simp only [maxLen_eq, d29]
  intro hl
  refine ⟨RightAt (nW w) l, fun z => l.length - z.2.1.toNat, ⟨0, Nat.zero_le _, rfl, rfl⟩, ?_⟩
  rintro f i ⟨k, hk, hi, hr⟩
  simp only at hi hr
  subst hi
  obtain ⟨st, en⟩ := right_loop hl hk hr
  refine ⟨fun h => ?_, en⟩
  have hlt : k < l.length := by omega
  have hw : IntKind.i64.wrap ((k : Int) + 1) = ((k + 1 : Nat) : Int) := wrap_succ (by omega)
  rw [toNat_cast, hw]
  simp only [toNat_cast]
  obtain ⟨s1, s2⟩ := st h
  have dec : l.length - (k + 1) < l.length - k := by omega
  refine ⟨by omega, s1, fun g => ⟨fun g2 => (s2 g).1 (by omega), fun g2 => ⟨((s2 g).2 (by omega)).1, fun g3 => ⟨((s2 g).2 (by omega)).2 g3, dec⟩⟩⟩⟩
theorem rowC_len (t : Int) : (f : Int) → (l : List Span) → (rowC t f l).length ≤ 2 * l.length + 1
  | f, [] => by
    unfold rowC
    split <;> simp
  | f, x :: r => by
    have := rowC_len t x.2.1 r
    unfold rowC
    split
    · simp; omega
    · simp; omega
theorem p26 : vc26 := by
  unfold vc26
  simp only [true_and, bne_iff_ne, bne_eq_false_iff_eq, ne_eq, Bool.not_eq_true', Bool.not_eq_false']
  rintro ⟨w, l, ⟨⟩⟩ ⟨h1, h2⟩
  simp only at h1 h2
  have pl : (placesC w l).length = l.length := List.length_map _
  have rl := rowC_len (mW w) 0 (placesC w l)
  have b1 : l.length ≤ maxLen := by rw [maxLen_eq]; omega
  have b2 : l.length ≤ 100000 := by omega
  have b3 : (placesC w l).length ≤ 10000 := by omega
  refine ⟨b1, fun h => ?_, fun h => ⟨⟨h1, b2⟩, b3, ?_, fun g => ?_, fun g => ?_⟩⟩
  · unfold newC
    rw [if_pos h]
  · show (rowC (mW w) 0 (placesC w l)).length ≤ 100000
    omega
  · unfold newC
    rw [if_neg (by simp only at h; rw [h]; decide), if_pos g]
  · unfold newC
    rw [if_neg (by simp only at h; rw [h]; decide), if_neg (by simpa using g)]
theorem p4 : vc4 := by
  unfold vc4
  simp only [true_and, bne_iff_ne, bne_eq_false_iff_eq, ne_eq, beq_iff_eq, beq_eq_false_iff_ne]
  rintro ⟨c, a, ⟨⟩⟩ hw
  have y : ¬ (findT (treeOf c) 0 a 1).2.1 = 0 → (0, (findT (treeOf c) 0 a 1).2) = outCr c a := fun h => by
    unfold outCr
    rw [if_pos h]
  have n : (findT (treeOf c) 0 a 1).2.1 = 0 → (atT (treeOf c) (findT (treeOf c) 0 a 1).1.1).1.1 = 1 → ((findT (treeOf c) 0 a 1).1.2.1.2.1.2.1, 0, ()) = outCr c a := fun h h2 => by
    unfold outCr
    rw [if_neg (fun hh => hh h), if_pos h2]
  have n2 : (findT (treeOf c) 0 a 1).2.1 = 0 → ¬ (atT (treeOf c) (findT (treeOf c) 0 a 1).1.1).1.1 = 1 → (w64 (w64 ((findT (treeOf c) 0 a 1).1.2.1.2.1.2.1 + a) - (findT (treeOf c) 0 a 1).1.2.1.2.1.1), 0, ()) = outCr c a := fun h h2 => by
    unfold outCr
    rw [if_neg (fun hh => hh h), if_neg h2]
  (repeat' (first | apply And.intro | intro _))
  all_goals first
    | exact hw.1
    | exact hw
    | exact hw.2.1
    | exact hw.2.2 _ (by assumption)
    | exact y (by assumption)
    | exact n (by assumption) (by assumption)
    | exact n2 (by assumption) (by assumption)
    | decide
    | omega
theorem p5 : vc5 := by
  unfold vc5
  simp only [true_and, bne_iff_ne, bne_eq_false_iff_eq, ne_eq]
  rintro ⟨c, a, ⟨⟩⟩ hw
  have y : ¬ (findT (treeOf c) 1 a 1).2.1 = 0 → (0, (findT (treeOf c) 1 a 1).2) = inCr c a := fun h => by
    unfold inCr
    rw [if_pos h]
  have n : (findT (treeOf c) 1 a 1).2.1 = 0 → (w64 (w64 ((findT (treeOf c) 1 a 1).1.2.1.2.1.1 + a) - (findT (treeOf c) 1 a 1).1.2.1.2.1.2.1), 0, ()) = inCr c a := fun h => by
    unfold inCr
    rw [if_neg (fun hh => hh h)]
  (repeat' (first | apply And.intro | intro _))
  all_goals first
    | exact hw
    | exact y (by assumption)
    | exact n (by assumption)
    | decide
    | omega
end Go.Fr.D16
namespace Go.Fr.D16
open Go Go.Fr Go.Proofs
def Spans (f t : Int) : List Span → Prop
  | [] => f ≤ t
  | x :: r => f ≤ x.1 ∧ x.1 < x.2.1 ∧ Spans x.2.1 t r
theorem spans_le : {f t : Int} → {l : List Span} → Spans f t l → f ≤ t
  | _, _, [], h => h
  | _, _, x :: r, h => by have := spans_le h.2.2; have := h.1; have := h.2.1; omega
theorem spans_all : {f t : Int} → {l : List Span} → Spans f t l → ∀ x ∈ l, f ≤ x.1 ∧ x.1 < x.2.1 ∧ x.2.1 ≤ t
  | _, _, [], _ => fun x hx => by cases hx
  | f, t, x :: r, h => by
    intro y hy
    rcases List.mem_cons.1 hy with e | hy
    · subst e
      exact ⟨h.1, h.2.1, spans_le h.2.2⟩
    · have := spans_all h.2.2 y hy
      have := h.1
      have := h.2.1
      omega
def rowK (t : Int) : Int → List Span → List Itm
  | f, [] => if t > f then [plainC (t - f)] else []
  | f, x :: r => if x.1 > f then plainC (x.1 - f) :: foldC (x.2.1 - x.1) :: rowK t x.2.1 r else foldC (x.2.1 - x.1) :: rowK t x.2.1 r
theorem rowC_eq {t : Int} (ht : t ≤ 1099511627776) : (f : Int) → (l : List Span) → 0 ≤ f → Spans f t l → rowC t f l = rowK t f l
  | f, [], h0, h => by
    have h : f ≤ t := h
    unfold rowC rowK
    rw [w64_id (by omega) (by omega)]
  | f, x :: r, h0, h => by
    obtain ⟨h1, h2, h3⟩ := h
    have h4 := spans_le h3
    unfold rowC rowK
    rw [w64_id (n := x.1 - f) (by omega) (by omega), w64_id (n := x.2.1 - x.1) (by omega) (by omega), rowC_eq ht x.2.1 r (by omega) h3]
theorem rowK_len {t : Int} : (f : Int) → (l : List Span) → (rowK t f l).length ≤ 2 * l.length + 1
  | f, [] => by
    unfold rowK
    split <;> simp
  | f, x :: r => by
    have := rowK_len (t := t) x.2.1 r
    unfold rowK
    split
    · simp; omega
    · simp; omega
def okC (i : Itm) : Prop := (i.1 = 0 ∧ d0 i = d1 i ∧ 1 ≤ d0 i ∧ d0 i ≤ 1099511627776) ∨ (i.1 = 1 ∧ d1 i = 1 ∧ 1 ≤ d0 i ∧ d0 i ≤ 1099511627776)
def CRow (l : List Itm) : Prop := ∀ i ∈ l, okC i
theorem crow_fine {l : List Itm} (h : CRow l) : Fine l := fun i hi => by
  rcases h i hi with h | h <;> (show 0 ≤ d0 i ∧ d0 i ≤ 1099511627776 ∧ 0 ≤ d1 i ∧ d1 i ≤ 1099511627776; omega)
theorem crow_cons {i : Itm} {l : List Itm} (h : CRow (i :: l)) : okC i ∧ CRow l := ⟨h i (List.mem_cons_self ..), fun j hj => h j (List.mem_cons_of_mem _ hj)⟩
theorem rowK_crow {t : Int} (ht : t ≤ 1099511627776) : (f : Int) → (l : List Span) → 0 ≤ f → Spans f t l → CRow (rowK t f l)
  | f, [], h0, h => by
    have h : f ≤ t := h
    unfold rowK
    split
    · intro i hi
      rw [List.mem_singleton.1 hi]
      exact .inl ⟨rfl, rfl, by show 1 ≤ t - f; omega, by show t - f ≤ _; omega⟩
    · intro i hi; cases hi
  | f, x :: r, h0, h => by
    obtain ⟨h1, h2, h3⟩ := h
    have h4 := spans_le h3
    have ih := rowK_crow ht x.2.1 r (by omega) h3
    have fo : okC (foldC (x.2.1 - x.1)) := .inr ⟨rfl, rfl, by show 1 ≤ x.2.1 - x.1; omega, by show x.2.1 - x.1 ≤ _; omega⟩
    unfold rowK
    by_cases hx : x.1 > f
    · rw [if_pos hx]
      intro i hi
      rcases List.mem_cons.1 hi with e | hi
      · subst e; exact .inl ⟨rfl, rfl, by show 1 ≤ x.1 - f; omega, by show x.1 - f ≤ _; omega⟩
      · rcases List.mem_cons.1 hi with e | hi
        · subst e; exact fo
        · exact ih i hi
    · rw [if_neg hx]
      intro i hi
      rcases List.mem_cons.1 hi with e | hi
      · subst e; exact fo
      · exact ih i hi
theorem rowK_check {t : Int} (ht : t ≤ 1099511627776) {f : Int} {l : List Span} (h0 : 0 ≤ f) (h : Spans f t l) : ∀ i ∈ rowK t f l, checkI i = 0 := by
  have cp : ∀ n : Int, 0 ≤ n → n ≤ 1099511627776 → checkI (plainC n) = 0 := fun n h0 h1 => by
    unfold checkI
    rw [if_pos]
    show (withinN 0 && withinN n && withinN n && withinN 0) = true
    simp [withinN, h0, h1]
  have cf : ∀ n : Int, 0 ≤ n → n ≤ 1099511627776 → checkI (foldC n) = 0 := fun n h0 h1 => by
    unfold checkI
    rw [if_pos]
    show (withinN 0 && withinN n && withinN 1 && withinN 0) = true
    simp [withinN, h0, h1]
  induction l generalizing f with
  | nil =>
    have h : f ≤ t := h
    unfold rowK
    split
    · intro i hi
      rw [List.mem_singleton.1 hi]
      exact cp _ (by omega) (by omega)
    · intro i hi; cases hi
  | cons x r ih =>
    obtain ⟨h1, h2, h3⟩ := h
    have h4 := spans_le h3
    have ih := ih (f := x.2.1) (by omega) h3
    unfold rowK
    by_cases hx : x.1 > f
    · rw [if_pos hx]
      intro i hi
      rcases List.mem_cons.1 hi with e | hi
      · subst e; exact cp _ (by omega) (by omega)
      · rcases List.mem_cons.1 hi with e | hi
        · subst e; exact cf _ (by omega) (by omega)
        · exact ih i hi
    · rw [if_neg hx]
      intro i hi
      rcases List.mem_cons.1 hi with e | hi
      · subst e; exact cf _ (by omega) (by omega)
      · exact ih i hi
theorem hides_none {l : List Span} {a : Int} (h : ∀ x ∈ l, ¬ (x.1 ≤ a ∧ a < x.2.1)) : hidX l a = none := by
  unfold hidX
  rw [List.find?_eq_none]
  intro x hx
  simpa using h x hx
theorem hides_skip {p l : List Span} {a : Int} (h : ∀ x ∈ p, ¬ (x.1 ≤ a ∧ a < x.2.1)) : hidX (p ++ l) a = hidX l a := by
  unfold hidX
  rw [List.find?_append]
  have := hides_none h
  unfold hidX at this
  rw [this]
  rfl
theorem hides_head {x : Span} {l : List Span} {a : Int} (h : x.1 ≤ a ∧ a < x.2.1) : hidX (x :: l) a = some x := by
  unfold hidX
  rw [List.find?_cons_of_pos]
  simpa using h
def expC (b : Int) : List Itm → List Int
  | [] => []
  | i :: r => (if i.1 = 1 then [b] else (List.range (d0 i).toNat).map fun k : Nat => b + (k : Int)) ++ expC (b + d0 i) r
def headC (b : Int) (i : Itm) : List Int := if i.1 = 1 then [b] else (List.range (d0 i).toNat).map fun k : Nat => b + (k : Int)
theorem expC_cons (b : Int) (i : Itm) (r : List Itm) : expC b (i :: r) = headC b i ++ expC (b + d0 i) r := rfl
theorem headC_len {b : Int} {i : Itm} (h : okC i) : ((headC b i).length : Int) = d1 i := by
  unfold headC
  rcases h with h | h
  · rw [if_neg (by omega), List.length_map, List.length_range]; omega
  · rw [if_pos h.1, h.2.1]; rfl
theorem expC_len : {l : List Itm} → (b : Int) → CRow l → ((expC b l).length : Int) = sum1 l
  | [], _, _ => rfl
  | i :: l, b, h => by
    obtain ⟨h1, h2⟩ := crow_cons h
    have ih := expC_len (b + d0 i) h2
    have := headC_len (b := b) h1
    rw [expC_cons, List.length_append, sum1_cons]
    omega
def fromN (f : Int) (n : Nat) : List Int := (List.range n).map fun k : Nat => f + (k : Int)
theorem fromN_succ (f : Int) (n : Nat) : fromN f (n + 1) = f :: fromN (f + 1) n := by
  unfold fromN
  rw [List.range_succ_eq_map, List.map_cons, List.map_map]
  congr 1
  · omega
  · refine List.map_congr_left fun k _ => ?_
    show f + ((k + 1 : Nat) : Int) = f + 1 + (k : Int)
    omega
theorem fromN_add (f : Int) (m n : Nat) : fromN f (m + n) = fromN f m ++ fromN (f + m) n := by
  induction m generalizing f with
  | zero => simp [fromN]
  | succ m ih =>
    rw [show m + 1 + n = (m + n) + 1 by omega, fromN_succ, ih (f + 1), fromN_succ, List.cons_append]
    congr 2
    congr 1
    omega
def isStart (l : List Span) (a : Int) : Bool := match hidX l a with | none => true | some x => decide (x.1 = a)
theorem starts_row {m : Int} : (f : Int) → (p l : List Span) → (∀ x ∈ p, x.2.1 ≤ f) → Spans f m l → (fromN f (m - f).toNat).filter (isStart (p ++ l)) = expC f (rowK m f l)
  | f, p, [], hp, h => by
    have h : f ≤ m := h
    have e : (fromN f (m - f).toNat).filter (isStart (p ++ [])) = fromN f (m - f).toNat := by
      rw [List.filter_eq_self]
      intro a ha
      obtain ⟨k, _, rfl⟩ := List.mem_map.1 ha
      unfold isStart
      rw [hides_skip (fun x hx => by have := hp x hx; omega)]
      rfl
    rw [e]
    unfold rowK
    by_cases ht : m > f
    · rw [if_pos ht]
      show _ = headC f (plainC (m - f)) ++ []
      rw [List.append_nil]
      rfl
    · rw [if_neg ht, show (m - f).toNat = 0 by omega]
      rfl
  | f, p, x :: r, hp, h => by
    obtain ⟨h1, h2, h3⟩ := h
    have h4 := spans_le h3
    have e0 : (m - f).toNat = (x.1 - f).toNat + (1 + ((x.2.1 - x.1 - 1).toNat + (m - x.2.1).toNat)) := by omega
    rw [e0, fromN_add, fromN_add, fromN_add, List.filter_append, List.filter_append, List.filter_append]
    have p1 : (fromN f (x.1 - f).toNat).filter (isStart (p ++ x :: r)) = fromN f (x.1 - f).toNat := by
      rw [List.filter_eq_self]
      intro a ha
      obtain ⟨k, hk, rfl⟩ := List.mem_map.1 ha
      have hk := List.mem_range.1 hk
      unfold isStart
      rw [hides_skip (fun y hy => by have := hp y hy; omega), hides_none (fun y hy => by
        rcases List.mem_cons.1 hy with e | hy
        · subst e; omega
        · have := (spans_all h3 y hy).1; omega)]
    have ex : f + ((x.1 - f).toNat : Int) = x.1 := by omega
    rw [ex]
    have p2 : (fromN x.1 1).filter (isStart (p ++ x :: r)) = [x.1] := by
      have : fromN x.1 1 = [x.1] := by rw [fromN_succ]; rfl
      rw [this, List.filter_cons_of_pos]
      · rfl
      · unfold isStart
        rw [hides_skip (fun y hy => by have := hp y hy; omega), hides_head (by omega)]
        simp
    have p3 : (fromN (x.1 + ((1 : Nat) : Int)) (x.2.1 - x.1 - 1).toNat).filter (isStart (p ++ x :: r)) = [] := by
      rw [List.filter_eq_nil_iff]
      intro a ha
      obtain ⟨k, hk, rfl⟩ := List.mem_map.1 ha
      have hk := List.mem_range.1 hk
      unfold isStart
      rw [hides_skip (fun y hy => by have := hp y hy; omega), hides_head (by omega)]
      simp
      omega
    have ey : x.1 + ((1 : Nat) : Int) + ((x.2.1 - x.1 - 1).toNat : Int) = x.2.1 := by omega
    have p4 := starts_row (m := m) x.2.1 (p ++ [x]) r (fun y hy => by
      rcases List.mem_append.1 hy with hy | hy
      · have := hp y hy; omega
      · rw [List.mem_singleton.1 hy]; omega) h3
    rw [List.append_assoc, List.singleton_append] at p4
    rw [p1, p2, p3, ey, p4, List.nil_append]
    have er : rowK m f (x :: r) = if x.1 > f then plainC (x.1 - f) :: foldC (x.2.1 - x.1) :: rowK m x.2.1 r else foldC (x.2.1 - x.1) :: rowK m x.2.1 r := rfl
    rw [er]
    have ef : ∀ R, expC x.1 (foldC (x.2.1 - x.1) :: R) = [x.1] ++ expC x.2.1 R := fun R => by
      have e2 : x.1 + d0 (foldC (x.2.1 - x.1)) = x.2.1 := by show x.1 + (x.2.1 - x.1) = _; omega
      rw [expC_cons, e2]
      rfl
    by_cases hx : x.1 > f
    · rw [if_pos hx, expC_cons]
      have e1 : f + d0 (plainC (x.1 - f)) = x.1 := by show f + (x.1 - f) = _; omega
      rw [e1, ef]
      rfl
    · rw [if_neg hx, show (x.1 - f).toNat = 0 by omega]
      have e : f = x.1 := by omega
      rw [e, ef]
      rfl
def outC (a : Int) : List Itm → Int → Int → Int
  | [], b, c => c + (a - b)
  | i :: r, b, c => if a < b + d0 i then (if i.1 = 1 then c else c + (a - b)) else outC a r (b + d0 i) (c + d1 i)
def inC (a : Int) : List Itm → Int → Int → Int
  | [], b, c => b + (a - c)
  | i :: r, b, c => if a < c + d1 i then b + (a - c) else inC a r (b + d0 i) (c + d1 i)
theorem outC_find {a : Int} : (l : List Itm) → (k b c : Int) → ∃ j : Nat, (findC 0 a 1 l k b c).1 = k + (j : Int) ∧ j ≤ l.length ∧
    outC a l b c = (if (l.getD j zItm).1 = 1 then (findC 0 a 1 l k b c).2.2 else (findC 0 a 1 l k b c).2.2 + (a - (findC 0 a 1 l k b c).2.1))
  | [], k, b, c => ⟨0, by show k = _; omega, Nat.zero_le _, rfl⟩
  | i :: l, k, b, c => by
    have e : findC 0 a 1 (i :: l) k b c = if reach a 1 (b + d0 i) = true then (k, b, c) else findC 0 a 1 l (k + 1) (b + d0 i) (c + d1 i) := rfl
    have e2 : outC a (i :: l) b c = if a < b + d0 i then (if i.1 = 1 then c else c + (a - b)) else outC a l (b + d0 i) (c + d1 i) := rfl
    rw [e, e2]
    by_cases hr : a < b + d0 i
    · rw [if_pos (show reach a 1 (b + d0 i) = true by unfold reach; simp; omega), if_pos hr]
      exact ⟨0, by show k = _; omega, Nat.zero_le _, rfl⟩
    · rw [if_neg (show ¬ reach a 1 (b + d0 i) = true by unfold reach; simp; omega), if_neg hr]
      obtain ⟨j, h1, h2, h3⟩ := outC_find l (k + 1) (b + d0 i) (c + d1 i)
      exact ⟨j + 1, by rw [h1]; omega, by simp; omega, h3⟩
theorem inC_find {a : Int} : (l : List Itm) → (k b c : Int) → inC a l b c = (findC 1 a 1 l k b c).2.1 + (a - (findC 1 a 1 l k b c).2.2)
  | [], k, b, c => rfl
  | i :: l, k, b, c => by
    have e : findC 1 a 1 (i :: l) k b c = if reach a 1 (c + d1 i) = true then (k, b, c) else findC 1 a 1 l (k + 1) (b + d0 i) (c + d1 i) := rfl
    have e2 : inC a (i :: l) b c = if a < c + d1 i then b + (a - c) else inC a l (b + d0 i) (c + d1 i) := rfl
    rw [e, e2]
    by_cases hr : a < c + d1 i
    · rw [if_pos (show reach a 1 (c + d1 i) = true by unfold reach; simp; omega), if_pos hr]
    · rw [if_neg (show ¬ reach a 1 (c + d1 i) = true by unfold reach; simp; omega), if_neg hr]
      exact inC_find l (k + 1) (b + d0 i) (c + d1 i)
end Go.Fr.D16
namespace Go.Fr.D16
open Go Go.Fr Go.Proofs
theorem hidF_cases (a : Int) : (l : List Span) → (i : Int) → 0 ≤ i → (hidesF a i l = -1 ∧ hidX l a = none) ∨ ∃ j : Nat, j < l.length ∧ hidesF a i l = i + (j : Int) ∧ hidX l a = some (l.getD j zSp)
  | [], _, _ => .inl ⟨rfl, rfl⟩
  | x :: r, i, h => by
    have e : hidesF a i (x :: r) = if x.1 ≤ a ∧ a < x.2.1 then i else hidesF a (i + 1) r := rfl
    by_cases hx : x.1 ≤ a ∧ a < x.2.1
    · exact .inr ⟨0, by simp, by rw [e, if_pos hx]; omega, hides_head hx⟩
    · have e2 : hidX (x :: r) a = hidX r a := by
        unfold hidX
        rw [List.find?_cons_of_neg]
        simpa using hx
      rw [e, if_neg hx, e2]
      rcases hidF_cases a r (i + 1) (by omega) with h1 | ⟨j, h1, h2, h3⟩
      · exact .inl h1
      · exact .inr ⟨j + 1, by simp; omega, by rw [h2]; omega, h3⟩
theorem hid_cases (l : List Span) (a : Int) : (hidesI l a = -1 ∧ hidX l a = none) ∨ ∃ x, 0 ≤ hidesI l a ∧ l.getD (hidesI l a).toNat zSp = x ∧ hidX l a = some x := by
  rcases hidF_cases a l 0 (Int.le_refl _) with h | ⟨j, _, h2, h3⟩
  · exact .inl h
  · refine .inr ⟨_, ?_, rfl, ?_⟩
    · show 0 ≤ hidesF a 0 l; omega
    · rw [h3]
      congr 2
      show j = (hidesF a 0 l).toNat
      omega
theorem startB_eq (l : List Span) (a : Int) : startB l a = isStart l a := by
  unfold startB isStart
  rcases hid_cases l a with ⟨h1, h2⟩ | ⟨x, h1, h2, h3⟩
  · rw [h1, h2]; rfl
  · rw [h2, h3]
    have : decide (hidesI l a < 0) = false := decide_eq_false (by omega)
    rw [this]
    rfl
theorem starts_eq {m : Int} {l : List Span} (h : Spans 0 m l) : starts m l = expC 0 (rowK m 0 l) := by
  have := starts_row 0 [] l (fun x hx => by cases hx) h
  rw [List.nil_append] at this
  rw [← this]
  unfold starts fromN
  rw [show m - 0 = m by omega]
  congr 1
  · funext a; exact startB_eq l a
  · exact List.map_congr_left fun k _ => by omega
def pOf (i : Itm) : Pce := (if i.1 = 1 then i.2.2.1.1 else 0, i.2.2.1.2.1, ())
theorem rowK_sum0 {m : Int} : (f : Int) → (l : List Span) → Spans f m l → sum0 (rowK m f l) = m - f
  | f, [], h => by
    have h : f ≤ m := h
    unfold rowK
    split
    · show (m - f) + 0 = _; omega
    · show 0 = _; omega
  | f, x :: r, h => by
    obtain ⟨h1, h2, h3⟩ := h
    have ih := rowK_sum0 x.2.1 r h3
    unfold rowK
    by_cases hc : x.1 > f
    · rw [if_pos hc, sum0_cons, sum0_cons, ih]
      show (x.1 - f) + ((x.2.1 - x.1) + (m - x.2.1)) = _; omega
    · rw [if_neg hc, sum0_cons, ih]
      show (x.2.1 - x.1) + (m - x.2.1) = _; omega
end Go.Fr.D16
namespace Go.Fr.D16
open Go Go.Fr Go.Proofs
def MapAt {α β : Type} (f : α → β) (l : List α) (z : List β × Int × Unit) : Prop := ∃ k : Nat, k ≤ l.length ∧ z.2.1 = (k : Int) ∧ z.1 = (l.take k).map f
theorem map_step {α β : Type} (f : α → β) {l : List α} (d : α) {k : Nat} (h : k < l.length) : MapAt f l ((l.take k).map f ++ [f (l.getD k d)], ((k + 1 : Nat) : Int), ()) := ⟨k + 1, h, rfl, by
  rw [take_one d h, List.map_append]
  rfl⟩
theorem map_len {α β : Type} (f : α → β) {l : List α} {k : Nat} (h : k ≤ l.length) : ((l.take k).map f).length = k := by
  rw [List.length_map, List.length_take]
  omega
theorem p18 : vc18 := by
  unfold vc18
  simp only [eq_self, true_and, and_true, decide_eq_true_eq, decide_eq_false_iff_not]
  rintro ⟨w, l, ⟨⟩⟩
  simp only [maxLen_eq, d29]
  rintro ⟨hw0, hl⟩
  refine ⟨MapAt (fun x => ((outW w x.1 1).1, (outW w x.2.1 0).1, ())) l, fun z => l.length - z.2.1.toNat, ⟨0, Nat.zero_le _, rfl, rfl⟩, ?_⟩
  rintro a i ⟨k, hk, hi, ha⟩
  simp only at hi ha
  subst hi
  subst ha
  refine ⟨fun h => ?_, fun h => ?_⟩
  · have hlt : k < l.length := by omega
    have hw : IntKind.i64.wrap ((k : Int) + 1) = ((k + 1 : Nat) : Int) := wrap_succ (by omega)
    rw [toNat_cast, hw]
    simp only [toNat_cast, List.length_singleton, map_len _ hk]
    exact ⟨⟨by omega, h⟩, hw0, hw0, by omega, by omega, map_step _ zSp hlt, by omega⟩
  · rw [show k = l.length by omega, List.take_length]
    rfl
theorem p8 : vc8 := by
  unfold vc8
  simp only [eq_self, true_and, and_true, decide_eq_true_eq, decide_eq_false_iff_not, beq_iff_eq, beq_eq_false_iff_ne, ne_eq]
  rintro ⟨c, ⟨⟩⟩
  simp only [maxLen_eq, d47]
  intro hl
  have h2 : (items (topT (treeOf c))).length ≤ 10000 := hl.2
  have h3 : (items (topT (treeOf c))).length ≤ 100000 := by omega
  have ep : piecesC (treeOf c) = (items (topT (treeOf c))).map pOf := rfl
  rw [ep]
  refine ⟨⟨hl.1, h3⟩, ?_⟩
  generalize items (topT (treeOf c)) = l at h2
  refine ⟨MapAt pOf l, fun z => l.length - z.2.1.toNat, ⟨0, Nat.zero_le _, rfl, rfl⟩, ?_⟩
  rintro a i ⟨k, hk, hi, ha⟩
  simp only at hi ha
  subst hi
  subst ha
  refine ⟨fun h => ?_, fun h => ?_⟩
  · have hlt : k < l.length := by omega
    have hw : IntKind.i64.wrap ((k : Int) + 1) = ((k + 1 : Nat) : Int) := wrap_succ (by omega)
    rw [toNat_cast, hw]
    have st := map_step pOf zItm hlt
    simp only [toNat_cast, List.length_singleton, map_len _ hk]
    have dec : l.length - (k + 1) < l.length - k := by omega
    have y : (l.getD k zItm).1 = 1 → MapAt pOf l ((l.take k).map pOf ++ [((l.getD k zItm).2.2.1.1, (l.getD k zItm).2.2.1.2.1, ())], ((k + 1 : Nat) : Int), ()) := fun g => by
      unfold pOf at st ⊢
      rw [if_pos g] at st
      exact st
    have n : ¬ (l.getD k zItm).1 = 1 → MapAt pOf l ((l.take k).map pOf ++ [((0 : Int), (l.getD k zItm).2.2.1.2.1, ())], ((k + 1 : Nat) : Int), ()) := fun g => by
      unfold pOf at st ⊢
      rw [if_neg g] at st
      exact st
    (repeat' (first | apply And.intro | intro _))
    all_goals first
      | omega
      | exact y (by assumption)
      | exact n (by assumption)
      | exact dec
  · rw [show k = l.length by omega, List.take_length]
end Go.Fr.D16
namespace Go.Fr.D16
open Go Go.Fr Go.Proofs
def RowCAt (t f0 : Int) (l : List Span) (z : Int × List Itm × Int × Unit) : Prop := ∃ k : Nat, k ≤ l.length ∧ z.2.2.1 = (k : Int) ∧ rowC t f0 l = z.2.1 ++ rowC t z.1 (l.drop k) ∧ z.2.1.length ≤ 2 * k
theorem p21 : vc21 := by
  unfold vc21
  simp only [eq_self, true_and, and_true, decide_eq_true_eq, decide_eq_false_iff_not]
  rintro ⟨f0, t, l, ⟨⟩⟩
  simp only [maxLen_eq, d29]
  intro hl
  refine ⟨RowCAt t f0 l, fun z => l.length - z.2.2.1.toNat, ⟨0, Nat.zero_le _, rfl, rfl, Nat.le_refl _⟩, ?_⟩
  rintro f out i ⟨k, hk, hi, hr, hlen⟩
  simp only at hi hr hlen
  subst hi
  refine ⟨fun h => ?_, fun h => ?_⟩
  · have hlt : k < l.length := by omega
    have hw : IntKind.i64.wrap ((k : Int) + 1) = ((k + 1 : Nat) : Int) := wrap_succ (by omega)
    rw [toNat_cast, hw]
    simp only [toNat_cast, List.length_singleton, List.length_append]
    rw [drop_cons zSp hlt] at hr
    generalize l.getD k zSp = x at hr ⊢
    have e : rowC t f (x :: l.drop (k + 1)) = if x.1 > f then plainC (w64 (x.1 - f)) :: foldC (w64 (x.2.1 - x.1)) :: rowC t x.2.1 (l.drop (k + 1)) else foldC (w64 (x.2.1 - x.1)) :: rowC t x.2.1 (l.drop (k + 1)) := rfl
    rw [e] at hr
    have y : x.1 > f → RowCAt t f0 l (x.2.1, out ++ [plainC (IntKind.i64.wrap (x.1 - f))] ++ [foldC (IntKind.i64.wrap (x.2.1 - x.1))], ((k + 1 : Nat) : Int), ()) := fun g => ⟨k + 1, hlt, rfl, by
      rw [if_pos g] at hr
      rw [hr, List.append_assoc, List.append_assoc]
      rfl, by simp; omega⟩
    have n : ¬ x.1 > f → RowCAt t f0 l (x.2.1, out ++ [foldC (IntKind.i64.wrap (x.2.1 - x.1))], ((k + 1 : Nat) : Int), ()) := fun g => ⟨k + 1, hlt, rfl, by
      rw [if_neg g] at hr
      rw [hr, List.append_assoc]
      rfl, by simp; omega⟩
    have dec : l.length - (k + 1) < l.length - k := by omega
    (repeat' (first | apply And.intro | intro _))
    all_goals first
      | omega
      | exact y (by assumption)
      | exact n (by assumption)
      | exact dec
      | rfl
  · have hke : k = l.length := by omega
    have e : rowC t f [] = if t > f then [plainC (w64 (t - f))] else [] := rfl
    rw [hke, List.drop_length, e] at hr
    simp only [List.length_singleton]
    have y : t > f → out ++ [plainC (IntKind.i64.wrap (t - f))] = rowC t f0 l := fun g => by
      rw [if_pos g] at hr
      exact hr.symm
    have n : ¬ t > f → out = rowC t f0 l := fun g => by
      rw [if_neg g, List.append_nil] at hr
      exact hr.symm
    (repeat' (first | apply And.intro | intro _))
    all_goals first
      | omega
      | exact y (by assumption)
      | exact n (by assumption)
end Go.Fr.D16
namespace Go.Fr.D16
open Go Go.Fr Go.Proofs
theorem rightL_iff {n : Int} : (f : Int) → (l : List Span) → f ≤ n → (rightL n f l = true ↔ Spans f n l)
  | f, [], h => ⟨fun _ => h, fun _ => rfl⟩
  | f, x :: r, h => by
    have e : rightL n f (x :: r) = if x.1 < f ∨ x.2.1 ≤ x.1 ∨ x.2.1 > n then false else rightL n x.2.1 r := rfl
    rw [e]
    by_cases hc : x.1 < f ∨ x.2.1 ≤ x.1 ∨ x.2.1 > n
    · rw [if_pos hc]
      refine ⟨fun h => (by cases h), fun ⟨h1, h2, h3⟩ => ?_⟩
      have := spans_le h3
      omega
    · rw [if_neg hc, rightL_iff x.2.1 r (by omega)]
      exact ⟨fun h => ⟨by omega, by omega, h⟩, fun h => h.2.2⟩
def wovenS (L : List Inl) (l : List Span) : List Span := l.map fun x => (x.1 + lensA x.1 1 L, x.2.1 + lensA x.2.1 0 L, ())
theorem woven_spans {n : Int} {L : List Inl} : (f : Int) → (l : List Span) → Spans f n l → Spans (f + lensA f 0 L) (n + lens L) (wovenS L l)
  | f, [], h => by
    have h : f ≤ n := h
    have := lensA_le f 0 L
    show f + lensA f 0 L ≤ n + lens L
    omega
  | f, x :: r, h => by
    obtain ⟨h1, h2, h3⟩ := h
    have a := lensA_mono (a := f) (b := 0) (c := x.1) (d := 1) (l := L) (fun y _ h => by
      rcases h with h | h
      · unfold isAhead; omega
      · omega)
    have b := lensA_mono (a := x.1) (b := 1) (c := x.2.1) (d := 0) (l := L) (fun y _ h => by
      unfold isAhead at h ⊢
      omega)
    refine ⟨?_, ?_, woven_spans x.2.1 r h3⟩
    · show f + lensA f 0 L ≤ x.1 + lensA x.1 1 L; omega
    · show x.1 + lensA x.1 1 L < x.2.1 + lensA x.2.1 0 L; omega
def WOk (n : Int) (L : List Inl) : Prop := 0 ≤ n ∧ n ≤ 1000 ∧ L.length ≤ 60 ∧ Inls 0 n L
theorem wok_lens {n : Int} {L : List Inl} (h : WOk n L) : 0 ≤ lens L ∧ lens L ≤ 60000 := by
  obtain ⟨h0, h1, h2, h3⟩ := h
  have := (weave_ok h0 (by omega) h2 h3).2.2.2.2.2.2.2
  exact this
theorem wok_zero {n : Int} {L : List Inl} (h : WOk n L) : lensA 0 0 L = 0 := lensA_none fun x hx ha => by
  have := (h.2.2.2.1 x hx).1
  unfold isAhead at ha
  omega
theorem wok_spans {n : Int} {L : List Inl} (h : WOk n L) {l : List Span} (hl : Spans 0 n l) : Spans 0 (n + lens L) (wovenS L l) := by
  have := woven_spans (L := L) 0 l hl
  rw [wok_zero h] at this
  exact this
theorem sizes_w {n : Int} {L : List Inl} (h : WOk n L) : nW (weaveI (some (n, L, ()))) = n ∧ mW (weaveI (some (n, L, ()))) = n + lens L ∧ WfN (topT (treeOf (weaveI (some (n, L, ()))))) := by
  obtain ⟨h0, h1, h2, h3⟩ := h
  obtain ⟨w1, w2, w3, w4, w5, w6, w7, w8, w9⟩ := weave_ok h0 (by omega) h2 h3
  have so := sum_top w2 (by rw [w3]; exact rowly_fine w5) (by rw [w3]; omega)
  unfold SumOk at so
  rw [w3, w6, w7] at so
  rw [w1]
  exact ⟨so.2.1, so.2.2, w2⟩
theorem places_w {n : Int} {L : List Inl} (h : WOk n L) {l : List Span} (hl : Spans 0 n l) : placesC (weaveI (some (n, L, ()))) l = wovenS L l ∧ refPlaces (n, L, 0, ()) l = wovenS L l := by
  obtain ⟨h0, h1, h2, h3⟩ := h
  refine ⟨List.map_congr_left fun x hx => ?_, List.map_congr_left fun x hx => ?_⟩
  · have := spans_all hl x hx
    rw [out_ok h0 (by omega) h2 h3, out_ok h0 (by omega) h2 h3, if_neg (by omega), if_neg (by omega)]
  · have := spans_all hl x hx
    rw [refOut_ok h2 h3 (by omega) (by omega) (by omega), refOut_ok h2 h3 (by omega) (by omega) (by omega)]
def CrOf (m : Int) (pl : List Span) (c : Wve) : Prop := c ≠ none ∧ WfN (topT (treeOf c)) ∧ items (topT (treeOf c)) = rowK m 0 pl
theorem newC_ok {n : Int} {L : List Inl} (h : WOk n L) {l : List Span} (hl : Spans 0 n l) (hn : l.length ≤ 1000) :
    newC (weaveI (some (n, L, ()))) l = (some (some (buildT (rowK (n + lens L) 0 (wovenS L l)), ()), ()), 0, ()) ∧ CrOf (n + lens L) (wovenS L l) (some (some (buildT (rowK (n + lens L) 0 (wovenS L l)), ()), ())) := by
  obtain ⟨s1, s2, s3⟩ := sizes_w h
  obtain ⟨p1, p2⟩ := places_w h hl
  have sp := wok_spans h hl
  have lb := wok_lens h
  obtain ⟨h0, h1, h2, h3⟩ := h
  have len := rowK_len (t := n + lens L) 0 (wovenS L l)
  have ll : (wovenS L l).length = l.length := List.length_map _
  have ht : n + lens L ≤ 1099511627776 := by omega
  have e := rowC_eq ht 0 _ (Int.le_refl _) sp
  have nt := newT_ok (l := rowK (n + lens L) 0 (wovenS L l)) (by omega) (rowK_check ht (Int.le_refl _) sp)
  obtain ⟨b1, b2⟩ := buildT_ok (l := rowK (n + lens L) 0 (wovenS L l)) (by omega)
  refine ⟨?_, by simp, b1, b2⟩
  unfold newC
  rw [s1, s2, p1, e, nt, (rightL_iff 0 l h0).2 hl, if_neg (by decide), if_neg (by simp)]
theorem cr_fine {m : Int} {pl : List Span} {c : Wve} (h : CrOf m pl c) (hm : m ≤ 1000000) (sp : Spans 0 m pl) (hn : pl.length ≤ 1000) :
    CRow (rowK m 0 pl) ∧ Fine (items (topT (treeOf c))) ∧ (items (topT (treeOf c))).length ≤ 2001 ∧ nW c = m ∧ mW c = sum1 (rowK m 0 pl) ∧ (sum1 (rowK m 0 pl) = ((starts m pl).length : Int)) ∧ 0 ≤ m ∧ 0 ≤ sum1 (rowK m 0 pl) ∧ sum1 (rowK m 0 pl) ≤ m := by
  obtain ⟨h1, h2, h3⟩ := h
  have cr := rowK_crow (by omega : m ≤ 1099511627776) 0 pl (Int.le_refl _) sp
  have len := rowK_len (t := m) 0 pl
  have ff := crow_fine cr
  have so := sum_top h2 (by rw [h3]; exact ff) (by rw [h3]; omega)
  unfold SumOk at so
  have s0 := rowK_sum0 0 pl sp
  rw [h3, s0] at so
  have el : ((starts m pl).length : Int) = sum1 (rowK m 0 pl) := by
    rw [starts_eq sp]
    exact expC_len 0 cr
  have le : (starts m pl).length ≤ m.toNat := by
    unfold starts
    refine Nat.le_trans (List.length_filter_le _ _) ?_
    simp
  have m0 := spans_le sp
  rw [h3]
  refine ⟨cr, ff, by omega, ?_, so.2.2, el.symm, m0, by omega, by omega⟩
  have := so.2.1
  show (sumOf (topT (treeOf c))).2.1.1 = m
  omega
theorem find_cr {m : Int} {pl : List Span} {c : Wve} (h : CrOf m pl c) (hm : m ≤ 1000000) (sp : Spans 0 m pl) (hn : pl.length ≤ 1000) {dim : Int} (hd : dim = 0 ∨ dim = 1) (a bias : Int) :
    findT (treeOf c) dim a bias = if a < 0 ∨ a > (if dim = 0 then m else sum1 (rowK m 0 pl)) ∨ (bias ≠ 0 ∧ bias ≠ 1) then ((0, zS, 0, ()), 1, ()) else (findP (topT (treeOf c)) dim a bias, 0, ()) := by
  obtain ⟨f1, f2, f3, f4, f5, f6, f7, f8, f9⟩ := cr_fine h hm sp hn
  unfold findT
  have e : sizeD (sumOf (topT (treeOf c))) dim = if dim = 0 then m else sum1 (rowK m 0 pl) := by
    rcases hd with rfl | rfl
    · exact f4
    · exact f5
  rw [e]
  have e2 : (dim < 0 ∨ dim > 3 ∨ a < 0 ∨ a > (if dim = 0 then m else sum1 (rowK m 0 pl)) ∨ (bias ≠ 0 ∧ bias ≠ 1)) = (a < 0 ∨ a > (if dim = 0 then m else sum1 (rowK m 0 pl)) ∨ (bias ≠ 0 ∧ bias ≠ 1)) := by
    rw [eq_iff_iff]
    exact ⟨fun h => by rcases h with h | h | h <;> first | omega | exact h, fun h => .inr (.inr h)⟩
  simp only [e2]
theorem outCr_ok {m : Int} {pl : List Span} {c : Wve} (h : CrOf m pl c) (hm : m ≤ 1000000) (sp : Spans 0 m pl) (hn : pl.length ≤ 1000) (a : Int) :
    outCr c a = if a < 0 ∨ a > m then (0, 1, ()) else (outC a (rowK m 0 pl) 0 0, 0, ()) := by
  obtain ⟨f1, f2, f3, f4, f5, f6, f7, f8, f9⟩ := cr_fine h hm sp hn
  have ff := find_cr h hm sp hn (.inl rfl) a 1
  rw [if_pos rfl] at ff
  unfold outCr
  by_cases hc : a < 0 ∨ a > m
  · rw [if_pos (by omega)] at ff
    rw [if_pos hc, ff, if_pos (by decide)]
  · rw [if_neg (by omega)] at ff
    rw [if_neg hc, ff, if_neg (by simp)]
    obtain ⟨q1, q2, q3⟩ := findP_is (dim := 0) (v := a) (bias := 1) (.inl rfl) h.2.1 f2 (by omega)
    rw [h.2.2] at q1 q2 q3 f2 f3
    have bd := findC_bd (dim := 0) (v := a) (bias := 1) (rowK m 0 pl) 0 0 0 f2
    rw [rowK_sum0 0 pl sp] at bd
    obtain ⟨j, j1, j2, j3⟩ := outC_find (a := a) (rowK m 0 pl) 0 0 0
    have ea : (atT (treeOf c) (findC 0 a 1 (rowK m 0 pl) 0 0 0).1).1 = (rowK m 0 pl).getD j zItm := by
      unfold atT
      rw [h.2.2, j1]
      by_cases hj : j < (rowK m 0 pl).length
      · rw [if_neg (by omega), show (0 + (j : Int)).toNat = j by omega]
      · rw [if_pos (by omega), List.getD_eq_getElem?_getD, List.getElem?_eq_none (by omega)]
        rfl
    show (if (atT (treeOf c) (findP (topT (treeOf c)) 0 a 1).1).1.1 = 1 then ((findP (topT (treeOf c)) 0 a 1).2.1.2.1.2.1, (0 : Int), ()) else (w64 (w64 ((findP (topT (treeOf c)) 0 a 1).2.1.2.1.2.1 + a) - (findP (topT (treeOf c)) 0 a 1).2.1.2.1.1), (0 : Int), ())) = _
    rw [q1, q2, q3, ea, j3]
    generalize findC 0 a 1 (rowK m 0 pl) 0 0 0 = f at bd
    split
    · rfl
    · rw [w64_id (n := f.2.2 + a) (by omega) (by omega), w64_id (by omega) (by omega)]
      congr 1
      omega
theorem inCr_ok {m : Int} {pl : List Span} {c : Wve} (h : CrOf m pl c) (hm : m ≤ 1000000) (sp : Spans 0 m pl) (hn : pl.length ≤ 1000) (a : Int) :
    inCr c a = if a < 0 ∨ a > ((starts m pl).length : Int) then (0, 1, ()) else (inC a (rowK m 0 pl) 0 0, 0, ()) := by
  obtain ⟨f1, f2, f3, f4, f5, f6, f7, f8, f9⟩ := cr_fine h hm sp hn
  have ff := find_cr h hm sp hn (.inr rfl) a 1
  rw [if_neg (show ¬ (1 : Int) = 0 by decide), f6] at ff
  unfold inCr
  by_cases hc : a < 0 ∨ a > ((starts m pl).length : Int)
  · rw [if_pos (by omega)] at ff
    rw [if_pos hc, ff, if_pos (by decide)]
  · rw [if_neg (by omega)] at ff
    rw [if_neg hc, ff, if_neg (by simp)]
    obtain ⟨q1, q2, q3⟩ := findP_is (dim := 1) (v := a) (bias := 1) (.inr rfl) h.2.1 f2 (by omega)
    rw [h.2.2] at q1 q2 q3 f2 f3
    have bd := findC_bd (dim := 1) (v := a) (bias := 1) (rowK m 0 pl) 0 0 0 f2
    rw [rowK_sum0 0 pl sp] at bd
    have j3 := inC_find (a := a) (rowK m 0 pl) 0 0 0
    show (w64 (w64 ((findP (topT (treeOf c)) 1 a 1).2.1.2.1.1 + a) - (findP (topT (treeOf c)) 1 a 1).2.1.2.1.2.1), (0 : Int), ()) = _
    rw [q2, q3, j3]
    generalize findC 1 a 1 (rowK m 0 pl) 0 0 0 = f at bd
    rw [w64_id (n := f.2.1 + a) (by omega) (by omega), w64_id (by omega) (by omega)]
    congr 1
    omega
end Go.Fr.D16
namespace Go.Fr.D16
open Go Go.Fr Go.Proofs
def within1 (s x : Span) : Bool := acrossS x s.1 || acrossS x s.2.1
def within2 (s x : Span) : Bool := decide (x.1 ≥ s.1) && decide (x.2.1 ≤ s.2.1)
def withG (s : Span) (out r : List Span) : List Span × Bool × Unit := if r.any (within1 s) = true then ([], false, ()) else (out ++ r.filter (within2 s), true, ())
theorem p17 : vc17 := by
  unfold vc17
  simp only [eq_self, true_and, and_true, decide_eq_true_eq, decide_eq_false_iff_not]
  rintro ⟨l, s, ⟨⟩⟩
  simp only [maxLen_eq, d29]
  intro hl
  have ew : withinC l s = withG s [] l := rfl
  rw [ew]
  refine ⟨fun z => ∃ k : Nat, k ≤ l.length ∧ z.2.1 = (k : Int) ∧ withG s [] l = withG s z.1 (l.drop k) ∧ z.1.length ≤ k, fun z => l.length - z.2.1.toNat, ⟨0, Nat.zero_le _, rfl, rfl, Nat.le_refl _⟩, ?_⟩
  rintro a i ⟨k, hk, hi, hr, la⟩
  simp only at hi hr la
  subst hi
  refine ⟨fun h => ?_, fun h => ?_⟩
  · have hlt : k < l.length := by omega
    have hw : IntKind.i64.wrap ((k : Int) + 1) = ((k + 1 : Nat) : Int) := wrap_succ (by omega)
    rw [toNat_cast, hw]
    simp only [toNat_cast, List.length_singleton]
    rw [drop_cons zSp hlt] at hr
    generalize l.getD k zSp = x at hr ⊢
    have dec : l.length - (k + 1) < l.length - k := by omega
    have b1 : (a.length + 1) * 16 ≤ 140737488355328 := by omega
    have b2 : a.length + 1 ≤ 9223372036854775807 := by omega
    have bad : within1 s x = true → ([], false, ()) = withG s [] l := fun g => by
      rw [hr]
      unfold withG
      rw [if_pos (by rw [List.any_cons, g, Bool.true_or])]
    have good : within1 s x = false → withG s [] l = if within2 s x = true then withG s (a ++ [x]) (l.drop (k + 1)) else withG s a (l.drop (k + 1)) := fun g => by
      rw [hr]
      unfold withG
      rw [List.any_cons, g, Bool.false_or]
      by_cases h2 : within2 s x = true
      · rw [if_pos h2, List.filter_cons_of_pos h2, List.append_assoc]; rfl
      · rw [if_neg h2, List.filter_cons_of_neg h2]
    refine ⟨⟨by omega, h⟩, fun g => bad (by unfold within1; rw [g]; rfl), fun g => ⟨fun g2 => bad (by unfold within1; rw [g2, Bool.or_true]), fun g2 => ?_⟩⟩
    have gd := good (by unfold within1; rw [g, g2]; rfl)
    refine ⟨fun g3 => ⟨fun g4 => ⟨b1, b2, ⟨k + 1, hlt, rfl, ?_, by simp; omega⟩, dec⟩, fun g4 => ⟨⟨k + 1, hlt, rfl, ?_, by show a.length ≤ _; omega⟩, dec⟩⟩, fun g3 => ⟨⟨k + 1, hlt, rfl, ?_, by show a.length ≤ _; omega⟩, dec⟩⟩
    · rw [gd, if_pos (by unfold within2; rw [decide_eq_true g3, decide_eq_true g4]; rfl)]
    · rw [gd, if_neg (by unfold within2; rw [decide_eq_false g4, Bool.and_false]; decide)]
    · rw [gd, if_neg (by unfold within2; rw [decide_eq_false g3, Bool.false_and]; decide)]
  · rw [hr, show k = l.length by omega, List.drop_length]
    show _ = (a ++ [], true, ())
    rw [List.append_nil]
end Go.Fr.D16
namespace Go.Fr.D16
open Go Go.Fr Go.Proofs
theorem p19 : vc19 := by
  unfold vc19
  simp only [true_and, and_true, beq_iff_eq, beq_eq_false_iff_ne, ne_eq]
  rintro ⟨c, old, now, ⟨⟩⟩ hw
  have hw : okTre (treeOf c) := hw
  have hw1 : WfN (topT (treeOf c)) := hw.1
  have nn : (0 : Int) ≤ 0 ∧ (0 : Int) < ((3 : Nat) : Int) := by decide
  have ed : edgesC c old now = edgesC c old now := rfl
  conv at ed => rhs; unfold edgesC edBad1 edBad2 edTo edLast edFrom edFirst spanI maxI edJ edI edB edA
  simp only at ed ⊢
  rw [ed]
  clear ed
  generalize (findT (treeOf c) 0 old.1 0).1 = A
  generalize (findT (treeOf c) 0 old.2.1 1).1 = B
  simp only [hw, hw1, nn, and_self, true_and]
  generalize atT (treeOf c) A.1 = I
  generalize atT (treeOf c) B.1 = J
  have wj : IntKind.i64.wrap = w64 := rfl
  rw [wj]
  generalize acrossS (A.2.1.2.1.1, w64 (A.2.1.2.1.1 + I.1.2.2.1.1), ()) old.1 = P
  generalize acrossS (B.2.1.2.1.1, w64 (B.2.1.2.1.1 + J.1.2.2.1.1), ()) old.2.1 = Q
  by_cases i1 : I.2.1 = 0 <;> by_cases i2 : I.1.1 = 0 <;> by_cases j1 : J.2.1 = 0 <;> by_cases j2 : J.1.1 = 0 <;> by_cases k1 : w64 (A.2.1.2.1.1 + I.1.2.2.1.1) = old.1 <;> cases P <;> cases Q <;> simp [i1, i2, j1, j2, k1]
theorem p6 : vc6 := by
  unfold vc6
  simp only [true_and, and_true, bne_iff_ne, bne_eq_false_iff_eq, ne_eq, Bool.not_eq_true', Bool.not_eq_false']
  rintro ⟨c, old, now, w, l, ⟨⟩⟩
  simp only
  rintro ⟨h1, h2, h3⟩
  have pl : (placesC w l).length = l.length := List.length_map _
  have wl : (withinC (placesC w l) now).1.length ≤ 10000 := by
    unfold withinC
    split
    · exact Nat.zero_le _
    · refine Nat.le_trans (List.length_filter_le _ _) (by omega)
  have rl := rowC_len (edgesC c old now).2.2.1.2.1 (edgesC c old now).2.2.1.1 (withinC (placesC w l) now).1
  have b1 : l.length ≤ maxLen := by rw [maxLen_eq]; omega
  have b2 : l.length ≤ 100000 := by omega
  have b3 : (placesC w l).length ≤ 100000 := by omega
  have b4 : (rowC (edgesC c old now).2.2.1.2.1 (edgesC c old now).2.2.1.1 (withinC (placesC w l) now).1).length ≤ 100000 := by omega
  have bad : (rightL (nW w) 0 l && (fitsW old (nW c) && (fitsW now (mW w) && (decide (old.1 = now.1) && decide (w64 (nW c - old.2.1) = w64 (mW w - now.2.1)))))) = false → (none, 1, ()) = updC c old now w l := fun h => by
    unfold updC
    rw [if_pos h]
  refine ⟨b1, fun g => bad (by rw [g]; rfl), fun g1 => ⟨fun g => bad (by rw [g1, g]; rfl), fun g2 => ⟨fun g => bad (by rw [g1, g2]; rw [show fitsW now (mW w) = false from g]; rfl), fun g3 => ⟨fun g => bad (by rw [decide_eq_false g]; simp), fun g4 => ⟨fun g => bad (by
    have g : ¬ w64 (nW c - old.2.1) = w64 (mW w - now.2.1) := g
    rw [decide_eq_false g]; simp), fun g5 => ⟨⟨h2, b2⟩, b3, h1, ?_⟩⟩⟩⟩⟩⟩
  have ok : (rightL (nW w) 0 l && (fitsW old (nW c) && (fitsW now (mW w) && (decide (old.1 = now.1) && decide (w64 (nW c - old.2.1) = w64 (mW w - now.2.1)))))) = true := by
    have g5 : w64 (nW c - old.2.1) = w64 (mW w - now.2.1) := g5
    rw [g1, g2, show fitsW now (mW w) = true from g3, decide_eq_true g4, decide_eq_true g5]
    rfl
  have e : updC c old now w l = if ((withinC (placesC w l) now).2.1 && (edgesC c old now).2.2.2.1) = false then (none, 1, ())
      else if (updCR c old now w l).2.1 ≠ 0 then (none, (updCR c old now w l).2.1, ()) else (some ((updCR c old now w l).1, ()), 0, ()) := by
    unfold updC
    rw [ok, if_neg (by decide)]
  rw [e]
  refine ⟨fun g => by rw [g, Bool.false_and, if_pos rfl], fun g6 => ⟨fun g => by rw [g, Bool.and_false, if_pos rfl], fun g7 => ⟨wl, ⟨h1, b4⟩, fun g => ?_, fun g => ?_⟩⟩⟩
  · rw [g6, g7, if_neg (by decide)]
    have g : (updCR c old now w l).2.1 ≠ 0 := g
    rw [if_pos g]
    rfl
  · rw [g6, g7, if_neg (by decide)]
    have g : (updCR c old now w l).2.1 = 0 := g
    rw [if_neg (by rw [g]; decide)]
    rfl
end Go.Fr.D16
namespace Go.Fr.D16
open Go Go.Fr Go.Proofs
set_option maxRecDepth 100000
def hs3 : List (Nat × Nat × Hint) := []
def nm3 : List Nat := [3000000047]
noncomputable def E3 : Env := env tab [(4, cOutC), (5, cInC), (6, cUpdC), (7, cSizesC), (8, cPiecesC), (9, cHeightC), (10, cSix)] [] gl hs3 nm3
def vc3 : Prop :=
 ∀ (x : Int × Unit),
 True →
 okTre (treeOf none) ∧
 WfN (topT (treeOf none)) ∧
 (okTre (treeOf none) ∧ WfN (topT (treeOf none)) ∧ (0 : Nat) ≤ (10000 : Nat)) ∧
 True ∧
 (((outCr none x.fst).fst == (0 : Int)) = true →
 (((inCr none x.fst).fst == (0 : Int)) = true →
 (Ty.beq t4 ((outCr none x.fst).snd.fst == (0 : Int)) (x.fst == (0 : Int)) = true →
 (Ty.beq t4 ((inCr none x.fst).snd.fst == (0 : Int)) (x.fst == (0 : Int)) = true →
 (((updC none ((0 : Int), (0 : Int), ()) ((0 : Int), (0 : Int), ()) none []).snd.fst ==
 (0 : Int)) =
 true →
 (Option.isSome
 (updC none ((0 : Int), (0 : Int), ()) ((0 : Int), (0 : Int), ()) none []).fst =
 true →
 lowT
 (topT
 (treeOf
 (updC none ((0 : Int), (0 : Int), ()) ((0 : Int), (0 : Int), ()) none
 []).fst)) ∧
 (((↑(List.length
 (piecesC
 (treeOf
 (updC none ((0 : Int), (0 : Int), ()) ((0 : Int), (0 : Int), ())
 none []).fst))) :
 Int) ==
 (0 : Int)) =
 true →
 ((nW none == (0 : Int)) = true →
 ((mW none == (0 : Int)) = true →
 True ∧
 ((heightOf (topT (treeOf none)) == (0 : Int)) = true →
 lowT (topT (treeOf none)) ∧
 (((↑(List.length (piecesC (treeOf none))) : Int) ==
 (0 : Int)) =
 true →
 True ∧ true = true) ∧
 (((↑(List.length (piecesC (treeOf none))) : Int) ==
 (0 : Int)) =
 false →
 false = true)) ∧
 ((heightOf (topT (treeOf none)) == (0 : Int)) = false →
 false = true)) ∧
 ((mW none == (0 : Int)) = false → false = true)) ∧
 ((nW none == (0 : Int)) = false → false = true)) ∧
 (((↑(List.length
 (piecesC
 (treeOf
 (updC none ((0 : Int), (0 : Int), ()) ((0 : Int), (0 : Int), ())
 none []).fst))) :
 Int) ==
 (0 : Int)) =
 false →
 false = true)) ∧
 (Option.isSome
 (updC none ((0 : Int), (0 : Int), ()) ((0 : Int), (0 : Int), ()) none []).fst =
 false →
 false = true)) ∧
 (((updC none ((0 : Int), (0 : Int), ()) ((0 : Int), (0 : Int), ()) none []).snd.fst ==
 (0 : Int)) =
 false →
 false = true)) ∧
 (Ty.beq t4 ((inCr none x.fst).snd.fst == (0 : Int)) (x.fst == (0 : Int)) = false →
 false = true)) ∧
 (Ty.beq t4 ((outCr none x.fst).snd.fst == (0 : Int)) (x.fst == (0 : Int)) = false →
 false = true)) ∧
 (((inCr none x.fst).fst == (0 : Int)) = false → false = true)) ∧
 (((outCr none x.fst).fst == (0 : Int)) = false → false = true)
theorem vcEq3 : fnVC E3 Tryd.f3 (bodyOf Tryd.f3) cCreaseNil = vc3 := by kernel_rfl
def hs10 : List (Nat × Nat × Hint) := []
def nm10 : List Nat := [3000000047]
noncomputable def E10 : Env := env tab [(25, cNew), (27, cWeave), (26, cNewC), (4, cOutC), (5, cInC), (9, cHeightC)] [] gl hs10 nm10
def vc10 : Prop :=
 ∀ (_x : Unit),
 True →
 ((0 : Nat) ≤ maxLen ∧ shortL []) ∧
 (List.length (allI (newI (6 : Int) []).fst) ≤ (10000 : Nat) ∧ shortL (allI (newI (6 : Int) []).fst)) ∧
 (WfN (topT (treeOf (weaveI (newI (6 : Int) []).fst))) ∧
 List.length [((1 : Int), (4 : Int), ())] ≤ (10000 : Nat)) ∧
 okTre (treeOf (newC (weaveI (newI (6 : Int) []).fst) [((1 : Int), (4 : Int), ())]).fst) ∧
 okTre (treeOf (newC (weaveI (newI (6 : Int) []).fst) [((1 : Int), (4 : Int), ())]).fst) ∧
 WfN (topT (treeOf (newC (weaveI (newI (6 : Int) []).fst) [((1 : Int), (4 : Int), ())]).fst)) ∧
 (((newI (6 : Int) []).snd.fst == (0 : Int)) = true →
 (((newC (weaveI (newI (6 : Int) []).fst) [((1 : Int), (4 : Int), ())]).snd.fst == (0 : Int)) =
 true →
 (((outCr (newC (weaveI (newI (6 : Int) []).fst) [((1 : Int), (4 : Int), ())]).fst
 (3 : Int)).snd.fst ==
 (0 : Int)) =
 true →
 (((outCr (newC (weaveI (newI (6 : Int) []).fst) [((1 : Int), (4 : Int), ())]).fst
 (4 : Int)).snd.fst ==
 (0 : Int)) =
 true →
 (((inCr (newC (weaveI (newI (6 : Int) []).fst) [((1 : Int), (4 : Int), ())]).fst
 (2 : Int)).snd.fst ==
 (0 : Int)) =
 true →
 (((outCr (newC (weaveI (newI (6 : Int) []).fst) [((1 : Int), (4 : Int), ())]).fst
 (3 : Int)).fst ==
 (1 : Int)) =
 true →
 (((outCr
 (newC (weaveI (newI (6 : Int) []).fst)
 [((1 : Int), (4 : Int), ())]).fst
 (4 : Int)).fst ==
 (2 : Int)) =
 true →
 (((inCr
 (newC (weaveI (newI (6 : Int) []).fst)
 [((1 : Int), (4 : Int), ())]).fst
 (2 : Int)).fst ==
 (4 : Int)) =
 true →
 True ∧
 (heightOf
 (topT
 (treeOf
 (newC (weaveI (newI (6 : Int) []).fst)
 [((1 : Int), (4 : Int), ())]).fst)) ==
 (1 : Int)) =
 true) ∧
 (((inCr
 (newC (weaveI (newI (6 : Int) []).fst)
 [((1 : Int), (4 : Int), ())]).fst
 (2 : Int)).fst ==
 (4 : Int)) =
 false →
 false = true)) ∧
 (((outCr
 (newC (weaveI (newI (6 : Int) []).fst)
 [((1 : Int), (4 : Int), ())]).fst
 (4 : Int)).fst ==
 (2 : Int)) =
 false →
 false = true)) ∧
 (((outCr (newC (weaveI (newI (6 : Int) []).fst) [((1 : Int), (4 : Int), ())]).fst
 (3 : Int)).fst ==
 (1 : Int)) =
 false →
 false = true)) ∧
 (((inCr (newC (weaveI (newI (6 : Int) []).fst) [((1 : Int), (4 : Int), ())]).fst
 (2 : Int)).snd.fst ==
 (0 : Int)) =
 false →
 false = true)) ∧
 (((outCr (newC (weaveI (newI (6 : Int) []).fst) [((1 : Int), (4 : Int), ())]).fst
 (4 : Int)).snd.fst ==
 (0 : Int)) =
 false →
 false = true)) ∧
 (((outCr (newC (weaveI (newI (6 : Int) []).fst) [((1 : Int), (4 : Int), ())]).fst
 (3 : Int)).snd.fst ==
 (0 : Int)) =
 false →
 false = true)) ∧
 (((newC (weaveI (newI (6 : Int) []).fst) [((1 : Int), (4 : Int), ())]).snd.fst == (0 : Int)) =
 false →
 false = true)) ∧
 (((newI (6 : Int) []).snd.fst == (0 : Int)) = false → false = true)
theorem vcEq10 : fnVC E10 Tryd.f10 (bodyOf Tryd.f10) cSix = vc10 := by kernel_rfl
end Go.Fr.D16
namespace Go.Fr.D16
open Go Go.Fr Go.Proofs
theorem cr_ok {m : Int} {pl : List Span} {c : Wve} (h : CrOf m pl c) (hm : m ≤ 1000000) (sp : Spans 0 m pl) (hn : pl.length ≤ 200) : okTre (treeOf c) ∧ WfN (topT (treeOf c)) ∧ lowT (topT (treeOf c)) := by
  have len := rowK_len (t := m) 0 pl
  have ck := rowK_check (t := m) (by omega) (Int.le_refl _) sp
  have h3 := h.2.2
  have hb : (items (topT (treeOf c))).length ≤ 401 := by rw [h3]; omega
  refine ⟨⟨h.2.1, by omega, by rw [h3]; exact ck⟩, h.2.1, low_wf h.2.1 (by omega), by omega⟩
theorem wrong6 : wrongN 6 [] = 0 := wrong_zero.2 ⟨by decide, by decide, fun x hx => (by cases hx), List.Pairwise.nil⟩
theorem new6 : newI 6 [] = (some (6, [], ()), 0, ()) := by
  rw [new_fst wrong6]
  show (some ((6 : Int), sortI [], ()), (0 : Int), ()) = _
  rw [sort_id List.Pairwise.nil List.Pairwise.nil]
theorem wok6 : WOk 6 [] := ⟨by decide, by decide, by decide, fun x hx => (by cases hx), List.Pairwise.nil, List.Pairwise.nil⟩
theorem span6 : Spans 0 6 [(1, 4, ())] := ⟨by decide, by decide, by show (4 : Int) ≤ 6; decide⟩
theorem p10 : vc10 := by
  unfold vc10
  simp only [eq_self, true_and, and_true, beq_iff_eq, beq_eq_false_iff_ne, ne_eq]
  intro _ _
  rw [new6]
  obtain ⟨c1, c2⟩ := newC_ok wok6 span6 (by decide)
  have e : wovenS [] [(1, 4, ())] = [(1, 4, ())] := rfl
  have el : (6 : Int) + lens [] = 6 := rfl
  rw [e, el] at c1 c2
  have oo := outCr_ok c2 (by decide) span6 (by decide)
  have io := inCr_ok c2 (by decide) span6 (by decide)
  have ok := cr_ok c2 (by decide) span6 (by decide)
  have hh : heightOf (topT (treeOf (some (some (buildT (rowK 6 0 [(1, 4, ())]), ()), ()) : Wve))) = 1 := rfl
  have sl : ((starts 6 [(1, 4, ())]).length : Int) = 4 := by decide
  have w1 := (sizes_w wok6).2.2
  have o3 := oo 3
  have o4 := oo 4
  have i2 := io 2
  rw [sl] at i2
  have o3 : outCr _ 3 = (1, 0, ()) := o3
  have o4 : outCr _ 4 = (2, 0, ()) := o4
  have i2 : inCr _ 2 = (4, 0, ()) := i2
  simp only
  rw [c1]
  simp only
  rw [o3, o4, i2, hh]
  refine ⟨⟨by decide, fun x hx => (by cases hx)⟩, ⟨by decide, fun x hx => (by cases hx)⟩, ⟨w1, by decide⟩, ok.1, ok.1, ok.2.1, ?_⟩
  simp
end Go.Fr.D16
namespace Go.Fr.D16
open Go Go.Fr Go.Proofs
set_option maxRecDepth 100000
def hs16 : List (Nat × Nat × Hint) := []
def nm16 : List Nat := [3000000047]
noncomputable def E16 : Env := env tab [] [] gl hs16 nm16
def vc16 : Prop :=
 ∀ (x : (Int × Int × Unit) × Int × Unit),
 True →
 (decide (x.fst.fst ≥ (0 : Int)) = true →
 (decide (x.fst.snd.fst ≥ x.fst.fst) = true → decide (x.fst.snd.fst ≤ x.snd.fst) = fitsW x.fst x.snd.fst) ∧
 (decide (x.fst.snd.fst ≥ x.fst.fst) = false → false = fitsW x.fst x.snd.fst)) ∧
 (decide (x.fst.fst ≥ (0 : Int)) = false → false = fitsW x.fst x.snd.fst)
theorem vcEq16 : fnVC E16 Tryd.f16 (bodyOf Tryd.f16) cFits = vc16 := by kernel_rfl
end Go.Fr.D16
namespace Go.Fr.D16
open Go Go.Fr Go.Proofs
theorem p16 : vc16 := by
  unfold vc16
  simp only [decide_eq_true_eq, decide_eq_false_iff_not]
  rintro ⟨s, n, ⟨⟩⟩ -
  simp only
  refine ⟨fun h1 => ⟨fun h2 => ?_, fun h2 => ?_⟩, fun h1 => ?_⟩
  · unfold fitsW
    rw [decide_eq_true (show 0 ≤ s.1 from h1), decide_eq_true (show s.1 ≤ s.2.1 from h2)]
    rfl
  · unfold fitsW
    rw [decide_eq_false (show ¬ s.1 ≤ s.2.1 from h2)]
    simp
  · unfold fitsW
    rw [decide_eq_false (show ¬ 0 ≤ s.1 from h1)]
    rfl
end Go.Fr.D16
namespace Go.Fr.D16
open Go Go.Fr Go.Proofs
theorem cr0 : CrOf 0 [] (some (none, ())) := ⟨fun h => (by cases h), .inl rfl, rfl⟩
theorem out0 (a : Int) : (outCr none a).1 = 0 ∧ (outCr none a).2.1 = if a = 0 then 0 else 1 := by
  have h := outCr_ok cr0 (by decide) (by show (0 : Int) ≤ 0; decide) (by decide) a
  have e : outCr (some (none, ())) a = outCr none a := rfl
  rw [e] at h
  rw [h]
  by_cases h0 : a = 0
  · subst h0
    exact ⟨rfl, rfl⟩
  · rw [if_pos (by omega), if_neg h0]
    exact ⟨rfl, rfl⟩
theorem in0 (a : Int) : (inCr none a).1 = 0 ∧ (inCr none a).2.1 = if a = 0 then 0 else 1 := by
  have h := inCr_ok cr0 (by decide) (by show (0 : Int) ≤ 0; decide) (by decide) a
  have e : inCr (some (none, ())) a = inCr none a := rfl
  rw [e] at h
  rw [h]
  by_cases h0 : a = 0
  · subst h0
    exact ⟨rfl, rfl⟩
  · rw [if_pos (by have e : ((starts 0 []).length : Int) = 0 := rfl; omega), if_neg h0]
    exact ⟨rfl, rfl⟩
theorem upd0 : (updC none ((0 : Int), (0 : Int), ()) ((0 : Int), (0 : Int), ()) none []).2.1 = 0 := by decide +kernel
theorem upd2 : topT (treeOf (updC none ((0 : Int), (0 : Int), ()) ((0 : Int), (0 : Int), ()) none []).1) = .nil := by rfl
theorem wf0 : WfN (topT (treeOf none)) := .inl rfl
theorem ok0 : okTre (treeOf none) := ⟨wf0, by decide, by decide⟩
theorem low0 : lowT (topT (treeOf none)) := ⟨.inl rfl, by decide⟩
theorem br {c : Bool} {A : Prop} (hc : c = true) (h : A) : (c = true → A) ∧ (c = false → false = true) := ⟨fun _ => h, fun e => by rw [hc] at e; cases e⟩
theorem code0 {n a : Int} (h : n = if a = 0 then 0 else 1) : Ty.beq t4 (n == (0 : Int)) (a == (0 : Int)) = true := by
  have e : (n == (0 : Int)) = (a == (0 : Int)) := by
    rw [h]
    by_cases h0 : a = 0
    · rw [if_pos h0, h0]
    · rw [if_neg h0]
      cases hb : a == (0 : Int) with
      | false => rfl
      | true => exact absurd (eq_of_beq hb) h0
  rw [e]
  cases a == (0 : Int) <;> rfl
theorem p3 : vc3 := by
  unfold vc3
  rintro ⟨a, ⟨⟩⟩ -
  obtain ⟨o1, o2⟩ := out0 a
  obtain ⟨i1, i2⟩ := in0 a
  have l1 : lowT (topT (treeOf (updC none ((0 : Int), (0 : Int), ()) ((0 : Int), (0 : Int), ()) none []).1)) := by rw [upd2]; exact low0
  refine ⟨ok0, wf0, ⟨ok0, wf0, by decide⟩, trivial, br (by rw [o1]; rfl) (br (by rw [i1]; rfl) (br (code0 o2) (br (code0 i2) (br (by rw [upd0]; rfl) (br rfl ⟨l1, br rfl (br rfl (br rfl ⟨trivial, br rfl ⟨low0, br rfl ⟨trivial, rfl⟩⟩⟩))⟩)))))⟩
end Go.Fr.D16
namespace Go.Fr.D16
open Go Go.Fr Go.Proofs
set_option maxRecDepth 100000
def hs28 : List (Nat × Nat × Hint) := []
def nm28 : List Nat := [3000000047]
noncomputable def E28 : Env := env tab [] [] gl hs28 nm28
def vc28_0 : Prop :=
 ∀ (s : Int × (Int × Int × Int × Unit) × Int × Int × Unit),
 (((0 : Int) == (3 : Int)) = true → s.fst = sizeD s (0 : Int)) ∧
 (((0 : Int) == (3 : Int)) = false →
 ((0 : Int) ≤ (0 : Int) ∧ (0 : Int) < (↑(3 : Nat) : Int)) ∧ s.snd.fst.fst = sizeD s (0 : Int))
theorem vcEq28_0 : (∀ s : Sm, fnVCat E28 Tryd.f28 (bodyOf Tryd.f28) cSizeD (s, (0 : Int), ())) = vc28_0 := by kernel_rfl
def vc28_1 : Prop :=
 ∀ (s : Int × (Int × Int × Int × Unit) × Int × Int × Unit),
 (((1 : Int) == (3 : Int)) = true → s.fst = sizeD s (1 : Int)) ∧
 (((1 : Int) == (3 : Int)) = false →
 ((0 : Int) ≤ (1 : Int) ∧ (1 : Int) < (↑(3 : Nat) : Int)) ∧ s.snd.fst.snd.fst = sizeD s (1 : Int))
theorem vcEq28_1 : (∀ s : Sm, fnVCat E28 Tryd.f28 (bodyOf Tryd.f28) cSizeD (s, (1 : Int), ())) = vc28_1 := by kernel_rfl
def vc28_2 : Prop :=
 ∀ (s : Int × (Int × Int × Int × Unit) × Int × Int × Unit),
 (((2 : Int) == (3 : Int)) = true → s.fst = sizeD s (2 : Int)) ∧
 (((2 : Int) == (3 : Int)) = false →
 ((0 : Int) ≤ (2 : Int) ∧ (2 : Int) < (↑(3 : Nat) : Int)) ∧ s.snd.fst.snd.snd.fst = sizeD s (2 : Int))
theorem vcEq28_2 : (∀ s : Sm, fnVCat E28 Tryd.f28 (bodyOf Tryd.f28) cSizeD (s, (2 : Int), ())) = vc28_2 := by kernel_rfl
def vc28_3 : Prop :=
 ∀ (s : Int × (Int × Int × Int × Unit) × Int × Int × Unit),
 (((3 : Int) == (3 : Int)) = true → s.fst = sizeD s (3 : Int)) ∧
 (((3 : Int) == (3 : Int)) = false →
 ((0 : Int) ≤ (3 : Int) ∧ (3 : Int) < (↑(3 : Nat) : Int)) ∧ s.snd.snd.fst = sizeD s (3 : Int))
theorem vcEq28_3 : (∀ s : Sm, fnVCat E28 Tryd.f28 (bodyOf Tryd.f28) cSizeD (s, (3 : Int), ())) = vc28_3 := by kernel_rfl
end Go.Fr.D16
namespace Go.Fr.D16
open Go Go.Fr Go.Proofs
set_option maxRecDepth 100000
theorem zero_three {d : Int} (h : 0 ≤ d ∧ d ≤ 3) : d = 0 ∨ d = 1 ∨ d = 2 ∨ d = 3 := by omega
theorem v28 : fnVC E28 Tryd.f28 (bodyOf Tryd.f28) cSizeD := by
  refine fnVC_at fun x h => ?_
  obtain ⟨s, d, ⟨⟩⟩ := x
  have hd := zero_three h
  have q0 : vc28_0 := fun s => ⟨fun h => (by cases h), fun _ => ⟨⟨by decide, by decide⟩, rfl⟩⟩
  have q1 : vc28_1 := fun s => ⟨fun h => (by cases h), fun _ => ⟨⟨by decide, by decide⟩, rfl⟩⟩
  have q2 : vc28_2 := fun s => ⟨fun h => (by cases h), fun _ => ⟨⟨by decide, by decide⟩, rfl⟩⟩
  have q3 : vc28_3 := fun s => ⟨fun _ => rfl, fun h => by cases h⟩
  rcases hd with rfl | rfl | rfl | rfl
  · exact (vcEq28_0 ▸ q0 : ∀ s : Sm, fnVCat E28 Tryd.f28 (bodyOf Tryd.f28) cSizeD (s, (0 : Int), ())) s
  · exact (vcEq28_1 ▸ q1 : ∀ s : Sm, fnVCat E28 Tryd.f28 (bodyOf Tryd.f28) cSizeD (s, (1 : Int), ())) s
  · exact (vcEq28_2 ▸ q2 : ∀ s : Sm, fnVCat E28 Tryd.f28 (bodyOf Tryd.f28) cSizeD (s, (2 : Int), ())) s
  · exact (vcEq28_3 ▸ q3 : ∀ s : Sm, fnVCat E28 Tryd.f28 (bodyOf Tryd.f28) cSizeD (s, (3 : Int), ())) s
end Go.Fr.D16
namespace Go.Fr
open Go Go.RowKit Go.Proofs Go.Sort
section
variable {B : Nat} {w w' : World} {h : PHeap}
def encT : (T : Ty) → T.den → List Value
  | .bool, b => [.bool b]
  | .int k, n => [.int k n]
  | .str, s => [.string s]
  | .unit, _ => []
  | .sl _, _ => []
  | .opt _, _ => []
  | .mp _ _, _ => []
  | .nd _ _ _ _, _ => []
  | .pair a b, x => encT a x.1 ++ encT b x.2
theorem enc_rep : (T : Ty) → T.flat = true → (x : T.den) → rep h T x (encT T x)
  | .bool, _, _ => rfl
  | .int _, _, _ => rfl
  | .str, _, _ => rfl
  | .unit, _, _ => rfl
  | .sl _, e, _ => by cases e
  | .opt _, e, _ => by cases e
  | .mp _ _, e, _ => by cases e
  | .nd _ _ _ _, e, _ => by cases e
  | .pair a b, e, x => by
    simp only [Ty.flat, Bool.and_eq_true] at e
    exact ⟨_, _, rfl, enc_rep a e.1 x.1, enc_rep b e.2 x.2⟩
theorem rep_enc : (T : Ty) → T.flat = true → (x : T.den) → (cs : List Value) → rep h T x cs → cs = encT T x
  | .bool, _, _, _, e => e
  | .int _, _, _, _, e => e
  | .str, _, _, _, e => e
  | .unit, _, _, _, e => e
  | .sl _, e, _, _, _ => by cases e
  | .opt _, e, _, _, _ => by cases e
  | .mp _ _, e, _, _, _ => by cases e
  | .nd _ _ _ _, e, _, _, _ => by cases e
  | .pair a b, e, x, cs, ⟨c1, c2, q, h1, h2⟩ => by
    simp only [Ty.flat, Bool.and_eq_true] at e
    rw [q, rep_enc a e.1 x.1 c1 h1, rep_enc b e.2 x.2 c2 h2]
    rfl
theorem row_enc {T : Ty} (hf : T.flat = true) : (xs : List T.den) → (cs : List Value) → RowCells h T xs cs → cs = xs.flatMap (encT T)
  | [], _, e => by simp only [RowCells] at e; subst e; rfl
  | x :: xs, _, ⟨d, r, e, h1, h2⟩ => by
    subst e
    rw [row_enc hf xs r h2, rep_enc T hf x d h1]
    rfl
theorem enc_row {T : Ty} (hf : T.flat = true) : (xs : List T.den) → RowCells h T xs (xs.flatMap (encT T))
  | [] => rfl
  | x :: xs => ⟨encT T x, xs.flatMap (encT T), rfl, enc_rep T hf x, enc_row hf xs⟩
theorem enc_len {T : Ty} (hf : T.flat = true) (x : T.den) : (encT T x).length = T.size := rep_len (h := fun _ => none) T x _ (enc_rep T hf x)
theorem flatMap_get {T : Ty} (hf : T.flat = true) (d0 : T.den) : (xs : List T.den) → (j : Nat) → j < xs.length * T.size → (xs.flatMap (encT T))[j]? = (encT T (xs.getD (j / T.size) d0))[j % T.size]?
  | [], j, hj => by simp at hj
  | x :: xs, j, hj => by
    have hl := enc_len hf x
    have h0 : 0 < T.size := by
      rcases Nat.eq_zero_or_pos T.size with e | e
      · rw [e, Nat.mul_zero] at hj; omega
      · exact e
    rw [List.flatMap_cons]
    by_cases hlt : j < T.size
    · rw [List.getElem?_append_left (by omega), Nat.div_eq_of_lt hlt, Nat.mod_eq_of_lt hlt]
      rfl
    · rw [List.getElem?_append_right (by omega), hl, flatMap_get hf d0 xs (j - T.size) (by simp only [List.length_cons, Nat.add_mul] at hj; omega)]
      have e : j = (j - T.size) + T.size := by omega
      have e1 : j / T.size = (j - T.size) / T.size + 1 := by
        conv => lhs; rw [e]
        exact Nat.add_div_right _ h0
      have e2 : j % T.size = (j - T.size) % T.size := by
        conv => lhs; rw [e]
        exact Nat.add_mod_right _ _
      rw [e1, e2]
      rfl
theorem flat_list {T : Ty} (hf : T.flat = true) [Inhabited T.den] (xs : List T.den) : flatK (encT T) T.size xs.toArray = (xs.flatMap (encT T)).toArray := by
  have hlen : (xs.flatMap (encT T)).length = xs.length * T.size := by
    have := RowCells_len (h := fun _ => none) T xs _ (enc_row hf xs)
    exact this
  apply Array.ext
  · simp [hlen]
  · intro j h1 h2
    have hj : j < xs.length * T.size := by simpa [hlen] using h2
    have g := get_flatK (encT T) T.size xs.toArray (t := j) (by simpa using hj)
    rw [getElem!_pos _ j h1] at g
    rw [g]
    have := flatMap_get hf default xs j hj
    have h0 : 0 < T.size := by
      rcases Nat.eq_zero_or_pos T.size with e | e
      · rw [e, Nat.mul_zero] at hj; omega
      · exact e
    have hd : j / T.size < xs.length := Nat.div_lt_of_lt_mul (by rw [Nat.mul_comm]; exact hj)
    have e1 : xs.toArray[j / T.size]! = xs.getD (j / T.size) default := by
      simp [List.getD, hd]
    rw [e1]
    have hm : j % T.size < (encT T (xs.getD (j / T.size) default)).length := by rw [enc_len hf]; exact Nat.mod_lt _ h0
    rw [List.getElem?_eq_getElem hm] at this
    rw [getElem!_pos (encT T (xs.getD (j / T.size) default)) (j % T.size) hm]
    have h2' : (xs.flatMap (encT T))[j]? = some ((xs.flatMap (encT T)).toArray[j]) := by simp
    rw [h2'] at this
    injection this with this
    exact this.symm
theorem grow_of {w w' : World} (hb : Below w.heap.size w w') : ∃ q os', w' = Sort.grow (w.drewN q) os' := by
  refine ⟨w'.drawn - w.drawn, w'.heap.extract w.heap.size w'.heap.size, ?_⟩
  have hheap : w'.heap = w.heap ++ w'.heap.extract w.heap.size w'.heap.size := by
    apply Array.ext_getElem?
    intro i
    rw [Array.getElem?_append]
    split
    · rename_i hi; exact hb.block i hi
    · rename_i hi
      rw [Array.getElem?_extract]
      by_cases hi2 : i < w'.heap.size
      · rw [if_pos (by omega), show w.heap.size + (i - w.heap.size) = i by omega]
      · rw [if_neg (by omega), Array.getElem?_eq_none (by omega)]
  have hd := hb.drawn
  cases w' with
  | mk heap tape drawn os output =>
    simp only [Sort.grow, World.drewN] at *
    have h1 := hb.os
    have h2 := hb.tape
    have h3 := hb.output
    simp only at h1 h2 h3
    rw [← hheap, h1, h2, h3]
    congr 1
    omega
theorem cmp_lays {P : Program} {T : Ty} [Inhabited T.den] (hf : T.flat = true) (ha : T.isAgg = true) {cf : T.den → T.den → Int} {g : FuncId} (hC : CallSpec P noGl g (cOrd T cf)) (blk off size k : Nat) (w : World) :
    CmpLays P g #[] (encT T) k cf blk off size w := by
  intro m os dk hs x y
  have := hC.2 (x, y, ()) (fun _ => none) (sortWorldK (encT T) k w blk off m dk os) [T.val (encT T x), T.val (encT T y)] trivial ⟨_, _, rfl, ⟨_, enc_rep T hf x, rfl⟩, _, _, rfl, ⟨_, enc_rep T hf y, rfl⟩, rfl⟩ (fun k o hk => by cases hk) (fun g T x hg => by cases hg)
  rw [val_agg ha, val_agg ha] at this
  have e : ([Value.agg (encT T x).toArray, Value.agg (encT T y).toArray] ++ tailVals (cOrd T cf).tail).toArray = #[Value.agg (encT T x).toArray, Value.agg (encT T y).toArray] ++ #[] := by simp [tailVals, cOrd]
  rw [e] at this
  refine this.mono ?_
  rintro e w' ⟨v, h', rfl, _, _, _, hr, hb⟩
  refine ⟨?_, grow_of hb⟩
  obtain ⟨cs, q1, q2⟩ := (show vrep h' (.int .i64) (cf x y) v from hr)
  simp only [rep] at q1
  subst q1
  rw [q2]
  rfl
end
end Go.Fr
namespace Go.Fr
open Go Go.RowKit Go.Proofs Go.Sort
section
variable {α : Type}
theorem perm_of_in [Inhabited α] {d d' : Array α} (h : PermIn 0 d.size d d') : d'.toList.Perm d.toList := by
  obtain ⟨hsz, _, hperm⟩ := h
  have e1 : d'.extract 0 d.size = d' := by rw [← hsz]; exact Array.extract_size
  rw [e1, Array.extract_size] at hperm
  exact hperm
theorem sorted_of_in [Inhabited α] {cf : α → α → Int} {d : Array α} {n : Nat} (hn : n = d.size) (h : SortedIn (ltOf cf) 0 n d) : d.toList.Pairwise (fun a b => ¬ cf b a < 0) := by
  subst hn
  rw [List.pairwise_iff_getElem]
  intro i j hi hj hij
  have hi' : i < d.size := by simpa using hi
  have hj' : j < d.size := by simpa using hj
  have := h i j (Nat.zero_le _) hij hj'
  rw [getElem!_pos d j hj', getElem!_pos d i hi'] at this
  have := of_decide_eq_false this
  simpa using this
end
section
theorem sortP_spec {P : Program} {ρ : Shelf.Ren} (L : SlLaysF0.n6 P ρ) {T : Ty} (hf : T.flat = true) (ha : T.isAgg = true) (hpos : 0 < T.size) (aE : ∀ w, (isAgg (ρ.t 24)).run P w = .ok true w) (zE : ∀ w, (Go.sizeOf (ρ.t 24)).run P w = .ok T.size w)
    {f : FuncId} (hρ : ρ.f 6 = f) {e : TypeId} {fn : Func} {cd : Code} (hfn : P.funcs[f]? = some fn) (hname : fn.name ≠ "runtime.NumGoroutine") (hb : fn.body = some cd)
    {cf : T.den → T.den → Int} (hO : Sort.SWO (ltOf cf)) {g : FuncId} (eg : ∀ args w, (callFunc g args).run P w = .ok (.enter g args) w) (hC : CallSpec P noGl g (cOrd T cf)) :
    RSpec P f { t := T, e := e, pre := fun xs => List.length xs ≤ 100000, post := fun xs ys => ys.Perm xs ∧ ys.Pairwise (fun a b => ¬ cf b a < 0), back := false, tail := [g] } := by
  subst hρ
  haveI : Inhabited T.den := ⟨T.dflt⟩
  refine ⟨⟨fn, cd, hfn, hname, hb⟩, ?_⟩
  intro xs h w B v cs hp hpin hB hown hrc hfr
  have hp : List.length xs ≤ 100000 := hp
  have hown : w.ownsRow B e T.size v xs.length cs := hown
  have hrc : RowCells h T xs cs := hrc
  have hcs := row_enc hf xs cs hrc
  subst hcs
  rcases hown.2 with ⟨e0, e1⟩ | ⟨g', cap, cur, e0, f1, f2, f3⟩
  · subst e0
    have hx : xs = [] := List.eq_nil_of_length_eq_zero e1
    subst hx
    refine (AnyF.slices_SortFunc_none L none 0 (.func (.func g) #[] #[]) w).mono ?_
    rintro en w' ⟨rfl, rfl⟩
    exact ⟨_, .slice none 0 0, _, [], rfl, ⟨List.Perm.nil, List.Pairwise.nil⟩, World.ownsRow_nil _ B e T.size, by simp [RowCells], grownBy_refl _ _, ⟨fun g hg => by simp [Value.ownBlock] at hg, rfl⟩⟩
  · subst e0
    have hH : HoldsK (encT T) T.size w g' 0 xs.toArray := by
      unfold HoldsK
      rw [flat_list hf]
      exact row_holds hown
    refine (AnyQ.slices_SortFunc L T.size aE zE (encT T) (enc_len hf) (fun x v hv => rep_one (h := h) T x _ (enc_rep T hf x) v hv) cf hO g #[] g' 0 cap xs.toArray w eg (cmp_lays hf ha hC _ _ _ _ _) hH (lt_of_heap f2) (by simp; omega)).mono ?_
    rintro en w' ⟨rfl, d', q, os, hpm, hso, hw⟩
    have hpl := perm_of_in hpm
    have hsl := sorted_of_in (by have := hpm.1; simp at this ⊢; omega) hso
    generalize hys : d'.toList = ys at hpl hsl
    have hd : d' = ys.toArray := by rw [← hys]
    subst hd
    have hl : ys.length = xs.length := by simpa using hpl.length_eq
    have hw2 : w' = Sort.grow (Sort.putRow id (Sort.ahead w q) g' 0 (ys.flatMap (encT T)).toArray) os := by
      rw [hw]
      unfold sortWorldK putRowK
      rw [flat_list hf]
    have hlen := RowCells_len (h := h) T ys _ (enc_row hf ys)
    rw [hl] at hlen
    obtain ⟨g1, g2⟩ := put_row (m := xs.length) hpos hown hlen (Nat.le_refl _) hw2
    rw [List.take_of_length_le (by rw [hlen]; exact Nat.le_refl _)] at g1
    exact ⟨_, _, ys, _, rfl, ⟨by simpa using hpl, hsl⟩, by rw [hl]; exact g1, enc_row hf _, g2, fun g' hg => .inl hg, rfl⟩
end
end Go.Fr
namespace Go.Proofs
open Go.Shelf
set_option maxRecDepth 100000
def Tryd.lSort_ren : Go.Shelf.Ren := ⟨fun | 6 => 47 | 15 => 62 | 14 => 61 | 28 => 83 | 29 => 84 | 20 => 75 | 21 => 76 | 22 => 77 | 23 => 78 | 24 => 79 | 25 => 80 | 26 => 81 | 27 => 82 | 46 => 87 | 47 => 88 | 48 => 89 | 49 => 90 | 50 => 91 | 57 => 96 | n => n, fun | 22 => 100 | 24 => 105 | 25 => 111 | 3 => 3 | 39 => 128 | 0 => 0 | 53 => 149 | 55 => 151 | 4 => 4 | 46 => 142 | 45 => 141 | 50 => 146 | 5 => 5 | 9 => 9 | 66 => 154 | 70 => 158 | 76 => 162 | 77 => 30 | n => n, fun n => n⟩
theorem Tryd.lSort : SlLaysF0.n6 Tryd.prog Tryd.lSort_ren := {
  mixed := by kernel_rfl,
  f6 := ⟨Tryd.f47.name, by decide, Tryd.func47.trans (by kernel_rfl)⟩,
  f14 := ⟨Tryd.f61.name, by decide, Tryd.func61.trans (by kernel_rfl)⟩,
  f15 := Tryd.func62.trans (by kernel_rfl),
  f20 := ⟨Tryd.f75.name, by decide, Tryd.func75.trans (by kernel_rfl)⟩,
  f21 := ⟨Tryd.f76.name, by decide, Tryd.func76.trans (by kernel_rfl)⟩,
  f22 := ⟨Tryd.f77.name, by decide, Tryd.func77.trans (by kernel_rfl)⟩,
  f23 := ⟨Tryd.f78.name, by decide, Tryd.func78.trans (by kernel_rfl)⟩,
  f24 := ⟨Tryd.f79.name, by decide, Tryd.func79.trans (by kernel_rfl)⟩,
  f25 := ⟨Tryd.f80.name, by decide, Tryd.func80.trans (by kernel_rfl)⟩,
  f26 := ⟨Tryd.f81.name, by decide, Tryd.func81.trans (by kernel_rfl)⟩,
  f27 := ⟨Tryd.f82.name, by decide, Tryd.func82.trans (by kernel_rfl)⟩,
  f28 := Tryd.func83.trans (by kernel_rfl),
  f29 := Tryd.func84.trans (by kernel_rfl),
  f46 := ⟨Tryd.f87.name, by decide, Tryd.func87.trans (by kernel_rfl)⟩,
  f47 := Tryd.func88.trans (by kernel_rfl),
  f48 := Tryd.func89.trans (by kernel_rfl),
  f49 := ⟨Tryd.f90.name, by decide, Tryd.func90.trans (by kernel_rfl)⟩,
  f50 := ⟨Tryd.f91.name, by decide, Tryd.func91.trans (by kernel_rfl)⟩,
  f57 := ⟨Tryd.f96.name, by decide, Tryd.func96.trans (by kernel_rfl)⟩,
  t0 := Tryd.underlying0,
  a0 := Tryd.isAgg0,
  z0 := Tryd.sizeOf0,
  v0 := Tryd.zeroValue0,
  t3 := Tryd.underlying3,
  a3 := Tryd.isAgg3,
  z3 := Tryd.sizeOf3,
  v3 := Tryd.zeroValue3,
  t4 := Tryd.underlying4,
  a4 := Tryd.isAgg4,
  z4 := Tryd.sizeOf4,
  v4 := Tryd.zeroValue4,
  t5 := Tryd.underlying5,
  a5 := Tryd.isAgg5,
  z5 := Tryd.sizeOf5,
  v5 := Tryd.zeroValue5,
  t9 := Tryd.underlying9,
  a9 := Tryd.isAgg9,
  z9 := Tryd.sizeOf9,
  v9 := Tryd.zeroValue9,
  t22 := Tryd.underlying100,
  a22 := Tryd.isAgg100,
  z22 := Tryd.sizeOf100,
  v22 := Tryd.zeroValue100,
  t25 := Tryd.underlying111,
  a25 := Tryd.isAgg111,
  z25 := Tryd.sizeOf111,
  v25 := Tryd.zeroValue111,
  t39 := Tryd.underlying128,
  a39 := Tryd.isAgg128,
  z39 := Tryd.sizeOf128,
  v39 := Tryd.zeroValue128,
  t45 := Tryd.underlying141,
  a45 := Tryd.isAgg141,
  z45 := Tryd.sizeOf141,
  v45 := Tryd.zeroValue141,
  t46 := Tryd.underlying142,
  a46 := Tryd.isAgg142,
  z46 := Tryd.sizeOf142,
  v46 := Tryd.zeroValue142,
  t50 := Tryd.underlying146,
  a50 := Tryd.isAgg146,
  z50 := Tryd.sizeOf146,
  v50 := Tryd.zeroValue146,
  t53 := Tryd.underlying149,
  a53 := Tryd.isAgg149,
  z53 := Tryd.sizeOf149,
  v53 := Tryd.zeroValue149,
  t55 := Tryd.underlying151,
  a55 := Tryd.isAgg151,
  z55 := Tryd.sizeOf151,
  v55 := Tryd.zeroValue151,
  t66 := Tryd.underlying154,
  a66 := Tryd.isAgg154,
  z66 := Tryd.sizeOf154,
  v66 := Tryd.zeroValue154,
  t70 := Tryd.underlying158,
  a70 := Tryd.isAgg158,
  z70 := Tryd.sizeOf158,
  v70 := Tryd.zeroValue158,
  t76 := Tryd.underlying162,
  a76 := Tryd.isAgg162,
  z76 := Tryd.sizeOf162,
  v76 := Tryd.zeroValue162,
  t77 := Tryd.underlying30,
  a77 := Tryd.isAgg30,
  z77 := Tryd.sizeOf30,
  v77 := Tryd.zeroValue30 }
end Go.Proofs
namespace Go.Proofs
open Go.Shelf
set_option maxRecDepth 100000
def Tryd.lContains_ren : Go.Shelf.Ren := ⟨fun | 144 => 58 | 143 => 73 | 219 => 86 | 217 => 92 | 225 => 93 | 224 => 94 | 267 => 95 | 266 => 97 | 314 => 98 | n => n, fun | 9 => 9 | 4 => 4 | 3 => 3 | 5 => 5 | 46 => 128 | 146 => 164 | 51 => 149 | n => n, fun | 1 => 1 | n => n⟩
theorem Tryd.lContains : Lays.n144 Tryd.prog Tryd.lContains_ren := {
  mixed := by kernel_rfl,
  f143 := Tryd.func73.trans (by kernel_rfl),
  f144 := Tryd.func58.trans (by kernel_rfl),
  f217 := Tryd.func92.trans (by kernel_rfl),
  f219 := Tryd.func86.trans (by kernel_rfl),
  f224 := Tryd.func94.trans (by kernel_rfl),
  f225 := Tryd.func93.trans (by kernel_rfl),
  f266 := Tryd.func97.trans (by kernel_rfl),
  f267 := Tryd.func95.trans (by kernel_rfl),
  f314 := Tryd.func98.trans (by kernel_rfl),
  t3 := Tryd.underlying3,
  a3 := Tryd.isAgg3,
  z3 := Tryd.sizeOf3,
  v3 := Tryd.zeroValue3,
  t4 := Tryd.underlying4,
  a4 := Tryd.isAgg4,
  z4 := Tryd.sizeOf4,
  v4 := Tryd.zeroValue4,
  t5 := Tryd.underlying5,
  a5 := Tryd.isAgg5,
  z5 := Tryd.sizeOf5,
  v5 := Tryd.zeroValue5,
  t9 := Tryd.underlying9,
  a9 := Tryd.isAgg9,
  z9 := Tryd.sizeOf9,
  v9 := Tryd.zeroValue9,
  t46 := Tryd.underlying128,
  a46 := Tryd.isAgg128,
  z46 := Tryd.sizeOf128,
  v46 := Tryd.zeroValue128,
  t51 := Tryd.underlying149,
  a51 := Tryd.isAgg149,
  z51 := Tryd.sizeOf149,
  v51 := Tryd.zeroValue149,
  t146 := Tryd.underlying164,
  a146 := Tryd.isAgg164,
  z146 := Tryd.sizeOf164,
  v146 := Tryd.zeroValue164,
  g1 := by kernel_rfl }
end Go.Proofs
namespace Go.Fr.D16
open Go Go.Fr Go.Proofs
open Go.Sort
theorem r47 (h : CallSpec Tryd.prog noGl 48 cOrder) : RSpec Tryd.prog 47 rSort :=
  sortP_spec Tryd.lSort (T := t105) rfl rfl (by decide) Tryd.isAgg105 Tryd.sizeOf105 rfl Tryd.func47 (by decide) (by kernel_rfl : Tryd.f47.body = some (bodyOf Tryd.f47)) (cf := cmpL) swoL (enters_of Tryd.func48 (by kernel_rfl) rfl) h
theorem s58 (G : Nat → Option ((t : Ty) × t.den)) : CallSpec Tryd.prog G 58 cContains := by
  refine ⟨⟨Tryd.f58, bodyOf Tryd.f58, Tryd.func58, by decide, by kernel_rfl⟩, ?_⟩
  rintro ⟨s, t, ⟨⟩⟩ h w args hp hr hin hg
  have hp : t = (ByteArray.mk #[10]) := hp
  subst hp
  obtain ⟨v, r, rfl, ⟨cs, hc, rfl⟩, v2, r2, rfl, ⟨cs2, hc2, rfl⟩, rfl⟩ := (show ∃ v r, args = v :: r ∧ vrep h .str s v ∧ ∃ v2 r2, r = v2 :: r2 ∧ vrep h .str (ByteArray.mk #[10]) v2 ∧ r2 = [] from hr)
  simp only [rep] at hc hc2
  subst hc hc2
  refine (Any.strings_Contains_one Tryd.lContains s 10 w).mono ?_
  rintro e w' ⟨rfl, rfl⟩
  refine ⟨_, h, rfl, PLe.refl h, fun k hk => .inl hk, hin, ?_, Below.refl _ _⟩
  show vrep h .bool (hasNL s) _
  refine ⟨[.bool (hasNL s)], rfl, ?_⟩
  show Value.bool _ = Value.bool (hasNL s)
  unfold hasNL
  rw [Lib.contains_iff_indexByte]
end Go.Fr.D16
namespace Go.Fr.D16
open Go Go.Fr Go.Proofs
theorem s11 : CallSpec Tryd.prog gl 11 cTreeC := fn_spec tab_ok mixed ct_nil il_nil Tryd.func11 (by kernel_rfl) (vcEq11 ▸ p11)
theorem s30 : CallSpec Tryd.prog gl 30 cTop := fn_spec tab_ok mixed ct_nil il_nil Tryd.func30 (by kernel_rfl) (vcEq30 ▸ p30)
theorem s32 : CallSpec Tryd.prog gl 32 cSumOf := fn_spec tab_ok mixed ct_nil il_nil Tryd.func32 (by kernel_rfl) (vcEq32 ▸ p32)
theorem s22 : CallSpec Tryd.prog gl 22 cSum := fn_spec tab_ok mixed (ct_cons s30 (ct_cons s32 ct_nil)) il_nil Tryd.func22 (by kernel_rfl) (vcEq22 ▸ p22)
theorem s28 : CallSpec Tryd.prog gl 28 cSizeD := fn_spec tab_ok mixed ct_nil il_nil Tryd.func28 (by kernel_rfl) (v28)
theorem s31 : CallSpec Tryd.prog gl 31 cAddS := fn_spec tab_ok mixed ct_nil il_nil Tryd.func31 (by kernel_rfl) (vcEq31 ▸ p31)
theorem s33 : CallSpec Tryd.prog gl 33 cOfI := fn_spec tab_ok mixed ct_nil il_nil Tryd.func33 (by kernel_rfl) (vcEq33 ▸ p33)
theorem s12 : CallSpec Tryd.prog gl 12 cFind := fn_spec tab_ok mixed (ct_cons s22 (ct_cons s28 (ct_cons s30 (ct_cons s32 (ct_cons s31 (ct_cons s33 ct_nil)))))) (il_cons Tryd.func29 (by kernel_rfl) il_nil) Tryd.func12 (by kernel_rfl) (vcEq12 ▸ p12)
theorem s13 : CallSpec Tryd.prog gl 13 cAt := fn_spec tab_ok mixed (ct_cons s22 (ct_cons s30 (ct_cons s32 ct_nil))) il_nil Tryd.func13 (by kernel_rfl) (vcEq13 ▸ p13)
theorem s4 : CallSpec Tryd.prog gl 4 cOutC := fn_spec tab_ok mixed (ct_cons s11 (ct_cons s12 (ct_cons s13 ct_nil))) il_nil Tryd.func4 (by kernel_rfl) (vcEq4 ▸ p4)
theorem s5 : CallSpec Tryd.prog gl 5 cInC := fn_spec tab_ok mixed (ct_cons s11 (ct_cons s12 ct_nil)) il_nil Tryd.func5 (by kernel_rfl) (vcEq5 ▸ p5)
theorem s7 : CallSpec Tryd.prog gl 7 cSizesC := fn_spec tab_ok mixed (ct_cons s11 (ct_cons s22 ct_nil)) il_nil Tryd.func7 (by kernel_rfl) (vcEq7 ▸ p7)
theorem s34 : CallSpec Tryd.prog gl 34 cTreeOf := fn_spec tab_ok mixed ct_nil il_nil Tryd.func34 (by kernel_rfl) (vcEq34 ▸ p34)
theorem s14 : CallSpec Tryd.prog gl 14 cSizes := fn_spec tab_ok mixed (ct_cons s34 (ct_cons s22 ct_nil)) il_nil Tryd.func14 (by kernel_rfl) (vcEq14 ▸ p14)
theorem s15 : CallSpec Tryd.prog gl 15 cRightC := fn_spec tab_ok mixed (ct_cons s14 ct_nil) il_nil Tryd.func15 (by kernel_rfl) (vcEq15 ▸ p15)
theorem s16 : CallSpec Tryd.prog gl 16 cFits := fn_spec tab_ok mixed ct_nil il_nil Tryd.func16 (by kernel_rfl) (vcEq16 ▸ p16)
theorem s36 : CallSpec Tryd.prog gl 36 cOut := fn_spec tab_ok mixed (ct_cons s34 (ct_cons s12 ct_nil)) il_nil Tryd.func36 (by kernel_rfl) (vcEq36 ▸ p36)
theorem s18 : CallSpec Tryd.prog gl 18 cPlacesC := fn_spec tab_ok mixed (ct_cons s36 ct_nil) il_nil Tryd.func18 (by kernel_rfl) (vcEq18 ▸ p18)
theorem s35 : CallSpec Tryd.prog gl 35 cAcross := fn_spec tab_ok mixed ct_nil il_nil Tryd.func35 (by kernel_rfl) (vcEq35 ▸ p35)
theorem s17 : CallSpec Tryd.prog gl 17 cWithinC := fn_spec tab_ok mixed (ct_cons s35 ct_nil) il_nil Tryd.func17 (by kernel_rfl) (vcEq17 ▸ p17)
theorem s19 : CallSpec Tryd.prog gl 19 cEdges := fn_spec tab_ok mixed (ct_cons s11 (ct_cons s12 (ct_cons s13 (ct_cons s35 ct_nil)))) il_nil Tryd.func19 (by kernel_rfl) (vcEq19 ▸ p19)
theorem s40 : CallSpec Tryd.prog gl 40 cPlainC := fn_spec tab_ok mixed ct_nil il_nil Tryd.func40 (by kernel_rfl) (vcEq40 ▸ p40)
theorem s41 : CallSpec Tryd.prog gl 41 cFoldC := fn_spec tab_ok mixed ct_nil il_nil Tryd.func41 (by kernel_rfl) (vcEq41 ▸ p41)
theorem s21 : CallSpec Tryd.prog gl 21 cRowC := fn_spec tab_ok mixed (ct_cons s40 (ct_cons s41 ct_nil)) il_nil Tryd.func21 (by kernel_rfl) (vcEq21 ▸ p21)
theorem s68 : CallSpec Tryd.prog gl 68 cWithinN := fn_spec tab_ok mixed ct_nil il_nil Tryd.func68 (by kernel_rfl) (vcEq68 ▸ p68)
theorem s52 : CallSpec Tryd.prog gl 52 cCheck := fn_spec tab_ok mixed (ct_cons s68 ct_nil) il_nil Tryd.func52 (by kernel_rfl) (vcEq52 ▸ p52)
theorem s69 : CallSpec Tryd.prog gl 69 cAllS := fn_spec tab_ok mixed (ct_cons s33 (ct_cons s31 ct_nil)) il_nil Tryd.func69 (by kernel_rfl) (vcEq69 ▸ p69)
theorem s53 : CallSpec Tryd.prog gl 53 cLeafOf := fn_spec tab_ok mixed (ct_cons s69 ct_nil) il_nil Tryd.func53 (by kernel_rfl) (vcEq53 ▸ p53)
theorem s44 : CallSpec Tryd.prog gl 44 cHeightOf := fn_spec tab_ok mixed ct_nil il_nil Tryd.func44 (by kernel_rfl) (vcEq44 ▸ p44)
theorem s71 : CallSpec Tryd.prog gl 71 cPut := fn_spec tab_ok mixed ct_nil il_nil Tryd.func71 (by kernel_rfl) (vcEq71 ▸ p71)
theorem s56 : CallSpec Tryd.prog gl 56 cInnerOf := fn_spec tab_ok mixed (ct_cons s44 (ct_cons s32 (ct_cons s31 ct_nil))) il_nil Tryd.func56 (by kernel_rfl) (vcEq56 ▸ p56)
theorem s70 : CallSpec Tryd.prog gl 70 cRaise := fn_spec tab_ok mixed (ct_cons s56 ct_nil) il_nil Tryd.func70 (by kernel_rfl) (vcEq70 ▸ p70)
theorem s72 : CallSpec Tryd.prog gl 72 cSpread := fn_spec tab_ok mixed (ct_cons s53 ct_nil) il_nil Tryd.func72 (by kernel_rfl) (vcEq72 ▸ p72)
theorem q55 : ∀ n, CallSpec Tryd.prog gl 55 (cMeld.cut muMeld n)
  | 0 => cut_zero Tryd.func55 (by kernel_rfl)
  | n + 1 => fn_spec tab_ok mixed (ct_cons s44 (ct_cons (q55 n) (ct_cons s71 (ct_cons s70 (ct_cons s72 ct_nil))))) il_nil Tryd.func55 (by kernel_rfl) (vcEq55 n ▸ p55 n)
theorem s55 : CallSpec Tryd.prog gl 55 cMeld := cut_all q55
theorem s39 : CallSpec Tryd.prog gl 39 cJoin := fn_spec tab_ok mixed (ct_cons s55 (ct_cons s56 ct_nil)) il_nil Tryd.func39 (by kernel_rfl) (vcEq39 ▸ p39)
theorem s37 : CallSpec Tryd.prog gl 37 cTreeNew := fn_spec tab_ok mixed (ct_cons s52 (ct_cons s53 (ct_cons s39 ct_nil))) il_nil Tryd.func37 (by kernel_rfl) (vcEq37 ▸ p37)
theorem s54 : CallSpec Tryd.prog gl 54 cRowN := fn_spec tab_ok mixed (ct_cons s56 ct_nil) il_nil Tryd.func54 (by kernel_rfl) (vcEq54 ▸ p54)
theorem q38 : ∀ n, CallSpec Tryd.prog gl 38 (cSplit.cut muSplit n)
  | 0 => cut_zero Tryd.func38 (by kernel_rfl)
  | n + 1 => fn_spec tab_ok mixed (ct_cons s53 (ct_cons s32 (ct_cons (q38 n) (ct_cons s54 (ct_cons s39 ct_nil))))) il_nil Tryd.func38 (by kernel_rfl) (vcEq38 n ▸ p38 n)
theorem s38 : CallSpec Tryd.prog gl 38 cSplit := cut_all q38
theorem s20 : CallSpec Tryd.prog gl 20 cReplace := fn_spec tab_ok mixed (ct_cons s22 (ct_cons s37 (ct_cons s30 (ct_cons s38 (ct_cons s39 ct_nil))))) il_nil Tryd.func20 (by kernel_rfl) (vcEq20 ▸ p20)
theorem s6 : CallSpec Tryd.prog gl 6 cUpdC := fn_spec tab_ok mixed (ct_cons s7 (ct_cons s14 (ct_cons s15 (ct_cons s16 (ct_cons s18 (ct_cons s17 (ct_cons s19 (ct_cons s11 (ct_cons s21 (ct_cons s20 ct_nil)))))))))) il_nil Tryd.func6 (by kernel_rfl) (vcEq6 ▸ p6)
theorem s23 : CallSpec Tryd.prog gl 23 cItems := fn_spec tab_ok mixed (ct_cons s30 ct_nil) (il_cons Tryd.func43 (by kernel_rfl) (il_cons Tryd.func42 (by kernel_rfl) il_nil)) Tryd.func23 (by kernel_rfl) (vcEq23 ▸ p23)
theorem s8 : CallSpec Tryd.prog gl 8 cPiecesC := fn_spec tab_ok mixed (ct_cons s11 (ct_cons s23 ct_nil)) il_nil Tryd.func8 (by kernel_rfl) (vcEq8 ▸ p8)
theorem s24 : CallSpec Tryd.prog gl 24 cHeightT := fn_spec tab_ok mixed (ct_cons s30 (ct_cons s44 ct_nil)) il_nil Tryd.func24 (by kernel_rfl) (vcEq24 ▸ p24)
theorem s9 : CallSpec Tryd.prog gl 9 cHeightC := fn_spec tab_ok mixed (ct_cons s11 (ct_cons s24 ct_nil)) il_nil Tryd.func9 (by kernel_rfl) (vcEq9 ▸ p9)
theorem s57 : CallSpec Tryd.prog gl 57 cCount := fn_spec tab_ok mixed ct_nil il_nil Tryd.func57 (by kernel_rfl) (vcEq57 ▸ p57)
theorem s45 : CallSpec Tryd.prog gl 45 cWrong := fn_spec tab_ok mixed (ct_cons s57 (ct_cons (s58 _) ct_nil)) il_nil Tryd.func45 (by kernel_rfl) (vcEq45 ▸ p45)
theorem s60 : CallSpec Tryd.prog gl 60 cDecode := fn_spec tab_ok mixed ct_nil il_nil Tryd.func60 (by kernel_rfl) (vcEq60 ▸ p60)
theorem s74 : CallSpec Tryd.prog gl 74 cRight := fn_spec tab_ok mixed ct_nil il_nil Tryd.func74 (by kernel_rfl) (vcEq74 ▸ p74)
theorem s59 : CallSpec Tryd.prog gl 59 cEncode := fn_spec tab_ok mixed (ct_cons s74 ct_nil) il_nil Tryd.func59 (by kernel_rfl) (vcEq59 ▸ p59)
theorem s46 : CallSpec Tryd.prog gl 46 cClean := fn_spec tab_ok mixed (ct_cons s60 (ct_cons s59 ct_nil)) il_nil Tryd.func46 (by kernel_rfl) (vcEq46 ▸ p46)
theorem s64 : CallSpec Tryd.prog gl 64 cCmp := fn_spec tab_ok mixed ct_nil (il_cons Tryd.func85 (by kernel_rfl) il_nil) Tryd.func64 (by kernel_rfl) (vcEq64 ▸ p64)
theorem s63 : CallSpec Tryd.prog gl 63 cOr := fn_spec tab_ok mixed ct_nil il_nil Tryd.func63 (by kernel_rfl) (vcEq63 ▸ p63)
theorem s48 : CallSpec Tryd.prog gl 48 cOrder := fn_spec tab_ok mixed (ct_cons s64 (ct_cons s63 ct_nil)) il_nil Tryd.func48 (by kernel_rfl) (vcEq48 ▸ p48)
theorem n64 : CallSpec Tryd.prog noGl 64 cCmp := fn_spec tab_ok mixed ct_nil (il_cons Tryd.func85 (by kernel_rfl) il_nil) Tryd.func64 (by kernel_rfl) ((by kernel_rfl : fnVC (env tab [] [(85, Tryd.f85)] noGl hs64 nm64) Tryd.f64 (bodyOf Tryd.f64) cCmp = vc64) ▸ p64)
theorem n63 : CallSpec Tryd.prog noGl 63 cOr := fn_spec tab_ok mixed ct_nil il_nil Tryd.func63 (by kernel_rfl) ((by kernel_rfl : fnVC (env tab [] [] noGl hs63 nm63) Tryd.f63 (bodyOf Tryd.f63) cOr = vc63) ▸ p63)
theorem n48 : CallSpec Tryd.prog noGl 48 cOrder := fn_spec tab_ok mixed (ct_cons n64 (ct_cons n63 ct_nil)) il_nil Tryd.func48 (by kernel_rfl) ((by kernel_rfl : fnVC (env tab [(64, cCmp), (63, cOr)] [] noGl hs48 nm48) Tryd.f48 (bodyOf Tryd.f48) cOrder = vc48) ▸ p48)
theorem s25 : CallSpec Tryd.prog gl 25 cNew := fn_specR tab_ok mixed (ct_cons s45 (ct_cons s46 (ct_cons s48 ct_nil))) il_nil (rct_cons (r47 n48) rct_nil) Tryd.func25 (by kernel_rfl) (vcEq25 ▸ p25)
theorem s50 : CallSpec Tryd.prog gl 50 cLen := fn_spec tab_ok mixed ct_nil il_nil Tryd.func50 (by kernel_rfl) (vcEq50 ▸ p50)
theorem s67 : CallSpec Tryd.prog gl 67 cClone := fn_spec tab_ok mixed ct_nil il_nil Tryd.func67 (by kernel_rfl) (vcEq67 ▸ p67)
theorem s51 : CallSpec Tryd.prog gl 51 cAll := fn_spec tab_ok mixed (ct_cons s67 ct_nil) il_nil Tryd.func51 (by kernel_rfl) (vcEq51 ▸ p51)
theorem s65 : CallSpec Tryd.prog gl 65 cPlain := fn_spec tab_ok mixed ct_nil il_nil Tryd.func65 (by kernel_rfl) (vcEq65 ▸ p65)
theorem s66 : CallSpec Tryd.prog gl 66 cVirtual := fn_spec tab_ok mixed (ct_cons s57 ct_nil) il_nil Tryd.func66 (by kernel_rfl) (vcEq66 ▸ p66)
theorem s49 : CallSpec Tryd.prog gl 49 cRow := fn_spec tab_ok mixed (ct_cons s65 (ct_cons s66 ct_nil)) il_nil Tryd.func49 (by kernel_rfl) (vcEq49 ▸ p49)
theorem s27 : CallSpec Tryd.prog gl 27 cWeave := fn_spec tab_ok mixed (ct_cons s50 (ct_cons s51 (ct_cons s49 (ct_cons s37 ct_nil)))) il_nil Tryd.func27 (by kernel_rfl) (vcEq27 ▸ p27)
theorem s26 : CallSpec Tryd.prog gl 26 cNewC := fn_spec tab_ok mixed (ct_cons s15 (ct_cons s14 (ct_cons s18 (ct_cons s21 (ct_cons s37 ct_nil))))) il_nil Tryd.func26 (by kernel_rfl) (vcEq26 ▸ p26)
theorem s10 : CallSpec Tryd.prog gl 10 cSix := fn_spec tab_ok mixed (ct_cons s25 (ct_cons s27 (ct_cons s26 (ct_cons s4 (ct_cons s5 (ct_cons s9 ct_nil)))))) il_nil Tryd.func10 (by kernel_rfl) (vcEq10 ▸ p10)
theorem s3 : CallSpec Tryd.prog gl 3 cCreaseNil := fn_spec tab_ok mixed (ct_cons s4 (ct_cons s5 (ct_cons s6 (ct_cons s7 (ct_cons s8 (ct_cons s9 (ct_cons s10 ct_nil))))))) il_nil Tryd.func3 (by kernel_rfl) (vcEq3 ▸ p3)
end Go.Fr.D16
namespace Go.Proofs.YtckeadbpimhimaaDoor
open Go Go.Fr Go.Fr.D16 Go.ChangeShapes Go.WideShapes Go.ChangeAt Go.RowKit
theorem gMost : Tryd.prog.globalNamed "bodkin/utf.most" = some 0 := by kernel_rfl
theorem tMost : (Tryd.prog.globals[0]?).map (·.type) = some 153 := by kernel_rfl
theorem glob_of {W : World} (h : laidMetH Tryd.prog [("bodkin/utf.most", Rows.laid_bodkin_utf_most)] W) : GlobOk gl (heapOf W) := by
  rw [MakeChecks.laidMetH_plain _ _ _ (by kernel_rfl)] at h
  obtain ⟨ps, ⟨g0, t0, cs0, f0, p0, q0, hg0, ht0, hv0, hd0, hrest⟩, h2⟩ := h
  obtain rfl := Option.some.inj (gMost.symm.trans hg0)
  obtain rfl := Option.some.inj (tMost.symm.trans ht0)
  obtain ⟨xs, m1, hf, hx1, hlen, hn4, hel⟩ := DataW.trod_array Tryd.underlying153 hd0
  have c21 : Tryd.prog.cellsOf 21 = 1 := by kernel_rfl
  have len4 : cs0.toList.length = 4 := hlen.trans (by kernel_rfl)
  rw [c21] at hel
  have hcell : ∀ i : Nat, W.cell? ⟨0, i, none⟩ = cs0.toList[i]? := fun i => by rw [World.var?_cell gMost hv0 i]; simp
  generalize cs0.toList = cl at *
  match xs, cl, hn4, len4, hx1, hel, hcell with
  | [y0, y1, y2, y3], [x0, x1, x2, x3], _, _, hx1, hel, hcell =>
    have hx1 := (Prod.mk.inj hx1).1
    obtain ⟨n0, e0, z0, _⟩ := DataW.trod_int Tryd.underlying21 (hel 0 (by decide))
    obtain ⟨n1, e1, z1, _⟩ := DataW.trod_int Tryd.underlying21 (hel 1 (by decide))
    obtain ⟨n2, e2, z2, _⟩ := DataW.trod_int Tryd.underlying21 (hel 2 (by decide))
    obtain ⟨n3, e3, z3, _⟩ := DataW.trod_int Tryd.underlying21 (hel 3 (by decide))
    simp at e0 e1 e2 e3
    subst e0 e1 e2 e3 z0 z1 z2 z3
    simp only [Rows.laid_bodkin_utf_most, List.map_cons, List.map_nil, DataW.agg.injEq, List.cons.injEq, DataW.lit.injEq, Lit.int.injEq, true_and, and_true] at hx1
    obtain ⟨q0, q1, q2, q3⟩ := hx1
    subst q0 q1 q2 q3
    intro g T x hg
    unfold gl at hg
    cases hb : Nat.beq g 0 with
    | false => rw [hb] at hg; cases hg
    | true =>
      rw [hb] at hg
      have := Nat.eq_of_beq_eq_true hb
      subst this
      simp only [cond_true, Option.some.injEq] at hg
      cases hg
      refine ⟨[.int .i32 127, .int .i32 2047, .int .i32 65535, .int .i32 1114111], ⟨[_], _, rfl, rfl, [_], _, rfl, rfl, [_], _, rfl, rfl, [_], _, rfl, rfl, rfl⟩, ?_⟩
      intro j u hu
      rw [hcell_heapOf]
      have := hcell j
      rw [hu] at this
      have ha : (⟨0, 0, none⟩ : Addr).add j = ⟨0, j, none⟩ := by
        rw [add_lit, Nat.zero_add]
      rw [ha]
      exact this
theorem own : ownKnob Tryd.prog.godebug = none := by kernel_rfl
theorem laidOut : laidOutB Tryd.prog = true := by kernel_rfl
abbrev laid1 {H : Type} : List (String × DataW H) := [("bodkin/utf.most", Rows.laid_bodkin_utf_most)]
theorem door_met (os : Os) (args : Array Value) : laidMetH Tryd.prog laid1 ((World.doorLaid Tryd.prog 400 os).forCall (fun _ _ => 0) ⟨#[], args, []⟩).memory :=
  laidMetH_of_parts3 (fuel := 8) (laidMet_of_run' 8 (by kernel_rfl) (by kernel_rfl)) (by kernel_rfl) (by kernel_rfl)
set_option maxRecDepth 100000 in
theorem creaseNilLifted (os : Os) (started : os.Started) (H : Type) (enc : TypeId × Value → H) :
    ReturnsInHanded {} Tryd.checked os 3 .any (fun w args => (Rows.creaseNilSpec.pre enc Tryd.prog Tryd.f3 [] false w args ∧ laidMetH Tryd.prog laid1 w) ∧ sizedMet enc Tryd.prog Tryd.f3 (OpenSpec.ofChange Rows.creaseNilSpec) false w args)
      (Rows.creaseNilSpec.post enc Tryd.prog Tryd.f3 false true false false) :=
  law_lifted_laid (C := Tryd.checked) (tb := 4) (X := fun w => laidMetH Tryd.prog laid1 w) (fun _ _ hh h => h.of_heap hh) own started (by kernel_rfl) Tryd.func3
    (ChangeSpec.witness_shaped (enc := enc) (C := Tryd.checked) (os := os) (X := fun w _ => laidMetH Tryd.prog laid1 w) false (World.doorLaid Tryd.prog 400 os) #[.int .i64 0] 8 rfl (World.shaped_of_RefB (by kernel_rfl) (by kernel_rfl)) (by kernel_rfl) (by kernel_rfl) (by kernel_rfl) (door_met os _))
    (by kernel_rfl) laidOut rfl rfl (fun ds h => by
      match ds, h with
      | [d1], _ => rfl) (fun W h => glob_of h) s3 (fun _ _ => trivial)
theorem creaseNilOver : Rows.CreaseNilSaid :=
  OpenClaim.holds_of_wide 3 Tryd.f3 rfl rfl rfl rfl rfl rfl rfl ⟨rfl, rfl, rfl, rfl, rfl⟩ rfl rfl rfl rfl rfl (by kernel_rfl) Tryd.func3 (by kernel_rfl)
    (of_decide_eq_true (by kernel_rfl)) (by unfold Func.isWrapper; first | (rw [if_pos (by decide +kernel)]; kernel_rfl) | (rw [if_neg (by decide +kernel)]; exact ⟨rfl, rfl⟩))
    (fun os started H enc _ => creaseNilLifted os started H enc)
theorem creaseNilProved : Rows.CreaseNilCardSaid :=
  Claim7.holds_tied_plain_at .later [] [.data] true (true, "ebebee321ddf574bad5e639f530570e9b01ea560c9d91bc298466590ee13bef7") true
    creaseNilOver (fun _ h => by cases h) (by kernel_rfl) (fun _ h => by cases h) creaseNil_row_tie rfl ⟨rfl, rfl⟩ (by kernel_rfl) rfl
    (fun f fn hf hfn => by
      obtain rfl : f = 3 := Option.some.inj ((show Tryd.prog.funcNamed "bodkin/bodkinlaw16.CreaseNil" = some 3 by kernel_rfl).symm.trans hf) |>.symm
      obtain rfl : fn = Tryd.f3 := (Option.some.inj (Tryd.func3.symm.trans hfn)).symm
      exact ⟨by kernel_rfl, fun j t ht => by
        rw [Tryd.params3] at ht
        have hm : t ∈ [3] := by simpa using Array.mem_of_getElem? ht
        have hall : ([3].all fun u => !Tryd.prog.wantsStandIn u) = true := by kernel_rfl
        exact (show Tryd.prog.wantsStandIn t = false by simpa using List.all_eq_true.1 hall t hm)⟩)
    (by kernel_rfl)
#print axioms creaseNilProved
end Go.Proofs.YtckeadbpimhimaaDoor
