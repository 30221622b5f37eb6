/-
  Chapter 10: the document's composing place by place, sums, turning about: in plain Lean. Conditions: none.
-/
import Derived.Test.YtefahblfillfeaaC10N
namespace Go.Fr.C10
open Go Go.Fr Go.Proofs

theorem endOf_eq (l : List Chg) : endOf l = (lastC l).1.2.1 := by
  rcases List.eq_nil_or_concat l with rfl | ⟨r, c, rfl⟩
  · rfl
  · unfold endOf lastC
    rw [List.concat_eq_append, lastFrom_snoc]
    simp
theorem both_tail {a b : List Chg} (ha : normal a = true) (hb : normal b = true) {p : Int} (hp : (lastC a).1.2.1 + (lastC b).1.2.1 ≤ p) :
    both a b p = p + ((lastC a).2.1.2.1 - (lastC a).1.2.1) + ((lastC b).2.1.2.1 - (lastC b).1.2.1) ∧ 0 ≤ both a b p := by
  have na := last_nonneg ha
  have nb := last_nonneg hb
  have k1 : kept a p = p + ((lastC a).2.1.2.1 - (lastC a).1.2.1) := kept_far ha (by omega)
  have k2 : kept b (kept a p) = kept a p + ((lastC b).2.1.2.1 - (lastC b).1.2.1) := kept_far hb (by omega)
  have k3 : both a b p = kept b (kept a p) := by
    unfold both; rw [if_pos (by omega)]
  rw [k3, k2, k1]
  omega
theorem kept_mono {l : List Chg} (h : normal l = true) {p q : Int} (h0 : 0 ≤ p) (hpq : p < q) (hq : q < (lastC l).1.2.1 + 2199023255552) (kp : 0 ≤ kept l p) (kq : 0 ≤ kept l q) : kept l p < kept l q := by
  rcases kept_seg h h0 (by omega) with e | ⟨u, hu, iu⟩
  · omega
  rcases kept_seg h (p := q) (by omega) hq with e | ⟨v, hv, iv⟩
  · omega
  rw [seg_kept h hu iu, seg_kept h hv iv]
  unfold inSeg at iu iv
  rcases pw_cases (segs_pw h) hu hv with rfl | g | g <;> first | omega | (unfold Bef at g; omega)
theorem kept_le {l : List Chg} (h : normal l = true) {B : Int} (bl : bd l B) (hB : 0 ≤ B) {p : Int} (h0 : 0 ≤ p) (hq : p < (lastC l).1.2.1 + 2199023255552) : kept l p ≤ p + B := by
  rcases kept_seg h h0 hq with e | ⟨u, hu, iu⟩
  · omega
  · rw [seg_kept h hu iu]
    have := segs_bd bl hB hu
    have := seg_nonneg h hu
    omega
theorem both_mono {a b : List Chg} (ha : normal a = true) (hb : normal b = true) {B : Int} (ba : bd a B) (hB : 0 ≤ B) (hB1 : B ≤ 1000000) {p q : Int} (h0 : 0 ≤ p) (hpq : p < q) (hq : q ≤ 1000000000) (kp : 0 ≤ both a b p) (kq : 0 ≤ both a b q) : both a b p < both a b q := by
  have na := last_nonneg ha
  have nb := last_nonneg hb
  have g : ∀ r, 0 ≤ both a b r → 0 ≤ kept a r ∧ both a b r = kept b (kept a r) := by
    intro r hr
    unfold both at hr ⊢
    split at hr
    · rename_i h; rw [if_pos h]; exact ⟨h, rfl⟩
    · omega
  obtain ⟨p1, p2⟩ := g p kp
  obtain ⟨q1, q2⟩ := g q kq
  rw [p2, q2]
  rw [p2] at kp
  rw [q2] at kq
  have := kept_le ha ba hB (p := q) (by omega) (by omega)
  exact kept_mono hb p1 (kept_mono ha h0 hpq (by omega) p1 q1) (by omega) kp kq

def one (K : Int → Int) (p : Nat) : Option Seg := if K p < 0 then none else some ((p : Int), K p, 1)
theorem cfold_put (K : Int → Int) : ∀ (l : List Nat) (s : List Chg × Int × Int), l.foldl (cstep K) s = (l.filterMap (one K)).foldl put s
  | [], _ => rfl
  | p :: l, s => by
    show l.foldl (cstep K) (cstep K s p) = _
    rw [cfold_put K l, List.filterMap_cons]
    unfold cstep one
    by_cases h : K p < 0
    · rw [if_pos h, if_pos h]
    · rw [if_neg h, if_neg h]
      rfl
theorem refCompose_good {a b : List Chg} (ha : normal a = true) (hb : normal b = true) {B : Int} (ba : bd a B) (bb : bd b B) (hB : 0 ≤ B) (hB1 : B ≤ 1000000) :
    normal (refCompose a b) = true ∧ bd (refCompose a b) 100000000 ∧ ∀ p, 0 ≤ p → p ≤ 100000000 → kept (refCompose a b) p = both a b p := by
  have na := last_nonneg ha
  have nb := last_nonneg hb
  have la := bd_last ba hB
  have lb := bd_last bb hB
  have hn : ∃ n : Nat, (endOf a + endOf b + 2).toNat = n ∧ (n : Int) = (lastC a).1.2.1 + (lastC b).1.2.1 + 2 := by
    refine ⟨_, rfl, ?_⟩
    rw [endOf_eq, endOf_eq]; omega
  obtain ⟨n, hn1, hn2⟩ := hn
  have e : refCompose a b = (((List.range n).filterMap (one (both a b))).foldl put ([], 0, 0)).1 := by
    unfold refCompose cplaces
    rw [hn1, cfold_put]
  have mem : ∀ g, g ∈ (List.range n).filterMap (one (both a b)) → ∃ p : Nat, p < n ∧ 0 ≤ both a b p ∧ g = ((p : Int), both a b p, 1) := by
    intro g hg
    obtain ⟨p, hp, h⟩ := List.mem_filterMap.1 hg
    unfold one at h
    split at h
    · cases h
    · exact ⟨p, List.mem_range.1 hp, by omega, by cases h; rfl⟩
  have mem' : ∀ p : Nat, p < n → 0 ≤ both a b p → ((p : Int), both a b p, (1 : Int)) ∈ (List.range n).filterMap (one (both a b)) := by
    intro p hp h
    refine List.mem_filterMap.2 ⟨p, List.mem_range.2 hp, ?_⟩
    unfold one
    rw [if_neg (by omega)]
  have up : ∀ p : Nat, p < n → both a b p ≤ 10000000 := by
    intro p hp
    have h1 := kept_le ha ba hB (p := p) (by omega) (by omega)
    unfold both
    split
    · have h2 := kept_le hb bb hB (p := kept a p) (by omega) (by omega)
      omega
    · omega
  obtain ⟨j1, j2, j3, j4, j5, j6, j7⟩ := fold_put ((List.range n).filterMap (one (both a b))) ([], 0, 0) pinv_zero (fun g hg => by
      obtain ⟨p, hp, h, rfl⟩ := mem g hg
      have := up p hp
      simp only; omega) (by
      rw [List.pairwise_filterMap]
      refine (List.pairwise_lt_range).imp_of_mem fun {p q} hp hq h g1 h1 g2 h2 => ?_
      have mp := List.mem_range.1 hp
      have mq := List.mem_range.1 hq
      unfold one at h1 h2
      split at h1
      · cases h1
      split at h2
      · cases h2
      cases h1
      cases h2
      have := both_mono ha hb ba hB hB1 (p := p) (q := q) (by omega) (by omega) (by omega) (by omega) (by omega)
      unfold Bef
      simp only
      omega) (fun g hg => by
      obtain ⟨p, hp, h, rfl⟩ := mem g hg
      simp only; omega)
  rw [e]
  generalize hr : ((List.range n).filterMap (one (both a b))).foldl put ([], 0, 0) = r at *
  have hbd : bd r.1 100000000 := fun c hc => by
    rcases j7 c hc with h | ⟨g, hg, h1, h2⟩
    · cases h
    · obtain ⟨p, hp, h, rfl⟩ := mem g hg
      have := up p hp
      simp only at h1 h2
      omega
  refine ⟨j1.1, hbd, fun p h0 h1 => ?_⟩
  have tl : (lastC r.1).1.2.1 ≤ (n : Int) - 1 := by
    rcases lastFrom_mem r.1 zeroC with h | h
    · unfold lastC; rw [h]; show (0 : Int) ≤ _; omega
    · rcases j7 _ h with h | ⟨g, hg, h1, h2⟩
      · cases h
      · obtain ⟨p, hp, h, rfl⟩ := mem g hg
        simp only at h1
        unfold lastC
        omega
  have bn := both_tail ha hb (p := (n : Int) - 1) (by omega)
  have hlast := mem' (n - 1) (by omega) (by
    have : ((n - 1 : Nat) : Int) = (n : Int) - 1 := by omega
    rw [this]; exact bn.2)
  have cast : ((n - 1 : Nat) : Int) = (n : Int) - 1 := by omega
  rw [cast] at hlast
  have k5 := j5 _ hlast ((n : Int) - 1) (by unfold inSeg; simp only; omega)
  have k3 := j3 _ hlast
  simp only at k5 k3
  rw [kept_far j1.1 tl] at k5
  by_cases hp : (n : Int) - 1 ≤ p
  · rw [kept_far j1.1 (by omega), (both_tail ha hb (p := p) (by omega)).1]
    have := bn.1
    omega
  · obtain ⟨q, rfl⟩ : ∃ q : Nat, p = q := ⟨p.toNat, by omega⟩
    rcases both_sign ha hb h0 with h | h
    · rw [h]
      refine j6 q h0 (by omega) fun g hg ig => ?_
      obtain ⟨p', hp', h', rfl⟩ := mem g hg
      unfold inSeg at ig
      simp only at ig
      have : p' = q := by omega
      subst this
      omega
    · rw [j5 _ (mem' q (by omega) h) q (by unfold inSeg; simp only; omega)]
      simp only
      omega
theorem compose_ref {a b : List Chg} (ha : normal a = true) (hb : normal b = true) {B : Int} (ba : bd a B) (bb : bd b B) (hB : 0 ≤ B) (hB1 : B ≤ 1000000) : composeL a b = refCompose a b := by
  obtain ⟨c1, c2, c3⟩ := composeL_good ha hb ba bb hB hB1
  obtain ⟨d1, d2, d3⟩ := refCompose_good ha hb ba bb hB hB1
  refine unique c1 d1 (fun c hc => by have := c2 c hc; omega) d2 fun p h0 h1 => ?_
  rw [c3 p h0 (by omega), d3 p h0 h1]

/-! ### By how much it grows -/
theorem delta_from : ∀ (l : List Chg) (last : Chg) (f : Bool), normFrom last f l = true → 0 ≤ last.1.2.1 → last.1.2.1 ≤ 1099511627776 → 0 ≤ last.2.1.2.1 → last.2.1.2.1 ≤ 1099511627776 →
    l.foldl (fun n c => w64 (n + w64 (size c.2.1 - size c.1))) (last.2.1.2.1 - last.1.2.1) = (lastFrom last l).2.1.2.1 - (lastFrom last l).1.2.1
  | [], _, _, _, _, _, _, _ => rfl
  | c :: r, last, f, h, a1, a2, a3, a4 => by
    have h := normFrom_cons.1 h
    have ok := ok_bounds h.1
    show r.foldl _ (w64 (last.2.1.2.1 - last.1.2.1 + w64 (size c.2.1 - size c.1))) = (lastFrom c r).2.1.2.1 - (lastFrom c r).1.2.1
    have e : w64 (last.2.1.2.1 - last.1.2.1 + w64 (size c.2.1 - size c.1)) = c.2.1.2.1 - c.1.2.1 := by
      unfold size w64
      simp only [wrap_eq]
      omega
    rw [e]
    exact delta_from r c false h.2 (by omega) (by omega) (by omega) (by omega)
theorem delta_last {l : List Chg} (h : normal l = true) : delta l = (lastC l).2.1.2.1 - (lastC l).1.2.1 := delta_from l zeroC true h (by decide) (by decide) (by decide) (by decide)
theorem delta_compose {a b : List Chg} (ha : normal a = true) (hb : normal b = true) {B : Int} (ba : bd a B) (bb : bd b B) (hB : 0 ≤ B) (hB1 : B ≤ 1000000) : delta (composeL a b) = delta a + delta b := by
  obtain ⟨c1, c2, c3⟩ := composeL_good ha hb ba bb hB hB1
  have lc := bd_last c2 (by omega)
  have k := c3 100000000 (by omega) (by omega)
  have f := both_far ha hb ba bb hB (p := 100000000) (by omega)
  rw [kept_far c1 (by omega), f.2.1] at k
  rw [delta_last c1, delta_last ha, delta_last hb]
  omega

/-! ### Turned about -/
def inv (c : Chg) : Chg := (c.2.1, c.1, ())
theorem invert_eq (l : List Chg) : invert l = l.map inv := rfl
theorem norm_inv : ∀ (l : List Chg) (last : Chg) (f : Bool), normFrom last f l = true → normFrom (inv last) f (l.map inv) = true
  | [], _, _, _ => rfl
  | c :: r, last, f, h => by
    have h := normFrom_cons.1 h
    have ok := ok_bounds h.1
    refine normFrom_cons.2 ⟨okStep_iff.2 ?_, norm_inv r c false h.2⟩
    simp only [inv]
    refine ⟨by omega, by omega, by omega, by omega, by omega, ?_⟩
    rcases ok.2.2.2.2.2 with g | g
    · exact Or.inl g
    · exact Or.inr (by omega)
theorem normal_inv {l : List Chg} (h : normal l = true) : normal (invert l) = true := norm_inv l zeroC true h
theorem kept_low {p : Int} : ∀ {l : List Chg} {last : Chg} {f : Bool}, normFrom last f l = true → last.1.2.1 ≤ p →
    keptFrom p l (last.2.1.2.1 - last.1.2.1) = -1 ∨ last.2.1.2.1 ≤ keptFrom p l (last.2.1.2.1 - last.1.2.1)
  | [], last, _, _, hp => by right; simp only [keptFrom]; omega
  | c :: r, last, f, h, hp => by
    have h := normFrom_cons.1 h
    have ok := ok_bounds h.1
    rw [keptFrom]
    by_cases h1 : p < c.1.1
    · rw [if_pos h1]; omega
    · rw [if_neg h1]
      by_cases h2 : p < c.1.2.1
      · rw [if_pos h2]; exact Or.inl rfl
      · rw [if_neg h2]
        have := kept_low h.2 (p := p) (by omega)
        omega
theorem kept_inv {p : Int} : ∀ {l : List Chg} {last : Chg} {f : Bool}, normFrom last f l = true → last.1.2.1 ≤ p → 0 ≤ last.2.1.2.1 → 0 ≤ keptFrom p l (last.2.1.2.1 - last.1.2.1) →
    keptFrom (keptFrom p l (last.2.1.2.1 - last.1.2.1)) (l.map inv) (last.1.2.1 - last.2.1.2.1) = p
  | [], last, _, _, hp, _, _ => by simp only [keptFrom, List.map_nil]; omega
  | c :: r, last, f, h, hp, h0, hk => by
    have h := normFrom_cons.1 h
    have ok := ok_bounds h.1
    rw [keptFrom] at hk ⊢
    have e : ∀ (q s : Int) (t : List Chg), keptFrom q (inv c :: t) s = if q < c.2.1.1 then q + s else if q < c.2.1.2.1 then -1 else keptFrom q t (c.1.2.1 - c.2.1.2.1) := fun _ _ _ => rfl
    rw [List.map_cons, e]
    by_cases h1 : p < c.1.1
    · rw [if_pos h1, if_pos (by omega)]
      omega
    · rw [if_neg h1] at hk ⊢
      by_cases h2 : p < c.1.2.1
      · rw [if_pos h2] at hk; omega
      · rw [if_neg h2] at hk ⊢
        have low := kept_low h.2 (p := p) (by omega)
        rw [if_neg (by omega), if_neg (by omega)]
        exact kept_inv h.2 (by omega) (by omega) hk
theorem kept_invert {l : List Chg} (h : normal l = true) {p : Int} (hp : 0 ≤ p) (hk : 0 ≤ kept l p) : kept (invert l) (kept l p) = p := kept_inv (last := zeroC) h hp (Int.le_refl _) hk
theorem bd_inv {l : List Chg} {B : Int} (h : bd l B) : bd (invert l) B := by
  intro c hc
  rw [invert_eq] at hc
  obtain ⟨d, hd, rfl⟩ := List.mem_map.1 hc
  have := h d hd
  exact ⟨this.2, this.1⟩
theorem inv_inv (l : List Chg) : invert (invert l) = l := by
  rw [invert_eq, invert_eq, List.map_map]
  have : inv ∘ inv = id := rfl
  rw [this, List.map_id]
theorem last_inv : ∀ (l : List Chg) (last : Chg), lastFrom (inv last) (l.map inv) = inv (lastFrom last l)
  | [], _ => rfl
  | c :: r, _ => last_inv r c
theorem delta_inv {l : List Chg} (h : normal l = true) : delta (invert l) = -delta l := by
  rw [delta_last (normal_inv h), delta_last h]
  have : lastC (invert l) = inv (lastC l) := last_inv l zeroC
  rw [this]
  simp only [inv]
  omega

/-! ### What the laws ask -/
theorem small_iff {l : List Chg} : small l = true ↔ l.length ≤ 60 ∧ normal l = true ∧ bd l 2000 := by
  unfold small bd
  simp only [Bool.and_eq_true, decide_eq_true_eq, List.all_eq_true, and_assoc]
theorem compose_ok {a b : List Chg} (ha : normal a = true) (hb : normal b = true) {B : Int} (ba : bd a B) (bb : bd b B) (hB : 0 ≤ B) (hB1 : B ≤ 1000000) : compose a b = (composeL a b, 0, ()) := by
  unfold compose
  rw [if_neg (by simp [ha, hb]), if_pos (composeL_good ha hb ba bb hB hB1).1]
theorem bd_mono {l : List Chg} {B C : Int} (h : bd l B) (hc : B ≤ C) : bd l C := fun c m => by have := h c m; omega
theorem assoc {a b c : List Chg} (ha : normal a = true) (hb : normal b = true) (hc : normal c = true) (ba : bd a 2000) (bb : bd b 2000) (bc : bd c 2000) :
    composeL (composeL a b) c = composeL a (composeL b c) := by
  obtain ⟨x1, x2, x3⟩ := composeL_good ha hb ba bb (by omega) (by omega)
  obtain ⟨y1, y2, y3⟩ := composeL_good hb hc bb bc (by omega) (by omega)
  obtain ⟨z1, z2, z3⟩ := composeL_good x1 hc x2 (bd_mono bc (by omega)) (by omega) (by omega)
  obtain ⟨w1, w2, w3⟩ := composeL_good ha y1 (bd_mono ba (by omega)) y2 (by omega) (by omega)
  refine unique z1 w1 (bd_mono z2 (by omega)) (bd_mono w2 (by omega)) fun p h0 h1 => ?_
  have na := last_nonneg ha
  rw [z3 p h0 (by omega), w3 p h0 (by omega)]
  have k := kept_le ha ba (by omega) h0 (by omega)
  have s := kept_sign ha h0
  unfold both
  rw [x3 p h0 (by omega)]
  by_cases h : kept a p ≥ 0
  · rw [if_pos h, y3 _ h (by omega)]
    unfold both
    rw [if_pos h]
  · unfold both
    rw [if_neg h, if_neg h, if_neg h]
end Go.Fr.C10
