/-
  Chapter 10: what is composed keeps what both keep; it is the document's. In plain Lean. Conditions: none.
-/
import Derived.Test.YtefahblfillfeaaC10M
namespace Go.Fr.C10
open Go Go.Fr Go.Proofs

def cut (p q : Seg) : Option Seg :=
  if max p.2.1 q.1 ≥ min (p.2.1 + p.2.2) (q.1 + q.2.2) then none
  else some (p.1 + max p.2.1 q.1 - p.2.1, q.2.1 + max p.2.1 q.1 - q.1, min (p.2.1 + p.2.2) (q.1 + q.2.2) - max p.2.1 q.1)
def comp (ps qs : List Seg) : List Seg := ps.flatMap fun p => qs.filterMap fun q => cut p q
theorem sstep_cut (p q : Seg) (s : List Chg × Int × Int) : sstep p q s = (match cut p q with | none => s | some g => put s g) := by
  unfold sstep cut
  simp only
  by_cases h : max p.2.1 q.1 ≥ min (p.2.1 + p.2.2) (q.1 + q.2.2)
  · rw [if_pos h, if_pos h]
  · rw [if_neg h, if_neg h]
    simp only [put]
    refine Prod.ext rfl (Prod.ext ?_ ?_)
    · simp only; omega
    · simp only; omega
theorem srow_put (p : Seg) : ∀ (qs : List Seg) (s : List Chg × Int × Int), srow p qs s = (qs.filterMap fun q => cut p q).foldl put s
  | [], _ => rfl
  | q :: qs, s => by
    show srow p qs (sstep p q s) = _
    rw [srow_put p qs, sstep_cut, List.filterMap_cons]
    cases cut p q <;> rfl
theorem sall_put (qs : List Seg) : ∀ (ps : List Seg) (s : List Chg × Int × Int), sall ps qs s = (comp ps qs).foldl put s
  | [], _ => rfl
  | p :: ps, s => by
    show sall ps qs (srow p qs s) = _
    rw [sall_put qs ps, srow_put]
    unfold comp
    rw [List.flatMap_cons, List.foldl_append]
theorem cut_some {p q g : Seg} (h : cut p q = some g) : p.1 ≤ g.1 ∧ q.2.1 ≤ g.2.1 ∧ g.1 + g.2.2 ≤ p.1 + p.2.2 ∧ g.2.1 + g.2.2 ≤ q.2.1 + q.2.2 ∧ 1 ≤ g.2.2 ∧
    q.1 ≤ g.1 - p.1 + p.2.1 ∧ g.2.1 = g.1 - p.1 + p.2.1 - q.1 + q.2.1 ∧ (g.1 = p.1 ∨ g.1 = p.1 + q.1 - p.2.1) ∧ (g.2.1 = q.2.1 ∨ g.2.1 = q.2.1 + p.2.1 - q.1) ∧ g.1 - p.1 + p.2.1 + g.2.2 ≤ q.1 + q.2.2 := by
  unfold cut at h
  split at h
  · cases h
  · cases h
    simp only
    omega
theorem comp_mem {ps qs : List Seg} {g : Seg} : g ∈ comp ps qs ↔ ∃ p ∈ ps, ∃ q ∈ qs, cut p q = some g := by
  simp [comp, List.mem_flatMap, List.mem_filterMap]
theorem comp_pw {ps qs : List Seg} (hp : ps.Pairwise Bef) (hq : qs.Pairwise Bef) : (comp ps qs).Pairwise Bef := by
  unfold comp
  rw [List.pairwise_flatMap]
  refine ⟨fun p _ => ?_, ?_⟩
  · rw [List.pairwise_filterMap]
    refine hq.imp fun {q1 q2} h g1 h1 g2 h2 => ?_
    have := cut_some h1
    have := cut_some h2
    unfold Bef at h ⊢
    omega
  · refine hp.imp fun {p1 p2} h g1 h1 g2 h2 => ?_
    obtain ⟨q1, m1, h1⟩ := List.mem_filterMap.1 h1
    obtain ⟨q2, m2, h2⟩ := List.mem_filterMap.1 h2
    have a1 := cut_some h1
    have a2 := cut_some h2
    rcases pw_cases hq m1 m2 with rfl | h3 | h3
    · unfold Bef at h ⊢
      omega
    · unfold Bef at h h3 ⊢
      omega
    · unfold Bef at h h3 ⊢
      omega

def bd (l : List Chg) (B : Int) : Prop := ∀ c ∈ l, c.1.2.1 ≤ B ∧ c.2.1.2.1 ≤ B
theorem lastFrom_mem : ∀ (l : List Chg) (last : Chg), lastFrom last l = last ∨ lastFrom last l ∈ l
  | [], _ => Or.inl rfl
  | c :: r, last => by
    rcases lastFrom_mem r c with h | h
    · exact Or.inr (List.mem_cons.2 (Or.inl h))
    · exact Or.inr (List.mem_cons_of_mem _ h)
theorem bd_last {l : List Chg} {B : Int} (h : bd l B) (hB : 0 ≤ B) : (lastC l).1.2.1 ≤ B ∧ (lastC l).2.1.2.1 ≤ B := by
  rcases lastFrom_mem l zeroC with e | m
  · unfold lastC; rw [e]; exact ⟨hB, hB⟩
  · exact h _ m
theorem segsFrom_bd : ∀ (l : List Chg) (last : Chg) (B : Int), last.1.2.1 ≤ B → last.2.1.2.1 ≤ B → bd l B → ∀ g ∈ segsFrom last l, g.1 ≤ B ∧ g.2.1 ≤ B
  | [], last, B, h1, h2, _, g, hg => by
    have : g = (last.1.2.1, last.2.1.2.1, 2199023255552) := by simpa [segsFrom] using hg
    subst this
    exact ⟨h1, h2⟩
  | c :: r, last, B, h1, h2, hb, g, hg => by
    rcases List.mem_cons.1 hg with rfl | hg
    · exact ⟨h1, h2⟩
    · have := hb c (List.mem_cons_self ..)
      exact segsFrom_bd r c B this.1 this.2 (fun x hx => hb x (List.mem_cons_of_mem _ hx)) g hg
theorem segs_bd {l : List Chg} {B : Int} (h : bd l B) (hB : 0 ≤ B) {g : Seg} (hg : g ∈ segs l) : g.1 ≤ B ∧ g.2.1 ≤ B := segsFrom_bd l zeroC B hB hB h g hg

/-- Where both go, far out. -/
theorem both_far {a b : List Chg} (ha : normal a = true) (hb : normal b = true) {B : Int} (ba : bd a B) (bb : bd b B) (hB : 0 ≤ B) {p : Int} (hp : B + B ≤ p) :
    kept a p = p + ((lastC a).2.1.2.1 - (lastC a).1.2.1) ∧ both a b p = p + ((lastC a).2.1.2.1 - (lastC a).1.2.1) + ((lastC b).2.1.2.1 - (lastC b).1.2.1) ∧ 0 ≤ both a b p ∧ kept a p ≤ p + B ∧ both a b p ≤ p + B + B := by
  have la := bd_last ba hB
  have lb := bd_last bb hB
  have na := last_nonneg ha
  have nb := last_nonneg hb
  have k1 : kept a p = p + ((lastC a).2.1.2.1 - (lastC a).1.2.1) := kept_far ha (by omega)
  have k2 : kept b (kept a p) = kept a p + ((lastC b).2.1.2.1 - (lastC b).1.2.1) := kept_far hb (by omega)
  have k3 : both a b p = kept b (kept a p) := by
    unfold both; rw [if_pos (by omega)]
  refine ⟨k1, by rw [k3, k2, k1], ?_, ?_, ?_⟩ <;> omega
theorem both_sign {a b : List Chg} (ha : normal a = true) (hb : normal b = true) {p : Int} (h0 : 0 ≤ p) : both a b p = -1 ∨ 0 ≤ both a b p := by
  unfold both
  split
  · exact kept_sign hb (by omega)
  · rcases kept_sign ha h0 with h | h <;> omega
theorem comp_both {a b : List Chg} (ha : normal a = true) (hb : normal b = true) {g : Seg} (hg : g ∈ comp (segs a) (segs b)) {p : Int} (hp : inSeg g p) : both a b p = p + (g.2.1 - g.1) := by
  obtain ⟨u, hu, v, hv, hc⟩ := comp_mem.1 hg
  have c := cut_some hc
  unfold inSeg at hp
  have nu := seg_nonneg ha hu
  have k1 : kept a p = p + (u.2.1 - u.1) := seg_kept ha hu (by unfold inSeg; omega)
  have k2 : kept b (kept a p) = kept a p + (v.2.1 - v.1) := seg_kept hb hv (by unfold inSeg; omega)
  unfold both
  rw [if_pos (by omega), k2, k1]
  omega
theorem both_comp {a b : List Chg} (ha : normal a = true) (hb : normal b = true) {p : Int} (h0 : 0 ≤ p) (h1 : p < (lastC a).1.2.1 + 2199023255552) (h2 : kept a p < (lastC b).1.2.1 + 2199023255552) :
    both a b p = -1 ∨ ∃ g ∈ comp (segs a) (segs b), inSeg g p := by
  rcases kept_seg ha h0 h1 with k | ⟨u, hu, iu⟩
  · left; unfold both; rw [if_neg (by omega)]; exact k
  · have nu := seg_nonneg ha hu
    have k1 := seg_kept ha hu iu
    unfold inSeg at iu
    rcases kept_seg hb (p := kept a p) (by omega) h2 with k | ⟨v, hv, iv⟩
    · left; unfold both; rw [if_pos (by omega)]; exact k
    · right
      unfold inSeg at iv
      have e : cut u v = some (u.1 + max u.2.1 v.1 - u.2.1, v.2.1 + max u.2.1 v.1 - v.1, min (u.2.1 + u.2.2) (v.1 + v.2.2) - max u.2.1 v.1) := by
        unfold cut; rw [if_neg (by omega)]
      refine ⟨_, comp_mem.2 ⟨u, hu, v, hv, e⟩, ?_⟩
      unfold inSeg
      simp only
      omega

/-- What is composed is normal, and keeps what both keep. -/
theorem composeL_good {a b : List Chg} (ha : normal a = true) (hb : normal b = true) {B : Int} (ba : bd a B) (bb : bd b B) (hB : 0 ≤ B) (hB1 : B ≤ 1000000) :
    normal (composeL a b) = true ∧ bd (composeL a b) (B + B) ∧ ∀ p, 0 ≤ p → p ≤ 1500000000000 → kept (composeL a b) p = both a b p := by
  have hS : ∀ g ∈ comp (segs a) (segs b), 1 ≤ g.2.2 ∧ 0 ≤ g.1 ∧ 0 ≤ g.2.1 ∧ g.1 ≤ B + B ∧ g.2.1 ≤ B + B := by
    intro g hg
    obtain ⟨u, hu, v, hv, hc⟩ := comp_mem.1 hg
    have c := cut_some hc
    have nu := seg_nonneg ha hu
    have nv := seg_nonneg hb hv
    have bu := segs_bd ba hB hu
    have bv := segs_bd bb hB hv
    omega
  obtain ⟨j1, j2, j3, j4, j5, j6, j7⟩ := fold_put (comp (segs a) (segs b)) ([], 0, 0) pinv_zero (fun g hg => by have := hS g hg; omega) (comp_pw (segs_pw ha) (segs_pw hb)) (fun g hg => by have := hS g hg; simp only; omega)
  have e : composeL a b = ((comp (segs a) (segs b)).foldl put ([], 0, 0)).1 := by unfold composeL; rw [sall_put]
  rw [e]
  refine ⟨j1.1, fun c hc => ?_, fun p h0 h1 => ?_⟩
  · rcases j7 c hc with h | ⟨g, hg, h1, h2⟩
    · cases h
    · have := hS g hg
      omega
  · have na := last_nonneg ha
    have nb := last_nonneg hb
    have far : ∀ q, 0 ≤ q → q ≤ 1500000000000 → both a b q = -1 ∨ ∃ g ∈ comp (segs a) (segs b), inSeg g q := by
      intro q hq hq1
      refine both_comp ha hb hq (by omega) ?_
      have la := bd_last ba hB
      by_cases h : (lastC a).1.2.1 ≤ q
      · rw [kept_far ha h]; omega
      · rcases kept_seg ha hq (by omega) with k | ⟨u, hu, iu⟩
        · omega
        · have := segs_bd ba hB hu
          have := seg_nonneg ha hu
          rw [seg_kept ha hu iu]
          omega
    have top : p < (List.foldl put ([], 0, 0) (comp (segs a) (segs b))).2.1 := by
      rcases far 1500000000000 (by omega) (by omega) with h | ⟨g, hg, ig⟩
      · have := (both_far ha hb ba bb hB (p := 1500000000000) (by omega)).2.2.1
        omega
      · have := j3 g hg
        unfold inSeg at ig
        omega
    rcases far p h0 h1 with h | ⟨g, hg, ig⟩
    · rw [h]
      refine j6 p h0 top fun g hg ig => ?_
      have h2 := comp_both ha hb hg ig
      have := hS g hg
      unfold inSeg at ig
      omega
    · rw [j5 g hg p ig, comp_both ha hb hg ig]
theorem srow_len (p : Seg) : ∀ (qs : List Seg) (s : List Chg × Int × Int), (srow p qs s).1.length ≤ s.1.length + qs.length
  | [], _ => Nat.le_refl _
  | q :: qs, s => by
    have h : (sstep p q s).1.length ≤ s.1.length + 1 := by
      unfold sstep
      simp only
      split
      · omega
      · simp only
        split
        · simp
        · omega
    have ih := srow_len p qs (sstep p q s)
    show (srow p qs (sstep p q s)).1.length ≤ _
    simp only [List.length_cons]
    omega
theorem sall_len (qs : List Seg) : ∀ (ps : List Seg) (s : List Chg × Int × Int), (sall ps qs s).1.length ≤ s.1.length + ps.length * qs.length
  | [], _ => by simp [sall]
  | p :: ps, s => by
    have h1 := srow_len p qs s
    have h2 := sall_len qs ps (srow p qs s)
    show (sall ps qs (srow p qs s)).1.length ≤ _
    rw [List.length_cons, Nat.succ_mul]
    omega
theorem segsFrom_len : ∀ (l : List Chg) (last : Chg), (segsFrom last l).length = l.length + 1
  | [], _ => rfl
  | c :: r, _ => by simp [segsFrom, segsFrom_len r c]
theorem composeL_len (a b : List Chg) : (composeL a b).length ≤ (a.length + 1) * (b.length + 1) := by
  have := sall_len (segs b) (segs a) ([], 0, 0)
  unfold segs at this
  rw [segsFrom_len, segsFrom_len] at this
  simpa [composeL, segs] using this

/-! ### What is kept says which patch it is -/
theorem kept_end {c : Chg} {r : List Chg} (h : normFrom c false r = true) (s : Int) : keptFrom c.1.2.1 r s = c.1.2.1 + s := by
  cases r with
  | nil => rfl
  | cons d r =>
    have ok := ok_bounds (normFrom_cons.1 h).1
    rw [keptFrom, if_pos (by simp only [Bool.false_eq_true, false_or] at ok; omega)]
theorem kept_unique : ∀ (l l' : List Chg) (last : Chg) (f : Bool), 0 ≤ last.1.2.1 → 0 ≤ last.2.1.2.1 → normFrom last f l = true → normFrom last f l' = true → bd l 100000000 → bd l' 100000000 →
    (∀ p, last.1.2.1 ≤ p → p ≤ 100000000 → keptFrom p l (last.2.1.2.1 - last.1.2.1) = keptFrom p l' (last.2.1.2.1 - last.1.2.1)) → l = l'
  | [], [], _, _, _, _, _, _, _, _, _ => rfl
  | [], c :: r, last, f, l0, l1, _, h, _, hb, hk => by
    have h := normFrom_cons.1 h
    have ok := ok_bounds h.1
    have b := hb c (List.mem_cons_self ..)
    have k := hk c.1.1 (by omega) (by omega)
    exfalso
    rw [keptFrom, keptFrom, if_neg (by omega)] at k
    by_cases e : c.1.1 = c.1.2.1
    · rw [if_neg (by omega), e, kept_end h.2] at k
      omega
    · rw [if_pos (by omega)] at k
      omega
  | c :: r, [], last, f, l0, l1, h, _, hb, _, hk => by
    have h := normFrom_cons.1 h
    have ok := ok_bounds h.1
    have b := hb c (List.mem_cons_self ..)
    have k := hk c.1.1 (by omega) (by omega)
    exfalso
    rw [keptFrom, keptFrom, if_neg (by omega)] at k
    by_cases e : c.1.1 = c.1.2.1
    · rw [if_neg (by omega), e, kept_end h.2] at k
      omega
    · rw [if_pos (by omega)] at k
      omega
  | c :: r, d :: t, last, f, l0, l1, h, h', hb, hb', hk => by
    have h := normFrom_cons.1 h
    have h' := normFrom_cons.1 h'
    have ok := ok_bounds h.1
    have ok' := ok_bounds h'.1
    have b := hb c (List.mem_cons_self ..)
    have b' := hb' d (List.mem_cons_self ..)
    have e1 : c.1.1 = d.1.1 := by
      rcases Int.lt_trichotomy c.1.1 d.1.1 with g | g | g
      · have k := hk c.1.1 (by omega) (by omega)
        rw [keptFrom, if_neg (by omega), keptFrom, if_pos g] at k
        by_cases e : c.1.1 = c.1.2.1
        · rw [if_neg (by omega), e, kept_end h.2] at k
          omega
        · rw [if_pos (by omega)] at k
          omega
      · exact g
      · have k := hk d.1.1 (by omega) (by omega)
        rw [keptFrom, if_pos g, keptFrom, if_neg (by omega)] at k
        by_cases e : d.1.1 = d.1.2.1
        · rw [if_neg (by omega), e, kept_end h'.2] at k
          omega
        · rw [if_pos (by omega)] at k
          omega
    have e2 : c.1.2.1 = d.1.2.1 := by
      rcases Int.lt_trichotomy c.1.2.1 d.1.2.1 with g | g | g
      · have k := hk c.1.2.1 (by omega) (by omega)
        rw [keptFrom, if_neg (by omega), if_neg (by omega), kept_end h.2, keptFrom, if_neg (by omega), if_pos g] at k
        omega
      · exact g
      · have k := hk d.1.2.1 (by omega) (by omega)
        rw [keptFrom, if_neg (by omega), if_pos g, keptFrom, if_neg (by omega), if_neg (by omega), kept_end h'.2] at k
        omega
    have e3 : c.2.1.2.1 = d.2.1.2.1 := by
      have k := hk c.1.2.1 (by omega) (by omega)
      rw [keptFrom, if_neg (by omega), if_neg (by omega), kept_end h.2, keptFrom, if_neg (by omega), if_neg (by omega), e2, kept_end h'.2] at k
      omega
    have ec : c = d := by
      obtain ⟨⟨c1, c2, ⟨⟩⟩, ⟨c3, c4, ⟨⟩⟩, ⟨⟩⟩ := c
      obtain ⟨⟨d1, d2, ⟨⟩⟩, ⟨d3, d4, ⟨⟩⟩, ⟨⟩⟩ := d
      simp only at e1 e2 e3 ok ok'
      have e4 : c3 = d3 := by omega
      rw [e1, e2, e3, e4]
    subst ec
    refine congrArg _ (kept_unique r t c false (by omega) (by omega) h.2 h'.2 (fun x hx => hb x (List.mem_cons_of_mem _ hx)) (fun x hx => hb' x (List.mem_cons_of_mem _ hx)) fun p h0 h1 => ?_)
    have k := hk p (by omega) h1
    rw [keptFrom, if_neg (by omega), if_neg (by omega), keptFrom, if_neg (by omega), if_neg (by omega)] at k
    exact k
theorem unique {l l' : List Chg} (h : normal l = true) (h' : normal l' = true) (b : bd l 100000000) (b' : bd l' 100000000) (hk : ∀ p, 0 ≤ p → p ≤ 100000000 → kept l p = kept l' p) : l = l' :=
  kept_unique l l' zeroC true (Int.le_refl _) (Int.le_refl _) h h' b b' hk
end Go.Fr.C10
