/-
  Chapter 10: what patches keep, in plain Lean. Conditions: none.
-/
import Derived.Test.YtefahblfillfeaaC10P
namespace Go.Fr.C10
open Go Go.Fr Go.Proofs

def lastFrom : Chg → List Chg → Chg
  | last, [] => last
  | _, c :: r => lastFrom c r
def lastC (l : List Chg) : Chg := lastFrom zeroC l
theorem lastFrom_snoc (c : Chg) : ∀ (l : List Chg) (last : Chg), lastFrom last (l ++ [c]) = c
  | [], _ => rfl
  | d :: r, _ => lastFrom_snoc c r d
theorem normFrom_snoc {c : Chg} : ∀ {l : List Chg} {last : Chg} {f : Bool}, normFrom last f (l ++ [c]) = true ↔ normFrom last f l = true ∧ okStep (lastFrom last l) c (f && l.isEmpty) = true
  | [], last, f => by
    show normFrom last f [c] = true ↔ _
    rw [normFrom_cons]
    simp [normFrom, lastFrom]
  | d :: r, last, f => by
    show normFrom last f (d :: (r ++ [c])) = true ↔ _
    rw [normFrom_cons, normFrom_snoc, normFrom_cons]
    simp [lastFrom, and_assoc]
theorem ok_bounds {last c : Chg} {f : Bool} (h : okStep last c f = true) : (0 ≤ c.1.1 ∧ c.1.1 ≤ c.1.2.1 ∧ c.1.2.1 ≤ 1099511627776) ∧ (0 ≤ c.2.1.1 ∧ c.2.1.1 ≤ c.2.1.2.1 ∧ c.2.1.2.1 ≤ 1099511627776) ∧
    ¬ (c.1.1 = c.1.2.1 ∧ c.2.1.1 = c.2.1.2.1) ∧ c.1.1 - last.1.2.1 = c.2.1.1 - last.2.1.2.1 ∧ last.1.2.1 ≤ c.1.1 ∧ (f = true ∨ c.1.1 ≠ last.1.2.1) := okStep_iff.1 h
/-- In what follows a change never stands before the one before it. -/
theorem last_le : ∀ {l : List Chg} {last : Chg} {f : Bool}, normFrom last f l = true → last.1.2.1 ≤ (lastFrom last l).1.2.1 ∧ last.2.1.2.1 ≤ (lastFrom last l).2.1.2.1
  | [], _, _, _ => ⟨Int.le_refl _, Int.le_refl _⟩
  | c :: r, last, f, h => by
    have h := normFrom_cons.1 h
    have ok := ok_bounds h.1
    have ih := last_le h.2
    show last.1.2.1 ≤ (lastFrom c r).1.2.1 ∧ last.2.1.2.1 ≤ (lastFrom c r).2.1.2.1
    omega
theorem kept_snoc {c : Chg} {p : Int} : ∀ {l : List Chg} {last : Chg} {f : Bool} (s : Int), normFrom last f (l ++ [c]) = true →
    keptFrom p (l ++ [c]) s = if p < c.1.1 then keptFrom p l s else if p < c.1.2.1 then -1 else p + (c.2.1.2.1 - c.1.2.1)
  | [], _, _, _, _ => rfl
  | d :: r, last, f, s, h => by
    have h := normFrom_cons.1 h
    have ok := ok_bounds h.1
    have hs := normFrom_snoc.1 h.2
    have ok2 := ok_bounds hs.2
    have hl := last_le hs.1
    show (if p < d.1.1 then p + s else if p < d.1.2.1 then -1 else keptFrom p (r ++ [c]) (d.2.1.2.1 - d.1.2.1)) = if p < c.1.1 then (if p < d.1.1 then p + s else if p < d.1.2.1 then -1 else keptFrom p r (d.2.1.2.1 - d.1.2.1)) else if p < c.1.2.1 then -1 else p + (c.2.1.2.1 - c.1.2.1)
    rw [kept_snoc (d.2.1.2.1 - d.1.2.1) h.2]
    by_cases h1 : p < d.1.1
    · rw [if_pos h1, if_pos h1, if_pos (by omega)]
    · rw [if_neg h1, if_neg h1]
      by_cases h2 : p < d.1.2.1
      · rw [if_pos h2, if_pos h2, if_pos (by omega)]
      · rw [if_neg h2, if_neg h2]
theorem kept_tail {p : Int} : ∀ {l : List Chg} {last : Chg} {f : Bool}, normFrom last f l = true → (lastFrom last l).1.2.1 ≤ p →
    keptFrom p l (last.2.1.2.1 - last.1.2.1) = p + ((lastFrom last l).2.1.2.1 - (lastFrom last l).1.2.1)
  | [], _, _, _, _ => rfl
  | d :: r, last, f, h, hp => by
    have h := normFrom_cons.1 h
    have ok := ok_bounds h.1
    have hl := last_le h.2
    replace hp : (lastFrom d r).1.2.1 ≤ p := hp
    show (if p < d.1.1 then _ else if p < d.1.2.1 then -1 else keptFrom p r (d.2.1.2.1 - d.1.2.1)) = p + ((lastFrom d r).2.1.2.1 - (lastFrom d r).1.2.1)
    rw [if_neg (by omega), if_neg (by omega)]
    exact kept_tail h.2 hp
theorem kept_far {l : List Chg} (h : normal l = true) {p : Int} (hp : (lastC l).1.2.1 ≤ p) : kept l p = p + ((lastC l).2.1.2.1 - (lastC l).1.2.1) := kept_tail h hp

/-! ### Pieces -/
abbrev Seg := Int × Int × Int
def inSeg (g : Seg) (p : Int) : Prop := g.1 ≤ p ∧ p < g.1 + g.2.2
def Bef (g h : Seg) : Prop := g.1 + g.2.2 ≤ h.1 ∧ g.2.1 + g.2.2 ≤ h.2.1
theorem pw_cases {α : Type} {R : α → α → Prop} : ∀ {l : List α}, l.Pairwise R → ∀ {a b : α}, a ∈ l → b ∈ l → a = b ∨ R a b ∨ R b a
  | [], _, _, _, h, _ => by cases h
  | c :: r, hp, a, b, ha, hb => by
    rw [List.pairwise_cons] at hp
    rcases List.mem_cons.1 ha with ea | ha'
    · rcases List.mem_cons.1 hb with eb | hb'
      · exact Or.inl (ea.trans eb.symm)
      · exact Or.inr (Or.inl (ea ▸ hp.1 _ hb'))
    · rcases List.mem_cons.1 hb with eb | hb'
      · exact Or.inr (Or.inr (eb ▸ hp.1 _ ha'))
      · exact pw_cases hp.2 ha' hb'
theorem segs_low : ∀ {l : List Chg} {last : Chg} {f : Bool}, normFrom last f l = true → ∀ g ∈ segsFrom last l, last.1.2.1 ≤ g.1 ∧ last.2.1.2.1 ≤ g.2.1 ∧ 0 ≤ g.2.2
  | [], last, _, _, g, hg => by
    have : g = (last.1.2.1, last.2.1.2.1, 2199023255552) := by simpa [segsFrom] using hg
    subst this
    exact ⟨Int.le_refl _, Int.le_refl _, (by decide : (0 : Int) ≤ 2199023255552)⟩
  | c :: r, last, f, h, g, hg => by
    have h := normFrom_cons.1 h
    have ok := ok_bounds h.1
    rcases List.mem_cons.1 hg with rfl | hg
    · exact ⟨Int.le_refl _, Int.le_refl _, by simp only; omega⟩
    · have := segs_low h.2 g hg
      omega
theorem segs_pw : ∀ {l : List Chg} {last : Chg} {f : Bool}, normFrom last f l = true → (segsFrom last l).Pairwise Bef
  | [], _, _, _ => by simp [segsFrom]
  | c :: r, last, f, h => by
    have h := normFrom_cons.1 h
    have ok := ok_bounds h.1
    show List.Pairwise Bef (_ :: segsFrom c r)
    rw [List.pairwise_cons]
    refine ⟨fun g hg => ?_, segs_pw h.2⟩
    have := segs_low h.2 g hg
    simp only [Bef]
    omega
theorem segs_kept : ∀ {l : List Chg} {last : Chg} {f : Bool}, normFrom last f l = true → ∀ g ∈ segsFrom last l, ∀ p, inSeg g p → keptFrom p l (last.2.1.2.1 - last.1.2.1) = p + (g.2.1 - g.1)
  | [], last, _, _, g, hg, p, _ => by
    have : g = (last.1.2.1, last.2.1.2.1, 2199023255552) := by simpa [segsFrom] using hg
    subst this
    rfl
  | c :: r, last, f, h, g, hg, p, hp => by
    have h := normFrom_cons.1 h
    have ok := ok_bounds h.1
    unfold inSeg at hp
    show (if p < c.1.1 then _ else if p < c.1.2.1 then -1 else keptFrom p r (c.2.1.2.1 - c.1.2.1)) = _
    rcases List.mem_cons.1 hg with rfl | hg
    · simp only at hp ⊢
      rw [if_pos (by omega)]
    · have := segs_low h.2 g hg
      rw [if_neg (by omega), if_neg (by omega)]
      exact segs_kept h.2 g hg p hp
theorem kept_segs : ∀ {l : List Chg} {last : Chg} {f : Bool}, normFrom last f l = true → ∀ p, last.1.2.1 ≤ p → p < (lastFrom last l).1.2.1 + 2199023255552 → keptFrom p l (last.2.1.2.1 - last.1.2.1) = -1 ∨ ∃ g ∈ segsFrom last l, inSeg g p
  | [], last, _, _, p, h0, h1 => Or.inr ⟨_, List.mem_cons_self .., h0, h1⟩
  | c :: r, last, f, h, p, h0, h1 => by
    have h := normFrom_cons.1 h
    have ok := ok_bounds h.1
    show (if p < c.1.1 then _ else if p < c.1.2.1 then -1 else keptFrom p r (c.2.1.2.1 - c.1.2.1)) = -1 ∨ _
    by_cases g1 : p < c.1.1
    · exact Or.inr ⟨_, List.mem_cons_self .., h0, by simp only; omega⟩
    · rw [if_neg g1]
      by_cases g2 : p < c.1.2.1
      · rw [if_pos g2]; exact Or.inl rfl
      · rw [if_neg g2]
        rcases kept_segs h.2 p (by omega) h1 with h3 | ⟨g, hg, h4⟩
        · exact Or.inl h3
        · exact Or.inr ⟨g, List.mem_cons_of_mem _ hg, h4⟩
theorem seg_nonneg {l : List Chg} (h : normal l = true) {g : Seg} (hg : g ∈ segs l) : 0 ≤ g.1 ∧ 0 ≤ g.2.1 ∧ 0 ≤ g.2.2 := segs_low h g hg
theorem seg_kept {l : List Chg} (h : normal l = true) {g : Seg} (hg : g ∈ segs l) {p : Int} (hp : inSeg g p) : kept l p = p + (g.2.1 - g.1) := segs_kept h g hg p hp
theorem kept_seg {l : List Chg} (h : normal l = true) {p : Int} (h0 : 0 ≤ p) (h1 : p < (lastC l).1.2.1 + 2199023255552) : kept l p = -1 ∨ ∃ g ∈ segs l, inSeg g p := kept_segs h p h0 h1
theorem last_nonneg {l : List Chg} (h : normal l = true) : 0 ≤ (lastC l).1.2.1 ∧ 0 ≤ (lastC l).2.1.2.1 := last_le h
/-- A place is kept, and to a place that is none before the first, or it is -1. -/
theorem kept_sign {l : List Chg} (h : normal l = true) {p : Int} (h0 : 0 ≤ p) : kept l p = -1 ∨ 0 ≤ kept l p := by
  have hl := last_nonneg h
  by_cases h1 : p < (lastC l).1.2.1
  · rcases kept_seg h h0 (by omega) with h2 | ⟨g, hg, h3⟩
    · exact Or.inl h2
    · have := seg_nonneg h hg
      rw [seg_kept h hg h3]
      unfold inSeg at h3
      omega
  · rw [kept_far h (by omega)]
    omega

/-! ### Pieces put one behind the other -/
def put (s : List Chg × Int × Int) (g : Seg) : List Chg × Int × Int :=
  (if s.2.1 < g.1 ∨ s.2.2 < g.2.1 then s.1 ++ [((s.2.1, g.1, ()), (s.2.2, g.2.1, ()), ())] else s.1, g.1 + g.2.2, g.2.1 + g.2.2)
def PInv (s : List Chg × Int × Int) : Prop :=
  normal s.1 = true ∧ (lastC s.1).1.2.1 ≤ s.2.1 ∧ s.2.1 - (lastC s.1).1.2.1 = s.2.2 - (lastC s.1).2.1.2.1 ∧ (s.1.isEmpty = true ∨ (lastC s.1).1.2.1 < s.2.1)
theorem pinv_nonneg {s : List Chg × Int × Int} (h : PInv s) : 0 ≤ s.2.1 ∧ 0 ≤ s.2.2 := by
  obtain ⟨h1, h2, h3, _⟩ := h
  have := last_nonneg h1
  omega
theorem put_inv {s : List Chg × Int × Int} {g : Seg} (h : PInv s) (hx : s.2.1 ≤ g.1) (hy : s.2.2 ≤ g.2.1) (hn : 1 ≤ g.2.2) (mx : g.1 ≤ 1099511627776) (my : g.2.1 ≤ 1099511627776) :
    PInv (put s g) ∧ ∀ p, kept (put s g).1 p = if p < s.2.1 then kept s.1 p else if p < g.1 then -1 else p + (g.2.1 - g.1) := by
  have h0 := pinv_nonneg h
  obtain ⟨h1, h2, h3, h4⟩ := h
  unfold put
  by_cases hc : s.2.1 < g.1 ∨ s.2.2 < g.2.1
  · rw [if_pos hc]
    have hok : okStep (lastFrom zeroC s.1) ((s.2.1, g.1, ()), (s.2.2, g.2.1, ()), ()) (true && s.1.isEmpty) = true := by
      rw [okStep_iff]
      unfold lastC at h2 h3 h4
      simp only [Bool.true_and]
      refine ⟨by omega, by omega, by omega, by omega, h2, ?_⟩
      rcases h4 with h4 | h4
      · exact Or.inl h4
      · exact Or.inr (by omega)
    have hnorm : normFrom zeroC true (s.1 ++ [((s.2.1, g.1, ()), (s.2.2, g.2.1, ()), ())]) = true := normFrom_snoc.2 ⟨h1, hok⟩
    refine ⟨⟨hnorm, ?_, ?_, ?_⟩, fun p => kept_snoc 0 hnorm⟩
    · show (lastFrom zeroC _).1.2.1 ≤ g.1 + g.2.2
      rw [lastFrom_snoc]; simp only; omega
    · show g.1 + g.2.2 - (lastFrom zeroC _).1.2.1 = g.2.1 + g.2.2 - (lastFrom zeroC _).2.1.2.1
      rw [lastFrom_snoc]; simp only; omega
    · right
      show (lastFrom zeroC _).1.2.1 < g.1 + g.2.2
      rw [lastFrom_snoc]; simp only; omega
  · rw [if_neg hc]
    refine ⟨⟨h1, by simp only; omega, by simp only; omega, ?_⟩, fun p => ?_⟩
    · right; simp only; omega
    · simp only
      by_cases hp : p < s.2.1
      · rw [if_pos hp]
      · rw [if_neg hp, if_neg (by omega), kept_far h1 (by omega)]
        omega
theorem fold_put : ∀ (S : List Seg) (s : List Chg × Int × Int), PInv s → (∀ g ∈ S, 1 ≤ g.2.2 ∧ g.1 ≤ 1099511627776 ∧ g.2.1 ≤ 1099511627776) → S.Pairwise Bef → (∀ g ∈ S, s.2.1 ≤ g.1 ∧ s.2.2 ≤ g.2.1) →
    PInv (S.foldl put s) ∧ s.2.1 ≤ (S.foldl put s).2.1 ∧ (∀ g ∈ S, g.1 + g.2.2 ≤ (S.foldl put s).2.1) ∧ (∀ p, p < s.2.1 → kept (S.foldl put s).1 p = kept s.1 p) ∧
    (∀ g ∈ S, ∀ p, inSeg g p → kept (S.foldl put s).1 p = p + (g.2.1 - g.1)) ∧ (∀ p, s.2.1 ≤ p → p < (S.foldl put s).2.1 → (∀ g ∈ S, ¬ inSeg g p) → kept (S.foldl put s).1 p = -1) ∧
    (∀ c ∈ (S.foldl put s).1, c ∈ s.1 ∨ ∃ g ∈ S, c.1.2.1 = g.1 ∧ c.2.1.2.1 = g.2.1)
  | [], s, h, _, _, _ => ⟨h, Int.le_refl _, (fun g hg => by cases hg), fun _ _ => rfl, (fun g hg => by cases hg), (fun p h1 h2 => by simp only [List.foldl_nil] at h2; omega), fun c hc => Or.inl hc⟩
  | g :: S, s, h, hb, hp, hl => by
    rw [List.pairwise_cons] at hp
    have hg := hb g (List.mem_cons_self ..)
    have hgl := hl g (List.mem_cons_self ..)
    obtain ⟨i1, i2⟩ := put_inv h hgl.1 hgl.2 hg.1 hg.2.1 hg.2.2
    have e1 : (put s g).2.1 = g.1 + g.2.2 := rfl
    have e2 : (put s g).2.2 = g.2.1 + g.2.2 := rfl
    obtain ⟨j1, j2, j3, j4, j5, j6, j7⟩ := fold_put S (put s g) i1 (fun x hx => hb x (List.mem_cons_of_mem _ hx)) hp.2 (fun x hx => by
      rw [e1, e2]; exact hp.1 x hx)
    show PInv (S.foldl put (put s g)) ∧ s.2.1 ≤ (S.foldl put (put s g)).2.1 ∧ (∀ x ∈ g :: S, x.1 + x.2.2 ≤ (S.foldl put (put s g)).2.1) ∧ (∀ p, p < s.2.1 → kept (S.foldl put (put s g)).1 p = kept s.1 p) ∧
      (∀ x ∈ g :: S, ∀ p, inSeg x p → kept (S.foldl put (put s g)).1 p = p + (x.2.1 - x.1)) ∧ (∀ p, s.2.1 ≤ p → p < (S.foldl put (put s g)).2.1 → (∀ x ∈ g :: S, ¬ inSeg x p) → kept (S.foldl put (put s g)).1 p = -1) ∧
      (∀ c ∈ (S.foldl put (put s g)).1, c ∈ s.1 ∨ ∃ x ∈ g :: S, c.1.2.1 = x.1 ∧ c.2.1.2.1 = x.2.1)
    rw [e1] at j2 j4 j6
    refine ⟨j1, by omega, ?_, ?_, ?_, ?_, ?_⟩
    · intro x hx
      rcases List.mem_cons.1 hx with rfl | hx
      · exact j2
      · exact j3 x hx
    · intro p hp'
      rw [j4 p (by omega), i2, if_pos hp']
    · intro x hx p hi
      rcases List.mem_cons.1 hx with rfl | hx
      · unfold inSeg at hi
        rw [j4 p (by omega), i2, if_neg (by omega), if_neg (by omega)]
      · exact j5 x hx p hi
    · intro p h1 h2 hn
      by_cases h3 : p < g.1 + g.2.2
      · have := hn g (List.mem_cons_self ..)
        unfold inSeg at this
        rw [j4 p h3, i2, if_neg (by omega), if_pos (by omega)]
      · exact j6 p (by omega) h2 (fun x hx => hn x (List.mem_cons_of_mem _ hx))
    · intro c hc
      rcases j7 c hc with h1 | ⟨x, hx, h2⟩
      · unfold put at h1
        split at h1
        · rcases List.mem_append.1 h1 with h1 | h1
          · exact Or.inl h1
          · have : c = ((s.2.1, g.1, ()), (s.2.2, g.2.1, ()), ()) := by simpa using h1
            subst this
            exact Or.inr ⟨g, List.mem_cons_self .., rfl, rfl⟩
        · exact Or.inl h1
      · exact Or.inr ⟨x, List.mem_cons_of_mem _ hx, h2⟩
theorem pinv_zero : PInv ([], 0, 0) := ⟨rfl, Int.le_refl _, rfl, Or.inl rfl⟩
end Go.Fr.C10
