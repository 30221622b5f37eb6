/-
  A state that is as another one says. Conditions: none.
-/
import Derived.Test.YtepnpmaoodljkaaDoorFrN
namespace Go.Fr
open Go Go.RowKit
universe u

section
variable {B : Nat} {w0 w : World} {N : Names} {h0 h : PHeap} {b : Nat} {u : Nat → Value} {a : Act} {n : Nat} {m : Nat → Option Nat}

def Names.via (N : Names) (m : Nat → Option Nat) : Names := { ρ := N.ρ, V := fun X => match m X with | some r => N.V r | none => .slice none 0 0 }

theorem holds_true {b : Bool} (e : holds b) : b = true := by cases b <;> first | exact e.elim | rfl

mutual
theorem entLeaf_rel : (l l' : Leaf) → entLeaf m l l' → {v : Value} → l.rel N h v → l'.rel (N.via m) h v
  | _, .any, _, _, _ => by simp only [Leaf.rel]
  | l, .tv t x, e, v, hr => by
    simp only [entLeaf, argValK_eq] at e
    split at e
    · rename_i y hy
      subst e
      simp only [Leaf.rel]
      exact argVal_rel (s := .leaf l) hy (SV.leaf_iff.2 hr)
    · exact e.elim
  | l, .blit b, e, v, hr => by
    unfold entLeaf at e
    split at e
    · subst e; simp only [Leaf.rel] at hr ⊢; exact hr
    · subst e
      obtain ⟨cs, q1, q2⟩ := tv_rel.1 hr
      simp only [rep] at q1
      subst q1
      simp only [Leaf.rel]
      exact q2
    · exact e.elim
  | l, .raw u, e, v, hr => by
    unfold entLeaf at e
    split at e
    · subst e; simp only [Leaf.rel] at hr ⊢; exact hr
    · exact e.elim
  | l, .ptr i off, e, v, hr => by
    unfold entLeaf at e
    split at e
    · have := holds_true e
      simp only [Bool.and_eq_true] at this
      simp only [Leaf.rel] at hr ⊢
      rw [Nat.eq_of_beq_eq_true this.1, Nat.eq_of_beq_eq_true this.2]
      exact hr
    · exact e.elim
  | l, .mref i, e, v, hr => by
    unfold entLeaf at e
    split at e
    · have := Nat.eq_of_beq_eq_true (holds_true e)
      simp only [Leaf.rel] at hr ⊢
      rw [this]
      exact hr
    · exact e.elim
  | l, .row X, e, v, hr => by
    unfold entLeaf at e
    split at e
    · rename_i r hmr
      split at e
      · have := Nat.eq_of_beq_eq_true (holds_true e)
        subst this
        simp only [Leaf.rel, Names.via, hmr] at hr ⊢
        exact hr
      · exact e.elim
    · rename_i hmr
      split at e
      · simp only [Leaf.rel, Names.via, hmr] at hr ⊢
        exact ⟨hr, by rw [hr]; rfl⟩
      · exact e.elim
  | l, .clo f caps, e, v, hr => by
    unfold entLeaf at e
    split at e
    · rename_i f' caps'
      split at e
      · rename_i hf
        have := Nat.eq_of_beq_eq_true hf
        subst this
        simp only [Leaf.rel] at hr ⊢
        obtain ⟨vs, e1, e2⟩ := hr
        exact ⟨vs, e1, entLeaves_rel caps' caps e e2⟩
      · exact e.elim
    · exact e.elim
  | _, .undef, e, _, _ => by simp only [entLeaf] at e
  | _, .eptr _ _ _ _, e, _, _ => by simp only [entLeaf] at e
  | _, .rptr _ _ _ _, e, _, _ => by simp only [entLeaf] at e
  | _, .rsub _ _ _, e, _, _ => by simp only [entLeaf] at e
theorem entLeaves_rel : (ls ls' : List Leaf) → entLeaves m ls ls' → {vs : List Value} → LeafRels N h ls vs → LeafRels (N.via m) h ls' vs
  | ls, [], e, vs, hr => by
    unfold entLeaves at e
    split at e
    · rw [LeafRels.nil_iff] at hr ⊢; exact hr
    · exact e.elim
  | ls, l' :: r', e, vs, hr => by
    unfold entLeaves at e
    split at e
    · exact e.elim
    · rename_i l r
      obtain ⟨c, cs, rfl, h1, h2⟩ := rels_cons hr
      split at e
      · split at e
        · rw [LeafRels.nil_iff] at h2
          subst h2
          exact LeafRels.cons (entLeaf_rel l l' e h1) (LeafRels.nil _ _)
        · exact e.elim
      · exact LeafRels.cons (entLeaf_rel l l' e.1 h1) (entLeaves_rel r _ e.2 h2)
end

theorem entSV_rel {s s' : SV} (e : entSV m s s') {v : Value} (hr : s.rel N h v) : s'.rel (N.via m) h v := by
  unfold entSV at e
  split at e
  · exact SV.leaf_iff.2 (by simp only [Leaf.rel])
  · rw [argValK_eq] at e
    split at e
    · rename_i y hy
      subst e
      exact SV.tv_iff.2 (argVal_rel hy hr)
    · exact e.elim
  · split at e
    · exact SV.leaf_iff.2 (entLeaf_rel _ _ e (SV.leaf_iff.1 hr))
    · exact e.elim
  · rename_i ls'
    split at e
    · rename_i ls hls
      obtain ⟨cs, q1, q2, q3⟩ := aggOf_rel hls hr
      exact ⟨cs, q1, entLeaves_rel _ _ e q2, q3⟩
    · exact e.elim
  · exact e.elim

theorem entSlots_sat {v : Nat → Value} {src : Slots} (hs : SlotSat src N h v) : (tgt : Slots) → entSlots m src tgt → SlotSat tgt (N.via m) h v
  | [], _, t => SV.leaf_iff.2 (by simp only [Leaf.rel])
  | [(k, s')], e, t => by
    simp only [entSlots] at e
    rw [getS_cons]
    split
    · rename_i hk; subst hk; exact entSV_rel e (hs k)
    · exact SV.leaf_iff.2 (by simp only [Leaf.rel])
  | (k, s') :: p :: r, e, t => by
    simp only [entSlots] at e
    rw [getS_cons]
    split
    · rename_i hk; subst hk; exact entSV_rel e.1 (hs k)
    · exact entSlots_sat hs (p :: r) e.2 t

theorem entIt_eq {cs : List Leaf} {x y : Option It} (e : entIt cs x y) : x = y ∧ (y = some .map → isTv cs) := by
  unfold entIt at e
  split at e
  · exact ⟨rfl, fun h => by cases h⟩
  · obtain ⟨rfl, rfl⟩ := e; exact ⟨rfl, fun h => by cases h⟩
  · exact ⟨rfl, fun _ => e⟩
  · exact e.elim
theorem entBlk_get {src : Blks} {n : Nat} {c : Blk} (e : entBlk m src n c) : ∃ b, getB src n = some b ∧ b.ty = c.ty ∧ entLeaves m b.cells c.cells ∧ b.it = c.it ∧ (c.it = some .map → isTv c.cells) := by
  obtain ⟨t', cs', it'⟩ := c
  unfold entBlk at e
  simp only at e
  split at e
  · rename_i t cs it hg
    split at e
    · rename_i ht
      split at e
      · split at e
        · exact ⟨_, hg, Nat.eq_of_beq_eq_true ht, e, rfl, fun h => by cases h⟩
        · exact e.elim
      · exact ⟨_, hg, Nat.eq_of_beq_eq_true ht, e.1, entIt_eq e.2⟩
    · exact e.elim
  · exact e.elim
theorem entBlks_get {src : Blks} : (tgt : Blks) → entBlks m src tgt → ∀ i b', getB tgt i = some b' → ∃ b, getB src i = some b ∧ b.ty = b'.ty ∧ entLeaves m b.cells b'.cells ∧ b.it = b'.it ∧ (b'.it = some .map → isTv b'.cells)
  | [], _, i, b', hb => by cases hb
  | (k, c) :: r, e, i, b', hb => by
    unfold entBlks at e
    rw [getB_cons] at hb
    split at e
    · by_cases hk : k = i
      · subst hk
        rw [if_pos rfl] at hb
        injection hb with hb; subst hb
        exact entBlk_get e
      · rw [if_neg hk] at hb; cases hb
    · by_cases hk : k = i
      · subst hk
        rw [if_pos rfl] at hb
        injection hb with hb; subst hb
        exact entBlk_get e.1
      · rw [if_neg hk] at hb
        exact entBlks_get _ e.2 i b' hb

theorem holdsNil_eq {α : Type} {xs : List α} (e : holdsNil xs) : xs = [] := by
  cases xs with
  | nil => rfl
  | cons _ _ => exact e.elim
theorem entRows_get {src : Rows} : (tgt : Rows) → entRows m src tgt → ∀ X R', getR tgt X = some R' → (∃ y R, m X = some y ∧ getR src y = some R ∧ R.e = R'.e ∧ ∃ ht : R.t = R'.t, ht ▸ R.xs = R'.xs) ∨ (m X = none ∧ R'.xs = [])
  | [], _, X, R', hR => by cases hR
  | (k, S) :: r, e, X, R', hR => by
    simp only [entRows] at e
    rw [getR_cons] at hR
    split at e
    · rename_i y hy
      split at e
      · rename_i R hg
        split at e
        · rename_i hee
          rw [popSlK_eq] at e
          split at e
          · rename_i xs rr hp
            by_cases hk : k = X
            · subst hk
              rw [if_pos rfl] at hR
              injection hR with hR; subst hR
              refine .inl ⟨y, R, hy, hg, Nat.eq_of_beq_eq_true hee, ?_⟩
              have hp' : (if e : R.t = S.t then some ((e ▸ R.xs : List S.t.den), ([] : List Leaf)) else none) = some (xs, rr) := hp
              by_cases ht : R.t = S.t
              · rw [dif_pos ht] at hp'
                injection hp' with hp'
                injection hp' with hp1 hp2
                refine ⟨ht, ?_⟩
                rw [← e.1, ← hp1]
              · rw [dif_neg ht] at hp'
                cases hp'
            · rw [if_neg hk] at hR
              exact entRows_get r e.2 X R' hR
          · exact e.elim
        · exact e.elim
      · exact e.elim
    · rename_i hy
      by_cases hk : k = X
      · subst hk
        rw [if_pos rfl] at hR
        injection hR with hR; subst hR
        exact .inr ⟨hy, holdsNil_eq e.1⟩
      · rw [if_neg hk] at hR
        exact entRows_get r e.2 X R' hR

theorem getR_mem {rs : Rows} {X : Nat} {R : RowS} (hR : getR rs X = some R) : (X, R) ∈ rs := by
  induction rs with
  | nil => cases hR
  | cons p r ih =>
    obtain ⟨k, S⟩ := p
    rw [getR_cons] at hR
    split at hR
    · rename_i hk; subst hk; injection hR with hR; subst hR; exact List.mem_cons_self ..
    · exact List.mem_cons_of_mem _ (ih hR)

theorem rowsApart_inj : (rs : Rows) → rowsApart m rs = true → ∀ X Y R S y, getR rs X = some R → getR rs Y = some S → m X = some y → m Y = some y → X = Y
  | [], _, X, Y, R, S, y, hX, _, _, _ => by cases hX
  | (k, T) :: r, e, X, Y, R, S, y, hX, hY, h1, h2 => by
    simp only [rowsApart, Bool.and_eq_true] at e
    rw [getR_cons] at hX hY
    have key : ∀ Z U, getR r Z = some U → m k = some y → m Z = some y → False := by
      intro Z U hZ hk hz
      have e1 := e.1
      rw [hk] at e1
      simp only [Bool.not_eq_true', List.any_eq_false] at e1
      have := e1 _ (getR_mem hZ)
      rw [hz] at this
      exact this (Nat.beq_refl y)
    by_cases kx : k = X
    · by_cases ky : k = Y
      · rw [← kx, ← ky]
      · rw [if_neg ky] at hY
        subst kx
        exact (key Y S hY h1 h2).elim
    · rw [if_neg kx] at hX
      by_cases ky : k = Y
      · subst ky
        exact (key X R hX h2 h1).elim
      · rw [if_neg ky] at hY
        exact rowsApart_inj r e.2 X Y R S y hX hY h1 h2

theorem entAt_sat {sl sl' : Slots} {bs bs' : Blks} {rs rs' : Rows} (hS : Sat B w0 h0 b u n ⟨sl, bs, rs⟩ N h a w) (e : entAt m sl bs rs sl' bs' rs') : Sat B w0 h0 b u n ⟨sl', bs', rs'⟩ (N.via m) h a w := by
  unfold entAt at e
  split at e
  · rename_i hap
    simp only [Bool.and_eq_true] at hap
    have parts : entSlots m sl sl' ∧ entBlks m bs bs' ∧ entRows m rs rs' := by
      split at e
      · exact ⟨e, trivial, trivial⟩
      · exact ⟨e.1, e.2, trivial⟩
      · exact ⟨e.1, trivial, e.2⟩
      · exact e
    obtain ⟨e1, e2, e3⟩ := parts
    have hM := hS.mem
    refine ⟨⟨hM.below, hM.size, hM.pin, ?_, ?_, ?_, ?_, ?_, ?_⟩, hS.grow, hS.dom, entSlots_sat hS.slots sl' e1, hS.size, hS.defers⟩
    · intro i b' hb
      obtain ⟨⟨t, ls, it⟩, g1, g2, g3, g4⟩ := entBlks_get bs' e2 i b' hb
      obtain ⟨t', ls', it'⟩ := b'
      simp only at g2 g3 g4
      obtain ⟨g4, g5⟩ := g4
      subst g2 g4
      obtain ⟨o, q1, q2, q3⟩ := hM.blk i _ g1
      refine ⟨o, q1, ?_, q3⟩
      cases it with
      | none =>
        obtain ⟨cs, p1, p2, p3⟩ := BlkSat.cells.1 q2
        exact BlkSat.cells.2 ⟨cs, p1, entLeaves_rel _ _ g3 p2, p3⟩
      | some p =>
        cases p with
        | str s p => exact q2
        | map =>
          obtain ⟨K, V, xs, es, cl, p1, p2, p3⟩ := BlkSat.map.1 q2
          subst p1
          have g5 := g5 rfl
          refine BlkSat.map.2 ?_
          have hls : ∃ T x, ls' = [.tv T x] := by
            unfold isTv at g5
            split at g5
            · exact ⟨_, _, rfl⟩
            · exact g5.elim
          obtain ⟨T, x, rfl⟩ := hls
          · simp only [entLeaves, entLeaf, argValK_eq] at g3
            unfold argVal at g3
            simp only at g3
            by_cases ht : mapT K V = T
            · subst ht
              rw [dif_pos rfl] at g3
              subst g3
              exact ⟨K, V, xs, es, cl, rfl, p2, p3⟩
            · rw [dif_neg ht] at g3
              exact g3.elim
    · intro i j b c hb hc he
      obtain ⟨b1, g1, _⟩ := entBlks_get bs' e2 i b hb
      obtain ⟨c1, g2, _⟩ := entBlks_get bs' e2 j c hc
      exact hM.inj i j b1 c1 g1 g2 he
    · intro X R' hX
      rcases entRows_get rs' e3 X R' hX with ⟨y, R, g1, g2, g3, g4, g5⟩ | ⟨g1, g2⟩
      · obtain ⟨cs, q1, q2⟩ := hM.row y R g2
        obtain ⟨t, te, xs⟩ := R
        obtain ⟨t', te', xs'⟩ := R'
        simp only at g3 g4 g5 q1 q2
        subst g3 g4 g5
        refine ⟨cs, ?_, q2⟩
        simp only [Names.via, g1]
        exact q1
      · refine ⟨[], ?_, by rw [g2]; rfl⟩
        rw [g2]
        simp only [Names.via, g1]
        exact World.ownsRow_nil w B _ _
    · intro X R' g hX hg
      rcases entRows_get rs' e3 X R' hX with ⟨y, R, g1, g2, _⟩ | ⟨g1, _⟩
      · simp only [Names.via, g1] at hg
        exact hM.rowh y R g g2 hg
      · simp only [Names.via, g1] at hg
        cases hg
    · intro X R' g i b hX hg hb
      obtain ⟨b1, p1, _⟩ := entBlks_get bs' e2 i b hb
      rcases entRows_get rs' e3 X R' hX with ⟨y, R, g1, g2, _⟩ | ⟨g1, _⟩
      · simp only [Names.via, g1] at hg
        exact hM.rowb y R g i b1 g2 hg p1
      · simp only [Names.via, g1] at hg
        cases hg
    · intro X Y R' S' g hX hY hx hy
      rcases entRows_get rs' e3 X R' hX with ⟨y, R, g1, g2, _⟩ | ⟨g1, _⟩
      · rcases entRows_get rs' e3 Y S' hY with ⟨z, S, k1, k2, _⟩ | ⟨k1, _⟩
        · simp only [Names.via, g1] at hx
          simp only [Names.via, k1] at hy
          have := hM.rowr y z R S g g2 k2 hx hy
          subst this
          exact rowsApart_inj rs' hap.1 X Y R' S' y hX hY g1 k1
        · simp only [Names.via, k1] at hy
          cases hy
      · simp only [Names.via, g1] at hx
        cases hx
  · exact e.elim

theorem entH_sat {hh : Hint} {σ0 σ : St} {x : varsDen hh.vars} (hS : Sat B w0 h0 b u n σ N h a w) (e : entH hh σ0 σ x) : ∃ N', Sat B w0 h0 b u n (atHead hh σ0 x) N' h a w := by
  unfold entH at e
  split at e
  rename_i sl' bs' rs' hat
  rw [hat]
  exact ⟨_, entAt_sat hS e⟩
end
end Go.Fr
