/-
  A state that is as another one says. Conditions: none.
-/
import Derived.Test.YtkgmpnadgilpjaaFrN
namespace Go.Fr
open Go Go.RowKit
universe u

section
variable {B : Nat} {w0 w : World} {N : Names} {h0 h : PHeap} {a : Act} {n : Nat} {m : Nat → Option Nat}

def Names.via (N : Names) (m : Nat → Option Nat) : Names := { ρ := N.ρ, V := fun X => match m X with | some r => N.V r | none => .slice none 0 0 }

theorem holds_true {b : Bool} (e : holds b) : b = true := by cases b <;> first | exact e.elim | rfl

theorem eqCaps_eq : {a b : List Nat} → eqCaps a b = true → a = b
  | [], [], _ => rfl
  | x :: r, y :: s, e => by
    simp only [eqCaps, Bool.and_eq_true] at e
    rw [Nat.eq_of_beq_eq_true e.1, eqCaps_eq e.2]
  | [], _ :: _, e => by cases e
  | _ :: _, [], e => by cases e

theorem entLeaf_rel {l l' : Leaf} (e : entLeaf m l l') {v : Value} (hr : l.rel N h v) : l'.rel (N.via m) h v := by
  unfold entLeaf at e
  split at e
  · trivial
  · rename_i t x
    rw [argValK_eq] at e
    split at e
    · rename_i y hy
      subst e
      exact argVal_rel (s := .leaf l) hy hr
    · exact e.elim
  · split at e
    · subst e; exact hr
    · subst e
      obtain ⟨cs, q1, q2⟩ := hr
      simp only [rep] at q1
      subst q1
      exact q2
    · exact e.elim
  · split at e
    · subst e; exact hr
    · exact e.elim
  · split at e
    · have := holds_true e
      simp only [Bool.and_eq_true] at this
      rw [Nat.eq_of_beq_eq_true this.1, Nat.eq_of_beq_eq_true this.2]
      exact hr
    · exact e.elim
  · rename_i X
    split at e
    · rename_i r hmr
      split at e
      · have := Nat.eq_of_beq_eq_true (holds_true e)
        subst this
        simp only [Leaf.rel, Names.via, hmr] at hr ⊢
        exact hr
      · exact e.elim
    · rename_i hmr
      split at e
      · simp only [Leaf.rel, Names.via, hmr] at hr ⊢
        exact ⟨hr, by rw [hr]; rfl⟩
      · exact e.elim
  · split at e
    · have := holds_true e
      simp only [Bool.and_eq_true] at this
      rw [show _ = _ from Nat.eq_of_beq_eq_true this.1, eqCaps_eq this.2]
      exact hr
    · exact e.elim
  · exact e.elim

theorem entLeaves_rel : {ls ls' : List Leaf} → entLeaves m ls ls' → {vs : List Value} → LeafRels N h ls vs → LeafRels (N.via m) h ls' vs
  | [], [], _, vs, hr => by
    cases vs with
    | nil => trivial
    | cons _ _ => exact hr.elim
  | l :: r, [l'], e, vs, hr => by
    simp only [entLeaves] at e
    cases r with
    | nil =>
      obtain ⟨c, cs, rfl, h1, h2⟩ := rels_cons hr
      cases cs with
      | nil => exact ⟨entLeaf_rel e h1, trivial⟩
      | cons _ _ => exact h2.elim
    | cons _ _ => exact e.elim
  | l :: r, l' :: l2 :: r', e, vs, hr => by
    simp only [entLeaves] at e
    obtain ⟨c, cs, rfl, h1, h2⟩ := rels_cons hr
    exact ⟨entLeaf_rel e.1 h1, entLeaves_rel e.2 h2⟩
  | [], _ :: _, e, _, _ => by simp only [entLeaves] at e
  | _ :: _, [], e, _, _ => by simp only [entLeaves] at e

theorem entSV_rel {s s' : SV} (e : entSV m s s') {v : Value} (hr : s.rel N h v) : s'.rel (N.via m) h v := by
  unfold entSV at e
  split at e
  · trivial
  · rw [argValK_eq] at e
    split at e
    · rename_i y hy
      subst e
      exact argVal_rel hy hr
    · exact e.elim
  · split at e
    · exact entLeaf_rel e hr
    · exact e.elim
  · rename_i ls'
    split at e
    · rename_i ls hls
      obtain ⟨cs, q1, q2, q3⟩ := aggOf_rel hls hr
      exact ⟨cs, q1, entLeaves_rel e q2, q3⟩
    · exact e.elim
  · exact e.elim

theorem entSlots_sat {src : Slots} (hs : SlotSat src N h a) : (tgt : Slots) → entSlots m src tgt → SlotSat tgt (N.via m) h a
  | [], _, t => trivial
  | [(k, s')], e, t => by
    simp only [entSlots] at e
    rw [getS_cons]
    split
    · rename_i hk; subst hk; exact entSV_rel e (hs k)
    · trivial
  | (k, s') :: p :: r, e, t => by
    simp only [entSlots] at e
    rw [getS_cons]
    split
    · rename_i hk; subst hk; exact entSV_rel e.1 (hs k)
    · exact entSlots_sat hs (p :: r) e.2 t

theorem entBlks_get {src : Blks} : (tgt : Blks) → entBlks m src tgt → ∀ i b', getB tgt i = some b' → ∃ b, getB src i = some b ∧ b.ty = b'.ty ∧ entLeaves m b.cells b'.cells
  | [], _, i, b', hb => by cases hb
  | [(k, ⟨t', cs'⟩)], e, i, b', hb => by
    simp only [entBlks] at e
    rw [getB_cons] at hb
    split at e
    · rename_i t cs hg
      split at e
      · rename_i ht
        by_cases hk : k = i
        · subst hk
          rw [if_pos rfl] at hb
          injection hb with hb; subst hb
          exact ⟨_, hg, Nat.eq_of_beq_eq_true ht, e⟩
        · rw [if_neg hk] at hb; cases hb
      · exact e.elim
    · exact e.elim
  | (k, ⟨t', cs'⟩) :: p :: r, e, i, b', hb => by
    simp only [entBlks] at e
    rw [getB_cons] at hb
    split at e
    · rename_i t cs hg
      split at e
      · rename_i ht
        by_cases hk : k = i
        · subst hk
          rw [if_pos rfl] at hb
          injection hb with hb; subst hb
          exact ⟨_, hg, Nat.eq_of_beq_eq_true ht, e.1⟩
        · rw [if_neg hk] at hb
          exact entBlks_get (p :: r) e.2 i b' hb
      · exact e.elim
    · exact e.elim

theorem entRows_get {src : Rows} : (tgt : Rows) → entRows m src tgt → ∀ X R', getR tgt X = some R' → (∃ y R, m X = some y ∧ getR src y = some R ∧ R.e = R'.e ∧ ∃ ht : R.t = R'.t, ht ▸ R.xs = R'.xs) ∨ (m X = none ∧ R'.xs = [])
  | [], _, X, R', hR => by cases hR
  | (k, S) :: r, e, X, R', hR => by
    simp only [entRows] at e
    rw [getR_cons] at hR
    split at e
    · rename_i y hy
      split at e
      · rename_i R hg
        split at e
        · rename_i hee
          rw [popSlK_eq] at e
          split at e
          · rename_i xs rr hp
            by_cases hk : k = X
            · subst hk
              rw [if_pos rfl] at hR
              injection hR with hR; subst hR
              refine .inl ⟨y, R, hy, hg, Nat.eq_of_beq_eq_true hee, ?_⟩
              have hp' : (if e : R.t = S.t then some ((e ▸ R.xs : List S.t.den), ([] : List Leaf)) else none) = some (xs, rr) := hp
              by_cases ht : R.t = S.t
              · rw [dif_pos ht] at hp'
                injection hp' with hp'
                injection hp' with hp1 hp2
                refine ⟨ht, ?_⟩
                rw [← e.1, ← hp1]
              · rw [dif_neg ht] at hp'
                cases hp'
            · rw [if_neg hk] at hR
              exact entRows_get r e.2 X R' hR
          · exact e.elim
        · exact e.elim
      · exact e.elim
    · rename_i hy
      by_cases hk : k = X
      · subst hk
        rw [if_pos rfl] at hR
        injection hR with hR; subst hR
        exact .inr ⟨hy, e.1⟩
      · rw [if_neg hk] at hR
        exact entRows_get r e.2 X R' hR

theorem getR_mem {rs : Rows} {X : Nat} {R : RowS} (hR : getR rs X = some R) : (X, R) ∈ rs := by
  induction rs with
  | nil => cases hR
  | cons p r ih =>
    obtain ⟨k, S⟩ := p
    rw [getR_cons] at hR
    split at hR
    · rename_i hk; subst hk; injection hR with hR; subst hR; exact List.mem_cons_self ..
    · exact List.mem_cons_of_mem _ (ih hR)

theorem rowsApart_inj : (rs : Rows) → rowsApart m rs = true → ∀ X Y R S y, getR rs X = some R → getR rs Y = some S → m X = some y → m Y = some y → X = Y
  | [], _, X, Y, R, S, y, hX, _, _, _ => by cases hX
  | (k, T) :: r, e, X, Y, R, S, y, hX, hY, h1, h2 => by
    simp only [rowsApart, Bool.and_eq_true] at e
    rw [getR_cons] at hX hY
    have key : ∀ Z U, getR r Z = some U → m k = some y → m Z = some y → False := by
      intro Z U hZ hk hz
      have e1 := e.1
      rw [hk] at e1
      simp only [Bool.not_eq_true', List.any_eq_false] at e1
      have := e1 _ (getR_mem hZ)
      rw [hz] at this
      exact this (Nat.beq_refl y)
    by_cases kx : k = X
    · by_cases ky : k = Y
      · rw [← kx, ← ky]
      · rw [if_neg ky] at hY
        subst kx
        exact (key Y S hY h1 h2).elim
    · rw [if_neg kx] at hX
      by_cases ky : k = Y
      · subst ky
        exact (key X R hX h2 h1).elim
      · rw [if_neg ky] at hY
        exact rowsApart_inj r e.2 X Y R S y hX hY h1 h2

theorem entAt_sat {sl sl' : Slots} {bs bs' : Blks} {rs rs' : Rows} (hS : Sat B w0 h0 n ⟨sl, bs, rs⟩ N h a w) (e : entAt m sl bs rs sl' bs' rs') : Sat B w0 h0 n ⟨sl', bs', rs'⟩ (N.via m) h a w := by
  unfold entAt at e
  split at e
  · rename_i hap
    simp only [Bool.and_eq_true] at hap
    have parts : entSlots m sl sl' ∧ entBlks m bs bs' ∧ entRows m rs rs' := by
      split at e
      · exact ⟨e, trivial, trivial⟩
      · exact ⟨e.1, e.2, trivial⟩
      · exact ⟨e.1, trivial, e.2⟩
      · exact e
    obtain ⟨e1, e2, e3⟩ := parts
    have hM := hS.mem
    refine ⟨⟨hM.below, hM.size, hM.pin, ?_, ?_, ?_, ?_, ?_, ?_⟩, hS.grow, hS.dom, entSlots_sat hS.slots sl' e1, hS.size, hS.defers⟩
    · intro i b' hb
      obtain ⟨b, g1, g2, g3⟩ := entBlks_get bs' e2 i b' hb
      obtain ⟨cs, q1, q2, q3⟩ := hM.blk i b g1
      exact ⟨cs, by rw [← g2]; exact q1, entLeaves_rel g3 q2, q3⟩
    · intro i j b c hb hc he
      obtain ⟨b1, g1, _⟩ := entBlks_get bs' e2 i b hb
      obtain ⟨c1, g2, _⟩ := entBlks_get bs' e2 j c hc
      exact hM.inj i j b1 c1 g1 g2 he
    · intro X R' hX
      rcases entRows_get rs' e3 X R' hX with ⟨y, R, g1, g2, g3, g4, g5⟩ | ⟨g1, g2⟩
      · obtain ⟨cs, q1, q2⟩ := hM.row y R g2
        obtain ⟨t, te, xs⟩ := R
        obtain ⟨t', te', xs'⟩ := R'
        simp only at g3 g4 g5 q1 q2
        subst g3 g4 g5
        refine ⟨cs, ?_, q2⟩
        simp only [Names.via, g1]
        exact q1
      · refine ⟨[], ?_, by rw [g2]; rfl⟩
        rw [g2]
        simp only [Names.via, g1]
        exact World.ownsRow_nil w B _ _
    · intro X R' g hX hg
      rcases entRows_get rs' e3 X R' hX with ⟨y, R, g1, g2, _⟩ | ⟨g1, _⟩
      · simp only [Names.via, g1] at hg
        exact hM.rowh y R g g2 hg
      · simp only [Names.via, g1] at hg
        cases hg
    · intro X R' g i b hX hg hb
      obtain ⟨b1, p1, _⟩ := entBlks_get bs' e2 i b hb
      rcases entRows_get rs' e3 X R' hX with ⟨y, R, g1, g2, _⟩ | ⟨g1, _⟩
      · simp only [Names.via, g1] at hg
        exact hM.rowb y R g i b1 g2 hg p1
      · simp only [Names.via, g1] at hg
        cases hg
    · intro X Y R' S' g hX hY hx hy
      rcases entRows_get rs' e3 X R' hX with ⟨y, R, g1, g2, _⟩ | ⟨g1, _⟩
      · rcases entRows_get rs' e3 Y S' hY with ⟨z, S, k1, k2, _⟩ | ⟨k1, _⟩
        · simp only [Names.via, g1] at hx
          simp only [Names.via, k1] at hy
          have := hM.rowr y z R S g g2 k2 hx hy
          subst this
          exact rowsApart_inj rs' hap.1 X Y R' S' y hX hY g1 k1
        · simp only [Names.via, k1] at hy
          cases hy
      · simp only [Names.via, g1] at hx
        cases hx
  · exact e.elim

theorem ent_sat {σ σ' : St} (hS : Sat B w0 h0 n σ N h a w) (e : ent σ σ') : ∃ N', Sat B w0 h0 n σ' N' h a w := by
  obtain ⟨sl, bs, rs⟩ := σ
  obtain ⟨sl', bs', rs'⟩ := σ'
  unfold ent at e
  cases rs' with
  | nil => exact ⟨_, entAt_sat hS e⟩
  | cons r rs' => exact ⟨_, entAt_sat hS e⟩
end
end Go.Fr
