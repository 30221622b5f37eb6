/-
  A symbolic state is kept through stores, new blocks, appends. Conditions: none.
-/
import Derived.Test.YtkgmpnadgilpjaaFrJ
import Derived.Maps.AppendAt
namespace Go.Fr
open Go Go.RowKit
universe u

structure Sat (B : Nat) (w0 : World) (h0 : PHeap) (n : Nat) (σ : St) (N : Names) (h : PHeap) (a : Act) (w : World) : Prop where
  mem : MemSat B w0 σ.blks σ.rows N h w
  grow : PLe h0 h
  dom : ∀ k, h k ≠ none → h0 k ≠ none ∨ B ≤ k
  slots : SlotSat σ.slots N h a
  size : a.tmps.size = n
  defers : a.defers = []

theorem getS_cons (k : Nat) (s : SV) (sl : Slots) (t : Nat) : getS ((k, s) :: sl) t = if k = t then s else getS sl t := by
  show (bif Nat.beq k t then s else getS sl t) = _
  cases hb : Nat.beq k t with
  | true => rw [cond_true, if_pos (Nat.eq_of_beq_eq_true hb)]
  | false => rw [cond_false, if_neg (Nat.ne_of_beq_eq_false hb)]
theorem getB_cons (k : Nat) (b : Blk) (bs : Blks) (i : Nat) : getB ((k, b) :: bs) i = if k = i then some b else getB bs i := by
  show (bif Nat.beq k i then some b else getB bs i) = _
  cases hb : Nat.beq k i with
  | true => rw [cond_true, if_pos (Nat.eq_of_beq_eq_true hb)]
  | false => rw [cond_false, if_neg (Nat.ne_of_beq_eq_false hb)]
theorem getR_cons (k : Nat) (b : RowS) (bs : Rows) (i : Nat) : getR ((k, b) :: bs) i = if k = i then some b else getR bs i := by
  show (bif Nat.beq k i then some b else getR bs i) = _
  cases hb : Nat.beq k i with
  | true => rw [cond_true, if_pos (Nat.eq_of_beq_eq_true hb)]
  | false => rw [cond_false, if_neg (Nat.ne_of_beq_eq_false hb)]

theorem getD_put {a : Act} {d : Nat} {v : Value} (hd : d < a.tmps.size) (t : Nat) : (a.put (some d) v).tmps.getD t undef = if d = t then v else a.tmps.getD t undef := by
  simp only [Act.put, Array.getD_eq_getD_getElem?, Array.getElem?_setIfInBounds]
  split
  · rename_i e; subst e; simp
  · rfl
theorem size_put (a : Act) (d : Option Nat) (v : Value) : (a.put d v).tmps.size = a.tmps.size := by cases d <;> simp [Act.put]
theorem defers_put (a : Act) (d : Option Nat) (v : Value) : (a.put d v).defers = a.defers := by cases d <;> rfl

theorem SlotSat.put {sl : Slots} {N : Names} {h : PHeap} {a : Act} (hs : SlotSat sl N h a) {d : Nat} (hd : d < a.tmps.size) {s : SV} {v : Value} (hv : s.rel N h v) : SlotSat ((d, s) :: sl) N h (a.put (some d) v) := by
  intro t
  rw [getS_cons, getD_put hd]
  split
  · exact hv
  · exact hs t

section
variable {B : Nat} {w0 w w' : World} {bs : Blks} {rs : Rows} {N : Names} {h0 h h' : PHeap} {sl : Slots} {a : Act} {n : Nat}

theorem Sat.put {σ : St} (hS : Sat B w0 h0 n σ N h a w) {d : Option Nat} (hd : ∀ t, d = some t → t < n) {s : SV} {v : Value} (hv : s.rel N h v) : Sat B w0 h0 n (σ.put d s) N h (a.put d v) w := by
  cases d with
  | none => exact hS
  | some t => exact ⟨hS.mem, hS.grow, hS.dom, hS.slots.put (by rw [hS.size]; exact hd t rfl) hv, by rw [size_put]; exact hS.size, by rw [defers_put]; exact hS.defers⟩

/-! ### Other names -/
theorem Leaf.rel_names {N N' : Names} (l : Leaf) {v : Value} (hr : l.rel N h v) (hb : ∀ i, Leaf.namesB i l = true → N'.ρ i = N.ρ i) (hv : ∀ i, Leaf.namesR i l = true → N'.V i = N.V i) : l.rel N' h v := by
  cases l with
  | any => exact hr
  | undef => exact hr
  | blit b => exact hr
  | tv t x => exact hr
  | raw v => exact hr
  | ptr i off => simp only [Leaf.rel] at hr ⊢; rw [hb i (by simp [Leaf.namesB])]; exact hr
  | eptr t xs i off => exact hr
  | row r => simp only [Leaf.rel] at hr ⊢; rw [hv r (by simp [Leaf.namesR])]; exact hr
  | rptr r s i off => simp only [Leaf.rel] at hr ⊢; rw [hv r (by simp [Leaf.namesR])]; exact hr
  | clo f caps =>
    simp only [Leaf.rel] at hr ⊢
    rw [hr]
    congr 2
    apply List.map_congr_left
    intro i hi
    rw [hb i]
    simp only [Leaf.namesB]
    clear hr hb hv
    induction caps with
    | nil => cases hi
    | cons c cs ih =>
      simp only [anyNat, Bool.or_eq_true]
      rcases List.mem_cons.1 hi with e | e
      · subst e; exact .inl (Nat.beq_refl _)
      · exact .inr (ih e)

theorem anyLeaf_false {f : Leaf → Bool} : {ls : List Leaf} → anyLeaf f ls = false → ∀ l ∈ ls, f l = false
  | [], _, l, hl => by cases hl
  | x :: r, e, l, hl => by
    simp only [anyLeaf, Bool.or_eq_false_iff] at e
    rcases List.mem_cons.1 hl with e' | e'
    · subst e'; exact e.1
    · exact anyLeaf_false e.2 l e'

theorem LeafRels.names {N N' : Names} : (ls : List Leaf) → (vs : List Value) → LeafRels N h ls vs → (∀ l ∈ ls, ∀ i, Leaf.namesB i l = true → N'.ρ i = N.ρ i) → (∀ l ∈ ls, ∀ i, Leaf.namesR i l = true → N'.V i = N.V i) → LeafRels N' h ls vs
  | [], [], _, _, _ => trivial
  | l :: ls, _ :: vs, ⟨e1, e2⟩, hb, hv => ⟨l.rel_names e1 (hb l (List.mem_cons_self ..)) (hv l (List.mem_cons_self ..)), LeafRels.names ls vs e2 (fun l hl => hb l (List.mem_cons_of_mem _ hl)) (fun l hl => hv l (List.mem_cons_of_mem _ hl))⟩
  | [], _ :: _, e, _, _ => e.elim
  | _ :: _, [], e, _, _ => e.elim

theorem SV.rel_names {N N' : Names} (s : SV) {v : Value} (hr : s.rel N h v) (hb : ∀ i, s.anyL (Leaf.namesB i) = true → N'.ρ i = N.ρ i) (hv : ∀ i, s.anyL (Leaf.namesR i) = true → N'.V i = N.V i) : s.rel N' h v := by
  have any : ∀ (f : Leaf → Bool) (ls : List Leaf) (l : Leaf), l ∈ ls → f l = true → anyLeaf f ls = true := by
    intro f ls l hl hf
    induction ls with
    | nil => cases hl
    | cons c cs ih =>
      simp only [anyLeaf, Bool.or_eq_true]
      rcases List.mem_cons.1 hl with e | e
      · subst e; exact .inl hf
      · exact .inr (ih e)
  cases s with
  | leaf l => exact l.rel_names hr hb hv
  | agg ls =>
    obtain ⟨cs, e1, e2, e3⟩ := hr
    exact ⟨cs, e1, LeafRels.names ls cs e2 (fun l hl i hi => hb i (any _ ls l hl hi)) (fun l hl i hi => hv i (any _ ls l hl hi)), e3⟩
  | tupv t x => exact hr

theorem anySlots_false {f : Leaf → Bool} : {sl : Slots} → anySlots f sl = false → ∀ t, (getS sl t).anyL f = true → f .any = true
  | [], _, t, ht => ht
  | (k, s) :: r, e, t, ht => by
    simp only [anySlots, Bool.or_eq_false_iff] at e
    rw [getS_cons] at ht
    split at ht
    · rw [e.1] at ht; cases ht
    · exact anySlots_false e.2 t ht

theorem anyBlks_false {f : Leaf → Bool} : {bs : Blks} → anyBlks f bs = false → ∀ i b, getB bs i = some b → anyLeaf f b.cells = false
  | [], _, i, b, hb => by cases hb
  | (k, c) :: r, e, i, b, hb => by
    simp only [anyBlks, Bool.or_eq_false_iff] at e
    rw [getB_cons] at hb
    split at hb
    · injection hb with hb; subst hb; exact e.1
    · exact anyBlks_false e.2 i b hb

/-! ### A block is turned -/
theorem getB_setB (bs : Blks) (i : Nat) (c : Blk) (j : Nat) : getB (setB bs i c) j = if i = j then (getB bs j).map fun _ => c else getB bs j := by
  induction bs with
  | nil => simp [setB, getB]
  | cons p r ih =>
    obtain ⟨k, b⟩ := p
    unfold setB
    cases hb : Nat.beq k i with
    | true =>
      have := Nat.eq_of_beq_eq_true hb
      subst this
      rw [cond_true, getB_cons, getB_cons]
      by_cases hj : k = j <;> simp [hj]
    | false =>
      have := Nat.ne_of_beq_eq_false hb
      rw [cond_false, getB_cons, getB_cons, ih]
      by_cases hj : k = j
      · subst hj
        simp [Ne.symm this]
      · simp [hj]

theorem MemSat.store (hM : MemSat B w0 bs rs N h w) {i : Nat} {b c : Blk} (hb : getB bs i = some b) (ht : c.ty = b.ty) {cs : List Value} (hr : LeafRels N h c.cells cs) (h1 : ∀ u ∈ cs, u.oneCell' = true) :
    MemSat B w0 (setB bs i c) rs N h (w.setRow (N.ρ i) cs.toArray) := by
  obtain ⟨cs0, g1, g2, g3, g4, g5⟩ := hM.blk i b hb
  have hother : ∀ k, k ≠ N.ρ i → (w.setRow (N.ρ i) cs.toArray).heap[k]? = w.heap[k]? := fun k hk => setRow_other w _ k _ hk
  have hget : ∀ j d, getB (setB bs i c) j = some d → ∃ d', getB bs j = some d' := by
    intro j d hj
    rw [getB_setB] at hj
    split at hj
    · rename_i e; subst e; exact ⟨b, hb⟩
    · exact ⟨d, hj⟩
  refine ⟨?_, ?_, ?_, ?_, ?_, ?_, hM.rowh, ?_, hM.rowr⟩
  · exact hM.below.trans ⟨rfl, rfl, rfl, by simp, fun k hk => hother k (by omega)⟩
  · simpa using hM.size
  · intro k o hk
    rw [hother k (fun e => by rw [e, g5] at hk; cases hk)]
    exact hM.pin k o hk
  · intro j d hj
    rw [getB_setB] at hj
    by_cases e : i = j
    · subst e
      rw [if_pos rfl, hb] at hj
      simp only [Option.map_some, Option.some.injEq] at hj
      subst hj
      exact ⟨cs, by rw [setRow_heap w _ cs0.toArray _ _ (0, 0) g1, ht], hr, h1, g4, g5⟩
    · rw [if_neg e] at hj
      obtain ⟨ds, q1, q2, q3, q4, q5⟩ := hM.blk j d hj
      exact ⟨ds, by rw [hother _ (fun hh => e (hM.inj i j b d hb hj hh.symm))]; exact q1, q2, q3, q4, q5⟩
  · intro j k d1 d2 hj hk he
    obtain ⟨e1, q1⟩ := hget j d1 hj
    obtain ⟨e2, q2⟩ := hget k d2 hk
    exact hM.inj j k e1 e2 q1 q2 he
  · intro r R hR
    obtain ⟨ds, q1, q2⟩ := hM.row r R hR
    refine ⟨ds, ⟨q1.1, ?_⟩, q2⟩
    rcases q1.2 with h0 | ⟨g, cap, cur, e1, e2, e3, e4⟩
    · exact .inl h0
    · exact .inr ⟨g, cap, cur, e1, e2, by rw [hother g (fun hh => hM.rowb r R g i b hR (by rw [e1]; rfl) hb hh.symm)]; exact e3, e4⟩
  · intro r R g j d hR hg hj
    obtain ⟨e1, q1⟩ := hget j d hj
    exact hM.rowb r R g j e1 hR hg q1

/-! ### A block is made -/
def Names.setB (N : Names) (d g : Nat) : Names := { N with ρ := fun k => if k = d then g else N.ρ k }

theorem MemSat.newB (hM : MemSat B w0 bs rs N h w) {d : Nat} {b : Blk} {cs : List Value} (hr : LeafRels (N.setB d w.heap.size) h b.cells cs) (h1 : ∀ u ∈ cs, u.oneCell' = true)
    (hn : anyBlks (Leaf.namesB d) bs = false) :
    MemSat B w0 ((d, b) :: bs) rs (N.setB d w.heap.size) h (w.alloc (.cells cs.toArray b.ty)) := by
  have hnone : h w.heap.size = none := by
    cases hh : h w.heap.size with
    | none => rfl
    | some o => exact absurd (hM.pin.lt hh) (by omega)
  have hold : ∀ k, k < w.heap.size → (w.alloc (.cells cs.toArray b.ty)).heap[k]? = w.heap[k]? := fun k hk => Below.heap_alloc _ _ _ hk
  have hrho : ∀ (ls : List Leaf), anyLeaf (Leaf.namesB d) ls = false → ∀ l ∈ ls, ∀ i, Leaf.namesB i l = true → (N.setB d w.heap.size).ρ i = N.ρ i := by
    intro ls hf l hl i hi
    simp only [Names.setB]
    rw [if_neg]
    intro e
    subst e
    rw [anyLeaf_false hf l hl] at hi
    cases hi
  refine ⟨hM.below.alloc hM.size _, by simp; have := hM.size; omega, ?_, ?_, ?_, ?_, hM.rowh, ?_, hM.rowr⟩
  · intro k o hk
    rw [hold k (hM.pin.lt hk)]
    exact hM.pin k o hk
  · intro i c hi
    rw [getB_cons] at hi
    by_cases e : d = i
    · subst e
      rw [if_pos rfl] at hi
      injection hi with hi; subst hi
      refine ⟨cs, ?_, hr, h1, ?_, ?_⟩
      · simp only [Names.setB, if_true]
        exact heap_alloc_new w _
      · simp only [Names.setB, if_true]; exact hM.size
      · simp only [Names.setB, if_true]; exact hnone
    · rw [if_neg e] at hi
      obtain ⟨ds, q1, q2, q3, q4, q5⟩ := hM.blk i c hi
      have hne : (N.setB d w.heap.size).ρ i = N.ρ i := by simp only [Names.setB]; rw [if_neg (fun hh => e hh.symm)]
      rw [hne]
      exact ⟨ds, by rw [hold _ (lt_of_heap q1)]; exact q1, LeafRels.names _ _ q2 (hrho _ (anyBlks_false hn i c hi)) (fun _ _ _ _ => rfl), q3, q4, q5⟩
  · intro i j c1 c2 hi hj he
    rw [getB_cons] at hi hj
    simp only [Names.setB] at he
    by_cases e1 : d = i
    · by_cases e2 : d = j
      · omega
      · rw [if_neg e2] at hj
        rw [if_pos e1.symm, if_neg (fun hh => e2 hh.symm)] at he
        obtain ⟨ds, q1, _⟩ := hM.blk j c2 hj
        have := lt_of_heap q1
        omega
    · rw [if_neg e1] at hi
      by_cases e2 : d = j
      · rw [if_neg (fun hh => e1 hh.symm), if_pos e2.symm] at he
        obtain ⟨ds, q1, _⟩ := hM.blk i c1 hi
        have := lt_of_heap q1
        omega
      · rw [if_neg e2] at hj
        rw [if_neg (fun hh => e1 hh.symm), if_neg (fun hh => e2 hh.symm)] at he
        exact hM.inj i j c1 c2 hi hj he
  · intro r R hR
    obtain ⟨ds, q1, q2⟩ := hM.row r R hR
    exact ⟨ds, q1.alloc _, q2⟩
  · intro r R g i c hR hg hi
    rw [getB_cons] at hi
    simp only [Names.setB]
    by_cases e : d = i
    · rw [if_pos e.symm]
      have := (ownBlock_lt hM hR hg).2
      omega
    · rw [if_neg e] at hi
      rw [if_neg (fun hh => e hh.symm)]
      exact hM.rowb r R g i c hR hg hi
end
end Go.Fr
