/-
  A symbolic state is kept through stores, new blocks, appends. Conditions: none.
-/
import Derived.Test.YtepnpmaoodljkaaDoorFrJ
import Derived.Maps.AppendAt
namespace Go.Fr
open Go Go.RowKit
universe u

structure SatV (B : Nat) (w0 : World) (h0 : PHeap) (σ : St) (N : Names) (h : PHeap) (v : Nat → Value) (w : World) : Prop where
  mem : MemSat B w0 σ.blks σ.rows N h w
  grow : PLe h0 h
  dom : ∀ k, h k ≠ none → h0 k ≠ none ∨ B ≤ k
  slots : SlotSat σ.slots N h v

structure Sat (B : Nat) (w0 : World) (h0 : PHeap) (b : Nat) (u : Nat → Value) (n : Nat) (σ : St) (N : Names) (h : PHeap) (a : Act) (w : World) : Prop where
  mem : MemSat B w0 σ.blks σ.rows N h w
  grow : PLe h0 h
  dom : ∀ k, h k ≠ none → h0 k ≠ none ∨ B ≤ k
  slots : SlotSat σ.slots N h (vals b u a)
  size : a.tmps.size = n
  defers : a.defers = []
theorem Sat.v {B : Nat} {w0 : World} {h0 : PHeap} {b : Nat} {u : Nat → Value} {n : Nat} {σ : St} {N : Names} {h : PHeap} {a : Act} {w : World} (hS : Sat B w0 h0 b u n σ N h a w) : SatV B w0 h0 σ N h (vals b u a) w := ⟨hS.mem, hS.grow, hS.dom, hS.slots⟩

theorem getS_cons (k : Nat) (s : SV) (sl : Slots) (t : Nat) : getS ((k, s) :: sl) t = if k = t then s else getS sl t := by
  show (bif Nat.beq k t then s else getS sl t) = _
  cases hb : Nat.beq k t with
  | true => rw [cond_true, if_pos (Nat.eq_of_beq_eq_true hb)]
  | false => rw [cond_false, if_neg (Nat.ne_of_beq_eq_false hb)]
theorem getB_cons (k : Nat) (b : Blk) (bs : Blks) (i : Nat) : getB ((k, b) :: bs) i = if k = i then some b else getB bs i := by
  show (bif Nat.beq k i then some b else getB bs i) = _
  cases hb : Nat.beq k i with
  | true => rw [cond_true, if_pos (Nat.eq_of_beq_eq_true hb)]
  | false => rw [cond_false, if_neg (Nat.ne_of_beq_eq_false hb)]
theorem getR_cons (k : Nat) (b : RowS) (bs : Rows) (i : Nat) : getR ((k, b) :: bs) i = if k = i then some b else getR bs i := by
  show (bif Nat.beq k i then some b else getR bs i) = _
  cases hb : Nat.beq k i with
  | true => rw [cond_true, if_pos (Nat.eq_of_beq_eq_true hb)]
  | false => rw [cond_false, if_neg (Nat.ne_of_beq_eq_false hb)]

theorem getD_put {a : Act} {d : Nat} {v : Value} (hd : d < a.tmps.size) (t : Nat) : (a.put (some d) v).tmps.getD t undef = if d = t then v else a.tmps.getD t undef := by
  simp only [Act.put, Array.getD_eq_getD_getElem?, Array.getElem?_setIfInBounds]
  split
  · rename_i e; subst e; simp
  · rfl
theorem size_put (a : Act) (d : Option Nat) (v : Value) : (a.put d v).tmps.size = a.tmps.size := by cases d <;> simp [Act.put]
theorem defers_put (a : Act) (d : Option Nat) (v : Value) : (a.put d v).defers = a.defers := by cases d <;> rfl

theorem vals_put {b : Nat} {u : Nat → Value} {a : Act} {d : Nat} {v : Value} (hd : d < a.tmps.size) (t : Nat) : vals b u (a.put (some d) v) t = if b + d = t then v else vals b u a t := by
  unfold vals
  by_cases ht : t < b
  · rw [if_pos ht, if_neg (by omega), if_pos ht]
  · rw [if_neg ht, if_neg ht, getD_put hd]
    by_cases e : b + d = t
    · rw [if_pos e, if_pos (by omega)]
    · rw [if_neg e, if_neg (by omega)]
theorem SlotSat.put {b : Nat} {u : Nat → Value} {sl : Slots} {N : Names} {h : PHeap} {a : Act} (hs : SlotSat sl N h (vals b u a)) {d : Nat} (hd : d < a.tmps.size) {s : SV} {v : Value} (hv : s.rel N h v) : SlotSat ((b + d, s) :: sl) N h (vals b u (a.put (some d) v)) := by
  intro t
  rw [getS_cons, vals_put hd]
  split
  · exact hv
  · exact hs t

section
variable {B : Nat} {w0 w w' : World} {bs : Blks} {rs : Rows} {N : Names} {h0 h h' : PHeap} {b : Nat} {u : Nat → Value} {sl : Slots} {a : Act} {n : Nat}

theorem Sat.put {σ : St} (hS : Sat B w0 h0 b u n σ N h a w) {d : Option Nat} (hd : ∀ t, d = some t → t < n) {s : SV} {v : Value} (hv : s.rel N h v) : Sat B w0 h0 b u n (σ.put (dstAt b d) s) N h (a.put d v) w := by
  cases d with
  | none => exact hS
  | some t => exact ⟨hS.mem, hS.grow, hS.dom, hS.slots.put (by rw [hS.size]; exact hd t rfl) hv, by rw [size_put]; exact hS.size, by rw [defers_put]; exact hS.defers⟩

/-! ### Other names -/
mutual
theorem Leaf.rel_names {N N' : Names} : (l : Leaf) → {v : Value} → l.rel N h v → (∀ i, Leaf.namesB i l = true → N'.ρ i = N.ρ i) → (∀ i, Leaf.namesR i l = true → N'.V i = N.V i) → l.rel N' h v
  | .any, _, _, _, _ => by simp only [Leaf.rel]
  | .undef, _, hr, _, _ => by simp only [Leaf.rel] at hr ⊢; exact hr
  | .blit _, _, hr, _, _ => by simp only [Leaf.rel] at hr ⊢; exact hr
  | .tv _ _, _, hr, _, _ => by simp only [Leaf.rel] at hr ⊢; exact hr
  | .raw _, _, hr, _, _ => by simp only [Leaf.rel] at hr ⊢; exact hr
  | .ptr i off, _, hr, hb, _ => by simp only [Leaf.rel] at hr ⊢; rw [hb i (by simp [Leaf.namesB])]; exact hr
  | .mref i, _, hr, hb, _ => by simp only [Leaf.rel] at hr ⊢; rw [hb i (by simp [Leaf.namesB])]; exact hr
  | .eptr _ _ _ _, _, hr, _, _ => by simp only [Leaf.rel] at hr ⊢; exact hr
  | .row r, _, hr, _, hv => by simp only [Leaf.rel] at hr ⊢; rw [hv r (by simp [Leaf.namesR])]; exact hr
  | .rptr r _ _ _, _, hr, _, hv => by simp only [Leaf.rel] at hr ⊢; rw [hv r (by simp [Leaf.namesR])]; exact hr
  | .rsub r _ _, _, hr, _, hv => by simp only [Leaf.rel] at hr ⊢; rw [hv r (by simp [Leaf.namesR])]; exact hr
  | .clo f caps, _, hr, hb, hv => by
    simp only [Leaf.rel] at hr ⊢
    obtain ⟨vs, e1, e2⟩ := hr
    exact ⟨vs, e1, rels_names caps e2 (fun i hi => hb i (by simpa only [Leaf.namesB] using hi)) (fun i hi => hv i (by simpa only [Leaf.namesR] using hi))⟩
theorem rels_names {N N' : Names} : (ls : List Leaf) → {vs : List Value} → LeafRels N h ls vs → (∀ i, anyB i ls = true → N'.ρ i = N.ρ i) → (∀ i, anyR i ls = true → N'.V i = N.V i) → LeafRels N' h ls vs
  | [], _, hr, _, _ => by rw [LeafRels] at hr ⊢; exact hr
  | l :: ls, _, hr, hb, hv => by
    rw [LeafRels] at hr ⊢
    obtain ⟨v, r, e0, e1, e2⟩ := hr
    exact ⟨v, r, e0, Leaf.rel_names l e1 (fun i hi => hb i (by simp only [anyB, hi, Bool.true_or])) (fun i hi => hv i (by simp only [anyR, hi, Bool.true_or])),
      rels_names ls e2 (fun i hi => hb i (by simp only [anyB, hi, Bool.or_true])) (fun i hi => hv i (by simp only [anyR, hi, Bool.or_true]))⟩
end

theorem anyLeaf_false {f : Leaf → Bool} : {ls : List Leaf} → anyLeaf f ls = false → ∀ l ∈ ls, f l = false
  | [], _, l, hl => by cases hl
  | x :: r, e, l, hl => by
    simp only [anyLeaf, Bool.or_eq_false_iff] at e
    rcases List.mem_cons.1 hl with e' | e'
    · subst e'; exact e.1
    · exact anyLeaf_false e.2 l e'

theorem LeafRels.names {N N' : Names} : (ls : List Leaf) → (vs : List Value) → LeafRels N h ls vs → (∀ l ∈ ls, ∀ i, Leaf.namesB i l = true → N'.ρ i = N.ρ i) → (∀ l ∈ ls, ∀ i, Leaf.namesR i l = true → N'.V i = N.V i) → LeafRels N' h ls vs
  | [], _, hr, _, _ => by rw [LeafRels] at hr ⊢; exact hr
  | l :: ls, _, hr, hb, hv => by
    rw [LeafRels] at hr ⊢
    obtain ⟨v, r, e0, e1, e2⟩ := hr
    exact ⟨v, r, e0, l.rel_names e1 (hb l (List.mem_cons_self ..)) (hv l (List.mem_cons_self ..)), LeafRels.names ls r e2 (fun l hl => hb l (List.mem_cons_of_mem _ hl)) (fun l hl => hv l (List.mem_cons_of_mem _ hl))⟩

theorem SV.rel_names {N N' : Names} (s : SV) {v : Value} (hr : s.rel N h v) (hb : ∀ i, s.anyL (Leaf.namesB i) = true → N'.ρ i = N.ρ i) (hv : ∀ i, s.anyL (Leaf.namesR i) = true → N'.V i = N.V i) : s.rel N' h v := by
  have any : ∀ (f : Leaf → Bool) (ls : List Leaf) (l : Leaf), l ∈ ls → f l = true → anyLeaf f ls = true := by
    intro f ls l hl hf
    induction ls with
    | nil => cases hl
    | cons c cs ih =>
      simp only [anyLeaf, Bool.or_eq_true]
      rcases List.mem_cons.1 hl with e | e
      · subst e; exact .inl hf
      · exact .inr (ih e)
  cases s with
  | leaf l => exact SV.leaf_iff.2 (l.rel_names (SV.leaf_iff.1 hr) hb hv)
  | agg ls =>
    obtain ⟨cs, e1, e2, e3⟩ := hr
    exact ⟨cs, e1, LeafRels.names ls cs e2 (fun l hl i hi => hb i (any _ ls l hl hi)) (fun l hl i hi => hv i (any _ ls l hl hi)), e3⟩
  | tupv t x => exact hr

theorem anySlots_false {f : Leaf → Bool} : {sl : Slots} → anySlots f sl = false → ∀ t, (getS sl t).anyL f = true → f .any = true
  | [], _, t, ht => ht
  | (k, s) :: r, e, t, ht => by
    simp only [anySlots, Bool.or_eq_false_iff] at e
    rw [getS_cons] at ht
    split at ht
    · rw [e.1] at ht; cases ht
    · exact anySlots_false e.2 t ht

theorem anyBlks_false {f : Leaf → Bool} : {bs : Blks} → anyBlks f bs = false → ∀ i b, getB bs i = some b → anyLeaf f b.cells = false
  | [], _, i, b, hb => by cases hb
  | (k, c) :: r, e, i, b, hb => by
    simp only [anyBlks, Bool.or_eq_false_iff] at e
    rw [getB_cons] at hb
    split at hb
    · injection hb with hb; subst hb; exact e.1
    · exact anyBlks_false e.2 i b hb

/-! ### A block is turned -/
theorem getB_setB (bs : Blks) (i : Nat) (c : Blk) (j : Nat) : getB (setB bs i c) j = if i = j then (getB bs j).map fun _ => c else getB bs j := by
  induction bs with
  | nil => simp [setB, getB]
  | cons p r ih =>
    obtain ⟨k, b⟩ := p
    unfold setB
    cases hb : Nat.beq k i with
    | true =>
      have := Nat.eq_of_beq_eq_true hb
      subst this
      rw [cond_true, getB_cons, getB_cons]
      by_cases hj : k = j <;> simp [hj]
    | false =>
      have := Nat.ne_of_beq_eq_false hb
      rw [cond_false, getB_cons, getB_cons, ih]
      by_cases hj : k = j
      · subst hj
        simp [Ne.symm this]
      · simp [hj]

/-- What of the memory does not change where one block changes that is the call's own. -/
theorem MemSat.turnBlock (hM : MemSat B w0 bs rs N h w) {i : Nat} {b c : Blk} (hb : getB bs i = some b) (hbel : Below B w0 w') (hsz : w'.heap.size = w.heap.size) (hother : ∀ k, k ≠ N.ρ i → w'.heap[k]? = w.heap[k]?)
    {o : Obj} (hat : w'.heap[N.ρ i]? = some o) (hc : BlkSat N h c o) : MemSat B w0 (setB bs i c) rs N h w' := by
  obtain ⟨o0, g1, g2, g4, g5⟩ := hM.blk i b hb
  have hget : ∀ j d, getB (setB bs i c) j = some d → ∃ d', getB bs j = some d' := by
    intro j d hj
    rw [getB_setB] at hj
    split at hj
    · rename_i e; subst e; exact ⟨b, hb⟩
    · exact ⟨d, hj⟩
  refine ⟨hbel, by rw [hsz]; exact hM.size, ?_, ?_, ?_, ?_, hM.rowh, ?_, hM.rowr⟩
  · intro k o hk
    rw [hother k (fun e => by rw [e, g5] at hk; cases hk)]
    exact hM.pin k o hk
  · intro j d hj
    rw [getB_setB] at hj
    by_cases e : i = j
    · subst e
      rw [if_pos rfl, hb] at hj
      simp only [Option.map_some, Option.some.injEq] at hj
      subst hj
      exact ⟨o, hat, hc, g4, g5⟩
    · rw [if_neg e] at hj
      obtain ⟨d0, q1, q2, q4, q5⟩ := hM.blk j d hj
      exact ⟨d0, by rw [hother _ (fun hh => e (hM.inj i j b d hb hj hh.symm))]; exact q1, q2, q4, q5⟩
  · intro j k d1 d2 hj hk he
    obtain ⟨e1, q1⟩ := hget j d1 hj
    obtain ⟨e2, q2⟩ := hget k d2 hk
    exact hM.inj j k e1 e2 q1 q2 he
  · intro r R hR
    obtain ⟨ds, q1, q2⟩ := hM.row r R hR
    refine ⟨ds, ⟨q1.1, ?_⟩, q2⟩
    rcases q1.2 with h0 | ⟨g, cap, cur, e1, e2, e3, e4⟩
    · exact .inl h0
    · exact .inr ⟨g, cap, cur, e1, e2, by rw [hother g (fun hh => hM.rowb r R g i b hR (by rw [e1]; rfl) hb hh.symm)]; exact e3, e4⟩
  · intro r R g j d hR hg hj
    obtain ⟨e1, q1⟩ := hget j d hj
    exact hM.rowb r R g j e1 hR hg q1

theorem MemSat.store (hM : MemSat B w0 bs rs N h w) {i : Nat} {t : TypeId} {ls ls' : List Leaf} (hb : getB bs i = some ⟨t, ls, none⟩) {cs : List Value} (hr : LeafRels N h ls' cs) (h1 : ∀ u ∈ cs, u.oneCell' = true) :
    MemSat B w0 (setB bs i ⟨t, ls', none⟩) rs N h (w.setRow (N.ρ i) cs.toArray) := by
  obtain ⟨o0, g1, g2, g4, g5⟩ := hM.blk i _ hb
  obtain ⟨cs0, rfl, _⟩ := BlkSat.cells.1 g2
  have hother : ∀ k, k ≠ N.ρ i → (w.setRow (N.ρ i) cs.toArray).heap[k]? = w.heap[k]? := fun k hk => setRow_other w _ k _ hk
  exact hM.turnBlock hb (hM.below.trans ⟨rfl, rfl, rfl, by simp, fun k hk => hother k (by omega), Nat.le_refl _⟩) (by simp) hother (setRow_heap w _ cs0.toArray _ _ (0, 0) g1) (BlkSat.cells.2 ⟨cs, rfl, hr, h1⟩)

/-! ### A block is made -/
def Names.setB (N : Names) (d g : Nat) : Names := { N with ρ := fun k => if k = d then g else N.ρ k }

theorem MemSat.newB' (hM : MemSat B w0 bs rs N h w) {d : Nat} {b : Blk} {o : Obj} (hr : BlkSat (N.setB d w.heap.size) h b o)
    (hn : ∀ i c, getB bs i = some c → anyLeaf (Leaf.namesB d) c.cells = false) :
    MemSat B w0 ((d, b) :: bs) rs (N.setB d w.heap.size) h (w.alloc o) := by
  have hnone : h w.heap.size = none := by
    cases hh : h w.heap.size with
    | none => rfl
    | some o => exact absurd (hM.pin.lt hh) (by omega)
  have hold : ∀ k, k < w.heap.size → (w.alloc o).heap[k]? = w.heap[k]? := fun k hk => Below.heap_alloc _ _ _ hk
  have hrho : ∀ (ls : List Leaf), anyLeaf (Leaf.namesB d) ls = false → ∀ l ∈ ls, ∀ i, Leaf.namesB i l = true → (N.setB d w.heap.size).ρ i = N.ρ i := by
    intro ls hf l hl i hi
    simp only [Names.setB]
    rw [if_neg]
    intro e
    subst e
    rw [anyLeaf_false hf l hl] at hi
    cases hi
  refine ⟨hM.below.alloc hM.size _, by simp; have := hM.size; omega, ?_, ?_, ?_, ?_, hM.rowh, ?_, hM.rowr⟩
  · intro k o hk
    rw [hold k (hM.pin.lt hk)]
    exact hM.pin k o hk
  · intro i c hi
    rw [getB_cons] at hi
    by_cases e : d = i
    · subst e
      rw [if_pos rfl] at hi
      injection hi with hi; subst hi
      refine ⟨o, ?_, hr, ?_, ?_⟩
      · simp only [Names.setB, if_true]
        exact heap_alloc_new w _
      · simp only [Names.setB, if_true]; exact hM.size
      · simp only [Names.setB, if_true]; exact hnone
    · rw [if_neg e] at hi
      obtain ⟨o2, q1, q2, q4, q5⟩ := hM.blk i c hi
      have hne : (N.setB d w.heap.size).ρ i = N.ρ i := by simp only [Names.setB]; rw [if_neg (fun hh => e hh.symm)]
      rw [hne]
      refine ⟨o2, by rw [hold _ (lt_of_heap q1)]; exact q1, ?_, q4, q5⟩
      unfold BlkSat at q2 ⊢
      split at q2
      · obtain ⟨ds, p1, p2, p3⟩ := q2
        exact ⟨ds, p1, LeafRels.names _ _ p2 (hrho _ (hn i c hi)) (fun _ _ _ _ => rfl), p3⟩
      · exact q2
      · exact q2
  · intro i j c1 c2 hi hj he
    rw [getB_cons] at hi hj
    simp only [Names.setB] at he
    by_cases e1 : d = i
    · by_cases e2 : d = j
      · omega
      · rw [if_neg e2] at hj
        rw [if_pos e1.symm, if_neg (fun hh => e2 hh.symm)] at he
        obtain ⟨ds, q1, _⟩ := hM.blk j c2 hj
        have := lt_of_heap q1
        omega
    · rw [if_neg e1] at hi
      by_cases e2 : d = j
      · rw [if_neg (fun hh => e1 hh.symm), if_pos e2.symm] at he
        obtain ⟨ds, q1, _⟩ := hM.blk i c1 hi
        have := lt_of_heap q1
        omega
      · rw [if_neg e2] at hj
        rw [if_neg (fun hh => e1 hh.symm), if_neg (fun hh => e2 hh.symm)] at he
        exact hM.inj i j c1 c2 hi hj he
  · intro r R hR
    obtain ⟨ds, q1, q2⟩ := hM.row r R hR
    exact ⟨ds, q1.alloc _, q2⟩
  · intro r R g i c hR hg hi
    rw [getB_cons] at hi
    simp only [Names.setB]
    by_cases e : d = i
    · rw [if_pos e.symm]
      have := (ownBlock_lt hM hR hg).2
      omega
    · rw [if_neg e] at hi
      rw [if_neg (fun hh => e hh.symm)]
      exact hM.rowb r R g i c hR hg hi
theorem MemSat.newB (hM : MemSat B w0 bs rs N h w) {d : Nat} {b : Blk} {o : Obj} (hr : BlkSat (N.setB d w.heap.size) h b o)
    (hn : anyBlks (Leaf.namesB d) bs = false) :
    MemSat B w0 ((d, b) :: bs) rs (N.setB d w.heap.size) h (w.alloc o) :=
  hM.newB' hr fun i c hi => anyBlks_false hn i c hi
end
end Go.Fr
