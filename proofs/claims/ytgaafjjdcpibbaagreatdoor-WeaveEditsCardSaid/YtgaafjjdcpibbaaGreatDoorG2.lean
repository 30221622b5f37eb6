/-
  Texts on which the proofs of the seat's statements stand: a symbolic walk, its soundness, the functions' conditions and their proofs (2). Conditions: none.
-/
import Derived.Test.YtgaafjjdcpibbaaGreatDoorG1
import Derived.Maps.AppendAt
import Derived.Lib.AppendStr
import Derived.Lib.AppendZeros
namespace Go.Fr
open Go Go.RowKit
universe u
structure SatV (B : Nat) (w0 : World) (h0 : PHeap) (σ : St) (N : Names) (h : PHeap) (v : Nat → Value) (w : World) : Prop where
  mem : MemSat B w0 σ.blks σ.rows N h w
  grow : PLe h0 h
  dom : ∀ k, h k ≠ none → h0 k ≠ none ∨ B ≤ k
  slots : SlotSat σ.slots N h v
structure Sat (B : Nat) (w0 : World) (h0 : PHeap) (b : Nat) (u : Nat → Value) (n : Nat) (σ : St) (N : Names) (h : PHeap) (a : Act) (w : World) : Prop where
  mem : MemSat B w0 σ.blks σ.rows N h w
  grow : PLe h0 h
  dom : ∀ k, h k ≠ none → h0 k ≠ none ∨ B ≤ k
  slots : SlotSat σ.slots N h (vals b u a)
  size : a.tmps.size = n
  defers : a.defers = []
theorem Sat.v {B : Nat} {w0 : World} {h0 : PHeap} {b : Nat} {u : Nat → Value} {n : Nat} {σ : St} {N : Names} {h : PHeap} {a : Act} {w : World} (hS : Sat B w0 h0 b u n σ N h a w) : SatV B w0 h0 σ N h (vals b u a) w := ⟨hS.mem, hS.grow, hS.dom, hS.slots⟩
theorem getS_cons (k : Nat) (s : SV) (sl : Slots) (t : Nat) : getS ((k, s) :: sl) t = if k = t then s else getS sl t := by
  show (bif Nat.beq k t then s else getS sl t) = _
  cases hb : Nat.beq k t with
  | true => rw [cond_true, if_pos (Nat.eq_of_beq_eq_true hb)]
  | false => rw [cond_false, if_neg (Nat.ne_of_beq_eq_false hb)]
theorem getB_cons (k : Nat) (b : Blk) (bs : Blks) (i : Nat) : getB ((k, b) :: bs) i = if k = i then some b else getB bs i := by
  show (bif Nat.beq k i then some b else getB bs i) = _
  cases hb : Nat.beq k i with
  | true => rw [cond_true, if_pos (Nat.eq_of_beq_eq_true hb)]
  | false => rw [cond_false, if_neg (Nat.ne_of_beq_eq_false hb)]
theorem getR_cons (k : Nat) (b : RowS) (bs : Rows) (i : Nat) : getR ((k, b) :: bs) i = if k = i then some b else getR bs i := by
  show (bif Nat.beq k i then some b else getR bs i) = _
  cases hb : Nat.beq k i with
  | true => rw [cond_true, if_pos (Nat.eq_of_beq_eq_true hb)]
  | false => rw [cond_false, if_neg (Nat.ne_of_beq_eq_false hb)]
theorem getD_put {a : Act} {d : Nat} {v : Value} (hd : d < a.tmps.size) (t : Nat) : (a.put (some d) v).tmps.getD t undef = if d = t then v else a.tmps.getD t undef := by
  simp only [Act.put, Array.getD_eq_getD_getElem?, Array.getElem?_setIfInBounds]
  split
  · rename_i e; subst e; simp
  · rfl
theorem size_put (a : Act) (d : Option Nat) (v : Value) : (a.put d v).tmps.size = a.tmps.size := by cases d <;> simp [Act.put]
theorem defers_put (a : Act) (d : Option Nat) (v : Value) : (a.put d v).defers = a.defers := by cases d <;> rfl
theorem vals_put {b : Nat} {u : Nat → Value} {a : Act} {d : Nat} {v : Value} (hd : d < a.tmps.size) (t : Nat) : vals b u (a.put (some d) v) t = if b + d = t then v else vals b u a t := by
  unfold vals
  by_cases ht : t < b
  · rw [if_pos ht, if_neg (by omega), if_pos ht]
  · rw [if_neg ht, if_neg ht, getD_put hd]
    by_cases e : b + d = t
    · rw [if_pos e, if_pos (by omega)]
    · rw [if_neg e, if_neg (by omega)]
theorem SlotSat.put {b : Nat} {u : Nat → Value} {sl : Slots} {N : Names} {h : PHeap} {a : Act} (hs : SlotSat sl N h (vals b u a)) {d : Nat} (hd : d < a.tmps.size) {s : SV} {v : Value} (hv : s.rel N h v) : SlotSat ((b + d, s) :: sl) N h (vals b u (a.put (some d) v)) := by
  intro t
  rw [getS_cons, vals_put hd]
  split
  · exact hv
  · exact hs t
section
variable {B : Nat} {w0 w w' : World} {bs : Blks} {rs : Rows} {N : Names} {h0 h h' : PHeap} {b : Nat} {u : Nat → Value} {sl : Slots} {a : Act} {n : Nat}
theorem Sat.put {σ : St} (hS : Sat B w0 h0 b u n σ N h a w) {d : Option Nat} (hd : ∀ t, d = some t → t < n) {s : SV} {v : Value} (hv : s.rel N h v) : Sat B w0 h0 b u n (σ.put (dstAt b d) s) N h (a.put d v) w := by
  cases d with
  | none => exact hS
  | some t => exact ⟨hS.mem, hS.grow, hS.dom, hS.slots.put (by rw [hS.size]; exact hd t rfl) hv, by rw [size_put]; exact hS.size, by rw [defers_put]; exact hS.defers⟩
mutual
theorem Leaf.rel_names {N N' : Names} : (l : Leaf) → {v : Value} → l.rel N h v → (∀ i, Leaf.namesB i l = true → N'.ρ i = N.ρ i) → (∀ i, Leaf.namesR i l = true → N'.V i = N.V i) → l.rel N' h v
  | .any, _, _, _, _ => by simp only [Leaf.rel]
  | .undef, _, hr, _, _ => by simp only [Leaf.rel] at hr ⊢; exact hr
  | .blit _, _, hr, _, _ => by simp only [Leaf.rel] at hr ⊢; exact hr
  | .tv _ _, _, hr, _, _ => by simp only [Leaf.rel] at hr ⊢; exact hr
  | .raw _, _, hr, _, _ => by simp only [Leaf.rel] at hr ⊢; exact hr
  | .ptr i off, _, hr, hb, _ => by simp only [Leaf.rel] at hr ⊢; rw [hb i (by simp [Leaf.namesB])]; exact hr
  | .mref i, _, hr, hb, _ => by simp only [Leaf.rel] at hr ⊢; rw [hb i (by simp [Leaf.namesB])]; exact hr
  | .eptr _ _ _ _, _, hr, _, _ => by simp only [Leaf.rel] at hr ⊢; exact hr
  | .row r, _, hr, _, hv => by simp only [Leaf.rel] at hr ⊢; rw [hv r (by simp [Leaf.namesR])]; exact hr
  | .rptr r _ _ _, _, hr, _, hv => by simp only [Leaf.rel] at hr ⊢; rw [hv r (by simp [Leaf.namesR])]; exact hr
  | .rsub r _ _, _, hr, _, hv => by simp only [Leaf.rel] at hr ⊢; rw [hv r (by simp [Leaf.namesR])]; exact hr
  | .clo f caps, _, hr, hb, hv => by
    simp only [Leaf.rel] at hr ⊢
    obtain ⟨vs, e1, e2⟩ := hr
    exact ⟨vs, e1, rels_names caps e2 (fun i hi => hb i (by simpa only [Leaf.namesB] using hi)) (fun i hi => hv i (by simpa only [Leaf.namesR] using hi))⟩
theorem rels_names {N N' : Names} : (ls : List Leaf) → {vs : List Value} → LeafRels N h ls vs → (∀ i, anyB i ls = true → N'.ρ i = N.ρ i) → (∀ i, anyR i ls = true → N'.V i = N.V i) → LeafRels N' h ls vs
  | [], _, hr, _, _ => by rw [LeafRels] at hr ⊢; exact hr
  | l :: ls, _, hr, hb, hv => by
    rw [LeafRels] at hr ⊢
    obtain ⟨v, r, e0, e1, e2⟩ := hr
    exact ⟨v, r, e0, Leaf.rel_names l e1 (fun i hi => hb i (by simp only [anyB, hi, Bool.true_or])) (fun i hi => hv i (by simp only [anyR, hi, Bool.true_or])),
      rels_names ls e2 (fun i hi => hb i (by simp only [anyB, hi, Bool.or_true])) (fun i hi => hv i (by simp only [anyR, hi, Bool.or_true]))⟩
end
theorem anyLeaf_false {f : Leaf → Bool} : {ls : List Leaf} → anyLeaf f ls = false → ∀ l ∈ ls, f l = false
  | [], _, l, hl => by cases hl
  | x :: r, e, l, hl => by
    simp only [anyLeaf, Bool.or_eq_false_iff] at e
    rcases List.mem_cons.1 hl with e' | e'
    · subst e'; exact e.1
    · exact anyLeaf_false e.2 l e'
theorem LeafRels.names {N N' : Names} : (ls : List Leaf) → (vs : List Value) → LeafRels N h ls vs → (∀ l ∈ ls, ∀ i, Leaf.namesB i l = true → N'.ρ i = N.ρ i) → (∀ l ∈ ls, ∀ i, Leaf.namesR i l = true → N'.V i = N.V i) → LeafRels N' h ls vs
  | [], _, hr, _, _ => by rw [LeafRels] at hr ⊢; exact hr
  | l :: ls, _, hr, hb, hv => by
    rw [LeafRels] at hr ⊢
    obtain ⟨v, r, e0, e1, e2⟩ := hr
    exact ⟨v, r, e0, l.rel_names e1 (hb l (List.mem_cons_self ..)) (hv l (List.mem_cons_self ..)), LeafRels.names ls r e2 (fun l hl => hb l (List.mem_cons_of_mem _ hl)) (fun l hl => hv l (List.mem_cons_of_mem _ hl))⟩
theorem SV.rel_names {N N' : Names} (s : SV) {v : Value} (hr : s.rel N h v) (hb : ∀ i, s.anyL (Leaf.namesB i) = true → N'.ρ i = N.ρ i) (hv : ∀ i, s.anyL (Leaf.namesR i) = true → N'.V i = N.V i) : s.rel N' h v := by
  have any : ∀ (f : Leaf → Bool) (ls : List Leaf) (l : Leaf), l ∈ ls → f l = true → anyLeaf f ls = true := by
    intro f ls l hl hf
    induction ls with
    | nil => cases hl
    | cons c cs ih =>
      simp only [anyLeaf, Bool.or_eq_true]
      rcases List.mem_cons.1 hl with e | e
      · subst e; exact .inl hf
      · exact .inr (ih e)
  cases s with
  | leaf l => exact SV.leaf_iff.2 (l.rel_names (SV.leaf_iff.1 hr) hb hv)
  | agg ls =>
    obtain ⟨cs, e1, e2, e3⟩ := hr
    exact ⟨cs, e1, LeafRels.names ls cs e2 (fun l hl i hi => hb i (any _ ls l hl hi)) (fun l hl i hi => hv i (any _ ls l hl hi)), e3⟩
  | tupv t x => exact hr
theorem anySlots_false {f : Leaf → Bool} : {sl : Slots} → anySlots f sl = false → ∀ t, (getS sl t).anyL f = true → f .any = true
  | [], _, t, ht => ht
  | (k, s) :: r, e, t, ht => by
    simp only [anySlots, Bool.or_eq_false_iff] at e
    rw [getS_cons] at ht
    split at ht
    · rw [e.1] at ht; cases ht
    · exact anySlots_false e.2 t ht
theorem anyBlks_false {f : Leaf → Bool} : {bs : Blks} → anyBlks f bs = false → ∀ i b, getB bs i = some b → anyLeaf f b.cells = false
  | [], _, i, b, hb => by cases hb
  | (k, c) :: r, e, i, b, hb => by
    simp only [anyBlks, Bool.or_eq_false_iff] at e
    rw [getB_cons] at hb
    split at hb
    · injection hb with hb; subst hb; exact e.1
    · exact anyBlks_false e.2 i b hb
theorem getB_setB (bs : Blks) (i : Nat) (c : Blk) (j : Nat) : getB (setB bs i c) j = if i = j then (getB bs j).map fun _ => c else getB bs j := by
  induction bs with
  | nil => simp [setB, getB]
  | cons p r ih =>
    obtain ⟨k, b⟩ := p
    unfold setB
    cases hb : Nat.beq k i with
    | true =>
      have := Nat.eq_of_beq_eq_true hb
      subst this
      rw [cond_true, getB_cons, getB_cons]
      by_cases hj : k = j <;> simp [hj]
    | false =>
      have := Nat.ne_of_beq_eq_false hb
      rw [cond_false, getB_cons, getB_cons, ih]
      by_cases hj : k = j
      · subst hj
        simp [Ne.symm this]
      · simp [hj]
theorem MemSat.turnBlock (hM : MemSat B w0 bs rs N h w) {i : Nat} {b c : Blk} (hb : getB bs i = some b) (hbel : Below B w0 w') (hsz : w'.heap.size = w.heap.size) (hother : ∀ k, k ≠ N.ρ i → w'.heap[k]? = w.heap[k]?)
    {o : Obj} (hat : w'.heap[N.ρ i]? = some o) (hc : BlkSat N h c o) : MemSat B w0 (setB bs i c) rs N h w' := by
  obtain ⟨o0, g1, g2, g4, g5⟩ := hM.blk i b hb
  have hget : ∀ j d, getB (setB bs i c) j = some d → ∃ d', getB bs j = some d' := by
    intro j d hj
    rw [getB_setB] at hj
    split at hj
    · rename_i e; subst e; exact ⟨b, hb⟩
    · exact ⟨d, hj⟩
  refine ⟨hbel, by rw [hsz]; exact hM.size, ?_, ?_, ?_, ?_, hM.rowh, ?_, hM.rowr⟩
  · intro k o hk
    rw [hother k (fun e => by rw [e, g5] at hk; cases hk)]
    exact hM.pin k o hk
  · intro j d hj
    rw [getB_setB] at hj
    by_cases e : i = j
    · subst e
      rw [if_pos rfl, hb] at hj
      simp only [Option.map_some, Option.some.injEq] at hj
      subst hj
      exact ⟨o, hat, hc, g4, g5⟩
    · rw [if_neg e] at hj
      obtain ⟨d0, q1, q2, q4, q5⟩ := hM.blk j d hj
      exact ⟨d0, by rw [hother _ (fun hh => e (hM.inj i j b d hb hj hh.symm))]; exact q1, q2, q4, q5⟩
  · intro j k d1 d2 hj hk he
    obtain ⟨e1, q1⟩ := hget j d1 hj
    obtain ⟨e2, q2⟩ := hget k d2 hk
    exact hM.inj j k e1 e2 q1 q2 he
  · intro r R hR
    obtain ⟨ds, q1, q2⟩ := hM.row r R hR
    refine ⟨ds, ⟨q1.1, ?_⟩, q2⟩
    rcases q1.2 with h0 | ⟨g, cap, cur, e1, e2, e3, e4⟩
    · exact .inl h0
    · exact .inr ⟨g, cap, cur, e1, e2, by rw [hother g (fun hh => hM.rowb r R g i b hR (by rw [e1]; rfl) hb hh.symm)]; exact e3, e4⟩
  · intro r R g j d hR hg hj
    obtain ⟨e1, q1⟩ := hget j d hj
    exact hM.rowb r R g j e1 hR hg q1
theorem MemSat.store (hM : MemSat B w0 bs rs N h w) {i : Nat} {t : TypeId} {ls ls' : List Leaf} (hb : getB bs i = some ⟨t, ls, none⟩) {cs : List Value} (hr : LeafRels N h ls' cs) (h1 : ∀ u ∈ cs, u.oneCell' = true) :
    MemSat B w0 (setB bs i ⟨t, ls', none⟩) rs N h (w.setRow (N.ρ i) cs.toArray) := by
  obtain ⟨o0, g1, g2, g4, g5⟩ := hM.blk i _ hb
  obtain ⟨cs0, rfl, _⟩ := BlkSat.cells.1 g2
  have hother : ∀ k, k ≠ N.ρ i → (w.setRow (N.ρ i) cs.toArray).heap[k]? = w.heap[k]? := fun k hk => setRow_other w _ k _ hk
  exact hM.turnBlock hb (hM.below.trans ⟨rfl, rfl, rfl, by simp, fun k hk => hother k (by omega), Nat.le_refl _⟩) (by simp) hother (setRow_heap w _ cs0.toArray _ _ (0, 0) g1) (BlkSat.cells.2 ⟨cs, rfl, hr, h1⟩)
def Names.setB (N : Names) (d g : Nat) : Names := { N with ρ := fun k => if k = d then g else N.ρ k }
theorem MemSat.newB' (hM : MemSat B w0 bs rs N h w) {d : Nat} {b : Blk} {o : Obj} (hr : BlkSat (N.setB d w.heap.size) h b o)
    (hn : ∀ i c, getB bs i = some c → anyLeaf (Leaf.namesB d) c.cells = false) :
    MemSat B w0 ((d, b) :: bs) rs (N.setB d w.heap.size) h (w.alloc o) := by
  have hnone : h w.heap.size = none := by
    cases hh : h w.heap.size with
    | none => rfl
    | some o => exact absurd (hM.pin.lt hh) (by omega)
  have hold : ∀ k, k < w.heap.size → (w.alloc o).heap[k]? = w.heap[k]? := fun k hk => Below.heap_alloc _ _ _ hk
  have hrho : ∀ (ls : List Leaf), anyLeaf (Leaf.namesB d) ls = false → ∀ l ∈ ls, ∀ i, Leaf.namesB i l = true → (N.setB d w.heap.size).ρ i = N.ρ i := by
    intro ls hf l hl i hi
    simp only [Names.setB]
    rw [if_neg]
    intro e
    subst e
    rw [anyLeaf_false hf l hl] at hi
    cases hi
  refine ⟨hM.below.alloc hM.size _, by simp; have := hM.size; omega, ?_, ?_, ?_, ?_, hM.rowh, ?_, hM.rowr⟩
  · intro k o hk
    rw [hold k (hM.pin.lt hk)]
    exact hM.pin k o hk
  · intro i c hi
    rw [getB_cons] at hi
    by_cases e : d = i
    · subst e
      rw [if_pos rfl] at hi
      injection hi with hi; subst hi
      refine ⟨o, ?_, hr, ?_, ?_⟩
      · simp only [Names.setB, if_true]
        exact heap_alloc_new w _
      · simp only [Names.setB, if_true]; exact hM.size
      · simp only [Names.setB, if_true]; exact hnone
    · rw [if_neg e] at hi
      obtain ⟨o2, q1, q2, q4, q5⟩ := hM.blk i c hi
      have hne : (N.setB d w.heap.size).ρ i = N.ρ i := by simp only [Names.setB]; rw [if_neg (fun hh => e hh.symm)]
      rw [hne]
      refine ⟨o2, by rw [hold _ (lt_of_heap q1)]; exact q1, ?_, q4, q5⟩
      unfold BlkSat at q2 ⊢
      split at q2
      · obtain ⟨ds, p1, p2, p3⟩ := q2
        exact ⟨ds, p1, LeafRels.names _ _ p2 (hrho _ (hn i c hi)) (fun _ _ _ _ => rfl), p3⟩
      · exact q2
      · exact q2
  · intro i j c1 c2 hi hj he
    rw [getB_cons] at hi hj
    simp only [Names.setB] at he
    by_cases e1 : d = i
    · by_cases e2 : d = j
      · omega
      · rw [if_neg e2] at hj
        rw [if_pos e1.symm, if_neg (fun hh => e2 hh.symm)] at he
        obtain ⟨ds, q1, _⟩ := hM.blk j c2 hj
        have := lt_of_heap q1
        omega
    · rw [if_neg e1] at hi
      by_cases e2 : d = j
      · rw [if_neg (fun hh => e1 hh.symm), if_pos e2.symm] at he
        obtain ⟨ds, q1, _⟩ := hM.blk i c1 hi
        have := lt_of_heap q1
        omega
      · rw [if_neg e2] at hj
        rw [if_neg (fun hh => e1 hh.symm), if_neg (fun hh => e2 hh.symm)] at he
        exact hM.inj i j c1 c2 hi hj he
  · intro r R hR
    obtain ⟨ds, q1, q2⟩ := hM.row r R hR
    exact ⟨ds, q1.alloc _, q2⟩
  · intro r R g i c hR hg hi
    rw [getB_cons] at hi
    simp only [Names.setB]
    by_cases e : d = i
    · rw [if_pos e.symm]
      have := (ownBlock_lt hM hR hg).2
      omega
    · rw [if_neg e] at hi
      rw [if_neg (fun hh => e hh.symm)]
      exact hM.rowb r R g i c hR hg hi
theorem MemSat.newB (hM : MemSat B w0 bs rs N h w) {d : Nat} {b : Blk} {o : Obj} (hr : BlkSat (N.setB d w.heap.size) h b o)
    (hn : anyBlks (Leaf.namesB d) bs = false) :
    MemSat B w0 ((d, b) :: bs) rs (N.setB d w.heap.size) h (w.alloc o) :=
  hM.newB' hr fun i c hi => anyBlks_false hn i c hi
end
end Go.Fr
namespace Go.Fr
open Go Go.RowKit Go.Lib
universe u
section
variable {P : Program} {E : Env} {B : Nat} {w0 w w' : World} {bs : Blks} {rs : Rows} {N : Names} {h h' : PHeap} {sl : Slots} {v : Nat → Value} {n : Nat}
theorem SV.sub_any (g : Nat → Option Leaf) : SV.sub g (.leaf .any) = .leaf .any := rfl
theorem mapSlots_get (g : Nat → Option Leaf) : (sl : Slots) → ∀ t, getS (mapSlots g sl) t = (getS sl t).sub g
  | [], t => rfl
  | (k, s) :: r, t => by
    show getS ((k, s.sub g) :: mapSlots g r) t = _
    rw [getS_cons, getS_cons, mapSlots_get g r t]
    split <;> rfl
theorem mapBlks_get (g : Nat → Option Leaf) : (bs : Blks) → ∀ i, getB (mapBlks g bs) i = (getB bs i).map fun b => ⟨b.ty, subs g b.cells, b.it⟩
  | [], i => rfl
  | (k, b) :: r, i => by
    show getB ((k, ⟨b.ty, subs g b.cells, b.it⟩) :: mapBlks g r) i = _
    rw [getB_cons, getB_cons, mapBlks_get g r i]
    split <;> rfl
theorem rmR_get : (rs : Rows) → ∀ r i, getR (rmR rs r) i = if r = i then none else getR rs i
  | [], r, i => by simp [rmR, getR]
  | (k, R) :: rs, r, i => by
    unfold rmR
    cases hb : Nat.beq k r with
    | true =>
      have := Nat.eq_of_beq_eq_true hb
      subst this
      rw [cond_true, rmR_get rs, getR_cons]
      split <;> simp [*]
    | false =>
      have := Nat.ne_of_beq_eq_false hb
      rw [cond_false, getR_cons, getR_cons, rmR_get rs]
      by_cases e : k = i
      · subst e; simp [Ne.symm this]
      · simp [e]
def Keeps (N : Names) (_h : PHeap) (h' : PHeap) (g : Nat → Option Leaf) : Prop := ∀ i l, g i = some l → ∀ v, v = N.V i ∧ v.oneCell' = true → l.rel N h' v
mutual
theorem Leaf.rel_sub {g : Nat → Option Leaf} (hg : Keeps N h h' g) (hl : PLe h h') : (l : Leaf) → {v : Value} → l.rel N h v → (l.sub g).rel N h' v
  | .row i, v, hr => by
    simp only [Leaf.sub]
    cases hi : g i with
    | none => exact Leaf.rel_mono hl _ v hr
    | some l => exact hg i l hi v (by simpa only [Leaf.rel] using hr)
  | .rptr i a b c, v, hr => by
    simp only [Leaf.sub]
    cases hi : g i with
    | none => exact Leaf.rel_mono hl _ v hr
    | some l => simp only [Leaf.rel]
  | .rsub i a b, v, hr => by
    simp only [Leaf.sub]
    cases hi : g i with
    | none => exact Leaf.rel_mono hl _ v hr
    | some l => simp only [Leaf.rel]
  | .clo f caps, v, hr => by
    simp only [Leaf.sub, Leaf.rel] at hr ⊢
    obtain ⟨vs, e1, e2⟩ := hr
    exact ⟨vs, e1, rels_sub hg hl caps e2⟩
  | .any, v, hr => Leaf.rel_mono hl _ v hr
  | .undef, v, hr => Leaf.rel_mono hl _ v hr
  | .blit _, v, hr => Leaf.rel_mono hl _ v hr
  | .tv _ _, v, hr => Leaf.rel_mono hl _ v hr
  | .raw _, v, hr => Leaf.rel_mono hl _ v hr
  | .ptr _ _, v, hr => Leaf.rel_mono hl _ v hr
  | .mref _, v, hr => Leaf.rel_mono hl _ v hr
  | .eptr _ _ _ _, v, hr => Leaf.rel_mono hl _ v hr
theorem rels_sub {g : Nat → Option Leaf} (hg : Keeps N h h' g) (hl : PLe h h') : (ls : List Leaf) → {vs : List Value} → LeafRels N h ls vs → LeafRels N h' (subs g ls) vs
  | [], _, hr => by rw [LeafRels] at hr; simp only [subs]; exact LeafRels.nil_iff.2 hr
  | l :: ls, _, hr => by
    rw [LeafRels] at hr
    obtain ⟨v, r, rfl, e1, e2⟩ := hr
    simp only [subs]
    exact LeafRels.cons (Leaf.rel_sub hg hl l e1) (rels_sub hg hl ls e2)
end
theorem SV.rel_sub {g : Nat → Option Leaf} (hg : Keeps N h h' g) (hl : PLe h h') (s : SV) {v : Value} (hr : s.rel N h v) : (s.sub g).rel N h' v := by
  cases s with
  | leaf l => exact SV.leaf_iff.2 (l.rel_sub hg hl (SV.leaf_iff.1 hr))
  | agg ls =>
    obtain ⟨cs, e1, e2, e3⟩ := hr
    exact ⟨cs, e1, rels_sub hg hl ls e2, e3⟩
  | tupv t x =>
    obtain ⟨vs, e1, e2⟩ := hr
    exact ⟨vs, e1, trep_mono hl t x vs e2⟩
theorem SlotSat.mapped {g : Nat → Option Leaf} (hg : Keeps N h h' g) (hl : PLe h h') (hs : SlotSat sl N h v) : SlotSat (mapSlots g sl) N h' v := fun t => by
  rw [mapSlots_get g]
  exact SV.rel_sub hg hl _ (hs t)
theorem BlkSat.mapped {g : Nat → Option Leaf} (hg : Keeps N h h' g) (hl : PLe h h') {b : Blk} {o : Obj} (e : BlkSat N h b o) : BlkSat N h' ⟨b.ty, subs g b.cells, b.it⟩ o := by
  obtain ⟨t, ls, it⟩ := b
  cases it with
  | none =>
    obtain ⟨cs, q1, q2, q3⟩ := BlkSat.cells.1 e
    exact BlkSat.cells.2 ⟨cs, q1, rels_sub hg hl ls q2, q3⟩
  | some p =>
    cases p with
    | str s p => exact e
    | map =>
      obtain ⟨K, V, xs, es, cl, q1, q2, q3⟩ := BlkSat.map.1 e
      subst q1
      exact BlkSat.map.2 ⟨K, V, xs, es, cl, rfl, q2, MapRep.mono hl _ _ q3⟩
theorem forget_keeps (r : Nat) : Keeps N h h (forget r) := by
  intro i l hl v hv
  unfold forget at hl
  cases hb : Nat.beq i r with
  | true => rw [hb] at hl; injection hl with hl; subst hl; simp only [Leaf.rel]
  | false => rw [hb] at hl; cases hl
theorem MemSat.mapBlks {g : Nat → Option Leaf} (hg : Keeps N h h g) (hM : MemSat B w0 bs rs N h w) : MemSat B w0 (Go.Fr.mapBlks g bs) rs N h w := by
  have hget : ∀ i b, getB (Go.Fr.mapBlks g bs) i = some b → ∃ c, getB bs i = some c ∧ b = ⟨c.ty, subs g c.cells, c.it⟩ := by
    intro i b hb
    rw [mapBlks_get] at hb
    cases hc : getB bs i with
    | none => rw [hc] at hb; cases hb
    | some c => rw [hc] at hb; injection hb with hb; exact ⟨c, rfl, hb.symm⟩
  refine ⟨hM.below, hM.size, hM.pin, ?_, ?_, hM.row, hM.rowh, ?_, hM.rowr⟩
  · intro i b hb
    obtain ⟨c, hc, rfl⟩ := hget i b hb
    obtain ⟨o, q1, q2, q4⟩ := hM.blk i c hc
    exact ⟨o, q1, q2.mapped hg (PLe.refl h), q4⟩
  · intro i j b c hb hc he
    obtain ⟨b', hb', _⟩ := hget i b hb
    obtain ⟨c', hc', _⟩ := hget j c hc
    exact hM.inj i j b' c' hb' hc' he
  · intro r R g i b hR hg hb
    obtain ⟨b', hb', _⟩ := hget i b hb
    exact hM.rowb r R g i b' hR hg hb'
theorem MemSat.rmRow (hM : MemSat B w0 bs rs N h w) (r : Nat) : MemSat B w0 bs (rmR rs r) N h w := by
  have hget : ∀ i R, getR (rmR rs r) i = some R → getR rs i = some R ∧ r ≠ i := by
    intro i R hR
    rw [rmR_get] at hR
    split at hR
    · cases hR
    · rename_i e; exact ⟨hR, e⟩
  exact ⟨hM.below, hM.size, hM.pin, hM.blk, hM.inj, fun i R hR => hM.row i R (hget i R hR).1, fun i R g hR => hM.rowh i R g (hget i R hR).1,
    fun i R g j b hR => hM.rowb i R g j b (hget i R hR).1, fun i j R S g hR hS => hM.rowr i j R S g (hget i R hR).1 (hget j S hS).1⟩
def Names.setR (N : Names) (d : Nat) (v : Value) : Names := { N with V := fun k => if k = d then v else N.V k }
theorem MemSat.newR (hM : MemSat B w0 bs rs N h w) {d : Nat} {R : RowS} {v : Value} {cs : List Value} {row : Option Nat} (hb : Below B w0 w') (hsz : w.heap.size ≤ w'.heap.size)
    (hgr : ∀ k, k < w.heap.size → some k ≠ row → w'.heap[k]? = w.heap[k]?) (ho : w'.ownsRow B R.e R.t.size v R.xs.length cs) (hc : RowCells h R.t R.xs cs)
    (hfree : ∀ g, v.ownBlock = some g ∨ row = some g → h g = none ∧ (∀ i b, getB bs i = some b → N.ρ i ≠ g) ∧ (∀ s S, getR rs s = some S → (N.V s).ownBlock ≠ some g))
    (hn : anyBlks (Leaf.namesR d) bs = false) : MemSat B w0 bs ((d, R) :: rs) (N.setR d v) h w' := by
  have hV : ∀ (ls : List Leaf), anyLeaf (Leaf.namesR d) ls = false → ∀ l ∈ ls, ∀ i, Leaf.namesR i l = true → (N.setR d v).V i = N.V i := by
    intro ls hf l hl i hi
    simp only [Names.setR]
    rw [if_neg]
    intro e
    subst e
    rw [anyLeaf_false hf l hl] at hi
    cases hi
  refine ⟨hb, Nat.le_trans hM.size hsz, ?_, ?_, hM.inj, ?_, ?_, ?_, ?_⟩
  · intro k o hk
    have hlt := hM.pin.lt hk
    rw [hgr k hlt (fun e => by rw [(hfree k (.inr e.symm)).1] at hk; cases hk)]
    exact hM.pin k o hk
  · intro i b hi
    obtain ⟨o, q1, q2, q4, q5⟩ := hM.blk i b hi
    refine ⟨o, by rw [show (N.setR d v).ρ i = N.ρ i from rfl, hgr _ (lt_of_heap q1) (fun e => (hfree _ (.inr e.symm)).2.1 i b hi rfl)]; exact q1, ?_, q4, q5⟩
    unfold BlkSat at q2 ⊢
    split at q2
    · obtain ⟨ds, p1, p2, p3⟩ := q2
      exact ⟨ds, p1, LeafRels.names _ _ p2 (fun _ _ _ _ => rfl) (hV _ (anyBlks_false hn i b hi)), p3⟩
    · exact q2
    · exact q2
  · intro r S hS
    rw [getR_cons] at hS
    simp only [Names.setR]
    by_cases e : d = r
    · subst e
      rw [if_pos rfl] at hS ⊢
      injection hS with hS; subst hS
      exact ⟨cs, ho, hc⟩
    · rw [if_neg e] at hS
      rw [if_neg (fun hh => e hh.symm)]
      obtain ⟨ds, q1, q2⟩ := hM.row r S hS
      refine ⟨ds, ⟨q1.1, ?_⟩, q2⟩
      rcases q1.2 with h0 | ⟨g, cap, cur, e1, e2, e3, e4⟩
      · exact .inl h0
      · exact .inr ⟨g, cap, cur, e1, e2, by rw [hgr g (lt_of_heap e3) (fun hh => (hfree g (.inr hh.symm)).2.2 r S hS (by rw [e1]; rfl))]; exact e3, e4⟩
  · intro r S g hS hg
    rw [getR_cons] at hS
    simp only [Names.setR] at hg
    by_cases e : d = r
    · subst e
      rw [if_pos rfl] at hg
      exact (hfree g (.inl hg)).1
    · rw [if_neg e] at hS
      rw [if_neg (fun hh => e hh.symm)] at hg
      exact hM.rowh r S g hS hg
  · intro r S g i b hS hg hi
    rw [getR_cons] at hS
    simp only [Names.setR] at hg ⊢
    by_cases e : d = r
    · subst e
      rw [if_pos rfl] at hg
      exact (hfree g (.inl hg)).2.1 i b hi
    · rw [if_neg e] at hS
      rw [if_neg (fun hh => e hh.symm)] at hg
      exact hM.rowb r S g i b hS hg hi
  · intro r s R1 R2 g h1 h2 g1 g2
    rw [getR_cons] at h1 h2
    simp only [Names.setR] at g1 g2
    by_cases e1 : d = r
    · by_cases e2 : d = s
      · omega
      · rw [if_neg e2] at h2
        rw [if_pos e1.symm] at g1
        rw [if_neg (fun hh => e2 hh.symm)] at g2
        exact absurd g2 ((hfree g (.inl g1)).2.2 s R2 h2)
    · rw [if_neg e1] at h1
      rw [if_neg (fun hh => e1 hh.symm)] at g1
      by_cases e2 : d = s
      · rw [if_pos e2.symm] at g2
        exact absurd g1 ((hfree g (.inl g2)).2.2 r R1 h1)
      · rw [if_neg e2] at h2
        rw [if_neg (fun hh => e2 hh.symm)] at g2
        exact hM.rowr r s R1 R2 g h1 h2 g1 g2
theorem list_cells (t : Ty) (ad : Addr) : (ys : List t.den) → (k : Nat) → (∀ (i : Nat) x, ys[i]? = some x → ∃ ds, rep h t x ds ∧ CellsAt h (ad.add ((k + i) * t.size)) ds) →
    ∃ news, RowCells h t ys news ∧ ∀ (j : Nat) u, news[j]? = some u → hcell h (ad.add (k * t.size + j)) = some u
  | [], k, _ => ⟨[], rfl, fun j u hu => by simp at hu⟩
  | y :: ys, k, hy => by
    obtain ⟨ds, g1, g2⟩ := hy 0 y rfl
    obtain ⟨news, q1, q2⟩ := list_cells t ad ys (k + 1) fun i x hx => by
      obtain ⟨es, p1, p2⟩ := hy (i + 1) x (by simpa using hx)
      exact ⟨es, p1, by rw [show k + 1 + i = k + (i + 1) by omega]; exact p2⟩
    have hl := rep_len t y ds g1
    refine ⟨ds ++ news, ⟨ds, news, rfl, g1, q1⟩, fun j u hu => ?_⟩
    by_cases hj : j < ds.length
    · rw [List.getElem?_append_left hj] at hu
      have := g2 j u hu
      rw [add_add, Nat.add_zero] at this
      exact this
    · rw [List.getElem?_append_right (by omega)] at hu
      have := q2 _ u hu
      rw [show (k + 1) * t.size + (j - ds.length) = k * t.size + j by rw [Nat.add_mul]; omega] at this
      exact this
theorem run_append_nil_src (base : Nat) (t ty e : TypeId) (i : TypeInfo) (size : Nat) (ht : P.underlying t = some (.slice e)) (hi : P.info? e = some i)
    (v : Value) (n : Nat) (xs : List Value) (hown : w.ownsRow base e size v n xs) (c : Nat) : (Builtin.append_ #[t, t] ty #[v, .slice none 0 c]).run P w = .ok v w := by
  rcases hown.2 with ⟨rfl, rfl⟩ | ⟨g, cap, cur, rfl, _, _, hnc, _⟩
  · simp [Builtin.append_, run_underlying ht, sizeOf, typeInfo, hi, Builtin.lenOf, Builtin.firstCells]
  · simp [Builtin.append_, run_underlying ht, sizeOf, typeInfo, hi, Builtin.lenOf, Builtin.firstCells, hnc, storeCells]
theorem getR_setR (rs : Rows) (i : Nat) (c : RowS) (j : Nat) : getR (setR rs i c) j = if i = j then (getR rs j).map fun _ => c else getR rs j := by
  induction rs with
  | nil => simp [setR, getR]
  | cons p r ih =>
    obtain ⟨k, b⟩ := p
    unfold setR
    cases hb : Nat.beq k i with
    | true =>
      have := Nat.eq_of_beq_eq_true hb
      subst this
      rw [cond_true, getR_cons, getR_cons]
      by_cases hj : k = j <;> simp [hj]
    | false =>
      have := Nat.ne_of_beq_eq_false hb
      rw [cond_false, getR_cons, getR_cons, ih]
      by_cases hj : k = j
      · subst hj
        simp [Ne.symm this]
      · simp [hj]
theorem RowCells_set (t : Ty) : (xs : List t.den) → (cs : List Value) → RowCells h t xs cs → ∀ (i : Nat) (y : t.den) (ds : List Value), i < xs.length → rep h t y ds → RowCells h t (xs.set i y) (cs.take (i * t.size) ++ ds ++ cs.drop (i * t.size + t.size))
  | [], _, _, i, y, ds, hi, _ => by simp at hi
  | x :: xs, cs, ⟨d, r, e, h1, h2⟩, 0, y, ds, hi, hy => by
    subst e
    have hd := rep_len t x d h1
    refine ⟨ds, r, ?_, hy, h2⟩
    simp [hd]
  | x :: xs, cs, ⟨d, r, e, h1, h2⟩, i + 1, y, ds, hi, hy => by
    subst e
    have hd := rep_len t x d h1
    have ih := RowCells_set t xs r h2 i y ds (by simpa using hi) hy
    refine ⟨d, _, ?_, h1, ih⟩
    have e1 : (i + 1) * t.size = d.length + i * t.size := by rw [hd, Nat.add_mul]; omega
    rw [e1, Nat.add_assoc, List.take_length_add_append, List.drop_length_add_append]
    simp [List.append_assoc]
theorem MemSat.turnRow (hM : MemSat B w0 bs rs N h w) {r : Nat} {R R' : RowS} (hR : getR rs r = some R) {g : Nat} (hg : (N.V r).ownBlock = some g) (hbel : Below B w0 w') (hsz : w'.heap.size = w.heap.size)
    (hother : ∀ k, k ≠ g → w'.heap[k]? = w.heap[k]?) {cs : List Value} (ho : w'.ownsRow B R'.e R'.t.size (N.V r) R'.xs.length cs) (hc : RowCells h R'.t R'.xs cs) : MemSat B w0 bs (setR rs r R') N h w' := by
  have hget : ∀ j S, getR (setR rs r R') j = some S → ∃ S', getR rs j = some S' := by
    intro j S hj
    rw [getR_setR] at hj
    split at hj
    · rename_i e; subst e; exact ⟨R, hR⟩
    · exact ⟨S, hj⟩
  refine ⟨hbel, by rw [hsz]; exact hM.size, ?_, ?_, hM.inj, ?_, ?_, ?_, ?_⟩
  · intro k o hk
    rw [hother k (fun e => by rw [e, hM.rowh r R g hR hg] at hk; cases hk)]
    exact hM.pin k o hk
  · intro i b hb
    obtain ⟨o, q1, q2, q4, q5⟩ := hM.blk i b hb
    exact ⟨o, by rw [hother _ (hM.rowb r R g i b hR hg hb)]; exact q1, q2, q4, q5⟩
  · intro q S hS
    rw [getR_setR] at hS
    by_cases e : r = q
    · subst e
      rw [if_pos rfl, hR] at hS
      simp only [Option.map_some, Option.some.injEq] at hS
      subst hS
      exact ⟨cs, ho, hc⟩
    · rw [if_neg e] at hS
      obtain ⟨ds, q1, q2⟩ := hM.row q S hS
      refine ⟨ds, ⟨q1.1, ?_⟩, q2⟩
      rcases q1.2 with h0 | ⟨g', cap, cur, e1, e2, e3, e4⟩
      · exact .inl h0
      · exact .inr ⟨g', cap, cur, e1, e2, by rw [hother g' (fun hh => e (hM.rowr r q R S g hR hS hg (by rw [e1, ← hh]; rfl)))]; exact e3, e4⟩
  · intro q S k hq hk
    obtain ⟨S', hS'⟩ := hget q S hq
    exact hM.rowh q S' k hS' hk
  · intro q S k i b hq hk hb
    obtain ⟨S', hS'⟩ := hget q S hq
    exact hM.rowb q S' k i b hS' hk hb
  · intro q1 q2 S1 S2 k h1 h2 k1 k2
    obtain ⟨S1', hS1'⟩ := hget q1 S1 h1
    obtain ⟨S2', hS2'⟩ := hget q2 S2 h2
    exact hM.rowr q1 q2 S1' S2' k hS1' hS2' k1 k2
theorem MemSat.turnRowG (hM : MemSat B w0 bs rs N h w) {r : Nat} {R R' : RowS} (hR : getR rs r = some R) (hbel : Below B w0 w') (hsz : w.heap.size ≤ w'.heap.size)
    (hother : ∀ k, k < w.heap.size → some k ≠ (N.V r).ownBlock → w'.heap[k]? = w.heap[k]?) {cs : List Value} (ho : w'.ownsRow B R'.e R'.t.size (N.V r) R'.xs.length cs) (hc : RowCells h R'.t R'.xs cs) : MemSat B w0 bs (setR rs r R') N h w' := by
  have hget : ∀ j S, getR (setR rs r R') j = some S → ∃ S', getR rs j = some S' := by
    intro j S hj
    rw [getR_setR] at hj
    split at hj
    · rename_i e; subst e; exact ⟨R, hR⟩
    · exact ⟨S, hj⟩
  refine ⟨hbel, Nat.le_trans hM.size hsz, ?_, ?_, hM.inj, ?_, ?_, ?_, ?_⟩
  · intro k o hk
    rw [hother k (hM.pin.lt hk) (fun e => by rw [hM.rowh r R k hR e.symm] at hk; cases hk)]
    exact hM.pin k o hk
  · intro i b hb
    obtain ⟨o, q1, q2, q4, q5⟩ := hM.blk i b hb
    exact ⟨o, by rw [hother _ (lt_of_heap q1) (fun e => hM.rowb r R _ i b hR e.symm hb rfl)]; exact q1, q2, q4, q5⟩
  · intro q S hS
    rw [getR_setR] at hS
    by_cases e : r = q
    · subst e
      rw [if_pos rfl, hR] at hS
      simp only [Option.map_some, Option.some.injEq] at hS
      subst hS
      exact ⟨cs, ho, hc⟩
    · rw [if_neg e] at hS
      obtain ⟨ds, q1, q2⟩ := hM.row q S hS
      refine ⟨ds, ⟨q1.1, ?_⟩, q2⟩
      rcases q1.2 with h0 | ⟨g', cap, cur, e1, e2, e3, e4⟩
      · exact .inl h0
      · exact .inr ⟨g', cap, cur, e1, e2, by rw [hother g' (lt_of_heap e3) (fun hh => e (hM.rowr r q R S g' hR hS hh.symm (by rw [e1]; rfl)))]; exact e3, e4⟩
  · intro q S k hq hk
    obtain ⟨S', hS'⟩ := hget q S hq
    exact hM.rowh q S' k hS' hk
  · intro q S k i b hq hk hb
    obtain ⟨S', hS'⟩ := hget q S hq
    exact hM.rowb q S' k i b hS' hk hb
  · intro q1 q2 S1 S2 k h1 h2 k1 k2
    obtain ⟨S1', hS1'⟩ := hget q1 S1 h1
    obtain ⟨S2', hS2'⟩ := hget q2 S2 h2
    exact hM.rowr q1 q2 S1' S2' k hS1' hS2' k1 k2
theorem append_str_run {t t' te : TypeId} {tei : TI} (hTe : TIok P te tei) (ht : P.underlying t = some (.slice te)) (ht' : P.underlying t' = some .string) (hk : tei.zero.length = tei.size) (h1 : tei.size = 1)
    {v : Value} {xs : List Int} {cs : List Value} (hB : B ≤ w.heap.size) (ho : w.ownsRow B te 1 v xs.length cs) (hc : RowCells h (.int .u8) xs cs) (s : ByteArray)
    (hb : (xs.length + (strBytes s).length) * tei.bytes ≤ 140737488355328) (hm : xs.length + (strBytes s).length ≤ maxLen) (ty : TypeId) :
    ∃ v' w' cs', (Builtin.append_ #[t, t'] ty #[v, .string s]).run P w = .ok v' w' ∧ w'.ownsRow B te 1 v' (xs ++ strBytes s).length cs' ∧ RowCells h (.int .u8) (xs ++ strBytes s) cs' ∧ GrownBy w w' v.ownBlock ∧ (v'.ownBlock = v.ownBlock ∨ v'.ownBlock = some w.heap.size) := by
  obtain ⟨i, hi, hsz, hby, hzz⟩ := hTe.info
  obtain ⟨z, hz1, zcs, hz2, hz3, _⟩ := hzz hk
  have hs1 : i.size = 1 := by rw [hsz, h1]
  have hsl : (strBytes s).length = s.size := by simp [strBytes]
  have hcl : cs.length = xs.length := by have := RowCells_len (.int .u8) xs cs hc; simpa [Ty.size] using this
  have hzc : z.cells.size = 1 := by
    have := LeafRels.length _ _ (hz3 ⟨fun k => k, fun _ => .nilFunc⟩ h)
    rw [hz2]
    simp
    omega
  have hcells : RowCells h (.int .u8) (strBytes s) (strCells s) := by
    have key : ∀ l : List UInt8, RowCells h (.int .u8) (l.map fun b => (b.toNat : Int)) (l.map fun b => Value.int .u8 b.toNat) := by
      intro l
      induction l with
      | nil => rfl
      | cons x l ih => exact ⟨[.int .u8 x.toNat], _, rfl, rfl, ih⟩
    exact key s.data.toList
  have hall := RowCells_append (.int .u8) xs (strBytes s) cs (strCells s) hc hcells
  have hsmall : xs.length + s.size ≤ 9223372036854775807 := by rw [hsl] at hm; simp only [maxLen] at hm; omega
  rw [hsl] at hm hb
  rw [← hby] at hb
  have hlen : (cs ++ strCells s).length = (xs.length + s.size) * 1 := by rw [List.length_append, hcl, strCells_length, Nat.mul_one]
  have fresh : ∀ (old : Nat), old < xs.length + s.size → ∀ (row : Option Nat),
      (w.drew.alloc (.cells (cs.toArray ++ (strCells s).toArray ++ Builtin.zeroCells z.cells (grownCap w (xs.length + s.size) old te - (xs.length + s.size))) te)).ownsRow B te 1
        (.slice (some ⟨w.heap.size, 0, none⟩) (xs.length + s.size) (grownCap w (xs.length + s.size) old te)) (xs.length + s.size) (cs ++ strCells s) ∧
      GrownBy w (w.drew.alloc (.cells (cs.toArray ++ (strCells s).toArray ++ Builtin.zeroCells z.cells (grownCap w (xs.length + s.size) old te - (xs.length + s.size))) te)) row := by
    intro old hold row
    refine ⟨⟨hlen, .inr ⟨w.heap.size, _, _, rfl, hB, heap_alloc_new w.drew _, grownCap_ge w (xs.length + s.size) old te, grownCap_le_maxLen w (xs.length + s.size) old te hm, ?_, ?_⟩⟩, ⟨rfl, rfl, rfl, by simp, fun k hk _ => Below.heap_alloc _ _ _ hk, Nat.le_succ _⟩⟩
    · have hge := grownCap_ge w (xs.length + s.size) old te
      simp only [Array.size_append, List.size_toArray, size_zeroCells, hzc, hcl, strCells_length]
      omega
    · simp only [Array.toList_append, List.append_assoc]
      rw [← List.append_assoc, ← hlen]
      exact List.take_left
  have e0 : (xs ++ strBytes s).length = xs.length + s.size := by rw [List.length_append, hsl]
  rw [e0]
  rcases ho.2 with ⟨rfl, h0⟩ | ⟨g, cap, cur, rfl, hbg, hg, hnc, hcm, hcs, htake⟩
  · have hx : xs = [] := List.eq_nil_of_length_eq_zero h0
    subst hx
    have hc0 : cs = [] := List.eq_nil_of_length_eq_zero (by rw [hcl]; rfl)
    subst hc0
    by_cases hm0 : s.size = 0
    · have hn : strCells s = [] := List.eq_nil_of_length_eq_zero (by rw [strCells_length]; exact hm0)
      refine ⟨.slice none 0 0, w, [], ?_, by rw [hm0]; exact World.ownsRow_nil w B te 1, by rw [← hn]; exact hcells, ⟨rfl, rfl, rfl, Nat.le_refl _, fun _ _ _ => rfl, Nat.le_refl _⟩, .inl rfl⟩
      have hf := run_firstCells_string (P := P) w 1 s
      rw [hm0] at hf
      simp [Builtin.append_, run_underlying ht, run_underlying ht', sizeOf, typeInfo, hi, hs1, Builtin.lenOf, hm0, hf]
    · have hr := run_append_nil_string (P := P) w t t' ty te i z ht ht' hi hz1 s (by omega) (by omega) (by simp only [List.length_nil, Nat.zero_add] at hb; omega)
      have hgr := fresh 0 (by simp; omega) (Value.ownBlock (.slice none 0 0))
      simp only [List.length_nil, Nat.zero_add, List.nil_append, Array.empty_append] at hgr ⊢
      have e1 : (s.data.map fun b => Value.int .u8 b.toNat) = (strCells s).toArray := by
        apply Array.ext'
        simp [strCells]
      rw [e1] at hr
      exact ⟨_, _, _, hr, hgr.1, hcells, hgr.2, .inr rfl⟩
  · by_cases hroom : xs.length + s.size ≤ cap
    · have hcs' : cur.size = cap := by simpa using hcs
      have hr := run_append_room_string (P := P) w t t' ty te i ht ht' hi hs1 g xs.length cap cur hg s hroom (by omega)
      refine ⟨_, _, cs ++ strCells s, hr, ⟨hlen, .inr ⟨g, cap, _, rfl, hbg, setRow_heap w g cur _ te _ hg, hroom, hcm, ?_, ?_⟩⟩, hall, ⟨rfl, rfl, rfl, by simp, fun k _ hk => setRow_other w g k _ (fun e => hk (by simp [Value.ownBlock, e])), Nat.le_refl _⟩, .inl rfl⟩
      · simp only [List.size_toArray, List.length_append, List.length_take, List.length_drop, Array.length_toList, strCells_length]
        omega
      · have ht1 : cur.toList.take xs.length = cs := by simpa using htake
        rw [ht1, ← hlen]
        exact List.take_left
    · have holds : ∀ j u, cs[j]? = some u → w.cell? ((⟨g, 0, none⟩ : Addr).add j) = some u := ho.cells (g := g) rfl
      have hr := run_append_grow_string (P := P) w t t' ty te i z ht ht' hi hz1 ⟨g, 0, none⟩ xs.length cap cs (by rw [hs1, hcl, Nat.mul_one]) holds s (by omega) (by omega) (growslice_fits (by omega) hb)
      have hgr := fresh cap (by omega) (Value.ownBlock (.slice (some ⟨g, 0, none⟩) xs.length cap))
      exact ⟨_, _, _, hr, hgr.1, hall, hgr.2, .inr rfl⟩
theorem append_run {t te : TypeId} {tei : TI} (hTe : TIok P te tei) (ht : P.underlying t = some (.slice te)) (hz : tei.zero.length = tei.size) (h1 : 1 ≤ tei.size) {T : Ty} (hTs : tei.size = T.size)
    {v : Value} {xs ys : List T.den} {cs : List Value} (hB : B ≤ w.heap.size) (ho : w.ownsRow B te T.size v xs.length cs) (hc : RowCells h T xs cs) (hp : PIn h w)
    {u : Value} (hu : vrep h (.sl T) ys u) (hb : (xs.length + ys.length) * tei.bytes ≤ 140737488355328) (hm : xs.length + ys.length ≤ maxLen) (ty : TypeId) :
    ∃ v' w' cs', (Builtin.append_ #[t, t] ty #[v, u]).run P w = .ok v' w' ∧ w'.ownsRow B te T.size v' (xs ++ ys).length cs' ∧ RowCells h T (xs ++ ys) cs' ∧ GrownBy w w' v.ownBlock ∧ (v'.ownBlock = v.ownBlock ∨ v'.ownBlock = some w.heap.size) := by
  obtain ⟨i, hi, hsz, hby, hzz⟩ := hTe.info
  obtain ⟨z, hz1, zcs, hz2, hz3, _⟩ := hzz hz
  have hzs : z.cells.size = T.size := by
    rw [hz2, ← hTs, ← hz]
    have := LeafRels.length _ _ (hz3 ⟨fun k => k, fun _ => .nilFunc⟩ h)
    simp [this]
  obtain ⟨us, g1, rfl⟩ := hu
  obtain ⟨A, c, rfl, g2, g3, g4⟩ := g1
  cases A with
  | none =>
    have hy := g3 rfl
    subst hy
    exact ⟨v, w, cs, run_append_nil_src B t ty te i T.size ht hi v _ _ ho c, by simpa using ho, by simpa using hc, GrownBy.refl w _, .inl rfl⟩
  | some ad =>
    obtain ⟨news, q1, q2⟩ := list_cells (h := h) T ad ys 0 fun i x hx => by
      obtain ⟨ds, p1, p2⟩ := g4 i x ad hx rfl
      exact ⟨ds, p1, by rw [Nat.zero_add]; exact p2⟩
    obtain ⟨v', w', hr, e1, e2, _, e3⟩ := run_append_own_at (P := P) w B t ty te i z T.size tei.bytes ht hi hz1 (by omega) hby hzs (by omega) v xs.length cs ho ad ys.length c news
      (RowCells_len T ys news q1) (fun j u hu => cell_of_hcell hp (by have := q2 j u hu; simpa using this)) (RowCells_one T ys news q1) hm hb hB
    exact ⟨v', w', cs ++ news, hr, by rw [List.length_append]; exact e1, RowCells_append T xs ys cs news hc q1, .of e2 (sem_drawn _ _ hr), e3⟩
theorem zeroCells_flat (zs : List Value) : ∀ n, (Builtin.zeroCells zs.toArray n).toList = (List.replicate n zs).flatten
  | 0 => by simp [Builtin.zeroCells]
  | n + 1 => by
    have ih := zeroCells_flat zs n
    have hl : (List.replicate n zs).flatten.length = n * zs.length := by simp
    rw [List.replicate_succ', List.flatten_append, ← ih]
    apply List.ext_getElem?
    intro j
    have hsz : (Builtin.zeroCells zs.toArray n).toList.length = n * zs.length := by simp [Builtin.zeroCells]
    by_cases h1 : j < n * zs.length
    · rw [List.getElem?_append_left (by omega)]
      have h2 : j < (n + 1) * zs.length := by rw [Nat.add_mul]; omega
      simp [Builtin.zeroCells, h1, h2]
    · rw [List.getElem?_append_right (by omega), hsz]
      by_cases h2 : j < (n + 1) * zs.length
      · have h3 : j - n * zs.length < zs.length := by rw [Nat.add_mul] at h2; omega
        have h4 : j % zs.length = j - n * zs.length := by
          have hmc := Nat.mul_comm zs.length n
          have : j = (j - n * zs.length) + zs.length * n := by omega
          rw [this, Nat.add_mul_mod_self_left, Nat.mod_eq_of_lt h3]
          omega
        simp [Builtin.zeroCells, h2, h3, h4]
      · have h3 : ¬ j - n * zs.length < zs.length := by rw [Nat.add_mul] at h2; omega
        simp [Builtin.zeroCells, h2, h3]
theorem RowCells_replicate (T : Ty) {z : T.den} {zs : List Value} (hz : rep h T z zs) : ∀ n, RowCells h T (List.replicate n z) (List.replicate n zs).flatten
  | 0 => rfl
  | n + 1 => ⟨zs, (List.replicate n zs).flatten, by simp [List.replicate_succ], hz, RowCells_replicate T hz n⟩
theorem append_zeros_run {t t' te : TypeId} {tei : TI} (hTe : TIok P te tei) (ht : P.underlying t = some (.slice te)) {kn : IntKind} (ht' : P.underlying t' = some (.int kn)) (hk : tei.zero.length = tei.size) (h1 : 1 ≤ tei.size) {T : Ty} (hTs : tei.size = T.size)
    {z : T.den} (hz : implode T tei.zero = some (z, [])) (hB : B ≤ w.heap.size) {k : IntKind} {n : Nat} (hb : n * tei.bytes ≤ 140737488355328) (hm : n ≤ maxLen) (ty : TypeId) :
    ∃ v' w' cs', (Builtin.append_ #[t, t'] ty #[.slice none 0 0, .int k n]).run P w = .ok v' w' ∧ w'.ownsRow B te T.size v' n cs' ∧ RowCells h T (List.replicate n z) cs' ∧ GrownBy w w' none ∧ (v'.ownBlock = none ∨ v'.ownBlock = some w.heap.size) := by
  obtain ⟨i, hi, hsz, hby, hzz⟩ := hTe.info
  obtain ⟨zv, hz1, zcs, hz2, hz3, _⟩ := hzz hk
  have hrz : rep h T z zcs := implode_all hz (hz3 ⟨fun k => k, fun _ => .nilFunc⟩ h)
  have hzl : zcs.length = T.size := rep_len T z zcs hrz
  have hcells := RowCells_replicate T hrz n
  have h63 : (n : Int) ≤ 9223372036854775807 := by simp only [maxLen] at hm; omega
  have hbb : n * i.bytes ≤ 281474976710656 := by rw [hby]; omega
  cases n with
  | zero =>
    refine ⟨.slice none 0 0, w, [], ?_, World.ownsRow_nil w B te _, rfl, GrownBy.refl w _, .inl rfl⟩
    simp [Builtin.append_, run_underlying ht, run_underlying ht', sizeOf, typeInfo, hi, _root_.Go.asInt, asIntOf, IntKind.wrap_i64]
  | succ n =>
    have hr := Lib.run_append_nil_zeros (P := P) w t t' ty te i zv k kn ht ht' hi hz1 (n + 1) (by omega) (by omega) h63 hbb
    refine ⟨_, _, _, hr, ⟨?_, .inr ⟨w.heap.size, _, _, rfl, hB, heap_alloc_new w.drew _, grownCap_ge w (n + 1) 0 te, grownCap_le_maxLen w (n + 1) 0 te hm, ?_, ?_⟩⟩, hcells, ⟨rfl, rfl, rfl, by simp, fun k hk _ => Below.heap_alloc _ _ _ hk, Nat.le_succ _⟩, .inr rfl⟩
    · have := RowCells_len T _ _ hcells
      simpa using this
    · have hge := grownCap_ge w (n + 1) 0 te
      simp only [Array.size_append, size_zeroCells, hz2, List.size_toArray, hzl]
      rw [← Nat.add_mul]
      congr 1
      omega
    · rw [Array.toList_append, hz2, zeroCells_flat]
      have := RowCells_len T _ _ hcells
      rw [List.length_replicate] at this
      rw [← this]
      exact List.take_left
theorem clear_run {t te : TypeId} {tei : TI} (hTe : TIok P te tei) (ht : P.underlying t = some (.slice te)) (hk : tei.zero.length = tei.size) {T : Ty} (hTs : tei.size = T.size)
    {z : T.den} (hz : implode T tei.zero = some (z, [])) {g len cap i : Nat} {e : TypeId} {cur : Array Value} (hg : w.heap[g]? = some (.cells cur e (0, 0))) (hcs : cur.size = cap * T.size) (hlc : len ≤ cap) (hi : i < len) (c : Nat) (ty : TypeId) :
    ∃ zs : List Value, rep h T z zs ∧ (Builtin.clear_ #[t] ty #[.slice (some ⟨g, i * T.size, none⟩) (len - i) c]).run P w = .ok (.tuple #[]) (w.setRow g (cur.toList.take (i * T.size) ++ (List.replicate (len - i) zs).flatten ++ cur.toList.drop (i * T.size + (len - i) * T.size)).toArray) := by
  obtain ⟨ie, hie, hsz, hby, hzz⟩ := hTe.info
  obtain ⟨zv, hz1, zcs, hz2, hz3, hz4⟩ := hzz hk
  have hrz : rep h T z zcs := implode_all hz (hz3 ⟨fun k => k, fun _ => .nilFunc⟩ h)
  have hzl : zcs.length = T.size := rep_len T z zcs hrz
  refine ⟨zcs, hrz, ?_⟩
  have hfl : (List.replicate (len - i) zcs).flatten.length = (len - i) * T.size := by simp [hzl]
  have hfit : i * T.size + (len - i) * T.size ≤ cur.size := by
    rw [← Nat.add_mul, hcs]
    exact Nat.mul_le_mul_right _ (by omega)
  have hst := run_storeCells_at P g (i * T.size) e (List.replicate (len - i) zcs).flatten 0 cur w hg (by rw [hfl]; omega) (by
    intro v hv
    obtain ⟨l, hl, hvl⟩ := List.mem_flatten.1 hv
    rw [(List.mem_replicate.1 hl).2] at hvl
    exact hz4 v hvl)
  rw [Nat.add_zero, hfl] at hst
  have hzc : (Builtin.zeroCells zv.cells (len - i)).toList = (List.replicate (len - i) zcs).flatten := by rw [hz2, zeroCells_flat]
  obtain ⟨m, hm⟩ : ∃ m, len - i = m + 1 := ⟨len - i - 1, by omega⟩
  rw [hm] at hst hzc ⊢
  simp only [List.append_assoc] at hst ⊢
  simp [Builtin.clear_, run_underlying ht, zeroValue, typeInfo, hie, hz1, hzc, hst]
end
end Go.Fr
namespace Go.Fr
open Go Go.RowKit
universe u
section
variable {P : Program} {E : Env} {B : Nat} {w0 w : World} {N : Names} {h0 h : PHeap} {b : Nat} {u : Nat → Value} {a : Act} {n : Nat}
theorem val_agg {t : Ty} {cs : List Value} (ha : t.isAgg = true) : t.val cs = .agg cs.toArray := by cases t <;> first | rfl | cases ha
theorem checkKey_scalar {kt : TypeId} {d : TypeDesc} (hd : P.underlying kt = some d) (hs : scalarDesc d = true) (v : Value) (em : Bool) (m : Nat) (w : World) : (Instr.checkKey em (m + 1) kt v).run P w = .ok () w := by
  unfold Instr.checkKey
  simp only [Sem.run_bind, run_underlying hd, Result.andThen]
  cases d <;> first | (cases hs; done) | (cases v <;> simp)
theorem checkKey_run {kt : TypeId} (hk : keyB P kt = true) {K : Ty} {i : TypeInfo} {d : TypeDesc} (hi : P.info? kt = some i) (hd : P.underlying kt = some d) (hsz : i.size = K.size) (hag : aggDesc d = K.isAgg)
    {x : K.den} {cs : List Value} (hx : rep h K x cs) (em : Bool) (w : World) : (Instr.checkKey em 10000 kt (K.val cs)).run P w = .ok () w := by
  unfold keyB at hk
  rw [hd] at hk
  cases d
  case struct gs =>
    simp only [hi] at hk
    rw [val_agg (by rw [← hag]; rfl)]
    show (Instr.checkKey em (9999 + 1) kt _).run P w = _
    unfold Instr.checkKey
    simp only [Sem.run_bind, run_underlying hd, Result.andThen_ok]
    rw [← Array.forIn_toList]
    have hlen := rep_len K x cs hx
    have each : ∀ g ∈ gs.toList, ∃ d', P.underlying g.type = some d' ∧ scalarDesc d' = true ∧ g.offset < cs.length := fun g hg => by
      have := List.all_eq_true.1 hk g hg
      split at this
      · rename_i d' hd'
        simp only [Bool.and_eq_true, decide_eq_true_eq] at this
        exact ⟨d', hd', this.1, by omega⟩
      · cases this
    clear hk
    generalize gs.toList = L at each
    induction L with
    | nil => simp
    | cons g L ih =>
      obtain ⟨d', hd', hs, ho⟩ := each g (by simp)
      have p1 : (part g.type cs.toArray g.offset).run P w = .ok cs[g.offset] w := by
        have hna : aggDesc d' = false := by cases d' <;> first | rfl | cases hs
        have hget : cs.toArray[g.offset]? = some cs[g.offset] := by simp [List.getElem?_eq_getElem ho]
        unfold part
        simp only [Sem.run_bind, run_isAgg_of hd', Result.andThen_ok, hna, Bool.false_eq_true, if_false, hget, Sem.run_pure]
      have p2 := checkKey_scalar hd' hs cs[g.offset] em 9998 w
      have ih' := ih fun y hy => each y (by simp [hy])
      by_cases hn : g.name = "_"
      · simp only [List.forIn_cons, Sem.run_bind, hn, ne_eq, not_true, if_false, Result.andThen_ok, Sem.run_pure]
        exact ih'
      · simp only [List.forIn_cons, Sem.run_bind, hn, ne_eq, not_false_eq_true, if_true, Result.andThen_ok, p1, p2, Sem.run_pure]
        exact ih'
  all_goals exact checkKey_scalar hd hk _ em 9999 w
structure MapIs (P : Program) (t : TypeId) (ei : TI) (K V : Ty) : Prop where
  und : ∃ kt et, P.underlying t = some (.map kt et) ∧
    (∀ x h cs em w, rep h K x cs → (Instr.checkKey em 10000 kt (K.val cs)).run P w = .ok () w) ∧
    (∀ x y h cs ds w, rep h K x cs → rep h K y ds → (Op.equal kt (K.val cs) (K.val ds)).run P w = .ok (K.beq x y) w) ∧
    (∃ d, P.underlying kt = some d) ∧
    (∀ z, ei.zero.length = ei.size → implode V ei.zero = some (z, []) → ∃ v, (∀ w, (zeroValue et).run P w = .ok v w) ∧ ∀ h, vrep h V z v)
  plain : K.plain = true
theorem mapKV_some (hE : EnvOk P E) {t : TypeId} {k : TI → Ty → Ty → Prop} (e : mapKV E t False k) : ∃ ei K V, MapIs P t ei K V ∧ k ei K V := by
  unfold mapKV at e
  split at e
  rotate_left
  · exact e.elim
  rename_i ti hti
  split at e
  rotate_left
  · exact e.elim
  rename_i kt et hk
  split at e
  rotate_left
  · exact e.elim
  rename_i ki hki
  split at e
  rotate_left
  · exact e.elim
  rename_i K hK
  split at e
  rotate_left
  · exact e.elim
  rename_i ei hei
  split at e
  rotate_left
  · exact e.elim
  rename_i V hV
  cases hp : K.plain with
  | false => rw [hp] at e; exact e.elim
  | true =>
    rw [hp] at e
    refine ⟨ei, K, V, ⟨?_, hp⟩, e⟩
    obtain ⟨d, hd, _, hkk⟩ := (hE.tt t ti hti).und
    rw [hk] at hkk
    simp only at hkk
    obtain ⟨rfl, q1, q2⟩ := hkk
    have hTk := hE.tt kt ki hki
    have hTe := hE.tt et ei hei
    obtain ⟨dk, hdk, hak, _⟩ := hTk.und
    obtain ⟨ik, hik, hsk, _⟩ := hTk.info
    obtain ⟨s1, s2, heq⟩ := hTk.ty K hK
    refine ⟨kt, et, hd, fun x h cs em w hx => checkKey_run q1 hik hdk (by omega) (by rw [hak, s2]) hx em w, fun x y h cs ds w hx hy => (heq hp x y h cs ds w (.const .nilFunc) (.const .nilFunc) .eql hx hy).2, ⟨dk, hdk⟩, ?_⟩
    intro z hz0 hz
    obtain ⟨ie, hie, hse, _, hzz⟩ := hTe.info
    obtain ⟨zv, e1, cs, e2, e3, e4⟩ := hzz hz0
    obtain ⟨de, hde, hae, _⟩ := hTe.und
    obtain ⟨v1, v2, _⟩ := hTe.ty V hV
    refine ⟨zv, fun w => by simp [zeroValue, run_typeInfo_of hie, e1], fun h => ?_⟩
    have hrep : rep h V z cs := implode_all (N := ⟨fun _ => 0, fun _ => .nilFunc⟩) hz (e3 _ h)
    refine ⟨cs, hrep, ?_⟩
    unfold zeroMB at q2
    rw [hie, hde] at q2
    simp only [e1] at q2
    cases hva : V.isAgg with
    | true =>
      rw [val_agg hva]
      have hde' : aggDesc de = true := by rw [hae, ← v2]; exact hva
      rw [hde'] at q2
      split at q2
      · rename_i c hc
        injection hc with hc
        rw [hc]
        rw [hc] at e2
        simp only [Value.cells] at e2
        rw [e2]
      · cases q2
      · rename_i hc; cases hc
    | false =>
      have hde' : aggDesc de = false := by rw [hae, ← v2]; exact hva
      rw [hde'] at q2
      obtain ⟨g1, g2⟩ := val_one V z cs hrep hva
      split at q2
      · cases q2
      · rename_i c hc hne
        injection hne with hne
        subst hne
        have : zv.cells = #[zv] := by cases zv <;> first | rfl | exact absurd rfl (hc _)
        rw [this] at e2
        have e5 : cs = [zv] := by
          have := congrArg Array.toList e2
          simpa using this.symm
        rw [g1] at e5
        injection e5 with e5
        exact e5.symm
      · rename_i hc; cases hc
theorem sameNow_plain {K : Ty} (kd : TypeDesc) {x y : K.den} {cs ds : List Value} (hx : rep h K x cs) (hy : rep h K y ds) : Instr.sameNow kd (K.val cs) (K.val ds) = none ∨ Instr.sameNow kd (K.val cs) (K.val ds) = some (K.beq x y) := by
  cases K with
  | bool =>
    simp only [rep] at hx hy; subst hx hy
    cases kd <;> first | (left; rfl) | (right; rfl)
  | int k =>
    simp only [rep] at hx hy; subst hx hy
    cases kd <;> first | (left; rfl) | (right; simp [Ty.val, Instr.sameNow, Ty.beq]; done)
  | str =>
    simp only [rep] at hx hy; subst hx hy
    cases kd <;> first | (left; rfl) | (right; rfl)
  | unit => left; cases kd <;> rfl
  | pair _ _ => left; cases kd <;> rfl
  | sl _ =>
    obtain ⟨A, c, rfl, _⟩ := hx
    left; cases kd <;> rfl
  | opt _ =>
    left
    rcases hx with ⟨_, rfl⟩ | ⟨_, _, _, _, rfl, _⟩ <;> cases kd <;> rfl
  | mp _ _ =>
    left
    rcases hx with ⟨_, rfl⟩ | ⟨_, _, _, rfl, _⟩ <;> cases kd <;> rfl
  | nd _ _ _ _ =>
    left
    simp only [rep] at hx
    cases hx <;> cases kd <;> rfl
def lookI (K V : Ty) (key : K.den) : List (K.den × V.den × Unit) → List MapEntry → Nat → Option (Nat × Value)
  | x :: xs, e :: es, i => bif K.beq key x.1 then some (i, e.val) else lookI K V key xs es (i + 1)
  | _, _, _ => none
theorem findNow_look {K V : Ty} {key : K.den} {ck : List Value} (hk : rep h K key ck) (kd : TypeDesc) : (xs : List (K.den × V.den × Unit)) → (es : List MapEntry) → MapRep h K V xs es → ∀ i,
    Instr.findNow kd (K.val ck) es i = none ∨ Instr.findNow kd (K.val ck) es i = some (lookI K V key xs es i)
  | [], es, e, i => by simp only [MapRep] at e; subst e; exact .inr rfl
  | x :: xs, _, ⟨e, r, rfl, ⟨cs, h1, h2⟩, _, h3⟩, i => by
    have hs := sameNow_plain kd hk h1
    rw [← h2] at hs
    unfold Instr.findNow
    rcases hs with hs | hs
    · rw [hs]; exact .inl rfl
    · rw [hs]
      unfold lookI
      cases K.beq key x.1 with
      | true => exact .inr rfl
      | false => exact findNow_look hk kd xs r h3 (i + 1)
theorem findAsking_look {kt : TypeId} {K V : Ty} (heq : ∀ x y h cs ds w, rep h K x cs → rep h K y ds → (Op.equal kt (K.val cs) (K.val ds)).run P w = .ok (K.beq x y) w) {key : K.den} {ck : List Value} (hk : rep h K key ck) :
    (xs : List (K.den × V.den × Unit)) → (es : List MapEntry) → MapRep h K V xs es → ∀ i, (Instr.findAsking kt (K.val ck) es i).run P w = .ok (lookI K V key xs es i) w
  | [], es, e, i => by simp only [MapRep] at e; subst e; rfl
  | x :: xs, _, ⟨e, r, rfl, ⟨cs, h1, h2⟩, _, h3⟩, i => by
    have hq := heq key x.1 h ck cs w hk h1
    rw [← h2] at hq
    unfold Instr.findAsking
    simp only [Sem.run_bind, hq, Result.andThen_ok]
    unfold lookI
    cases K.beq key x.1 with
    | true => rfl
    | false => simpa using findAsking_look heq hk xs r h3 (i + 1)
theorem findKey_look {kt : TypeId} {d : TypeDesc} (hd : P.underlying kt = some d) {K V : Ty} (heq : ∀ x y h cs ds w, rep h K x cs → rep h K y ds → (Op.equal kt (K.val cs) (K.val ds)).run P w = .ok (K.beq x y) w) {key : K.den} {ck : List Value} (hk : rep h K key ck)
    {xs : List (K.den × V.den × Unit)} {es : List MapEntry} (hm : MapRep h K V xs es) : (Instr.findKey kt (K.val ck) es).run P w = .ok (lookI K V key xs es 0) w := by
  unfold Instr.findKey
  simp only [Sem.run_bind, run_underlying hd, Result.andThen_ok]
  rcases findNow_look (V := V) hk d xs es hm 0 with e | e
  · rw [e]; exact findAsking_look heq hk xs es hm 0
  · rw [e]; rfl
theorem lookI_get {K V : Ty} {key : K.den} : (xs : List (K.den × V.den × Unit)) → (es : List MapEntry) → MapRep h K V xs es → ∀ i,
    (lookI K V key xs es i = none ∧ mget K V key xs = none) ∨ ∃ j v y, lookI K V key xs es i = some (i + j, v) ∧ mget K V key xs = some y ∧ vrep h V y v ∧ j < es.length ∧ MapRep h K V (mdel K V key xs) (es.eraseIdx j)
  | [], es, e, i => .inl ⟨by unfold lookI; cases es <;> rfl, rfl⟩
  | x :: xs, _, ⟨e, r, rfl, h1, h2, h3⟩, i => by
    unfold lookI mget mdel
    cases hb : K.beq key x.1 with
    | true => exact .inr ⟨0, e.val, x.2.1, rfl, rfl, h2, by simp, by simpa using h3⟩
    | false =>
      simp only [cond_false]
      rcases lookI_get xs r h3 (i + 1) with ⟨g1, g2⟩ | ⟨j, v, y, g1, g2, g3, g4, g5⟩
      · exact .inl ⟨g1, g2⟩
      · exact .inr ⟨j + 1, v, y, by rw [g1]; congr 2; omega, g2, g3, by simpa using g4, ⟨e, _, by simp, h1, h2, g5⟩⟩
theorem mdel_none {K V : Ty} {key : K.den} : (xs : List (K.den × V.den × Unit)) → mget K V key xs = none → mdel K V key xs = xs
  | [], _ => rfl
  | x :: xs, e => by
    unfold mget at e
    unfold mdel
    cases hb : K.beq key x.1 with
    | true => rw [hb] at e; cases e
    | false =>
      rw [hb] at e
      simp only [cond_false] at e ⊢
      rw [mdel_none xs e]
theorem MapRep.snoc {K V : Ty} {y : K.den} {z : V.den} {m : MapEntry} (h1 : vrep h K y m.key) (h2 : vrep h V z m.val) : (xs : List (K.den × V.den × Unit)) → (es : List MapEntry) → MapRep h K V xs es → MapRep h K V (xs ++ [(y, z, ())]) (es ++ [m])
  | [], es, e => by simp only [MapRep] at e; subst e; exact ⟨m, [], rfl, h1, h2, rfl⟩
  | x :: xs, _, ⟨e, r, rfl, g1, g2, g3⟩ => ⟨e, r ++ [m], rfl, g1, g2, MapRep.snoc h1 h2 xs r g3⟩
theorem mapAtK_some {bs : Blks} {m : SV} {T : Ty} {k : Nat → TypeId → List T.den → Prop} (e : mapAtK bs m T k) : ∃ i bt cs xs, m = .leaf (.mref i) ∧ getB bs i = some ⟨bt, cs, some .map⟩ ∧ implode (.sl T) cs = some (xs, []) ∧ k i bt xs := by
  unfold mapAtK at e
  split at e
  · rename_i i
    split at e
    · rename_i bt cs hb
      rw [implodeK_eq] at e
      split at e
      · rename_i xs r hx
        split at e
        · exact ⟨i, bt, cs, xs, rfl, hb, hx, e⟩
        · exact e.elim
      · exact e.elim
    · exact e.elim
  · exact e.elim
theorem map_cells {K V K' V' : Ty} {xs : List (K.den × V.den × Unit)} {xs' : List (Ty.den (.pair K' (.pair V' .unit)))} (e : implode (mapT K' V') [.tv (mapT K V) xs] = some (xs', [])) : ∃ (h1 : K = K') (h2 : V = V'), xs' = h1 ▸ h2 ▸ xs := by
  simp only [implode, popSl] at e
  split at e
  · rename_i ht
    injection ht with h1 h2
    injection h2 with h2 h3
    subst h1 h2
    injection e with e
    injection e with e _
    exact ⟨rfl, rfl, e.symm⟩
  · cases e
theorem mapAt_lies {bs : Blks} {rs : Rows} (hM : MemSat B w0 bs rs N h w) {i : Nat} {bt : TypeId} {cs : List Leaf} {K V : Ty} {xs : List (Ty.den (.pair K (.pair V .unit)))} (hb : getB bs i = some ⟨bt, cs, some .map⟩) (hx : implode (mapT K V) cs = some (xs, [])) :
    ∃ es cl, w.heap[N.ρ i]? = some (.map es cl) ∧ MapRep h K V xs es.toList := by
  obtain ⟨o, q1, q2, _⟩ := hM.blk i _ hb
  obtain ⟨K', V', xs', es, cl, rfl, rfl, q3⟩ := BlkSat.map.1 q2
  obtain ⟨rfl, rfl, rfl⟩ := map_cells hx
  exact ⟨es, cl, q1, q3⟩
theorem getObj_map {r : Nat} {es : Array MapEntry} {cl : Nat} (hb : w.heap[r]? = some (.map es cl)) : (getObj r).run P w = .ok (.map es cl) w := by
  simp [getObj, Sem.run, hb]
theorem setObj_map {r : Nat} {es : Array MapEntry} {cl : Nat} (o : Obj) (hb : w.heap[r]? = some (.map es cl)) : (setObj r o).run P w = .ok () { w with heap := w.heap.setIfInBounds r o } := by
  simp [setObj, Sem.run, hb]
theorem MemSat.turnMap {bs : Blks} {rs : Rows} (hM : MemSat B w0 bs rs N h w) {i : Nat} {bt : TypeId} {cs : List Leaf} (hb : getB bs i = some ⟨bt, cs, some .map⟩) {K V : Ty} {xs : List (Ty.den (.pair K (.pair V .unit)))} {es : Array MapEntry} {cl : Nat} (hr : MapRep h K V xs es.toList) :
    MemSat B w0 (setB bs i ⟨bt, [.tv (mapT K V) xs], some .map⟩) rs N h ({ w with heap := w.heap.setIfInBounds (N.ρ i) (.map es cl) } : World) := by
  obtain ⟨o0, q1, q2, q3, q4⟩ := hM.blk i _ hb
  have hother : ∀ k, k ≠ N.ρ i → ({ w with heap := w.heap.setIfInBounds (N.ρ i) (.map es cl) } : World).heap[k]? = w.heap[k]? := fun k hk => by
    simp [Ne.symm hk]
  refine hM.turnBlock hb (hM.below.trans ⟨rfl, rfl, rfl, by simp, fun k hk => hother k (by omega), Nat.le_refl _⟩) (by simp) hother (o := .map es cl) ?_ (BlkSat.map.2 ⟨K, V, xs, es, cl, rfl, rfl, hr⟩)
  simp [lt_of_heap q1]
theorem mapVal_lies {bs : Blks} {rs : Rows} (hM : MemSat B w0 bs rs N h w) {m : SV} {vm : Value} (hm : m.rel N h vm) {K V : Ty} {k : List (K.den × V.den × Unit) → Prop} (e : mapValK bs m K V k) :
    ∃ xs, k xs ∧ ((vm = .map none ∧ xs = []) ∨ ∃ g es cl, vm = .map (some g) ∧ w.heap[g]? = some (.map es cl) ∧ MapRep h K V xs es.toList) := by
  unfold mapValK at e
  split at e
  · obtain ⟨i, bt, cs, xs, q, hb, hx, e⟩ := mapAtK_some e
    obtain ⟨es, cl, g1, g2⟩ := mapAt_lies hM hb hx
    injection q with q
    injection q with q
    subst q
    simp only [SV.rel, Leaf.rel] at hm
    exact ⟨xs, e, .inr ⟨_, es, cl, hm, g1, g2⟩⟩
  · rename_i l _
    rw [implodeK_eq] at e
    split at e
    · rename_i xs r hx
      split at e
      · obtain ⟨c1, c2, g1, g2, g3⟩ := implode_rel _ _ _ _ hx [vm] (LeafRels.cons (SV.leaf_iff.1 hm) (LeafRels.nil N h))
        rw [LeafRels.nil_iff] at g3
        subst g3
        rw [List.append_nil] at g1
        subst g1
        rcases mp_rep.1 g2 with ⟨q1, q2⟩ | ⟨g, es, cl, q1, q2, q3⟩
        · injection q2 with q2
          exact ⟨xs, e, .inl ⟨q2, q1⟩⟩
        · injection q1 with q1
          exact ⟨xs, e, .inr ⟨g, es, cl, q1, hM.pin _ _ q2, q3⟩⟩
      · exact e.elim
    · exact e.elim
  · exact e.elim
theorem mapLook_sound (hE : EnvOk P E) {σ : St} (hS : Sat B w0 h0 b u n σ N h a w) {t : TypeId} {m key : SV} {vm vk : Value} (hm : m.rel N h vm) (hk : key.rel N h vk) {k : SV → Prop} (e : mapLookK E σ.blks t m key k) :
    ∃ s v, (Instr.lookup t vm vk true).run P w = .ok v w ∧ s.rel N h v ∧ k s := by
  unfold mapLookK at e
  obtain ⟨ei, K, V, hI, e⟩ := mapKV_some hE e
  obtain ⟨xs, e, hlie⟩ := mapVal_lies hS.mem hm e
  rw [argValK_eq] at e
  split at e
  rotate_left
  · exact e.elim
  rename_i y hy
  rw [implodeK_eq] at e
  split at e
  rotate_left
  · exact e.elim
  rename_i z r hz
  split at e
  rotate_left
  · exact e.elim
  cases hzl : Nat.beq ei.zero.length ei.size with
  | false => rw [hzl] at e; exact e.elim
  | true =>
    rw [hzl] at e
    simp only [cond_true] at e
    obtain ⟨⟨kt, et, u1, u2, u3, ⟨d, u4⟩, u5⟩, hp⟩ := hI
    obtain ⟨ck, hck, rfl⟩ := argVal_rel hy hk
    obtain ⟨zv, z1, z2⟩ := u5 z (Nat.eq_of_beq_eq_true hzl) hz
    rcases hlie with ⟨rfl, rfl⟩ | ⟨g, es, cl, rfl, g1, g2⟩
    · refine ⟨_, .tuple #[zv, .bool false], ?_, ?_, e⟩
      · have hfind := findKey_look (P := P) (w := w) (V := V) (xs := []) (es := []) u4 u3 hck (by simp only [MapRep])
        simp only [Instr.lookup, Sem.run_bind, run_underlying u1, Result.andThen_ok, Sem.run_pure, u2 y h ck _ w hck, hfind, lookI, z1, if_true]
      · exact ⟨[zv, .bool false], rfl, zv, [.bool false], rfl, z2 h, .bool false, [], rfl, ⟨[.bool false], rfl, rfl⟩, rfl⟩
    have hfind := findKey_look (P := P) (w := w) u4 u3 hck g2
    rcases lookI_get (key := y) xs es.toList g2 0 with ⟨l1, l2⟩ | ⟨j, v, yv, l1, l2, l3, l4, _⟩
    · refine ⟨_, .tuple #[zv, .bool false], ?_, ?_, e⟩
      · simp only [Instr.lookup, Sem.run_bind, run_underlying u1, getObj_map g1, Result.andThen_ok, Sem.run_pure, u2 y h ck _ w hck, hfind, l1, z1, if_true]
      · rw [l2]
        exact ⟨[zv, .bool false], rfl, zv, [.bool false], rfl, z2 h, .bool false, [], rfl, ⟨[.bool false], rfl, rfl⟩, rfl⟩
    · refine ⟨_, .tuple #[v, .bool true], ?_, ?_, e⟩
      · simp only [Instr.lookup, Sem.run_bind, run_underlying u1, getObj_map g1, Result.andThen_ok, Sem.run_pure, u2 y h ck _ w hck, hfind, l1, if_true]
      · rw [l2]
        exact ⟨[v, .bool true], rfl, v, [.bool true], rfl, l3, .bool true, [], rfl, ⟨[.bool true], rfl, rfl⟩, rfl⟩
theorem mapPut_sound (hE : EnvOk P E) {σ : St} (hS : Sat B w0 h0 b u n σ N h a w) {t : TypeId} {m key v : SV} {vm vk vv : Value} (hm : m.rel N h vm) (hk : key.rel N h vk) (hv : v.rel N h vv) {k : St → Prop} (e : mapPutK E σ.slots σ.blks σ.rows t m key v k) :
    ∃ σ' w', (Instr.mapUpdate t vm vk vv).run P w = .ok () w' ∧ k σ' ∧ Sat B w0 h0 b u n σ' N h a w' := by
  unfold mapPutK at e
  obtain ⟨ei, K, V, hI, e⟩ := mapKV_some hE e
  obtain ⟨i, bt, cs, xs, rfl, hb, hx, e⟩ := mapAtK_some e
  rw [argValK_eq] at e
  split at e
  rotate_left
  · exact e.elim
  rename_i y hy
  rw [argValK_eq] at e
  split at e
  rotate_left
  · exact e.elim
  rename_i z hz
  obtain ⟨hnone, e⟩ := e
  rw [setBK_eq] at e
  obtain ⟨es, cl, g1, g2⟩ := mapAt_lies hS.mem hb hx
  obtain ⟨⟨kt, et, u1, u2, u3, ⟨d, u4⟩, u5⟩, hp⟩ := hI
  obtain ⟨ck, hck, rfl⟩ := argVal_rel hy hk
  have hvz := argVal_rel hz hv
  simp only [SV.rel, Leaf.rel] at hm
  subst hm
  have hfind := findKey_look (P := P) (w := w) u4 u3 hck g2
  have l1 : lookI K V y xs es.toList 0 = none := by
    rcases lookI_get (key := y) xs es.toList g2 0 with ⟨l1, _⟩ | ⟨j, v, yv, _, l2, _⟩
    · exact l1
    · rw [hnone] at l2; cases l2
  refine ⟨_, { w with heap := w.heap.setIfInBounds (N.ρ i) (.map (es.push { key := K.val ck, val := vv, born := cl }) (cl + 1)) }, ?_, e, ?_⟩
  · simp only [Instr.mapUpdate, Sem.run_bind, run_underlying u1, getObj_map g1, Result.andThen_ok, u2 y h ck _ w hck, hfind, l1, setObj_map _ g1]
  · refine ⟨hS.mem.turnMap hb ?_, hS.grow, fun k hk => ?_, hS.slots, hS.size, hS.defers⟩
    · simp only [Array.toList_push]
      exact MapRep.snoc ⟨ck, hck, rfl⟩ hvz xs es.toList g2
    · have := hS.dom k hk
      simpa using this
theorem mapDel_sound (hE : EnvOk P E) {σ : St} (hS : Sat B w0 h0 b u n σ N h a w) {t t' : TypeId} {ts : List TypeId} {m key : SV} {vm vk : Value} (hm : m.rel N h vm) (hk : key.rel N h vk) {k : St → Prop} (e : mapDelK E σ.slots σ.blks σ.rows t m key k) :
    ∃ σ' w', (Builtin.delete_ (t :: ts).toArray t' #[vm, vk]).run P w = .ok (.tuple #[]) w' ∧ k σ' ∧ Sat B w0 h0 b u n σ' N h a w' := by
  unfold mapDelK at e
  obtain ⟨ei, K, V, hI, e⟩ := mapKV_some hE e
  obtain ⟨i, bt, cs, xs, rfl, hb, hx, e⟩ := mapAtK_some e
  rw [argValK_eq] at e
  split at e
  rotate_left
  · exact e.elim
  rename_i y hy
  rw [setBK_eq] at e
  obtain ⟨es, cl, g1, g2⟩ := mapAt_lies hS.mem hb hx
  obtain ⟨⟨kt, et, u1, u2, u3, ⟨d, u4⟩, u5⟩, hp⟩ := hI
  obtain ⟨ck, hck, rfl⟩ := argVal_rel hy hk
  simp only [SV.rel, Leaf.rel] at hm
  subst hm
  have hfind := findKey_look (P := P) (w := w) u4 u3 hck g2
  rcases lookI_get (key := y) xs es.toList g2 0 with ⟨l1, l2⟩ | ⟨j, v, yv, l1, l2, _, l4, l5⟩
  · refine ⟨_, { w with heap := w.heap.setIfInBounds (N.ρ i) (.map es cl) }, ?_, e, ?_⟩
    · simp [Builtin.delete_, run_underlying u1, getObj_map g1, u2 y h ck _ w hck, hfind, l1, setObj_map _ g1]
    · refine ⟨hS.mem.turnMap hb ?_, hS.grow, fun k hk => by simpa using hS.dom k hk, hS.slots, hS.size, hS.defers⟩
      rw [mdel_none xs l2]
      exact g2
  · rw [Nat.zero_add] at l1
    refine ⟨_, { w with heap := w.heap.setIfInBounds (N.ρ i) (.map (es.eraseIdxIfInBounds j) cl) }, ?_, e, ?_⟩
    · simp [Builtin.delete_, run_underlying u1, getObj_map g1, u2 y h ck _ w hck, hfind, l1, setObj_map _ g1]
    · refine ⟨hS.mem.turnMap hb ?_, hS.grow, fun k hk => by simpa using hS.dom k hk, hS.slots, hS.size, hS.defers⟩
      have : (es.eraseIdxIfInBounds j).toList = es.toList.eraseIdx j := by
        have hj : j < es.size := by simpa using l4
        simp [Array.eraseIdxIfInBounds, hj]
      rw [this]
      exact l5
theorem newMap_sound {σ : St} (hS : Sat B w0 h0 b u n σ N h a w) {d : Nat} (hd : d < n) {q : Nat} {t : TypeId} {K V : Ty} {k : St → Prop} (e : newMapK σ.slots σ.blks σ.rows (b + d) q t K V k) :
    ∃ σ' N', k σ' ∧ Sat B w0 h0 b u n σ' N' h (a.put (some d) (.map (some w.heap.size))) (w.alloc (.map #[] 0)) := by
  have fin : ∀ q, usedB σ.slots σ.blks q = false → mkMapK σ.slots σ.blks σ.rows (b + d) q t K V k → ∃ σ' N', k σ' ∧ Sat B w0 h0 b u n σ' N' h (a.put (some d) (.map (some w.heap.size))) (w.alloc (.map #[] 0)) := by
    intro q hn e
    unfold mkMapK at e
    unfold usedB at hn
    simp only [Bool.or_eq_false_iff] at hn
    refine ⟨_, N.setB q w.heap.size, e, hS.mem.newB (b := ⟨t, [.tv (mapT K V) []], some .map⟩) (BlkSat.map.2 ⟨K, V, [], #[], 0, rfl, rfl, rfl⟩) hn.2, hS.grow, hS.dom, ?_, by rw [size_put]; exact hS.size, by rw [defers_put]; exact hS.defers⟩
    refine SlotSat.put (N := N.setB q w.heap.size) (fun t' => ?_) (by rw [hS.size]; exact hd) (by simp [SV.rel, Leaf.rel, Names.setB])
    refine SV.rel_names _ (hS.slots t') (fun i hi => ?_) (fun i _ => rfl)
    simp only [Names.setB]
    rw [if_neg]
    intro e
    subst e
    have := anySlots_false hn.1 t' hi
    cases this
  unfold newMapK at e
  cases h1 : usedB σ.slots σ.blks (b + d) with
  | false => rw [h1] at e; exact fin _ h1 e
  | true =>
    rw [h1] at e
    simp only [cond_true] at e
    cases h2 : usedB σ.slots σ.blks q with
    | false => rw [h2] at e; exact fin _ h2 e
    | true => rw [h2] at e; exact e.elim
end
end Go.Fr
namespace Go.Fr
open Go Go.RowKit
universe u
section
variable {P : Program} {E : Env} {B : Nat} {w0 w : World} {N : Names} {h0 h : PHeap} {b : Nat} {u : Nat → Value} {a : Act} {n : Nat}
theorem wrap_id0 {n : Int} (h0 : -9223372036854775808 ≤ n) (h1 : n ≤ 9223372036854775807) : IntKind.i64.wrap n = n := by
  have e : IntKind.i64.wrap n = if n % 18446744073709551616 ≥ 9223372036854775808 then n % 18446744073709551616 - 18446744073709551616 else n % 18446744073709551616 := by
    unfold IntKind.wrap
    have hb : IntKind.i64.bits = 64 := rfl
    have hs : IntKind.i64.signed = true := rfl
    rw [hb, hs]
    simp
  rw [e]
  split <;> omega
theorem makeSlice_run {t te : TypeId} {tei : TI} (hTe : TIok P te tei) (ht : P.underlying t = some (.slice te)) (hk : tei.zero.length = tei.size) (h1 : 1 ≤ tei.size) {T : Ty} (hTs : tei.size = T.size)
    {z : T.den} (hz : implode T tei.zero = some (z, [])) (hB : B ≤ w.heap.size) {k k' : IntKind} {m c : Nat} (hmc : m ≤ c) (hb : c * tei.bytes ≤ 140737488355328) (hc : c ≤ 1000000000000) :
    ∃ v w' cs', (Instr.makeSlice t (.int k (m : Int)) (.int k' (c : Int))).run P w = .ok v w' ∧ w'.ownsRow B te T.size v m cs' ∧ RowCells h T (List.replicate m z) cs' ∧ GrownBy w w' none ∧ v.ownBlock = some w.heap.size := by
  obtain ⟨i, hi, hsz, hby, hzz⟩ := hTe.info
  obtain ⟨zv, hz1, zcs, hz2, hz3, _⟩ := hzz hk
  have hrz : rep h T z zcs := implode_all hz (hz3 ⟨fun k => k, fun _ => .nilFunc⟩ h)
  have hzl : zcs.length = T.size := rep_len T z zcs hrz
  have hcells := RowCells_replicate T hrz m
  have hlen := RowCells_len T _ _ hcells
  rw [List.length_replicate] at hlen
  have hw1 : IntKind.i64.wrap (m : Int) = m := wrap_id0 (by omega) (by omega)
  have hw2 : IntKind.i64.wrap (c : Int) = c := wrap_id0 (by omega) (by omega)
  have hs : i.size = T.size := by rw [hsz, hTs]
  have htl : ¬ ((281474976710656 : Int) < (i.bytes : Int) * (c : Int)) := by
    have : c * i.bytes ≤ 140737488355328 := by rw [hby]; exact hb
    have h2 : (i.bytes : Int) * (c : Int) = ((c * i.bytes : Nat) : Int) := by rw [Int.natCast_mul]; exact Int.mul_comm _ _
    rw [h2]
    omega
  have hz0 : zv.cells = zcs.toArray := hz2
  have hrun : (Instr.makeSlice t (.int k (m : Int)) (.int k' (c : Int))).run P w = .ok (.slice (some ⟨w.heap.size, 0, none⟩) m c) (w.alloc (.cells (Builtin.zeroCells zcs.toArray c) te)) := by
    have e1 : ¬ ((c : Int) < 0) := by omega
    have e2 : ¬ ((m : Int) < 0) := by omega
    have e3 : ¬ ((m : Int) > (c : Int)) := by omega
    by_cases hc0 : c * T.size = 0
    · have hcz : c = 0 := by
        rcases Nat.mul_eq_zero.1 hc0 with e | e
        · exact e
        · omega
      subst hcz
      have hm0 : m = 0 := by omega
      subst hm0
      have hw0 : IntKind.i64.wrap (0 : Int) = 0 := wrap_id0 (by omega) (by omega)
      simp [hw0, Instr.makeSlice, run_underlying ht, _root_.Go.asInt, asIntOf, typeInfo, hi, sizeOf, newRow, Builtin.zeroCells]
      congr 2
      apply Array.ext
      · simp
      · intro j hj _
        simp at hj
    · simp [Instr.makeSlice, run_underlying ht, _root_.Go.asInt, asIntOf, typeInfo, hi, sizeOf, zeroValue, hz1, hs, hw1, hw2, e1, e2, e3, htl, hc0, newRow, Builtin.zeroCells, hz0, hzl]
  refine ⟨_, _, _, hrun, ⟨hlen, .inr ⟨w.heap.size, c, _, rfl, hB, heap_alloc_new w _, hmc, by have : maxLen = 9223372036854775807 := rfl; omega, ?_, ?_⟩⟩, hcells, ⟨rfl, rfl, rfl, by simp, fun k hk _ => Below.heap_alloc _ _ _ hk, Nat.le_refl _⟩, rfl⟩
  · rw [size_zeroCells]
    simp [hzl]
  · rw [zeroCells_flat]
    obtain ⟨q, rfl⟩ : ∃ q, c = m + q := ⟨c - m, by omega⟩
    rw [List.replicate_append_replicate.symm, List.flatten_append, ← hlen]
    exact List.take_left
theorem copy_run {t te : TypeId} {tei : TI} (hTe : TIok P te tei) (ht : P.underlying t = some (.slice te)) {T : Ty} (hTs : tei.size = T.size) {ats : Array TypeId} (hat : ats[0]? = some t)
    {v : Value} {xs ys : List T.den} {cs : List Value} {e : TypeId} (ho : w.ownsRow B e T.size v xs.length cs) (hc : RowCells h T xs cs) (hp : PIn h w) {uv : Value} (hu : vrep h (.sl T) ys uv) (ty : TypeId) :
    ∃ w' cs', (Builtin.copy_ ats ty #[v, uv]).run P w = .ok (.int .i64 ((min ys.length xs.length : Nat) : Int)) w' ∧ w'.ownsRow B e T.size v (ys.take xs.length ++ xs.drop ys.length).length cs' ∧ RowCells h T (ys.take xs.length ++ xs.drop ys.length) cs' ∧ GrownBy w w' v.ownBlock := by
  obtain ⟨i, hi, hsz, hby, hzz⟩ := hTe.info
  have hs : i.size = T.size := by rw [hsz, hTs]
  obtain ⟨us, g1, rfl⟩ := hu
  obtain ⟨A, c, rfl, g2, g3, g4⟩ := g1
  have hlenR : (ys.take xs.length ++ xs.drop ys.length).length = xs.length := by
    rw [List.length_append, List.length_take, List.length_drop]
    omega
  rw [hlenR]
  -- what is read
  obtain ⟨news, q1, q2⟩ : ∃ news : List Value, RowCells h T ys news ∧ ∀ ad, A = some ad → ∀ j x, news[j]? = some x → w.cell? (ad.add j) = some x := by
    cases A with
    | none => have := g3 rfl; subst this; exact ⟨[], rfl, fun ad e => by cases e⟩
    | some ad =>
      obtain ⟨news, q1, q2⟩ := list_cells (h := h) T ad ys 0 fun i x hx => by
        obtain ⟨ds, p1, p2⟩ := g4 i x ad hx rfl
        exact ⟨ds, p1, by rw [Nat.zero_add]; exact p2⟩
      exact ⟨news, q1, fun ad' e j x hx => by
        injection e with e
        subst e
        exact cell_of_hcell hp (by have := q2 j x hx; simpa using this)⟩
  have hnl := RowCells_len T ys news q1
  have hread : ∀ m, m ≤ ys.length → (Builtin.firstCells T.size m (.slice A ys.length c)).run P w = .ok (news.take (m * T.size)).toArray w := fun m hm => by
    cases A with
    | none =>
      have := g3 rfl
      subst this
      have : m = 0 := by simpa using hm
      subst this
      simp [run_firstCells_none]
    | some ad =>
      have hle : m * T.size ≤ ys.length * T.size := Nat.mul_le_mul_right _ hm
      refine run_firstCells_some (P := P) w T.size m ad ys.length c (news.take (m * T.size)) (by rw [List.length_take, hnl]; omega) fun j x hx => ?_
      rw [List.getElem?_take] at hx
      split at hx
      · exact q2 ad rfl j x hx
      · cases hx
  have hcl := RowCells_len T xs cs hc
  have cutL : ∀ (l : List T.den) (ds : List Value) (m : Nat), RowCells h T l ds → RowCells h T (l.take m) (ds.take (m * T.size)) := by
    intro l
    induction l with
    | nil => intro ds m hc; simp only [RowCells] at hc; subst hc; simp [RowCells]
    | cons x l ih =>
      rintro ds m ⟨d, q, rfl, g1, g2⟩
      cases m with
      | zero => simp [RowCells]
      | succ m =>
        have hd := rep_len T x d g1
        refine ⟨d, q.take (m * T.size), ?_, g1, ih q m g2⟩
        rw [show (m + 1) * T.size = d.length + m * T.size by rw [hd, Nat.add_mul]; omega, List.take_length_add_append]
  have cutR : ∀ (l : List T.den) (ds : List Value) (m : Nat), RowCells h T l ds → RowCells h T (l.drop m) (ds.drop (m * T.size)) := by
    intro l
    induction l with
    | nil => intro ds m hc; simp only [RowCells] at hc; subst hc; simp [RowCells]
    | cons x l ih =>
      rintro ds m ⟨d, q, rfl, g1, g2⟩
      cases m with
      | zero => exact ⟨d, q, by simp, g1, g2⟩
      | succ m =>
        have hd := rep_len T x d g1
        rw [show (m + 1) * T.size = d.length + m * T.size by rw [hd, Nat.add_mul]; omega, List.drop_length_add_append]
        exact ih q m g2
  have hall : RowCells h T (ys.take xs.length ++ xs.drop ys.length) (news.take (xs.length * T.size) ++ cs.drop (ys.length * T.size)) := RowCells_append T _ _ _ _ (cutL ys news _ q1) (cutR xs cs _ hc)
  have hmin : news.take (min ys.length xs.length * T.size) = news.take (xs.length * T.size) := by
    rcases Nat.le_total ys.length xs.length with hle | hle
    · rw [Nat.min_eq_left hle, ← hnl, List.take_length, List.take_of_length_le]
      rw [hnl]
      exact Nat.mul_le_mul_right _ hle
    · rw [Nat.min_eq_right hle]
  have hall_len := RowCells_len T _ _ hall
  rw [hlenR] at hall_len
  rcases ho.2 with ⟨rfl, h0⟩ | ⟨g, cap, cur, rfl, hbg, hg, hnc, hcm, hcs, htake⟩
  · have hx : xs = [] := List.eq_nil_of_length_eq_zero h0
    subst hx
    refine ⟨w, _, ?_, ⟨hall_len, .inl ⟨rfl, rfl⟩⟩, hall, GrownBy.refl w _⟩
    have hr := hread 0 (Nat.zero_le _)
    simp [Builtin.copy_, hat, run_underlying ht, Builtin.lenOf, sizeOf, typeInfo, hi, hs, hr, Ty.val, goInt]
  · have hcur : cur.toList.length = cap * T.size := by simpa using hcs
    have hcapn : xs.length * T.size ≤ cap * T.size := Nat.mul_le_mul_right _ hnc
    have hr := hread (min ys.length xs.length) (Nat.min_le_left _ _)
    rw [hmin] at hr
    have htl : (news.take (xs.length * T.size)).length = min ys.length xs.length * T.size := by
      rw [← hmin, List.length_take, hnl]
      have := Nat.mul_le_mul_right T.size (Nat.min_le_left ys.length xs.length)
      omega
    have hml : min ys.length xs.length * T.size ≤ xs.length * T.size := Nat.mul_le_mul_right _ (Nat.min_le_right _ _)
    have hst := run_storeCells_at P g 0 e (news.take (xs.length * T.size)) 0 cur w hg (by rw [htl]; omega) (fun x hx => RowCells_one T ys news q1 x (List.mem_of_mem_take hx))
    simp only [Nat.zero_add, List.take_zero, List.nil_append] at hst
    refine ⟨w.setRow g (news.take (xs.length * T.size) ++ cur.toList.drop (news.take (xs.length * T.size)).length).toArray, _, ?_, ⟨hall_len, .inr ⟨g, cap, _, rfl, hbg, setRow_heap w g cur _ e (0, 0) hg, hnc, hcm, ?_, ?_⟩⟩, hall, ⟨rfl, rfl, rfl, by simp, fun k _ hk => setRow_other w g k _ (fun e => hk (by simp [Value.ownBlock, e])), Nat.le_refl _⟩⟩
    · simp [Builtin.copy_, hat, run_underlying ht, Builtin.lenOf, sizeOf, typeInfo, hi, hs, hr, Ty.val, goInt, hst]
    · simp only [List.size_toArray, List.length_append, List.length_drop, hcur, htl]
      omega
    · simp only
      rw [htl]
      have hcsd : cs.drop (ys.length * T.size) = (cur.toList.drop (min ys.length xs.length * T.size)).take (xs.length * T.size - min ys.length xs.length * T.size) := by
        rw [← htake]
        rcases Nat.le_total ys.length xs.length with hle | hle
        · rw [Nat.min_eq_left hle, List.drop_take]
        · rw [Nat.min_eq_right hle, Nat.sub_self, List.take_zero, List.drop_eq_nil_of_le]
          rw [List.length_take]
          have := Nat.mul_le_mul_right T.size hle
          omega
      rw [hcsd, List.take_append, htl, List.take_of_length_le (by rw [htl]; exact hml)]
end
end Go.Fr
namespace Go.Fr
open Go Go.RowKit
universe u
section
variable {P : Program} {E : Env} {B : Nat} {w0 w : World} {N : Names} {h0 h : PHeap} {b : Nat} {u : Nat → Value} {a : Act} {n : Nat}
theorem oblige_some {p : Option Prop} {k : Prop} (e : oblige p k) : (∀ q, p = some q → q) ∧ k := by
  cases p with
  | none => exact ⟨fun q hq => (by cases hq), e⟩
  | some q => exact ⟨fun r hr => (by injection hr with hr; subst hr; exact e.1), e.2⟩
theorem store_sound (hE : EnvOk P E) {σ : St} {o : Oper} {K : Act → World → Prop} {Q : Exit → Act → World → Prop} {i : Nat} {c : Blk}
    (e : storeEv E b σ.slots σ.blks o.op = some (i, c)) (ho : ∀ x ∈ o.op.operands.toList, (evO b σ.slots x).rel N h (a.eval x)) (hM : MemSat B w0 σ.blks σ.rows N h w)
    (hK : ∀ w', MemSat B w0 (setB σ.blks i c) σ.rows N h w' → K (a.put o.dst undef) w') : o.wp P a w K Q := by
  obtain ⟨dst, op, type, pos, after, guard⟩ := o
  cases op <;> try (cases e; done)
  case store t x y =>
    simp only [storeEv] at e
    split at e
    · rename_i ti hti
      have hT := hE.tt t ti hti
      have hx := ho x (by simp [Op.operands])
      have hy := ho y (by simp [Op.operands])
      split at e
      · rename_i i' off hxx
        rw [hxx] at hx
        split at e
        · rename_i bt bc hb
          split at e
          · rename_i ls hls
            cases hbb : (Nat.beq ls.length ti.size && Nat.ble (off + ti.size) bc.length) with
            | false => rw [hbb] at e; cases e
            | true =>
              rw [hbb] at e
              simp only [cond_true] at e
              simp only [Bool.and_eq_true] at hbb
              have b1 : ls.length = ti.size := Nat.eq_of_beq_eq_true hbb.1
              have b2 : off + ti.size ≤ bc.length := Nat.le_of_ble_eq_true hbb.2
              injection e with e; injection e with e1 e2; subst e1 e2
              obtain ⟨o0, q1, q2, _⟩ := hM.blk i' _ hb
              obtain ⟨cs, rfl, q2, q3⟩ := BlkSat.cells.1 q2
              obtain ⟨ds, g1, g2, g3⟩ := cellsOf_rel hls hy
              have l1 := LeafRels.length _ _ q2
              have l2 := LeafRels.length _ _ g2
              simp only [SV.rel, Leaf.rel] at hx
              have hrun : (Instr.storeAt t (a.eval x) (a.eval y)).run P w = .ok () (w.setRow (N.ρ i') (cs.take off ++ ds ++ cs.drop (off + ds.length)).toArray) := by
                have hst := run_storeCells_at P (N.ρ i') off bt ds 0 cs.toArray w q1 (by simp; omega) g3
                simp only [Nat.add_zero] at hst
                simp only [Instr.storeAt, hx, Instr.sureAddr, storeVar, Sem.run_bind, Sem.run_pure, Result.andThen_ok, hT.size_run, g1]
                rw [if_neg (by simp; omega)]
                simpa using hst
              unfold Oper.wp
              simp only [execOp, Sem.run_bind, hrun, Result.andThen_ok, Sem.run_pure]
              exact hK _ (hM.store hb (splice_rel q2 g2 off) (splice_one q3 g3 off _))
          · cases e
        · cases e
      · cases e
    · cases e
theorem rowStore_sound (hE : EnvOk P E) {σ : St} {o : Oper} {K : Act → World → Prop} {Q : Exit → Act → World → Prop} {i : Nat} {c : RowS}
    (e : rowStoreEv E b σ.slots σ.rows o.op = some (i, c)) (ho : ∀ x ∈ o.op.operands.toList, (evO b σ.slots x).rel N h (a.eval x)) (hM : MemSat B w0 σ.blks σ.rows N h w)
    (hK : ∀ w', MemSat B w0 σ.blks (setR σ.rows i c) N h w' → K (a.put o.dst undef) w') : o.wp P a w K Q := by
  obtain ⟨dst, op, type, pos, after, guard⟩ := o
  cases op <;> try (cases e; done)
  case store t x y =>
    simp only [rowStoreEv] at e
    split at e
    · rename_i ti hti
      have hT := hE.tt t ti hti
      have hx := ho x (by simp [Op.operands])
      have hy := ho y (by simp [Op.operands])
      split at e
      · rename_i r sz j off hxx
        rw [hxx] at hx
        split at e
        · rename_i R hR
          split at e
          · rename_i ls hls
            cases hbb : (Nat.beq sz R.t.size && Nat.beq ls.length ti.size && Nat.ble (off + ti.size) R.t.size) with
            | false => rw [hbb] at e; cases e
            | true =>
              rw [hbb] at e
              simp only [cond_true, implodeK_eq] at e
              simp only [Bool.and_eq_true] at hbb
              have b0 : sz = R.t.size := Nat.eq_of_beq_eq_true hbb.1.1
              have b1 : ls.length = ti.size := Nat.eq_of_beq_eq_true hbb.1.2
              have b2 : off + ti.size ≤ R.t.size := Nat.le_of_ble_eq_true hbb.2
              split at e
              · rename_i z rest himp
                cases rest with
                | cons _ _ => cases e
                | nil =>
                  simp only at e
                  injection e with e; injection e with e1 e2; subst e1 e2
                  simp only [SV.rel, Leaf.rel] at hx
                  obtain ⟨g, len, cap, hV, hj, hx⟩ := hx
                  obtain ⟨cs, how, hrc⟩ := hM.row r R hR
                  have hown := how
                  rcases how.2 with ⟨e0, _⟩ | ⟨g', cap', cur, e0, f1, f2, f3, f4, f5, f6⟩
                  · rw [hV] at e0; cases e0
                  · rw [hV] at e0
                    injection e0 with e0 e0' e0''
                    injection e0 with e0
                    injection e0 with e0
                    subst e0 e0' e0''
                    obtain ⟨ds, g1, g2, g3⟩ := cellsOf_rel hls hy
                    have l2 := LeafRels.length _ _ g2
                    obtain ⟨es, p1, p2⟩ := RowCells_at R.t R.xs cs hrc j _ (getD_of_lt (d := R.t.dflt) hj)
                    have les := rep_len _ _ _ p1
                    have hcl := RowCells_len R.t R.xs cs hrc
                    -- the element, anew
                    have hnew : rep h R.t z (es.take off ++ ds ++ es.drop (off + ds.length)) := implode_all himp (splice_rel (explode_rel R.t _ es p1) g2 off)
                    have lnew := rep_len _ _ _ hnew
                    have hsz : j * R.t.size + R.t.size ≤ R.xs.length * R.t.size := by
                      have : (j + 1) * R.t.size ≤ R.xs.length * R.t.size := Nat.mul_le_mul_right _ hj
                      rw [Nat.add_mul] at this
                      omega
                    have hcap : R.xs.length * R.t.size ≤ cur.size := by rw [f5]; exact Nat.mul_le_mul_right _ f3
                    have hfit : j * sz + off + ds.length ≤ cur.size := by rw [b0]; omega
                    have hrun : (Instr.storeAt t (a.eval x) (a.eval y)).run P w = .ok () (w.setRow g (cur.toList.take (j * sz + off) ++ ds ++ cur.toList.drop (j * sz + off + ds.length)).toArray) := by
                      have hst := run_storeCells_at P g (j * sz + off) R.e ds 0 cur w f2 (by omega) g3
                      simp only [Nat.add_zero] at hst
                      simp only [Instr.storeAt, hx, Instr.sureAddr, storeVar, Sem.run_bind, Sem.run_pure, Result.andThen_ok, hT.size_run, g1]
                      rw [if_neg (by simp; omega)]
                      simpa using hst
                    unfold Oper.wp
                    simp only [execOp, Sem.run_bind, hrun, Result.andThen_ok, Sem.run_pure]
                    refine hK _ (hM.turnRow (R' := ⟨R.t, R.e, R.xs.set j z⟩) (g := g) (cs := cs.take (j * R.t.size) ++ (es.take off ++ ds ++ es.drop (off + ds.length)) ++ cs.drop (j * R.t.size + R.t.size)) hR (by rw [hV]; rfl)
                      (hM.below.trans ⟨rfl, rfl, rfl, by simp, fun k hk => setRow_other w g k _ (by omega), Nat.le_refl _⟩) (by simp) (fun k hk => setRow_other w g k _ hk) ?_ (RowCells_set R.t R.xs cs hrc j z _ hj hnew))
                    -- its cells
                    have hcur : cur.toList.take (R.xs.length * R.t.size) = cs := f6
                    have hlen' : (cs.take (j * R.t.size) ++ (es.take off ++ ds ++ es.drop (off + ds.length)) ++ cs.drop (j * R.t.size + R.t.size)).length = R.xs.length * R.t.size := by
                      simp only [List.length_append, List.length_take, List.length_drop] at lnew ⊢
                      omega
                    have hes : es = (cs.drop (j * R.t.size)).take R.t.size := by
                      apply List.ext_getElem?
                      intro m
                      by_cases hm : m < R.t.size
                      · rw [List.getElem?_take, if_pos hm, List.getElem?_drop]
                        rw [List.getElem?_eq_getElem (by omega)]
                        exact (p2 m _ (List.getElem?_eq_getElem (by omega))).symm
                      · rw [List.getElem?_eq_none (by omega), List.getElem?_eq_none (by simp; omega)]
                    refine ⟨by simpa using hlen', .inr ⟨g, cap, _, by simpa using hV, f1, setRow_heap w g cur _ R.e (0, 0) f2, by simpa using f3, f4, ?_, ?_⟩⟩
                    · simp only [List.size_toArray, List.length_append, List.length_take, List.length_drop, Array.length_toList]
                      rw [← f5]
                      omega
                    · simp only [List.length_set]
                      apply List.ext_getElem?
                      intro m
                      have hcm : ∀ m, m < R.xs.length * R.t.size → cs[m]? = cur.toList[m]? := by
                        intro m hm
                        rw [← hcur, List.getElem?_take, if_pos hm]
                      rw [List.getElem?_take]
                      by_cases hm : m < R.xs.length * R.t.size
                      · rw [if_pos hm]
                        subst b0
                        have el : es.length = R.t.size := les
                        by_cases h1 : m < j * R.t.size
                        · rw [List.append_assoc, List.append_assoc, List.append_assoc, List.append_assoc, List.getElem?_append_left (by simp; omega), List.getElem?_append_left (by simp; omega), List.getElem?_take, List.getElem?_take, if_pos (by omega), if_pos h1, hcm m hm]
                        · by_cases h2 : m < j * R.t.size + R.t.size
                          · -- within the element
                            have e2 : (cs.take (j * R.t.size) ++ (es.take off ++ ds ++ es.drop (off + ds.length)) ++ cs.drop (j * R.t.size + R.t.size))[m]? = (es.take off ++ ds ++ es.drop (off + ds.length))[m - j * R.t.size]? := by
                              rw [List.append_assoc, List.getElem?_append_right (by simp; omega), List.getElem?_append_left (by simp at lnew ⊢; omega)]
                              congr 1
                              simp
                              omega
                            rw [e2]
                            by_cases h3 : m < j * R.t.size + off
                            · rw [List.append_assoc, List.append_assoc, List.getElem?_append_left (by simp; omega), List.getElem?_append_left (by simp; omega), List.getElem?_take, List.getElem?_take, if_pos (by omega), if_pos (by omega), hes, List.getElem?_take, if_pos (by omega), List.getElem?_drop, hcm _ (by omega)]
                              congr 1
                              omega
                            · by_cases h4 : m < j * R.t.size + off + ds.length
                              · rw [List.append_assoc, List.append_assoc, List.getElem?_append_right (by simp; omega), List.getElem?_append_left (by simp; omega), List.getElem?_append_right (by simp; omega), List.getElem?_append_left (by simp; omega)]
                                congr 1
                                simp
                                omega
                              · rw [List.getElem?_append_right (by simp; omega), List.getElem?_append_right (by simp; omega), List.getElem?_drop, List.getElem?_drop, hes, List.getElem?_take, if_pos (by simp; omega), List.getElem?_drop, hcm _ (by simp; omega)]
                                congr 1
                                simp
                                omega
                          · have e2 : (cs.take (j * R.t.size) ++ (es.take off ++ ds ++ es.drop (off + ds.length)) ++ cs.drop (j * R.t.size + R.t.size))[m]? = cs[m]? := by
                              rw [List.getElem?_append_right (by simp at lnew ⊢; omega), List.getElem?_drop]
                              congr 1
                              simp at lnew ⊢
                              omega
                            rw [e2, List.getElem?_append_right (by simp; omega), List.getElem?_drop, hcm m hm]
                            congr 1
                            simp
                            omega
                      · rw [if_neg hm, List.getElem?_eq_none]
                        rw [hlen']
                        omega
              · cases e
          · cases e
        · cases e
      · cases e
    · cases e
theorem newB_sat {σ : St} (hS : Sat B w0 h0 b u n σ N h a w) {d : Nat} (hd : d < n) {q : Nat} {t : TypeId} {ls : List Leaf} {it : Option It} {o : Obj} (hr : BlkSat (N.setB q w.heap.size) h ⟨t, ls, it⟩ o)
    (hn : usedB σ.slots σ.blks q = false) :
    Sat B w0 h0 b u n ⟨(b + d, .leaf (.ptr q 0)) :: σ.slots, (q, ⟨t, ls, it⟩) :: σ.blks, σ.rows⟩ (N.setB q w.heap.size) h (a.put (some d) (.pointer (some ⟨w.heap.size, 0, none⟩))) (w.alloc o) := by
  unfold usedB at hn
  simp only [Bool.or_eq_false_iff] at hn
  refine ⟨hS.mem.newB (b := ⟨t, ls, it⟩) hr hn.2, hS.grow, hS.dom, ?_, by rw [size_put]; exact hS.size, by rw [defers_put]; exact hS.defers⟩
  refine SlotSat.put (N := N.setB q w.heap.size) (fun t' => ?_) (by rw [hS.size]; exact hd) (by simp [SV.rel, Leaf.rel, Names.setB])
  refine SV.rel_names _ (hS.slots t') (fun i hi => ?_) (fun i _ => rfl)
  simp only [Names.setB]
  rw [if_neg]
  intro e
  subst e
  have := anySlots_false hn.1 t' hi
  cases this
theorem newBlkQ_sound {σ : St} (hS : Sat B w0 h0 b u n σ N h a w) {d : Nat} (hd : d < n) {q1 q2 q3 : Nat} {t : TypeId} {ls : List Leaf} {it : Option It} {k : St → Prop} (e : newBlkQ σ.slots σ.blks σ.rows (b + d) q1 q2 q3 t ls it k) {o : Obj}
    (hr : ∀ q, usedB σ.slots σ.blks q = false → BlkSat (N.setB q w.heap.size) h ⟨t, ls, it⟩ o) : ∃ σ' N', k σ' ∧ Sat B w0 h0 b u n σ' N' h (a.put (some d) (.pointer (some ⟨w.heap.size, 0, none⟩))) (w.alloc o) := by
  have fin : ∀ q, usedB σ.slots σ.blks q = false → mkBlkK σ.slots σ.blks σ.rows (b + d) q t ls it k → ∃ σ' N', k σ' ∧ Sat B w0 h0 b u n σ' N' h (a.put (some d) (.pointer (some ⟨w.heap.size, 0, none⟩))) (w.alloc o) := by
    intro q hb e
    unfold mkBlkK at e
    simp only [fLs_eq] at e
    exact ⟨_, _, e, newB_sat hS hd (hr q hb) hb⟩
  unfold newBlkQ at e
  cases h1 : usedB σ.slots σ.blks (b + d) with
  | false => rw [h1] at e; exact fin _ h1 e
  | true =>
    rw [h1] at e
    simp only [cond_true] at e
    cases h2 : usedB σ.slots σ.blks q1 with
    | false => rw [h2] at e; exact fin _ h2 e
    | true =>
      rw [h2] at e
      simp only [cond_true] at e
      cases h3 : usedB σ.slots σ.blks q2 with
      | false => rw [h3] at e; exact fin _ h3 e
      | true =>
        rw [h3] at e
        simp only [cond_true] at e
        cases h4 : usedB σ.slots σ.blks q3 with
        | false => rw [h4] at e; exact fin _ h4 e
        | true => rw [h4] at e; exact e.elim
theorem newBlkK_sound {σ : St} (hS : Sat B w0 h0 b u n σ N h a w) {d : Nat} (hd : d < n) {t : TypeId} {ls : List Leaf} {it : Option It} {k : St → Prop} (e : newBlkK σ.slots σ.blks σ.rows (b + d) t ls it k) {o : Obj}
    (hr : ∀ q, usedB σ.slots σ.blks q = false → BlkSat (N.setB q w.heap.size) h ⟨t, ls, it⟩ o) : ∃ σ' N', k σ' ∧ Sat B w0 h0 b u n σ' N' h (a.put (some d) (.pointer (some ⟨w.heap.size, 0, none⟩))) (w.alloc o) :=
  newBlkQ_sound hS hd e hr
theorem append_sound (hE : EnvOk P E) {σ : St} (hS : Sat B w0 h0 b u n σ N h a w) {d : Nat} (hdn : d < n) {t t' type : TypeId} {s x : Operand} {src : (T : Ty) → (List T.den → Prop) → Prop} {k : St → Prop}
    (e : appendK E σ.slots σ.blks σ.rows (b + d) t (evO b σ.slots s) src k)
    (hsrc : ∀ (T : Ty) (te : TypeId) (tei : TI) (K : List T.den → Prop), E.tt te = some tei → P.underlying t = some (.slice te) → tei.size = T.size → tei.zero.length = tei.size → 1 ≤ tei.size → src T K → ∃ ys, K ys ∧
      ∀ (xs : List T.den) (v : Value) (cs : List Value), a.eval s = v → w.ownsRow B te T.size v xs.length cs → RowCells h T xs cs → (xs.length + ys.length) * tei.bytes ≤ 140737488355328 → xs.length + ys.length ≤ maxLen →
        ∃ v' w' cs', (Builtin.append_ #[t, t'] type #[v, a.eval x]).run P w = .ok v' w' ∧ w'.ownsRow B te T.size v' (xs ++ ys).length cs' ∧ RowCells h T (xs ++ ys) cs' ∧ GrownBy w w' v.ownBlock ∧ (v'.ownBlock = v.ownBlock ∨ v'.ownBlock = some w.heap.size)) :
    ∃ v' w' σ' N', (Builtin.append_ #[t, t'] type #[a.eval s, a.eval x]).run P w = .ok v' w' ∧ k σ' ∧ Sat B w0 h0 b u n σ' N' h (a.put (some d) v') w' := by
  have hs : (evO b σ.slots s).rel N h (a.eval s) := evO_rel hS.slots s
  unfold appendK at e
  split at e
  · rename_i r R hrow
    split at e
    · rename_i tei htei
      cases hb : (Nat.beq tei.size R.t.size && Nat.beq tei.zero.length tei.size && Nat.ble 1 tei.size) with
      | false => rw [hb] at e; exact e.elim
      | true =>
        rw [hb] at e
        simp only [cond_true] at e
        simp only [Bool.and_eq_true] at hb
        have b1 : tei.size = R.t.size := Nat.eq_of_beq_eq_true hb.1.1
        have b2 : tei.zero.length = tei.size := Nat.eq_of_beq_eq_true hb.1.2
        have b3 : 1 ≤ tei.size := Nat.le_of_ble_eq_true hb.2
        -- the row
        have hown : ∃ (v : Value) (cs : List Value) (te : TypeId), a.eval s = v ∧ P.underlying t = some (.slice te) ∧ te = R.e ∧ w.ownsRow B R.e R.t.size v R.xs.length cs ∧ RowCells h R.t R.xs cs ∧
            (∀ g, v.ownBlock = some g → h g = none ∧ (∀ i b, getB σ.blks i = some b → N.ρ i ≠ g) ∧ (∀ q S, getR σ.rows q = some S → (N.V q).ownBlock = some g → r = some q)) := by
          unfold appendRow at hrow
          split at hrow
          · cases hrow
          · rename_i ti hti
            have hT := hE.tt t ti hti
            obtain ⟨dd, hdd, _, hkk⟩ := hT.und
            split at hrow
            · rename_i te hte
              rw [hte] at hkk
              simp only at hkk
              subst hkk
              split at hrow
              · rename_i r0 hsr
                rw [hsr] at hs
                split at hrow
                · rename_i R0 hR0
                  cases hbe : Nat.beq R0.e te with
                  | false => rw [hbe] at hrow; cases hrow
                  | true =>
                    rw [hbe] at hrow
                    simp only [cond_true] at hrow
                    injection hrow with hrow
                    injection hrow with h1 h2
                    subst h1 h2
                    simp only [SV.rel, Leaf.rel] at hs
                    obtain ⟨cs, p1, p2⟩ := hS.mem.row r0 R0 hR0
                    refine ⟨_, cs, te, hs.1, hdd, (Nat.eq_of_beq_eq_true hbe).symm, p1, p2, fun g hg => ⟨hS.mem.rowh r0 R0 g hR0 hg, fun i b hi => hS.mem.rowb r0 R0 g i b hR0 hg hi, fun q S hq hqg => ?_⟩⟩
                    rw [hS.mem.rowr r0 q R0 S g hR0 hq hg hqg]
                · cases hrow
              · rename_i hsr
                rw [hsr] at hs
                split at hrow
                · rename_i tei' htei'
                  split at hrow
                  · rename_i T hT'
                    injection hrow with hrow
                    injection hrow with h1 h2
                    subst h1 h2
                    simp only [SV.rel, Leaf.rel] at hs
                    refine ⟨_, [], te, hs, hdd, rfl, World.ownsRow_nil w B te _, rfl, fun g hg => by cases hg⟩
                  · cases hrow
                · cases hrow
              · cases hrow
            · cases hrow
        obtain ⟨v, cs, te, hv, hund, hte, hown, hrc, hfree⟩ := hown
        obtain ⟨ys, e', hrun⟩ := hsrc R.t R.e tei _ htei (by rw [← hte]; exact hund) b1 b2 b3 e
        obtain ⟨e1, e2, e3⟩ := e'
        obtain ⟨v', w', cs', hr, q1, q2, q3, q4⟩ := hrun R.xs v cs hv hown hrc e1 e2
        have hbel : Below B w0 w' := hS.mem.below.grown q3 hS.mem.size fun k hk => (hown.lt k hk).1
        have fin : ∀ (sl : Slots) (bs : Blks) (rs : Rows), MemSat B w0 bs rs N h w → SlotSat sl N h (vals b u a) → (∀ q S, getR rs q = some S → r ≠ some q ∧ getR σ.rows q = some S) → (∀ i b, getB bs i = some b → ∃ b', getB σ.blks i = some b') →
            newRowK sl bs rs (b + d) ⟨R.t, R.e, R.xs ++ ys⟩ k → ∃ σ' N', k σ' ∧ Sat B w0 h0 b u n σ' N' h (a.put (some d) v') w' := by
          intro sl bs rs hM hsl hrs hbs hk
          unfold newRowK at hk
          cases hnm : (anySlots (Leaf.namesR (b + d)) sl || anyBlks (Leaf.namesR (b + d)) bs) with
          | true => rw [hnm] at hk; exact hk.elim
          | false =>
            rw [hnm] at hk
            simp only [cond_false] at hk
            simp only [Bool.or_eq_false_iff] at hnm
            refine ⟨_, N.setR (b + d) v', hk, ⟨?_, hS.grow, hS.dom, ?_, by rw [size_put]; exact hS.size, by rw [defers_put]; exact hS.defers⟩⟩
            · refine hM.newR (R := ⟨R.t, R.e, R.xs ++ ys⟩) (row := v.ownBlock) hbel q3.size (fun k hk hne => q3.block k hk hne) q1 q2 ?_ hnm.2
              intro g hg
              have hg' : v.ownBlock = some g ∨ g = w.heap.size := by
                rcases hg with hg | hg
                · rcases q4 with q4 | q4
                  · rw [q4] at hg; exact .inl hg
                  · rw [q4] at hg; injection hg with hg; exact .inr hg.symm
                · exact .inl hg
              rcases hg' with hg | hg
              · obtain ⟨f1, f2, f3⟩ := hfree g hg
                refine ⟨f1, fun i b hi => ?_, fun q S hq hqg => ?_⟩
                · obtain ⟨b', hb'⟩ := hbs i b hi
                  exact f2 i b' hb'
                · obtain ⟨p1, p2⟩ := hrs q S hq
                  exact p1 (f3 q S p2 hqg)
              · subst hg
                refine ⟨?_, fun i b hi => ?_, fun q S hq hqg => ?_⟩
                · cases hh : h w.heap.size with
                  | none => rfl
                  | some o => exact absurd (hM.pin.lt hh) (by omega)
                · obtain ⟨ds, p1, _⟩ := hM.blk i b hi
                  have := lt_of_heap p1
                  omega
                · have := (ownBlock_lt hM hq hqg).2
                  omega
            · refine SlotSat.put (N := N.setR (b + d) v') (fun t' => ?_) (by rw [hS.size]; exact hdn) ?_
              · refine SV.rel_names _ (hsl t') (fun i _ => rfl) (fun i hi => ?_)
                simp only [Names.setR]
                rw [if_neg]
                intro he
                subst he
                have := anySlots_false hnm.1 t' hi
                cases this
              · simp only [SV.rel, Leaf.rel]
                refine ⟨by simp [Names.setR], ?_⟩
                rcases q1.2 with ⟨e0, _⟩ | ⟨g, cap, cur, e0, _⟩ <;> rw [e0] <;> rfl
        rw [hv]
        cases r with
        | none =>
          obtain ⟨σ', N', g1, g2⟩ := fin σ.slots σ.blks σ.rows hS.mem hS.slots (fun q S hq => ⟨by simp, hq⟩) (fun i b hi => ⟨b, hi⟩) e3
          exact ⟨v', w', σ', N', hr, g1, g2⟩
        | some r0 =>
          simp only [fSlots_eq, fBlks_eq, fRows_eq] at e3
          obtain ⟨σ', N', g1, g2⟩ := fin _ _ _ ((hS.mem.mapBlks (forget_keeps r0)).rmRow r0) (hS.slots.mapped (forget_keeps r0) (PLe.refl h)) (fun q S hq => by
            rw [rmR_get] at hq
            split at hq
            · cases hq
            · rename_i hne; exact ⟨by simpa using hne, hq⟩) (fun i b hi => by
            rw [mapBlks_get] at hi
            cases hh : getB σ.blks i with
            | none => rw [hh] at hi; cases hi
            | some b' => exact ⟨b', rfl⟩) e3
          exact ⟨v', w', σ', N', hr, g1, g2⟩
    · exact e.elim
  · exact e.elim
theorem ownBuild_some {o : Oper} {d t len ps} (e : ownBuild E b o = some (d, t, len, ps)) : ∃ parts k, o.op = .buildSlice t len parts ∧ o.dst = some k ∧ d = b + k ∧ ps = parts.toList := by
  unfold ownBuild at e
  split at e
  · rename_i t' n' parts hop
    cases hd : o.dst with
    | none => rw [hd] at e; simp [dstAt] at e
    | some k =>
      rw [hd] at e
      simp only [dstAt] at e
      cases hb : E.nm (1000000000 + (b + k)) with
      | false => rw [hb] at e; cases e
      | true =>
        rw [hb] at e
        simp only [cond_true, Option.some.injEq, Prod.mk.injEq] at e
        obtain ⟨rfl, rfl, rfl, rfl⟩ := e
        exact ⟨parts, k, hop, rfl, rfl, rfl⟩
  · cases e
theorem buildRow_sound (hE : EnvOk P E) {σ : St} (hS : Sat B w0 h0 b u n σ N h a w) {d : Nat} (hdn : d < n) {t : TypeId} {len : Nat} {ps : Array (Nat × Operand)} {k : St → Prop}
    (e : buildRowK E b σ.slots σ.blks σ.rows (b + d) t len ps.toList k) (ho : ∀ q ∈ ps.toList, (evO b σ.slots q.2).rel N h (a.eval q.2)) :
    ∃ v' w' σ' N', (Instr.buildSlice t len (ps.map fun (i, x) => (i, a.eval x))).run P w = .ok v' w' ∧ k σ' ∧ Sat B w0 h0 b u n σ' N' h (a.put (some d) v') w' := by
  unfold buildRowK at e
  split at e
  · exact e.elim
  rename_i ti hti
  have hT := hE.tt t ti hti
  obtain ⟨dd, hd, _, hk⟩ := hT.und
  split at e
  case h_2 => exact e.elim
  rename_i te hte
  rw [hte] at hk
  simp only at hk
  subst hk
  split at e
  · exact e.elim
  rename_i tei htei
  have hTe := hE.tt te tei htei
  split at e
  · exact e.elim
  rename_i T hTy
  cases hb : (Nat.beq ps.toList.length len && Nat.ble (len * tei.size) 16777216 && Nat.beq tei.zero.length tei.size && Nat.beq tei.size T.size && Nat.ble 1 T.size) with
  | false => rw [hb] at e; exact e.elim
  | true =>
    rw [hb] at e
    simp only [cond_true, buildElemsK_eq] at e
    simp only [Bool.and_eq_true] at hb
    obtain ⟨⟨⟨⟨b1, b2⟩, b3⟩, b4⟩, b5⟩ := hb
    have b1 : ps.toList.length = len := Nat.eq_of_beq_eq_true b1
    have b2 : len * tei.size ≤ 16777216 := Nat.le_of_ble_eq_true b2
    have b4 : tei.size = T.size := Nat.eq_of_beq_eq_true b4
    have b5 : 1 ≤ T.size := Nat.le_of_ble_eq_true b5
    obtain ⟨ie, hie, hsz, _, hz⟩ := hTe.info
    obtain ⟨z, hz1, zcs, hz2, _⟩ := hz (Nat.eq_of_beq_eq_true b3)
    split at e
    case h_2 => exact e.elim
    rename_i xs hxs
    obtain ⟨css, q1, q2, q3, q4, hrun⟩ := buildSlice_core (w := w) hd hTe hie hsz hz1 b1 b2 b4 b5 hxs ho
    have hfl : css.flatten.length = css.length * T.size := by
      have go : ∀ l : List (List Value), (∀ c ∈ l, c.length = T.size) → l.flatten.length = l.length * T.size := by
        intro l
        induction l with
        | nil => intro _; simp
        | cons c l ih =>
          intro hl
          rw [List.flatten_cons, List.length_append, ih (fun c hc => hl c (List.mem_cons_of_mem _ hc)), hl c (List.mem_cons_self ..), List.length_cons, Nat.succ_mul]
          omega
      exact go css q4
    have hle : len * T.size ≤ 16777216 := by rw [← b4]; exact b2
    have hlen : len ≤ len * T.size := Nat.le_mul_of_pos_right _ b5
    have hown : (w.alloc (.cells css.flatten.toArray te)).ownsRow B te T.size (.slice (some ⟨w.heap.size, 0, none⟩) len len) xs.length css.flatten := by
      refine ⟨by rw [hfl, q1, q2], .inr ⟨w.heap.size, len, css.flatten.toArray, by rw [q2, b1], hS.mem.size, heap_alloc_new w _, by rw [q2, b1]; exact Nat.le_refl _, by have : maxLen = 9223372036854775807 := rfl; omega, ?_, ?_⟩⟩
      · simp only [List.size_toArray]
        rw [hfl, q1, b1]
      · have e1 : xs.length * T.size = css.flatten.length := by rw [hfl, q1, q2]
        show List.take (xs.length * T.size) css.flatten.toArray.toList = css.flatten
        rw [e1]
        exact List.take_length
    have hrc : RowCells h T xs css.flatten := rowCells_of xs css (by rw [q1, q2]) q3
    unfold newRowK at e
    cases hnm : (anySlots (Leaf.namesR (b + d)) σ.slots || anyBlks (Leaf.namesR (b + d)) σ.blks) with
    | true => rw [hnm] at e; exact e.elim
    | false =>
      rw [hnm] at e
      simp only [cond_false] at e
      simp only [Bool.or_eq_false_iff] at hnm
      refine ⟨_, _, _, N.setR (b + d) (.slice (some ⟨w.heap.size, 0, none⟩) len len), hrun, e, ⟨?_, hS.grow, hS.dom, ?_, by rw [size_put]; exact hS.size, by rw [defers_put]; exact hS.defers⟩⟩
      · refine hS.mem.newR (R := ⟨T, te, xs⟩) (row := none) (hS.mem.below.alloc hS.mem.size _) (Nat.le_of_lt (lt_of_heap (heap_alloc_new w _))) (fun k hk _ => Below.heap_alloc _ _ _ hk) hown hrc ?_ hnm.2
        intro g hg
        have hg : g = w.heap.size := by
          rcases hg with hg | hg
          · simp only [Value.ownBlock, Option.some.injEq] at hg
            exact hg.symm
          · cases hg
        subst hg
        refine ⟨?_, fun i b hi => ?_, fun q S hq hqg => ?_⟩
        · cases hh : h w.heap.size with
          | none => rfl
          | some o => exact absurd (hS.mem.pin.lt hh) (by omega)
        · obtain ⟨ds, p1, _⟩ := hS.mem.blk i b hi
          have := lt_of_heap p1
          omega
        · have := (ownBlock_lt hS.mem hq hqg).2
          omega
      · refine SlotSat.put (N := N.setR (b + d) _) (fun t' => ?_) (by rw [hS.size]; exact hdn) ?_
        · refine SV.rel_names _ (hS.slots t') (fun i _ => rfl) (fun i hi => ?_)
          simp only [Names.setR]
          rw [if_neg]
          intro he
          subst he
          have := anySlots_false hnm.1 t' hi
          cases this
        · simp only [SV.rel, Leaf.rel]
          exact ⟨by simp [Names.setR], rfl⟩
theorem dstAt_some {d : Option Nat} {t : Nat} (e : dstAt b d = some t) : ∃ k, d = some k ∧ t = b + k := by
  cases d with
  | none => cases e
  | some k => injection e with e; exact ⟨k, rfl, e.symm⟩
theorem run_getObj_iter {g : Nat} {s : ByteArray} {p : Nat} (q : w.heap[g]? = some (.stringIter s p)) : (getObj g).run P w = .ok (.stringIter s p) w := by
  simp [getObj, Sem.run, q]
theorem run_setObj_iter {g : Nat} {s : ByteArray} {p : Nat} (q : w.heap[g]? = some (.stringIter s p)) (o : Obj) : (setObj g o).run P w = .ok () { w with heap := w.heap.setIfInBounds g o } := by
  simp [setObj, Sem.run, q]
theorem ownK_some : {T : Ty} → {x : T.den} → {k : (t : Ty) → List t.den → Prop} → ownK T x k → ∃ (t : Ty) (xs : List t.den), k t xs ∧ ∀ {B : Nat} {w : World} {h : PHeap} {e : TypeId} {v : Value}, ownRep B w h e T x v → (∃ cs, w.ownsRow B e t.size v xs.length cs ∧ RowCells h t xs cs) ∧ ∀ g, v.ownBlock = some g → h g = none
  | .sl t, xs, _, e => ⟨t, xs, e, fun hh => hh⟩
  | .bool, _, _, e => e.elim
  | .int _, _, _, e => e.elim
  | .str, _, _, e => e.elim
  | .unit, _, _, e => e.elim
  | .opt _, _, _, e => e.elim
  | .mp _ _, _, _, e => e.elim
  | .nd _ _ _ _, _, _, e => e.elim
  | .pair _ _, _, _, e => e.elim
theorem ownsRow_base {W : World} {base base' : Nat} {e : TypeId} {size : Nat} {v : Value} {k : Nat} {xs : List Value} (h : W.ownsRow base e size v k xs) (hb : base' ≤ base) : W.ownsRow base' e size v k xs := by
  refine ⟨h.1, ?_⟩
  rcases h.2 with h0 | ⟨g, cap, cur, e1, e2, e3, e4⟩
  · exact .inl h0
  · exact .inr ⟨g, cap, cur, e1, by omega, e3, e4⟩
theorem ownCall_sound (hE : EnvOk P E) (hG : GlobOk E.gl h0) {σ : St} (hS : Sat B w0 h0 b u n σ N h a w) {o : Oper} {c : Call} (hop : o.op = .call c) {d : Nat} (hdn : d < n) {k : St → Prop} {K : Act → World → Prop} {Q : Exit → Act → World → Prop}
    (e : ownCall E b σ.slots c fun t e xs => newRowK σ.slots σ.blks σ.rows (b + d) ⟨t, e, xs⟩ k) (hK : ∀ v σ' N' h' w', k σ' → Sat B w0 h0 b u n σ' N' h' (a.put (some d) v) w' → K (a.put o.dst v) w') : o.wp P a w K Q := by
  have hoa : ∀ x ∈ c.args.toList, (evO b σ.slots x).rel N h (a.eval x) := fun x _ => evO_rel hS.slots x
  unfold ownCall at e
  split at e
  rotate_left
  · exact e.elim
  rename_i fv hf
  have hof := evO_rel hS.slots fv
  split at e
  rotate_left
  · exact e.elim
  rename_i f caps hfn
  obtain ⟨vs, hv, hcaps⟩ := asFn_rel hfn hof
  split at e
  rotate_left
  · exact e.elim
  rename_i C hC
  obtain ⟨⟨fn, cd, hfn, hname, hbody⟩, hspec⟩ := hE.ct f C hC
  split at e
  rotate_left
  · exact e.elim
  rename_i te hown
  split at e
  rotate_left
  · exact e.elim
  rename_i ss' hcut
  rw [argsK_eq] at e
  split at e
  rotate_left
  · exact e.elim
  rename_i x hx
  obtain ⟨l1, l2⟩ := callArgs_rel hoa hcaps
  obtain ⟨us, hus, l1, l2⟩ := cutTail_rel hcut l1 l2
  have hargs : trep h C.arg x us := argsOf_rel C.arg _ x hx _ l1 l2
  obtain ⟨hpre, e⟩ := e
  obtain ⟨t, xs, e, hrep⟩ := ownK_some e
  have hcall := hspec x h w _ hpre hargs hS.mem.pin (hG.mono hS.grow)
  unfold Oper.wp
  rw [call_enter hop hf hv hfn hname hbody, hus]
  refine hcall.mono ?_
  rintro en w' ⟨v, h', rfl, h1, h2, h3, h4, h5⟩
  unfold resOr at h4
  rw [hown] at h4
  simp only at h4
  obtain ⟨⟨cs, hrow, hrc⟩, hfr⟩ := hrep h4
  have hM := hS.mem.grow h1 h2 h3 h5
  have hsz := h5.size
  have hBw := hS.mem.size
  unfold newRowK at e
  cases hnm : (anySlots (Leaf.namesR (b + d)) σ.slots || anyBlks (Leaf.namesR (b + d)) σ.blks) with
  | true => rw [hnm] at e; exact e.elim
  | false =>
    rw [hnm] at e
    simp only [cond_false] at e
    simp only [Bool.or_eq_false_iff] at hnm
    refine hK v _ (N.setR (b + d) v) h' w' e ⟨?_, hS.grow.trans h1, ?_, ?_, by rw [size_put]; exact hS.size, by rw [defers_put]; exact hS.defers⟩
    · refine hM.newR (R := ⟨t, te, xs⟩) (row := none) hM.below (Nat.le_refl _) (fun k _ _ => rfl) (ownsRow_base hrow hBw) hrc ?_ hnm.2
      intro g hg
      have hg : v.ownBlock = some g := by
        rcases hg with hg | hg
        · exact hg
        · cases hg
      have hge := (hrow.lt g hg).1
      refine ⟨hfr g hg, fun i bb hi => ?_, fun q S hq hqg => ?_⟩
      · obtain ⟨ds, p1, _⟩ := hS.mem.blk i bb hi
        have := lt_of_heap p1
        omega
      · have := (ownBlock_lt hS.mem hq hqg).2
        omega
    · intro k hk
      rcases h2 k hk with g | g
      · exact hS.dom k g
      · exact .inr (by omega)
    · refine SlotSat.put (N := N.setR (b + d) _) (fun t' => ?_) (by rw [hS.size]; exact hdn) ?_
      · refine SV.rel_names _ (SV.rel_mono h1 _ _ (hS.slots t')) (fun i _ => rfl) (fun i hi => ?_)
        simp only [Names.setR]
        rw [if_neg]
        intro he
        subst he
        have := anySlots_false hnm.1 t' hi
        cases this
      · simp only [SV.rel, Leaf.rel]
        have hvs : ∃ A c, v = .slice A xs.length c := by
          rcases hrow.2 with ⟨e0, e1⟩ | ⟨g, cap, cur, e0, _⟩
          · exact ⟨none, 0, by rw [e0, e1]⟩
          · exact ⟨_, _, e0⟩
        obtain ⟨A, cc, hvs⟩ := hvs
        subst hvs
        exact ⟨by simp [Names.setR], rfl⟩
theorem cut_sound {σ : St} (hS : Sat B w0 h0 b u n σ N h a w) {d : Nat} (hdn : d < n) {r : Nat} {R : RowS} (hR : getR σ.rows r = some R) {m : Nat} (hm : m ≤ R.xs.length) {k : St → Prop}
    (e : newRowK (mapSlots (forget r) σ.slots) (mapBlks (forget r) σ.blks) (rmR σ.rows r) (b + d) ⟨R.t, R.e, R.xs.take m⟩ k) :
    ∃ A c L, N.V r = .slice A L c ∧ L = R.xs.length ∧ m ≤ c ∧ ∃ σ' N', k σ' ∧ Sat B w0 h0 b u n σ' N' h (a.put (some d) (.slice A m c)) w := by
  obtain ⟨cs, hown, hrc⟩ := hS.mem.row r R hR
  have hM := (hS.mem.mapBlks (forget_keeps r)).rmRow r
  have hsl : SlotSat (mapSlots (forget r) σ.slots) N h (vals b u a) := hS.slots.mapped (forget_keeps r) (PLe.refl h)
  have hcl := RowCells_len R.t R.xs cs hrc
  have htk : RowCells h R.t (R.xs.take m) (cs.take (m * R.t.size)) := by
    have key : ∀ (xs : List R.t.den) (cs : List Value) (m : Nat), RowCells h R.t xs cs → RowCells h R.t (xs.take m) (cs.take (m * R.t.size)) := by
      intro xs
      induction xs with
      | nil => intro cs m hc; simp only [RowCells] at hc; subst hc; simp [RowCells]
      | cons x xs ih =>
        rintro cs m ⟨d, q, rfl, g1, g2⟩
        cases m with
        | zero => simp [RowCells]
        | succ m =>
          have hd := rep_len R.t x d g1
          refine ⟨d, q.take (m * R.t.size), ?_, g1, ih q m g2⟩
          rw [show (m + 1) * R.t.size = d.length + m * R.t.size by rw [hd, Nat.add_mul]; omega, List.take_length_add_append]
    exact key R.xs cs m hrc
  have hlt : (R.xs.take m).length = m := by simp; omega
  have hms : m * R.t.size ≤ R.xs.length * R.t.size := Nat.mul_le_mul_right _ hm
  have hv : ∃ A c, N.V r = .slice A R.xs.length c ∧ m ≤ c ∧ w.ownsRow B R.e R.t.size (.slice A m c) m (cs.take (m * R.t.size)) := by
    rcases hown.2 with ⟨e0, e1⟩ | ⟨g, cap, cur, e0, f1, f2, f3, f4, f5, f6⟩
    · have : m = 0 := by omega
      subst this
      exact ⟨none, 0, by rw [e0, e1], Nat.le_refl _, by simp, .inl ⟨rfl, rfl⟩⟩
    · refine ⟨_, cap, e0, by omega, by rw [List.length_take, hcl]; omega, .inr ⟨g, cap, cur, rfl, f1, f2, by omega, f4, f5, ?_⟩⟩
      rw [← f6, List.take_take, Nat.min_eq_left hms]
  obtain ⟨A, c, hV, hmc, hown'⟩ := hv
  have hob : (Value.slice A m c).ownBlock = (N.V r).ownBlock := by rw [hV]; cases A <;> rfl
  refine ⟨A, c, R.xs.length, hV, rfl, hmc, ?_⟩
  unfold newRowK at e
  cases hnm : (anySlots (Leaf.namesR (b + d)) (mapSlots (forget r) σ.slots) || anyBlks (Leaf.namesR (b + d)) (mapBlks (forget r) σ.blks)) with
  | true => rw [hnm] at e; exact e.elim
  | false =>
    rw [hnm] at e
    simp only [cond_false] at e
    simp only [Bool.or_eq_false_iff] at hnm
    refine ⟨_, N.setR (b + d) (.slice A m c), e, ⟨?_, hS.grow, hS.dom, ?_, by rw [size_put]; exact hS.size, by rw [defers_put]; exact hS.defers⟩⟩
    · refine hM.newR (R := ⟨R.t, R.e, R.xs.take m⟩) (row := none) hS.mem.below (Nat.le_refl _) (fun k hk hne => rfl) (by rw [hlt]; exact hown') htk ?_ hnm.2
      intro g hg
      have hg : (N.V r).ownBlock = some g := by
        rcases hg with hg | hg
        · rw [hob] at hg; exact hg
        · cases hg
      refine ⟨hS.mem.rowh r R g hR hg, fun i bb hi => ?_, fun q S hq hqg => ?_⟩
      · rw [mapBlks_get] at hi
        cases hh : getB σ.blks i with
        | none => rw [hh] at hi; cases hi
        | some b' => exact hS.mem.rowb r R g i b' hR hg hh
      · rw [rmR_get] at hq
        split at hq
        · cases hq
        · rename_i hne
          exact hne (hS.mem.rowr r q R S g hR hq hg hqg)
    · refine SlotSat.put (N := N.setR (b + d) _) (fun t' => ?_) (by rw [hS.size]; exact hdn) ?_
      · refine SV.rel_names _ (hsl t') (fun i _ => rfl) (fun i hi => ?_)
        simp only [Names.setR]
        rw [if_neg]
        intro he
        subst he
        have := anySlots_false hnm.1 t' hi
        cases this
      · simp only [SV.rel, Leaf.rel]
        exact ⟨by simp [Names.setR], rfl⟩
theorem clear_sound (hE : EnvOk P E) {σ : St} (hS : Sat B w0 h0 b u n σ N h a w) {o : Oper} (hdst : o.dst = none) {k : St → Prop} {K : Act → World → Prop} {Q : Exit → Act → World → Prop}
    (e : clearK E b σ.slots σ.blks σ.rows o k) (hK : ∀ σ' w', k σ' → Sat B w0 h0 b u n σ' N h a w' → K a w') : o.wp P a w K Q := by
  have ho : ∀ x, (evO b σ.slots x).rel N h (a.eval x) := evO_rel hS.slots
  obtain ⟨dst, op, type, pos, after, guard⟩ := o
  simp only at hdst
  subst hdst
  unfold clearK at e
  simp only at e
  split at e
  rotate_left
  · exact e.elim
  rename_i c
  split at e
  rotate_left
  · exact e.elim
  rename_i hcal
  split at e
  rotate_left
  · exact e.elim
  rename_i t hts
  split at e
  rotate_left
  · exact e.elim
  rename_i x hargs
  split at e
  rotate_left
  · exact e.elim
  rename_i r sz i hx
  split at e
  rotate_left
  · exact e.elim
  rename_i R hR
  split at e
  rotate_left
  · exact e.elim
  rename_i ti hti
  split at e
  rotate_left
  · exact e.elim
  rename_i te hte
  split at e
  rotate_left
  · exact e.elim
  rename_i tei htei
  cases hb : (Nat.beq sz R.t.size && Nat.beq tei.size R.t.size && Nat.beq tei.zero.length tei.size && Nat.ble 1 tei.size) with
  | false => rw [hb] at e; exact e.elim
  | true =>
    rw [hb] at e
    simp only [cond_true, implodeK_eq] at e
    simp only [Bool.and_eq_true] at hb
    have b0 : sz = R.t.size := Nat.eq_of_beq_eq_true hb.1.1.1
    have b1 : tei.size = R.t.size := Nat.eq_of_beq_eq_true hb.1.1.2
    have b2 : tei.zero.length = tei.size := Nat.eq_of_beq_eq_true hb.1.2
    split at e
    rotate_left
    · exact e.elim
    rename_i z r' hz
    split at e
    rotate_left
    · exact e.elim
    rw [setRK_eq] at e
    have hca : c.args = #[x] := by
      apply Array.ext'
      exact hargs
    have hct : c.argTypes = #[t] := by
      apply Array.ext'
      exact hts
    obtain ⟨dd, hdd, _, hkk⟩ := (hE.tt t ti hti).und
    rw [hte] at hkk
    simp only at hkk
    subst hkk
    have hxv := ho x
    rw [hx] at hxv
    simp only [SV.rel, Leaf.rel] at hxv
    obtain ⟨g, len, cap, hV, hi, hxv⟩ := hxv
    obtain ⟨cs, hown, hrc⟩ := hS.mem.row r R hR
    have hcl := RowCells_len R.t R.xs cs hrc
    rcases hown.2 with ⟨e0, e1⟩ | ⟨g', cap', cur, e0, f1, f2, f3, f4, f5, f6⟩
    · rw [hV] at e0; cases e0
    rw [hV] at e0
    injection e0 with q1 q2 q3
    injection q1 with q1
    injection q1 with q1
    subst q1 q2 q3 b0
    obtain ⟨zs, hrz, hrun⟩ := clear_run (P := P) (w := w) (h := h) (hE.tt te tei htei) hdd b2 b1 hz f2 f5 f3 hi (cap - i) type
    have hzl : zs.length = R.t.size := rep_len R.t z zs hrz
    have hrun2 : (execOp a.eval ⟨none, .call c, type, pos, after, guard⟩).run P w = .ok (.value (.tuple #[])) (w.setRow g (cur.toList.take (i * R.t.size) ++ (List.replicate (R.xs.length - i) zs).flatten ++ cur.toList.drop (i * R.t.size + (R.xs.length - i) * R.t.size)).toArray) := by
      simp only [execOp, Sem.run_bind, resolve, hcal, hca, hct]
      simp [invoke, builtin, hxv]
      rw [hrun]
      simp
    unfold Oper.wp
    rw [hrun2]
    have hfl : (List.replicate (R.xs.length - i) zs).flatten.length = (R.xs.length - i) * R.t.size := by simp [hzl]
    have hsplit : i * R.t.size + (R.xs.length - i) * R.t.size = R.xs.length * R.t.size := by rw [← Nat.add_mul]; congr 1; omega
    have hcapn : R.xs.length * R.t.size ≤ cap * R.t.size := Nat.mul_le_mul_right _ f3
    have hcur : cur.toList.length = cap * R.t.size := by simpa using f5
    have htake : RowCells h R.t (R.xs.take i) (cs.take (i * R.t.size)) := by
      have key : ∀ (xs : List R.t.den) (cs : List Value) (m : Nat), RowCells h R.t xs cs → RowCells h R.t (xs.take m) (cs.take (m * R.t.size)) := by
        intro xs
        induction xs with
        | nil => intro cs m hc; simp only [RowCells] at hc; subst hc; simp [RowCells]
        | cons x xs ih =>
          rintro cs m ⟨d, q, rfl, g1, g2⟩
          cases m with
          | zero => simp [RowCells]
          | succ m =>
            have hd := rep_len R.t x d g1
            refine ⟨d, q.take (m * R.t.size), ?_, g1, ih q m g2⟩
            rw [show (m + 1) * R.t.size = d.length + m * R.t.size by rw [hd, Nat.add_mul]; omega, List.take_length_add_append]
      exact key R.xs cs i hrc
    refine hK _ _ e ⟨?_, hS.grow, hS.dom, hS.slots, hS.size, hS.defers⟩
    have hit : cs.take (i * R.t.size) = cur.toList.take (i * R.t.size) := by
      rw [← f6, List.take_take, Nat.min_eq_left (by omega)]
    have hlen : (R.xs.take i ++ List.replicate (R.xs.length - i) z).length = R.xs.length := by simp; omega
    refine hS.mem.turnRow (R' := ⟨R.t, R.e, R.xs.take i ++ List.replicate (R.xs.length - i) z⟩) (g := g) (cs := cs.take (i * R.t.size) ++ (List.replicate (R.xs.length - i) zs).flatten) hR (by rw [hV]; rfl)
      (hS.mem.below.trans ⟨rfl, rfl, rfl, by simp, fun k hk => setRow_other w g k _ (by omega), Nat.le_refl _⟩) (by simp) (fun k hk => setRow_other w g k _ hk) ?_ (RowCells_append R.t _ _ _ _ htake (RowCells_replicate R.t hrz _))
    refine ⟨?_, .inr ⟨g, cap, _, by rw [hlen]; exact hV, f1, setRow_heap w g cur _ R.e (0, 0) f2, by rw [hlen]; exact f3, f4, ?_, ?_⟩⟩
    · rw [hlen, List.length_append, hfl, List.length_take, hcl]
      show _ = R.xs.length * R.t.size
      omega
    · simp only [List.size_toArray, List.length_append, hfl, List.length_take, List.length_drop, hcur]
      omega
    · rw [hlen, hit]
      simp only
      have hl2 : (cur.toList.take (i * R.t.size) ++ (List.replicate (R.xs.length - i) zs).flatten).length = R.xs.length * R.t.size := by
        rw [List.length_append, hfl, List.length_take, hcur]
        omega
      rw [← hl2]
      exact List.take_left
theorem rowBack_sound {σ : St} (hS : Sat B w0 h0 b u n σ N h a w) {w' : World} {v v' : Value} {sl : Slots} {bs : Blks} {rs : Rows} {d : Option Nat} (hd : ∀ t, d = some t → t < n) {R : RowS} {cs' : List Value} {k : St → Prop}
    (hM : MemSat B w0 bs rs N h w) (hsl : SlotSat sl N h (vals b u a)) (hfree : ∀ g, v.ownBlock = some g → B ≤ g ∧ h g = none ∧ (∀ i b, getB bs i = some b → N.ρ i ≠ g) ∧ (∀ s S, getR rs s = some S → (N.V s).ownBlock ≠ some g))
    (e : rowBackK sl bs rs (dstAt b d) R k) (q1 : w'.ownsRow B R.e R.t.size v' R.xs.length cs') (q2 : RowCells h R.t R.xs cs') (q3 : GrownBy w w' v.ownBlock) (q4 : ∀ g, v'.ownBlock = some g → v.ownBlock = some g ∨ w.heap.size ≤ g) :
    ∃ σ' N', k σ' ∧ Sat B w0 h0 b u n σ' N' h (a.put d v') w' := by
  unfold rowBackK at e
  split at e
  rotate_left
  · exact e.elim
  rename_i d0 hd0
  obtain ⟨d, rfl, rfl⟩ := dstAt_some hd0
  have hdn := hd d rfl
  have hbel : Below B w0 w' := hS.mem.below.grown q3 hS.mem.size fun k hk => (hfree k hk).1
  unfold newRowK at e
  cases hnm : (anySlots (Leaf.namesR (b + d)) sl || anyBlks (Leaf.namesR (b + d)) bs) with
  | true => rw [hnm] at e; exact e.elim
  | false =>
    rw [hnm] at e
    simp only [cond_false] at e
    simp only [Bool.or_eq_false_iff] at hnm
    refine ⟨_, N.setR (b + d) v', e, ⟨?_, hS.grow, hS.dom, ?_, by rw [size_put]; exact hS.size, by rw [defers_put]; exact hS.defers⟩⟩
    · refine hM.newR (row := v.ownBlock) hbel q3.size (fun k hk hne => q3.block k hk hne) q1 q2 ?_ hnm.2
      intro g hg
      have hg' : v.ownBlock = some g ∨ w.heap.size ≤ g := by
        rcases hg with hg | hg
        · exact q4 g hg
        · exact .inl hg
      rcases hg' with hg | hg
      · exact (hfree g hg).2
      · refine ⟨?_, fun i b hi => ?_, fun q S hq hqg => ?_⟩
        · cases hh : h g with
          | none => rfl
          | some o => exact absurd (hM.pin.lt hh) (by omega)
        · obtain ⟨ds, p1, _⟩ := hM.blk i b hi
          have := lt_of_heap p1
          omega
        · have := (ownBlock_lt hM hq hqg).2
          omega
    · refine SlotSat.put (N := N.setR (b + d) v') (fun t' => ?_) (by rw [hS.size]; exact hdn) ?_
      · refine SV.rel_names _ (hsl t') (fun i _ => rfl) (fun i hi => ?_)
        simp only [Names.setR]
        rw [if_neg]
        intro he
        subst he
        have := anySlots_false hnm.1 t' hi
        cases this
      · simp only [SV.rel, Leaf.rel]
        refine ⟨by simp [Names.setR], ?_⟩
        rcases q1.2 with ⟨e0, _⟩ | ⟨g, cap, cur, e0, _⟩ <;> rw [e0] <;> rfl
theorem rowCall_sound (hE : EnvOk P E) {σ : St} (hS : Sat B w0 h0 b u n σ N h a w) {o : Oper} (hd : ∀ t, o.dst = some t → t < n) {C : RContract} {s : SV} (hc : rowCall E b σ.slots o.op = some (C, s)) {k : St → Prop} {K : Act → World → Prop} {Q : Exit → Act → World → Prop}
    (e : rowCallK C s σ.slots σ.blks σ.rows (dstAt b o.dst) k) (hK : ∀ σ' N' h' a' w', k σ' → Sat B w0 h0 b u n σ' N' h' a' w' → K a' w') : o.wp P a w K Q := by
  unfold rowCall at hc
  split at hc
  rotate_left
  · cases hc
  rename_i c hop
  split at hc
  rotate_left
  · cases hc
  rename_i fv hf
  have hof := evO_rel hS.slots fv
  have hoa : ∀ x ∈ c.args.toList, (evO b σ.slots x).rel N h (a.eval x) := fun x _ => evO_rel hS.slots x
  split at hc
  rotate_left
  · cases hc
  rename_i f hfn
  obtain ⟨vs, hv, hcaps⟩ := asFn_rel hfn hof
  have hvs := LeafRels.nil_iff.1 hcaps
  subst hvs
  split at hc
  rotate_left
  · cases hc
  rename_i C0 hC
  obtain ⟨⟨fn, cd, hfn, hname, hbody⟩, hspec⟩ := hE.rct f C0 hC
  split at hc
  rotate_left
  · cases hc
  rename_i s0 hcut
  injection hc with hc
  injection hc with h1 h2
  subst h1 h2
  obtain ⟨l1, l2⟩ := callArgs_rel hoa hcaps
  simp only [leafSVs, List.append_nil] at l1 l2
  obtain ⟨us, hus, l1, l2⟩ := cutTail_rel hcut l1 l2
  obtain ⟨v, rfl⟩ : ∃ v, us = [v] := by
    match us, l1 with
    | [v], _ => exact ⟨v, rfl⟩
  have hsv : s0.rel N h v := l2 0 s0 v rfl rfl
  have main : ∀ (xs : List C0.t.den) (cs : List Value) (B' : Nat), C0.pre xs → w.ownsRow B C0.e C0.t.size v xs.length cs → RowCells h C0.t xs cs → (∀ g, v.ownBlock = some g → h g = none) →
      (∀ u v' ys cs' w', C0.post xs ys → w'.ownsRow B C0.e C0.t.size v' ys.length cs' → RowCells h C0.t ys cs' → GrownBy w w' v.ownBlock → (∀ g, v'.ownBlock = some g → v.ownBlock = some g ∨ w.heap.size ≤ g) → (match C0.back with | true => u = v' | false => v' = v) → K (a.put o.dst u) w') → o.wp P a w K Q := by
    intro xs cs B' hpre hown hrc hfr fin
    have hcall := hspec xs h w B v cs hpre hS.mem.pin hS.mem.size hown hrc hfr
    unfold Oper.wp
    rw [call_enter (vs := []) hop hf hv hfn hname hbody]
    simp only [List.append_nil] at hus ⊢
    rw [hus]
    refine hcall.mono ?_
    rintro en w' ⟨u, v', ys, cs', rfl, g1, g2, g3, g4, g5, g6⟩
    exact fin u v' ys cs' w' g1 g2 g3 g4 g5 g6
  unfold rowCallK at e
  split at e
  · rename_i r
    simp only [SV.rel, Leaf.rel] at hsv
    obtain ⟨rfl, hone⟩ := hsv
    split at e
    rotate_left
    · exact e.elim
    rename_i R hR
    cases hbe : Nat.beq R.e C0.e with
    | false => rw [hbe] at e; exact e.elim
    | true =>
      have hee := Nat.eq_of_beq_eq_true hbe
      rw [hbe] at e
      simp only [cond_true, popSlK_eq, popSl] at e
      split at e
      rotate_left
      · exact e.elim
      rename_i xs rr hxs
      split at hxs
      rotate_left
      · cases hxs
      rename_i ht
      obtain ⟨T, te, ys0⟩ := R
      simp only at ht hee
      subst ht hee
      injection hxs with hxs
      injection hxs with hxs _
      subst hxs
      obtain ⟨hpre, e⟩ := e
      obtain ⟨cs, hown, hrc⟩ := hS.mem.row r _ hR
      refine main ys0 cs 0 hpre hown hrc (fun g hg => hS.mem.rowh r _ g hR hg) ?_
      intro u v' ys cs' w' g1 g2 g3 g4 g5 g6
      have e := e ys g1
      split at e
      · rename_i hb
        rw [hb] at g6
        simp only at g6
        subst g6
        rw [setRK_eq, putK_eq] at e
        have hbel : Below B w0 w' := hS.mem.below.grown g4 hS.mem.size fun k hk => (ownBlock_lt hS.mem hR hk).1
        have hM := hS.mem.turnRowG (R' := ⟨_, _, ys⟩) hR hbel g4.size (fun k hk hne => g4.block k hk hne) g2 g3
        have hS2 : Sat B w0 h0 b _ n ⟨σ.slots, σ.blks, setR σ.rows r ⟨_, _, ys⟩⟩ N h a w' := ⟨hM, hS.grow, hS.dom, hS.slots, hS.size, hS.defers⟩
        exact hK _ N h _ w' e (hS2.put hd (SV.leaf_iff.2 (by simp only [Leaf.rel])))
      · rename_i hb
        rw [hb] at g6
        simp only at g6
        subst g6
        simp only [fSlots_eq, fBlks_eq, fRows_eq] at e
        obtain ⟨σ', N', p1, p2⟩ := rowBack_sound hS (v := N.V r) hd ((hS.mem.mapBlks (forget_keeps r)).rmRow r) (hS.slots.mapped (forget_keeps r) (PLe.refl h)) (fun g hg => ⟨(ownBlock_lt hS.mem hR hg).1, hS.mem.rowh r _ g hR hg, fun i bb hi => by
          rw [mapBlks_get] at hi
          cases hh : getB σ.blks i with
          | none => rw [hh] at hi; cases hi
          | some b' => exact hS.mem.rowb r _ g i b' hR hg hh, fun q S hq hqg => by
          rw [rmR_get] at hq
          split at hq
          · cases hq
          · rename_i hne
            exact hne (hS.mem.rowr r q _ S g hR hq hg hqg)⟩) e g2 g3 g4 g5
        exact hK _ _ _ _ _ p1 p2
  · simp only [SV.rel, Leaf.rel] at hsv
    subst hsv
    obtain ⟨hpre, e⟩ := e
    refine main [] [] 0 hpre (World.ownsRow_nil w B _ _) rfl (fun g hg => by cases hg) ?_
    intro u v' ys cs' w' g1 g2 g3 g4 g5 g6
    have e := e ys g1
    split at e
    · rw [putK_eq] at e
      have hbel : Below w.heap.size w w' := ⟨g4.os, g4.tape, g4.output, g4.size, fun k hk => g4.block k hk (by simp [Value.ownBlock]), g4.drawn⟩
      have hM := hS.mem.grow (PLe.refl h) (fun k hk => .inl hk) (fun k o hk => (hbel.block k (hS.mem.pin.lt hk)).trans (hS.mem.pin k o hk)) hbel
      have hS2 : Sat B w0 h0 b _ n σ N h a w' := ⟨hM, hS.grow, hS.dom, hS.slots, hS.size, hS.defers⟩
      exact hK _ N h _ w' e (hS2.put hd (SV.leaf_iff.2 (by simp only [Leaf.rel])))
    · rename_i hb
      rw [hb] at g6
      simp only at g6
      subst g6
      obtain ⟨σ', N', p1, p2⟩ := rowBack_sound hS (v := .slice none 0 0) hd hS.mem hS.slots (fun g hg => by cases hg) e g2 g3 g4 g5
      exact hK _ _ _ _ _ p1 p2
  · exact e.elim
theorem seq_sound0 (hE : EnvOk P E) (hG : GlobOk E.gl h0) {σ : St} (hS : Sat B w0 h0 b u n σ N h a w) {o : Oper} (hd : ∀ t, o.dst = some t → t < n) {k : St → Prop} {K : Act → World → Prop} {Q : Exit → Act → World → Prop}
    (e : seqEv0 E b σ.slots σ.blks σ.rows o k) (hK : ∀ σ' N' h' a' w', k σ' → Sat B w0 h0 b u n σ' N' h' a' w' → K a' w') : o.wp P a w K Q := by
  have ho : ∀ x, (evO b σ.slots x).rel N h (a.eval x) := evO_rel hS.slots
  obtain ⟨dst, op, type, pos, after, guard⟩ := o
  unfold seqEv0 at e
  simp only at e hd
  split at e
  · rename_i hdn0
    have hdst : dst = none := by
      cases dst with
      | none => rfl
      | some d => cases hdn0
    subst hdst
    unfold mapOrClear at e
    split at e
    · rename_i put t m x v hme
      simp only at hme
      unfold mapEv at hme
      split at hme
      · injection hme with hme
        injection hme with q1 hme
        injection hme with q2 hme
        injection hme with q3 hme
        injection hme with q4 q5
        subst q1 q2 q3 q4 q5
        simp only at e
        obtain ⟨σ', w', g0, g1, g2⟩ := mapPut_sound hE hS (ho _) (ho _) (ho _) e
        unfold Oper.wp
        simp only [execOp, Sem.run_bind, g0, Result.andThen_ok, Sem.run_pure]
        exact hK _ _ _ _ _ g1 g2
      · rename_i c
        split at hme
        · rename_i hcal
          split at hme
          · rename_i t0 ts hts
            split at hme
            · rename_i m0 x0 hargs
              injection hme with hme
              injection hme with q1 hme
              injection hme with q2 hme
              injection hme with q3 hme
              injection hme with q4 q5
              subst q1 q2 q3 q4 q5
              simp only at e
              have hca : c.args = #[m0, x0] := by
                apply Array.ext'
                exact hargs
              have hct : c.argTypes = (t0 :: ts).toArray := by
                apply Array.ext'
                exact hts
              obtain ⟨σ', w', g0, g1, g2⟩ := mapDel_sound (t' := type) (ts := ts) hE hS (ho _) (ho _) e
              have hrun : (execOp a.eval ⟨none, .call c, type, pos, after, guard⟩).run P w = .ok (.value (.tuple #[])) w' := by
                simp only [execOp, Sem.run_bind, resolve, hcal, hca, hct]
                simp [invoke, builtin, g0]
              unfold Oper.wp
              rw [hrun]
              exact hK _ _ _ _ _ g1 g2
            · cases hme
          · cases hme
        · cases hme
      · cases hme
    · exact clear_sound hE hS rfl e fun σ' w' g1 g2 => hK σ' N h a w' g1 g2
  · rename_i d0 hd0
    obtain ⟨d, rfl, rfl⟩ := dstAt_some hd0
    have hdn := hd d rfl
    split at e
    · rename_i t r
      split at e
      · obtain ⟨ei, K0, V0, hI, e⟩ := mapKV_some hE e
        obtain ⟨σ', N', g1, g2⟩ := newMap_sound hS hdn e
        unfold Oper.wp
        simp only [execOp, Option.map_none, Instr.makeMap, Sem.run_bind, run_newObj, Result.andThen_ok, Sem.run_pure]
        exact hK _ _ _ _ _ g1 g2
      · exact e.elim
    · rename_i t m x ok
      split at e
      · obtain ⟨s, v, g0, g1, g2⟩ := mapLook_sound hE hS (ho _) (ho _) e
        unfold Oper.wp
        simp only [execOp, Sem.run_bind, g0, Result.andThen_ok, Sem.run_pure]
        exact hK _ N h _ _ g2 ⟨hS.mem, hS.grow, hS.dom, hS.slots.put (by rw [hS.size]; exact hdn) g1, by rw [size_put]; exact hS.size, by rw [defers_put]; exact hS.defers⟩
      · exact e.elim
    · rename_i t x lo hi mx
      split at e
      rotate_left
      · exact e.elim
      split at e
      rotate_left
      · exact e.elim
      rename_i r hx
      split at e
      rotate_left
      · exact e.elim
      rename_i R hR
      have hxv := ho x
      rw [hx] at hxv
      simp only [SV.rel, Leaf.rel] at hxv
      unfold rowSliceK at e
      split at e
      rotate_left
      · exact e.elim
      rename_i ti hti
      obtain ⟨dd, hdd, _, hkk⟩ := (hE.tt t ti hti).und
      split at e
      rotate_left
      · exact e.elim
      rename_i te hte
      rw [hte] at hkk
      simp only at hkk
      subst hkk
      split at e
      rotate_left
      · exact e.elim
      rename_i tei htei
      have hTe := hE.tt te tei htei
      cases hb : Nat.beq tei.size R.t.size with
      | false => rw [hb] at e; exact e.elim
      | true =>
        rw [hb] at e
        have b1 : tei.size = R.t.size := Nat.eq_of_beq_eq_true hb
        simp only [cond_true] at e
        cases lo with
        | none =>
          cases hi with
          | none => exact e.elim
          | some y =>
            simp only [Option.map_some, Option.map_none] at e
            split at e
            rotate_left
            · exact e.elim
            rename_i kk m hm
            simp only [fSlots_eq, fBlks_eq, fRows_eq] at e
            obtain ⟨⟨h1, h2⟩, e⟩ := e
            obtain ⟨A, c, L, hV, hL, hmc, σ', N', g1, g2⟩ := cut_sound hS hdn hR (m := m.toNat) (by omega) e
            have hy := asInt_rel hm (ho y)
            have hrun : (Instr.sliceAt t (a.eval x) none (some (a.eval y)) none).run P w = .ok (.slice A m.toNat c) w := by
              have h3 : m ≤ (c : Int) := by omega
              rw [hxv.1, hV, hy]
              cases A <;> simp [Instr.sliceAt, Instr.slice, Instr.sliceBounds, Instr.sliceBound, asIntOf, run_underlying hdd, hTe.size_run, h1, h3, Addr.add]
            unfold Oper.wp
            simp only [execOp, Sem.run_bind, hrun, Result.andThen_ok, Sem.run_pure, Option.map_none, Option.map_some]
            exact hK _ _ _ _ _ g1 g2
        | some y =>
          cases hi with
          | some y' => exact e.elim
          | none =>
            simp only [Option.map_some, Option.map_none] at e
            split at e
            rotate_left
            · exact e.elim
            rename_i kk m hm
            obtain ⟨⟨h1, h2⟩, e⟩ := e
            have hy := asInt_rel hm (ho y)
            obtain ⟨cs, hown, hrc⟩ := hS.mem.row r R hR
            rcases hown.2 with ⟨e0, e1⟩ | ⟨g, cap, cur, e0, f1, f2, f3, f4, f5, f6⟩
            · omega
            · have hrun : (Instr.sliceAt t (a.eval x) (some (a.eval y)) none none).run P w = .ok (.slice (some ⟨g, m.toNat * R.t.size, none⟩) (R.xs.length - m.toNat) (cap - m.toNat)) w := by
                have h3 : ¬ cap = m.toNat := by omega
                have h4 : m ≤ (R.xs.length : Int) := by omega
                rw [hxv.1, e0, hy]
                simp [Instr.sliceAt, Instr.slice, Instr.sliceBounds, Instr.sliceBound, asIntOf, run_underlying hdd, hTe.size_run, h1, h3, h4, b1, add_lit]
              unfold Oper.wp
              simp only [execOp, Sem.run_bind, hrun, Result.andThen_ok, Sem.run_pure, Option.map_none, Option.map_some]
              refine hK _ N h _ _ e ⟨hS.mem, hS.grow, hS.dom, hS.slots.put (by rw [hS.size]; exact hdn) ?_, by rw [size_put]; exact hS.size, by rw [defers_put]; exact hS.defers⟩
              simp only [SV.rel, Leaf.rel]
              exact ⟨g, _, cap, e0, by omega, rfl⟩
    · rename_i op t x y yt
      unfold nilK at e
      split at e
      rotate_left
      · exact e.elim
      rename_i ti hti
      obtain ⟨dd, hdd, _, hkk⟩ := (hE.tt t ti hti).und
      split at e
      rotate_left
      · exact e.elim
      rename_i te hte
      rw [hte] at hkk
      simp only at hkk
      subst hkk
      split at e
      rotate_left
      · exact e.elim
      rename_i hy
      have hyv := ho y
      rw [hy] at hyv
      simp only [SV.rel, Leaf.rel] at hyv
      have hxv := ho x
      have eq : ∀ (A : Option Addr) (l c : Nat), (Op.equal t (.slice A l c) (.slice none 0 0)).run P w = .ok A.isNone w := by
        intro A l c
        have hh : ∀ d : Nat, (Op.equalIn (d + 1) t (.slice A l c) (.slice none 0 0)).run P w = .ok A.isNone w := fun d => by
          cases A <;> simp [Op.equalIn, run_underlying hdd]
        exact hh 9999
      have fin : ∀ (A : Option Addr) (l c : Nat) (s : SV) (q : Bool), a.eval x = .slice A l c → nilB op A.isNone = some q → k ⟨(b + d, s) :: σ.slots, σ.blks, σ.rows⟩ → s.rel N h (.bool q) →
          Oper.wp P ⟨some d, .binOp op t x y yt, type, pos, after, guard⟩ a w K Q := by
        intro A l c s q hx hq hk hr
        have hrun : (do eqGuard op t x y (a.eval x) (a.eval y); binOp op t (a.eval x) (a.eval y) : Sem Value).run P w = .ok (.bool q) w := by
          rw [hx, hyv]
          cases op <;> simp only [nilB] at hq <;> first | (injection hq with hq; subst hq; simp [eqGuard, binOp, eq]; done) | cases hq
        unfold Oper.wp
        have hrun2 : (execOp a.eval ⟨some d, .binOp op t x y yt, type, pos, after, guard⟩).run P w = .ok (.value (.bool q)) w := by
          show ((do pure (.value (← (do eqGuard op t x y (a.eval x) (a.eval y); binOp op t (a.eval x) (a.eval y) : Sem Value))) : Sem Next)).run P w = _
          rw [Sem.run_bind, hrun]
          rfl
        rw [hrun2]
        exact hK _ N h _ _ hk ⟨hS.mem, hS.grow, hS.dom, hS.slots.put (by rw [hS.size]; exact hdn) hr, by rw [size_put]; exact hS.size, by rw [defers_put]; exact hS.defers⟩
      split at e
      · rename_i T xs hx
        rw [hx] at hxv
        obtain ⟨cs, g1, g2⟩ := SV.tv_iff.1 hxv
        obtain ⟨A, c, rfl, g3, g4, g5⟩ := g1
        have e := e A.isNone (fun hn => by
          cases A with
          | none => rw [g4 rfl]; rfl
          | some _ => cases hn)
        split at e
        · rename_i q hq
          exact fin A _ c _ q g2 hq e (mkBool_rel N h q)
        · exact e.elim
      · rename_i r hx
        rw [hx] at hxv
        simp only [SV.rel, Leaf.rel] at hxv
        split at e
        rotate_left
        · exact e.elim
        rename_i R hR
        obtain ⟨cs, hown, hrc⟩ := hS.mem.row r R hR
        have hv : ∃ A c, N.V r = .slice A R.xs.length c ∧ (A = none → R.xs.length = 0) := by
          rcases hown.2 with ⟨e0, e1⟩ | ⟨g, cap, cur, e0, _⟩
          · exact ⟨none, 0, by rw [e0, e1], fun _ => e1⟩
          · exact ⟨_, cap, e0, fun hh => by cases hh⟩
        obtain ⟨A, c, hV, hA⟩ := hv
        have e := e A.isNone (fun hn => by
          cases A with
          | none => exact hA rfl
          | some _ => cases hn)
        split at e
        · rename_i q hq
          exact fin A _ c _ q (by rw [hxv.1, hV]) hq e (mkBool_rel N h q)
        · exact e.elim
      · rename_i hx
        rw [hx] at hxv
        simp only [SV.rel, Leaf.rel] at hxv
        split at e
        · rename_i q hq
          exact fin none 0 0 _ q hxv hq e (by simp only [SV.rel, Leaf.rel])
        · exact e.elim
      · exact e.elim
    · rename_i t
      split at e
      · rename_i ti hti
        have hT := hE.tt t ti hti
        cases hb : Nat.beq ti.zero.length ti.size with
        | false => rw [hb] at e; exact e.elim
        | true =>
          rw [hb] at e
          simp only [cond_true] at e
          obtain ⟨i, hi, hsz, _, hz⟩ := hT.info
          obtain ⟨z, hz1, cs, hz2, hz3, hz4⟩ := hz (Nat.eq_of_beq_eq_true hb)
          obtain ⟨σ', N', g1, g2⟩ := newBlkK_sound hS hdn e (o := .cells cs.toArray t (0, 0)) fun _ _ => BlkSat.cells.2 ⟨cs, rfl, hz3 _ _, hz4⟩
          unfold Oper.wp
          simp only [execOp, Instr.alloc, zeroValue, Sem.run_bind, run_typeInfo_of hi, Result.andThen_ok, hz1, Sem.run_pure, newVar, newRow, run_newObj, hz2]
          exact hK _ _ _ _ _ g1 g2
      · exact e.elim
    · rename_i t x
      split at e
      · rename_i ls hls
        have hex : ∃ cs : List Value, (a.eval x).cells = cs.toArray ∧ (∀ q, usedB σ.slots σ.blks q = false → LeafRels (N.setB q w.heap.size) h ls cs) ∧ ∀ u ∈ cs, u.oneCell' = true := by
          obtain ⟨cs0, g1, g2, g3⟩ := cellsOf_rel hls (ho x)
          refine ⟨cs0, g1, fun q hb' => ?_, g3⟩
          unfold usedB at hb'
          simp only [Bool.or_eq_false_iff] at hb'
          have hx : (evO b σ.slots x).rel (N.setB q w.heap.size) h (a.eval x) := by
            refine SV.rel_names _ (ho x) (fun i hi => ?_) (fun _ _ => rfl)
            simp only [Names.setB]
            rw [if_neg]
            intro he
            subst he
            cases x with
            | tmp t => have := anySlots_false hb'.1 _ hi; cases this
            | const v =>
              simp only [evO, constSV] at hi
              split at hi <;> cases hi
            | global g => cases hi
            | func f => cases hi
          obtain ⟨cs, q1, q2, q3⟩ := cellsOf_rel hls hx
          have : cs = cs0 := by
            rw [q1] at g1
            simpa using g1
          rw [← this]
          exact q2
        obtain ⟨cs, g1, g2, g3⟩ := hex
        obtain ⟨σ', N', p1, p2⟩ := newBlkK_sound hS hdn e (o := .cells cs.toArray t (0, 0)) fun q hb => BlkSat.cells.2 ⟨cs, rfl, g2 q hb, g3⟩
        unfold Oper.wp
        simp only [execOp, Instr.box, newVar, newRow, Sem.run_bind, run_newObj, Result.andThen_ok, Sem.run_pure, g1]
        exact hK _ _ _ _ _ p1 p2
      · exact e.elim
    · rename_i t x
      split at e
      · rename_i ti hti
        split at e
        · rename_i hk
          split at e
          · rename_i s hs
            have hT := hE.tt t ti hti
            obtain ⟨dd, hdd, _, hkk⟩ := hT.und
            rw [hk] at hkk
            simp only at hkk
            subst hkk
            obtain ⟨σ', N', p1, p2⟩ := newBlkK_sound hS hdn e (o := .stringIter s 0) fun _ _ => BlkSat.iter.2 rfl
            have hx := asStr_rel hs (ho x)
            unfold Oper.wp
            have hrun : (Instr.range t (a.eval x)).run P w = .ok (.pointer (some ⟨w.heap.size, 0, none⟩)) (w.alloc (.stringIter s 0)) := by
              rw [hx]
              simp [Instr.range, run_underlying hdd]
            simp only [execOp, Sem.run_bind, hrun, Result.andThen_ok, Sem.run_pure]
            exact hK _ _ _ _ _ p1 p2
          · exact e.elim
        · exact e.elim
      · exact e.elim
    · rename_i x isStr
      split at e
      · split at e
        · rename_i i hx
          split at e
          · rename_i t cs s p hb
            have hxv := ho x
            rw [hx] at hxv
            simp only [SV.rel, Leaf.rel] at hxv
            obtain ⟨o0, q1, q2, q3, q4⟩ := hS.mem.blk i _ hb
            have q2 := BlkSat.iter.1 q2
            subst q2
            by_cases hp : p < s.size
            · have e := e.1 (by simp [hp])
              rw [setBK_eq] at e
              have hrun : (Instr.next (a.eval x) true type).run P w = .ok (.tuple #[.bool true, .int .i64 p, .int .i32 (Utf8.decode s p).1]) ({ w with heap := w.heap.setIfInBounds (N.ρ i) (.stringIter s (p + (Utf8.decode s p).2)) } : World) := by
                rw [hxv]
                simp only [Instr.next, Sem.run_bind, run_getObj_iter q1, Result.andThen_ok]
                simp [hp, goInt, run_setObj_iter q1]
              have hM : MemSat B w0 (setB σ.blks i ⟨t, cs, some (.str s (p + (Utf8.decode s p).2))⟩) σ.rows N h ({ w with heap := w.heap.setIfInBounds (N.ρ i) (.stringIter s (p + (Utf8.decode s p).2)) } : World) := by
                have hother : ∀ k, k ≠ N.ρ i → ({ w with heap := w.heap.setIfInBounds (N.ρ i) (.stringIter s (p + (Utf8.decode s p).2)) } : World).heap[k]? = w.heap[k]? := fun k hk => by
                  simp [Ne.symm hk]
                refine hS.mem.turnBlock hb (hS.mem.below.trans ⟨rfl, rfl, rfl, by simp, fun k hk => hother k (by omega), Nat.le_refl _⟩) (by simp) hother (o := .stringIter s (p + (Utf8.decode s p).2)) ?_ (BlkSat.iter.2 rfl)
                simp [lt_of_heap q1]
              unfold Oper.wp
              simp only [execOp, Sem.run_bind, hrun, Result.andThen_ok, Sem.run_pure]
              refine hK _ N h _ _ e ⟨hM, hS.grow, hS.dom, hS.slots.put (by rw [hS.size]; exact hdn) ?_, by rw [size_put]; exact hS.size, by rw [defers_put]; exact hS.defers⟩
              refine ⟨[.bool true, .int .i64 p, .int .i32 (Utf8.decode s p).1], rfl, ?_⟩
              exact ⟨_, _, rfl, ⟨[_], rfl, rfl⟩, _, _, rfl, ⟨[_], rfl, rfl⟩, _, _, rfl, ⟨[_], rfl, rfl⟩, rfl⟩
            · have e := e.2 (by simp [hp])
              have hrun : (Instr.next (a.eval x) true type).run P w = .ok (.tuple #[.bool false]) w := by
                rw [hxv]
                simp only [Instr.next, Sem.run_bind, run_getObj_iter q1, Result.andThen_ok]
                simp [hp]
              unfold Oper.wp
              simp only [execOp, Sem.run_bind, hrun, Result.andThen_ok, Sem.run_pure]
              refine hK _ N h _ _ e ⟨hS.mem, hS.grow, hS.dom, hS.slots.put (by rw [hS.size]; exact hdn) ?_, by rw [size_put]; exact hS.size, by rw [defers_put]; exact hS.defers⟩
              exact ⟨[.bool false], rfl, _, _, rfl, ⟨[_], rfl, rfl⟩, rfl⟩
          · exact e.elim
        · exact e.elim
      · exact e.elim
    · rename_i c
      split at e
      · rename_i hcal
        split at e
        · rename_i t t' hts
          split at e
          · rename_i s x hargs
            have hca : c.args = #[s, x] := by
              apply Array.ext'
              exact hargs
            have hct : c.argTypes = #[t, t'] := by
              apply Array.ext'
              exact hts
            have done : (∃ v' w' σ' N', (Builtin.append_ #[t, t'] type #[a.eval s, a.eval x]).run P w = .ok v' w' ∧ k σ' ∧ Sat B w0 h0 b u n σ' N' h (a.put (some d) v') w') → Oper.wp P ⟨some d, .call c, type, pos, after, guard⟩ a w K Q := by
              rintro ⟨v', w', σ', N', hr, g1, g2⟩
              have hrun : (execOp a.eval ⟨some d, .call c, type, pos, after, guard⟩).run P w = .ok (.value v') w' := by
                simp only [execOp, Sem.run_bind, resolve, hcal, hca, hct]
                simp [invoke, builtin, hr]
              unfold Oper.wp
              rw [hrun]
              exact hK _ _ _ _ _ g1 g2
            split at e
            · rename_i htt
              have htt' := Nat.eq_of_beq_eq_true htt
              subst htt'
              refine done (append_sound hE hS hdn e ?_)
              intro T te tei K' htei hund b1 b2 b3 hsrc
              rw [appendSrcK_eq] at hsrc
              split at hsrc
              · rename_i ys hys
                refine ⟨ys, hsrc, fun xs v cs _ hown hrc e1 e2 => ?_⟩
                have hu : vrep h (.sl T) ys (a.eval x) := by
                  have hx := ho x
                  unfold appendSrc at hys
                  split at hys
                  · rename_i l hl
                    rw [hl] at hx
                    cases hp : popSl T [l] with
                    | none => rw [hp] at hys; cases hys
                    | some p =>
                      obtain ⟨y, rr⟩ := p
                      rw [hp] at hys
                      injection hys with hys; subst hys
                      obtain ⟨c1, c2, q1, q2, q3⟩ := implode_rel (.sl T) [l] y rr (by simpa only [implode] using hp) [a.eval x] (LeafRels.cons (SV.leaf_iff.1 hx) (LeafRels.nil N h))
                      have hl1 := rep_len _ _ _ q2
                      match c1, hl1 with
                      | [v], _ =>
                        injection q1 with q1 _
                        exact ⟨[v], q2, q1⟩
                  · cases hys
                obtain ⟨v', w', cs', hr, q⟩ := append_run (ty := type) (hE.tt te tei htei) hund b2 b3 b1 hS.mem.size hown hrc hS.mem.pin hu e1 e2
                exact ⟨v', w', cs', hr, q⟩
              · exact hsrc.elim
            · split at e
              · rename_i ti' hti'
                split at e
                · rename_i hk'
                  obtain ⟨dd, hdd, _, hkk⟩ := (hE.tt t' ti' hti').und
                  rw [hk'] at hkk
                  simp only at hkk
                  subst hkk
                  refine done (append_sound hE hS hdn e ?_)
                  intro T te tei K' htei hund b1 b2 b3 hsrc
                  unfold strSrcK at hsrc
                  split at hsrc
                  · rename_i kk
                    split at hsrc
                    · rename_i s' hs'
                      refine ⟨strBytes s', hsrc, fun xs v cs _ hown hrc e1 e2 => ?_⟩
                      rw [asStr_rel hs' (ho x)]
                      exact append_str_run (hE.tt te tei htei) hund hdd b2 b1 hS.mem.size hown hrc s' e1 e2 type
                    · exact hsrc.elim
                  · exact hsrc.elim
                · rename_i kn hk'
                  obtain ⟨dd, hdd, _, hkk⟩ := (hE.tt t' ti' hti').und
                  rw [hk'] at hkk
                  simp only at hkk
                  subst hkk
                  refine done (append_sound hE hS hdn e ?_)
                  intro T te tei K' htei hund b1 b2 b3 hsrc
                  unfold zeroSrcK at hsrc
                  split at hsrc
                  rotate_left
                  · exact hsrc.elim
                  rename_i hsv
                  have hsv2 := ho s
                  rw [hsv] at hsv2
                  simp only [SV.rel, Leaf.rel] at hsv2
                  split at hsrc
                  rotate_left
                  · exact hsrc.elim
                  rename_i ti hti
                  obtain ⟨d2, hd2, _, hkk2⟩ := (hE.tt t ti hti).und
                  split at hsrc
                  rotate_left
                  · exact hsrc.elim
                  rename_i te2 hte2
                  rw [hte2] at hkk2
                  simp only at hkk2
                  subst hkk2
                  rw [hund] at hd2
                  injection hd2 with hd2
                  injection hd2 with hd2
                  subst hd2
                  split at hsrc
                  rotate_left
                  · exact hsrc.elim
                  rename_i tei2 htei2
                  rw [htei] at htei2
                  injection htei2 with htei2
                  subst htei2
                  rw [implodeK_eq] at hsrc
                  split at hsrc
                  rotate_left
                  · exact hsrc.elim
                  rename_i z rz hz
                  split at hsrc
                  rotate_left
                  · exact hsrc.elim
                  split at hsrc
                  rotate_left
                  · exact hsrc.elim
                  rename_i kz m hm
                  obtain ⟨⟨m1, m2⟩, hsrc⟩ := hsrc
                  refine ⟨_, hsrc, fun xs v cs hsv3 hown hrc e1 e2 => ?_⟩
                  rw [hsv2] at hsv3
                  subst hsv3
                  rw [asInt_rel hm (ho x)]
                  have hx0 : xs = [] := by
                    rcases hown.2 with ⟨_, e0⟩ | ⟨g, cap, cur, e0, _⟩
                    · exact List.eq_nil_of_length_eq_zero e0
                    · cases e0
                  subst hx0
                  obtain ⟨m', rfl⟩ : ∃ m' : Nat, m = (m' : Int) := ⟨m.toNat, by omega⟩
                  simp only [Int.toNat_natCast, List.length_replicate, List.length_nil, Nat.zero_add, List.nil_append] at e1 e2 ⊢
                  exact append_zeros_run (hE.tt te tei htei) hund hdd b2 b3 b1 hz hS.mem.size e1 e2 type
                · exact e.elim
              · exact e.elim
          · exact e.elim
        · exact e.elim
      · exact ownCall_sound hE hG hS rfl hdn e fun v σ' N' h' w' g1 g2 => hK σ' N' h' _ w' g1 g2
      · exact e.elim
    · exact e.elim
theorem madeRow_sound {σ : St} (hS : Sat B w0 h0 b u n σ N h a w) {d : Nat} (hdn : d < n) {w' : World} {v : Value} {t : Ty} {te : TypeId} {xs : List t.den} {cs : List Value} {k : St → Prop} (e : newRowK σ.slots σ.blks σ.rows (b + d) ⟨t, te, xs⟩ k)
    (hown : w'.ownsRow B te t.size v xs.length cs) (hrc : RowCells h t xs cs) (hg : GrownBy w w' none) (hb : v.ownBlock = none ∨ v.ownBlock = some w.heap.size) : ∃ σ' N', k σ' ∧ Sat B w0 h0 b u n σ' N' h (a.put (some d) v) w' := by
  unfold newRowK at e
  cases hnm : (anySlots (Leaf.namesR (b + d)) σ.slots || anyBlks (Leaf.namesR (b + d)) σ.blks) with
  | true => rw [hnm] at e; exact e.elim
  | false =>
    rw [hnm] at e
    simp only [cond_false] at e
    simp only [Bool.or_eq_false_iff] at hnm
    refine ⟨_, N.setR (b + d) v, e, ⟨?_, hS.grow, hS.dom, ?_, by rw [size_put]; exact hS.size, by rw [defers_put]; exact hS.defers⟩⟩
    · refine hS.mem.newR (R := ⟨t, te, xs⟩) (row := none) (hS.mem.below.grown hg hS.mem.size fun k hk => by cases hk) hg.size (fun k hk hne => hg.block k hk hne) hown hrc ?_ hnm.2
      intro g hgb
      have hge : g = w.heap.size := by
        rcases hgb with hgb | hgb
        · rcases hb with hb | hb
          · rw [hb] at hgb; cases hgb
          · rw [hb] at hgb; injection hgb with hgb; exact hgb.symm
        · cases hgb
      subst hge
      refine ⟨?_, fun i bb hi => ?_, fun q S hq hqg => ?_⟩
      · cases hh : h w.heap.size with
        | none => rfl
        | some o => exact absurd (hS.mem.pin.lt hh) (by omega)
      · obtain ⟨ds, p1, _⟩ := hS.mem.blk i bb hi
        have := lt_of_heap p1
        omega
      · have := (ownBlock_lt hS.mem hq hqg).2
        omega
    · refine SlotSat.put (N := N.setR (b + d) _) (fun t' => ?_) (by rw [hS.size]; exact hdn) ?_
      · refine SV.rel_names _ (hS.slots t') (fun i _ => rfl) (fun i hi => ?_)
        simp only [Names.setR]
        rw [if_neg]
        intro he
        subst he
        have := anySlots_false hnm.1 t' hi
        cases this
      · simp only [SV.rel, Leaf.rel]
        have hvs : ∃ A c, v = .slice A xs.length c := by
          rcases hown.2 with ⟨e0, e1⟩ | ⟨g, cap, cur, e0, _⟩
          · exact ⟨none, 0, by rw [e0, e1]⟩
          · exact ⟨_, _, e0⟩
        obtain ⟨A, cc, hvs⟩ := hvs
        subst hvs
        exact ⟨by simp [Names.setR], rfl⟩
theorem seq_sound (hE : EnvOk P E) (hG : GlobOk E.gl h0) {σ : St} (hS : Sat B w0 h0 b u n σ N h a w) {o : Oper} (hd : ∀ t, o.dst = some t → t < n) {k : St → Prop} {K : Act → World → Prop} {Q : Exit → Act → World → Prop}
    (e : seqEv E b σ.slots σ.blks σ.rows o k) (hK : ∀ σ' N' h' a' w', k σ' → Sat B w0 h0 b u n σ' N' h' a' w' → K a' w') : o.wp P a w K Q := by
  have ho : ∀ x, (evO b σ.slots x).rel N h (a.eval x) := evO_rel hS.slots
  unfold seqEv at e
  split at e
  · rename_i t l c hop
    split at e
    rotate_left
    · exact e.elim
    rename_i d0 hd0
    obtain ⟨d, hdst, rfl⟩ := dstAt_some hd0
    unfold makeSliceK at e
    split at e
    rotate_left
    · exact e.elim
    rename_i ti hti
    obtain ⟨dd, hdd, _, hkk⟩ := (hE.tt t ti hti).und
    split at e
    rotate_left
    · exact e.elim
    rename_i te hte
    rw [hte] at hkk
    simp only at hkk
    subst hkk
    split at e
    rotate_left
    · exact e.elim
    rename_i tei htei
    split at e
    rotate_left
    · exact e.elim
    rename_i T hT
    cases hb : (Nat.beq tei.size T.size && Nat.beq tei.zero.length tei.size && Nat.ble 1 tei.size) with
    | false => rw [hb] at e; exact e.elim
    | true =>
      rw [hb] at e
      simp only [cond_true, implodeK_eq] at e
      simp only [Bool.and_eq_true] at hb
      have b1 : tei.size = T.size := Nat.eq_of_beq_eq_true hb.1.1
      have b2 : tei.zero.length = tei.size := Nat.eq_of_beq_eq_true hb.1.2
      have b3 : 1 ≤ tei.size := Nat.le_of_ble_eq_true hb.2
      split at e
      rotate_left
      · exact e.elim
      rename_i z r hz
      split at e
      rotate_left
      · exact e.elim
      split at e
      rotate_left
      · exact e.elim
      rename_i k1 m hm
      split at e
      rotate_left
      · exact e.elim
      rename_i k2 c' hc'
      obtain ⟨⟨q1, q2, q3, q4⟩, e⟩ := e
      have v1 := asInt_rel hm (ho l)
      have v2 := asInt_rel hc' (ho c)
      obtain ⟨m, rfl⟩ : ∃ q : Nat, m = (q : Int) := ⟨m.toNat, by omega⟩
      obtain ⟨c', rfl⟩ : ∃ q : Nat, c' = (q : Int) := ⟨c'.toNat, by omega⟩
      have q3' : c' * tei.bytes ≤ 140737488355328 := by
        rw [← Int.natCast_mul] at q3
        omega
      obtain ⟨v, w', cs', hrun, g1, g2, g3, g4⟩ := makeSlice_run (P := P) (w := w) (h := h) (k := k1) (k' := k2) (hE.tt te tei htei) hdd b2 b3 b1 hz hS.mem.size (show m ≤ c' by omega) q3' (by omega)
      obtain ⟨dst, op, type, pos, after, guard⟩ := o
      simp only at hop hdst
      subst hop hdst
      obtain ⟨σ', N', p1, p2⟩ := madeRow_sound hS (hd d rfl) e (by rw [List.length_replicate]; exact g1) g2 g3 (.inr g4)
      unfold Oper.wp
      simp only [execOp, v1, v2, Sem.run_bind, hrun, Result.andThen_ok, Sem.run_pure]
      exact hK _ _ _ _ _ p1 p2
  · rename_i c hop
    split at e
    · rename_i hcal
      unfold copyK at e
      split at e
      rotate_left
      · exact e.elim
      rename_i t ts hts
      split at e
      rotate_left
      · exact e.elim
      rename_i x y hargs
      split at e
      rotate_left
      · exact e.elim
      rename_i r hx
      split at e
      rotate_left
      · exact e.elim
      rename_i R hR
      split at e
      rotate_left
      · exact e.elim
      rename_i ti hti
      obtain ⟨dd, hdd, _, hkk⟩ := (hE.tt t ti hti).und
      split at e
      rotate_left
      · exact e.elim
      rename_i te hte
      rw [hte] at hkk
      simp only at hkk
      subst hkk
      split at e
      rotate_left
      · exact e.elim
      rename_i tei htei
      cases hb : Nat.beq tei.size R.t.size with
      | false => rw [hb] at e; exact e.elim
      | true =>
        rw [hb] at e
        have b1 : tei.size = R.t.size := Nat.eq_of_beq_eq_true hb
        simp only [cond_true, appendSrcK_eq, setRK_eq, putK_eq] at e
        split at e
        rotate_left
        · exact e.elim
        rename_i ys hys
        have hyv := ho y
        have hyr : vrep h (.sl R.t) ys (a.eval y) := by
          unfold appendSrc at hys
          split at hys
          · rename_i l hl
            split at hys
            · rename_i x' r' hx'
              injection hys with hys
              subst hys
              rw [hl] at hyv
              obtain ⟨c1, c2, p1, p2, p3⟩ := implode_rel (.sl R.t) [l] x' r' (by simp only [implode]; exact hx') [a.eval y] (LeafRels.cons (SV.leaf_iff.1 hyv) (LeafRels.nil N h))
              have hl1 := rep_len (.sl R.t) _ _ p2
              have : c2 = [] := by
                have := congrArg List.length p1
                simp only [List.length_append, List.length_singleton, hl1, Ty.size] at this
                exact List.eq_nil_of_length_eq_zero (by omega)
              subst this
              rw [List.append_nil] at p1
              subst p1
              exact ⟨_, p2, rfl⟩
            · cases hys
          · cases hys
        have hxv := ho x
        rw [hx] at hxv
        simp only [SV.rel, Leaf.rel] at hxv
        obtain ⟨cs, hown, hrc⟩ := hS.mem.row r R hR
        have hca : c.args = #[x, y] := by
          apply Array.ext'
          exact hargs
        have hct : c.argTypes[0]? = some t := by rw [← Array.getElem?_toList, hts]; rfl
        obtain ⟨dst, op, type, pos, after, guard⟩ := o
        simp only at hop
        subst hop
        obtain ⟨w', cs', hrun, g1, g2, g3⟩ := copy_run (P := P) (w := w) (h := h) (hE.tt te tei htei) hdd b1 hct hown hrc hS.mem.pin hyr type
        have hbel : Below B w0 w' := hS.mem.below.grown g3 hS.mem.size fun k hk => (hown.lt k hk).1
        have hM := hS.mem.turnRowG (R' := ⟨R.t, R.e, ys.take R.xs.length ++ R.xs.drop ys.length⟩) hR hbel g3.size (fun k hk hne => g3.block k hk hne) g1 g2
        have hS' : Sat B w0 h0 b u n ⟨σ.slots, σ.blks, setR σ.rows r ⟨R.t, R.e, ys.take R.xs.length ++ R.xs.drop ys.length⟩⟩ N h a w' := ⟨hM, hS.grow, hS.dom, hS.slots, hS.size, hS.defers⟩
        have hrun2 : (execOp a.eval ⟨dst, .call c, type, pos, after, guard⟩).run P w = .ok (.value (.int .i64 ((min ys.length R.xs.length : Nat) : Int))) w' := by
          simp only [execOp, Sem.run_bind, resolve, hcal, hca]
          rw [← hxv.1] at hrun
          simp [invoke, builtin, hrun]
        unfold Oper.wp
        rw [hrun2]
        exact hK _ _ _ _ _ e (hS'.put hd (mkInt_rel N h _ _))
    · rename_i hcal
      exact seq_sound0 hE hG hS hd e hK
  · exact seq_sound0 hE hG hS hd e hK
end
end Go.Fr
namespace Go.Fr
open Go Go.RowKit
universe u
section
variable {P : Program} {E : Env} {B : Nat} {w0 w : World} {N : Names} {h0 h : PHeap} {b : Nat} {u : Nat → Value} {a : Act} {n : Nat}
theorem Sat.after {σ : St} (hS : Sat B w0 h0 b u n σ N h a w) {h' : PHeap} {w' : World} (h1 : PLe h h') (h2 : ∀ k, h' k ≠ none → h k ≠ none ∨ w.heap.size ≤ k) (hM : MemSat B w0 σ.blks σ.rows N h' w') : Sat B w0 h0 b u n σ N h' a w' :=
  ⟨hM, hS.grow.trans h1, fun k hk => by
    rcases h2 k hk with g | g
    · exact hS.dom k g
    · exact .inr (Nat.le_trans hS.mem.size g), hS.slots.mono h1, hS.size, hS.defers⟩
def InlSound (P : Program) (E : Env) (J : Inliner) : Prop :=
  ∀ (f : FuncId) (top : Nat) (args : List SV) (σ : St) (k : SV → St → Prop), J f top args σ k → ∀ (B : Nat) (w0 : World) (h0 : PHeap) (N : Names) (h : PHeap) (w : World) (v : Nat → Value) (vs : List Value), GlobOk E.gl h0 → SatV B w0 h0 σ N h v w →
    args.length = vs.length → (∀ (i : Nat) s x, args[i]? = some s → vs[i]? = some x → s.rel N h x) →
    (∃ fn cd, P.funcs[f]? = some fn ∧ fn.name ≠ "runtime.NumGoroutine" ∧ fn.body = some cd) ∧
    Calls P f vs.toArray w fun e w' => ∃ r s σ' N' h', e = .returned r ∧ k s σ' ∧ s.rel N' h' r ∧ SatV B w0 h0 σ' N' h' v w'
theorem frz_keeps {r : Nat} {t : Ty} {xs : List t.den} {h' : PHeap} (hv : vrep h' (.sl t) xs (N.V r)) : Keeps N h h' (frz r t xs) := by
  intro i l hl v hvi
  unfold frz at hl
  cases hb : Nat.beq i r with
  | true =>
    have := Nat.eq_of_beq_eq_true hb
    subst this
    rw [hb] at hl
    injection hl with hl; subst hl
    simp only [Leaf.rel]
    rw [hvi.1]
    exact hv
  | false => rw [hb] at hl; cases hl
theorem freeze_sound {σ : St} (hS : Sat B w0 h0 b u n σ N h a w) (r : Nat) : ∃ h', Sat B w0 h0 b u n (freeze σ r) N h' a w ∧ PLe h h' ∧ ∀ R, getR σ.rows r = some R → vrep h' (.sl R.t) R.xs (N.V r) := by
  unfold freeze
  split
  · rename_i R hR
    obtain ⟨cs, ho, hc⟩ := hS.mem.row r R hR
    have hrm := hS.mem.rmRow r
    rcases ho.2 with ⟨e0, e1⟩ | ⟨g, cap, cur, e0, e1, e2, e3, e4, e5, e6⟩
    · -- nil: no block
      have hx : R.xs = [] := List.eq_nil_of_length_eq_zero e1
      have hv : vrep h (.sl R.t) R.xs (N.V r) := ⟨[.slice none 0 0], ⟨none, 0, by rw [hx]; rfl, by rw [hx]; exact Nat.le_refl _, fun _ => hx, fun i x ad hh _ => by rw [hx] at hh; simp at hh⟩, e0⟩
      have hk : Keeps N h h (frz r R.t R.xs) := frz_keeps hv
      exact ⟨h, ⟨hrm.mapBlks hk, hS.grow, hS.dom, hS.slots.mapped hk (PLe.refl h), hS.size, hS.defers⟩, PLe.refl h, fun R1 hR1 => by rw [hR] at hR1; injection hR1 with hR1; subst hR1; exact hv⟩
    · have hgn : h g = none := hS.mem.rowh r R g hR (by rw [e0]; rfl)
      have hle := hnew_le (o := .cells cur R.e (0, 0)) hgn
      have hv : vrep (hnew h g (.cells cur R.e (0, 0))) (.sl R.t) R.xs (N.V r) := by
        refine ⟨[.slice (some ⟨g, 0, none⟩) R.xs.length cap], ⟨some ⟨g, 0, none⟩, cap, rfl, e3, (fun hh => by cases hh), ?_⟩, e0⟩
        intro i x ad hx had
        injection had with had
        subst had
        obtain ⟨ds, p1, p2⟩ := RowCells_at R.t R.xs cs hc i x hx
        refine ⟨ds, rep_mono hle _ _ _ p1, fun j u hu => ?_⟩
        have := p2 j u hu
        rw [← e6, List.getElem?_take] at this
        split at this
        · rw [add_add, add_lit, Nat.zero_add]
          simp only [hcell, hnew, if_true, Option.isSome_none, Bool.false_eq_true, if_false]
          simpa using this
        · cases this
      have hk : Keeps N h (hnew h g (.cells cur R.e (0, 0))) (frz r R.t R.xs) := frz_keeps hv
      have hpin : PIn (hnew h g (.cells cur R.e (0, 0))) w := hnew_in hS.mem.pin e2
      -- the memory, with that block among what stays
      have hM : MemSat B w0 σ.blks (rmR σ.rows r) N (hnew h g (.cells cur R.e (0, 0))) w := by
        have hne : ∀ k, k ≠ g → h k = none → hnew h g (.cells cur R.e (0, 0)) k = none := fun k hk hn => by unfold hnew; rw [if_neg hk]; exact hn
        refine ⟨hrm.below, hrm.size, hpin, ?_, hrm.inj, ?_, ?_, hrm.rowb, hrm.rowr⟩
        · intro i b hi
          obtain ⟨o, q1, q2, q4, q5⟩ := hrm.blk i b hi
          exact ⟨o, q1, q2.mono hle, q4, hne _ (hS.mem.rowb r R g i b hR (by rw [e0]; rfl) hi) q5⟩
        · intro q S hq
          obtain ⟨ds, q1, q2⟩ := hrm.row q S hq
          exact ⟨ds, q1, RowCells_mono hle _ _ _ q2⟩
        · intro q S k hq hqk
          refine hne k (fun hh => ?_) (hrm.rowh q S k hq hqk)
          rw [hh] at hqk
          rw [rmR_get] at hq
          split at hq
          · cases hq
          · rename_i hrq
            exact hrq (hS.mem.rowr r q R S g hR hq (by rw [e0]; rfl) hqk)
      refine ⟨_, ⟨?_, hS.grow.trans hle, ?_, hS.slots.mapped hk hle, hS.size, hS.defers⟩, hle, fun R1 hR1 => by rw [hR] at hR1; injection hR1 with hR1; subst hR1; exact hv⟩
      · -- the blocks' cells
        have hget : ∀ i b, getB (mapBlks (frz r R.t R.xs) σ.blks) i = some b → ∃ c, getB σ.blks i = some c ∧ b = ⟨c.ty, subs (frz r R.t R.xs) c.cells, c.it⟩ := by
          intro i b hb
          rw [mapBlks_get] at hb
          cases hc : getB σ.blks i with
          | none => rw [hc] at hb; cases hb
          | some c => rw [hc] at hb; injection hb with hb; exact ⟨c, rfl, hb.symm⟩
        refine ⟨hM.below, hM.size, hM.pin, ?_, ?_, hM.row, hM.rowh, ?_, hM.rowr⟩
        · intro i b hb
          obtain ⟨c, hcc, rfl⟩ := hget i b hb
          obtain ⟨o, q1, q2, q4, q5⟩ := hS.mem.blk i c hcc
          obtain ⟨_, _, _, _, q6⟩ := hM.blk i c hcc
          exact ⟨o, q1, q2.mapped hk hle, q4, q6⟩
        · intro i j b c hb hc he
          obtain ⟨b', hb', _⟩ := hget i b hb
          obtain ⟨c', hc', _⟩ := hget j c hc
          exact hM.inj i j b' c' hb' hc' he
        · intro q S k i b hq hk hb
          obtain ⟨b', hb', _⟩ := hget i b hb
          exact hM.rowb q S k i b' hq hk hb'
      · intro k hk
        unfold hnew at hk
        split at hk
        · rename_i hkg; subst hkg; exact .inr e1
        · exact hS.dom k hk
  · rename_i hn
    exact ⟨h, hS, PLe.refl h, fun R hR => by rw [hn] at hR; cases hR⟩
theorem freezeRows_sound : (rs : List Nat) → {σ : St} → {h : PHeap} → Sat B w0 h0 b u n σ N h a w → ∃ h', Sat B w0 h0 b u n (freezeRows rs σ) N h' a w
  | [], _, h, hS => ⟨h, hS⟩
  | r :: rs, _, _, hS => by
    obtain ⟨h1, hS1, _⟩ := freeze_sound hS r
    exact freezeRows_sound rs hS1
theorem freezeAt_sound : (ts : List Nat) → {σ : St} → {h : PHeap} → Sat B w0 h0 b u n σ N h a w → ∃ h', Sat B w0 h0 b u n (freezeAt ts σ) N h' a w
  | [], _, h, hS => ⟨h, hS⟩
  | t :: ts, _, _, hS => by
    obtain ⟨h1, hS1⟩ := freezeRows_sound _ hS
    exact freezeAt_sound ts hS1
theorem freezeBehind_sound : (ts : List Nat) → {σ : St} → {h : PHeap} → Sat B w0 h0 b u n σ N h a w → ∃ h', Sat B w0 h0 b u n (freezeBehind ts σ) N h' a w
  | [], _, h, hS => ⟨h, hS⟩
  | t :: ts, _, _, hS => by
    obtain ⟨h1, hS1⟩ := freezeRows_sound _ hS
    exact freezeBehind_sound ts hS1
theorem fzK_sound {o : Oper} {σ : St} (hS : Sat B w0 h0 b u n σ N h a w) {k : St → Prop} (e : fzK E b o σ k) : ∃ σ' h', k σ' ∧ Sat B w0 h0 b u n σ' N h' a w := by
  unfold fzK at e
  split at e
  · split at e
    · split at e
      · split at e
        · exact ⟨_, _, e, hS⟩
        · rename_i r rs _
          rw [fSt_eq] at e
          obtain ⟨h1, hS1⟩ := freezeRows_sound (r :: rs) hS
          exact ⟨_, _, e, hS1⟩
      · exact ⟨_, _, e, hS⟩
    · exact ⟨_, _, e, hS⟩
  · exact ⟨_, _, e, hS⟩
theorem exec1_sound (hE : EnvOk P E) {J : Inliner} (hJ : InlSound P E J) (hG : GlobOk E.gl h0) {top : Nat} {σ : St} (hS : Sat B w0 h0 b u n σ N h a w) {o : Oper} (hd : ∀ t, o.dst = some t → t < n) {k : St → Prop} {K : Act → World → Prop} {Q : Exit → Act → World → Prop}
    (e : exec1 E J b top o σ k) (hK : ∀ σ' N' h' a' w', k σ' → Sat B w0 h0 b u n σ' N' h' a' w' → K a' w') : o.wp P a w K Q := by
  unfold exec1 at e
  obtain ⟨σ, h, e, hS⟩ := fzK_sound hS e
  obtain ⟨sl, bs, rs⟩ := σ
  have ho : ∀ x ∈ o.op.operands.toList, (evO b sl x).rel N h (a.eval x) := fun x _ => evO_rel hS.slots x
  simp only at e
  split at e
  · rename_i d t len ps hob
    obtain ⟨parts, kk, hop, hdst, rfl, rfl⟩ := ownBuild_some hob
    have ho' : ∀ q ∈ parts.toList, (evO b sl q.2).rel N h (a.eval q.2) := fun q hq => ho q.2 (by
      rw [hop]
      simp only [Op.operands]
      exact List.mem_map.2 ⟨q, hq, rfl⟩)
    obtain ⟨v', w', σ', N', hrun, hk', hS'⟩ := buildRow_sound hE hS (hd kk hdst) e ho'
    unfold Oper.wp execOp
    rw [hop]
    simp only [Sem.run_bind, hrun, Result.andThen_ok, Sem.run_pure]
    show K (a.put o.dst v') w'
    rw [hdst]
    exact hK _ _ _ _ _ hk' hS'
  split at e
  · rename_i r p hr
    obtain ⟨hp, e⟩ := oblige_some e
    have e := nameK_at e
    rw [putK_eq] at e
    refine pure_sound hE hS.mem (hG.mono hS.grow) hr hp ho fun v h' w' h1 h2 _ hM hv => ?_
    exact hK _ _ _ _ _ e ((hS.after h1 h2 hM).put hd hv)
  · split at e
    · rename_i i t cs it hst
      split at e
      · rename_i hdst
        rw [fLs_eq, setBK_eq] at e
        refine store_sound hE hst ho hS.mem fun w' hM => ?_
        rw [hdst]
        exact hK _ N h a w' e ⟨hM, hS.grow, hS.dom, hS.slots, hS.size, hS.defers⟩
      · exact e.elim
    · split at e
      · rename_i r t te xs hst
        split at e
        · rename_i hdst
          rw [setRK_eq] at e
          refine rowStore_sound hE hst ho hS.mem fun w' hM => ?_
          rw [hdst]
          exact hK _ N h a w' e ⟨hM, hS.grow, hS.dom, hS.slots, hS.size, hS.defers⟩
        · exact e.elim
      · split at e
        · rename_i f args hin
          -- the call
          unfold inlEv at hin
          split at hin
          · rename_i c hc
            split at hin
            · rename_i fv hfv
              split at hin
              · rename_i f' caps hfn
                split at hin
                · injection hin with hin; injection hin with e1 e2; subst e1 e2
                  have hoc : ∀ x ∈ c.operands.toList, (evO b sl x).rel N h (a.eval x) := fun x hx => ho x (by rw [hc]; simpa only [Op.operands] using hx)
                  have hoa : ∀ x ∈ c.args.toList, (evO b sl x).rel N h (a.eval x) := fun x hx => hoc x (by simp only [Call.operands]; simp; exact .inr (by simpa using hx))
                  obtain ⟨vs, hv, hcaps⟩ := asFn_rel hfn (hoc fv (by simp only [Call.operands, hfv]; simp))
                  obtain ⟨l1, l2⟩ := callArgs_rel hoa hcaps
                  obtain ⟨⟨fn, cd, g1, g2, g3⟩, hcall⟩ := hJ _ _ _ _ _ e B w0 h0 N h w (vals b u a) _ hG hS.v l1 l2
                  unfold Oper.wp
                  rw [call_enter hc hfv hv g1 g2 g3]
                  refine hcall.mono ?_
                  rintro e w' ⟨r, s, ⟨sl', bs', rs'⟩, N', h', rfl, hk, hr, hS'⟩
                  simp only [putK_eq] at hk
                  exact hK _ _ _ _ _ hk (Sat.put ⟨hS'.mem, hS'.grow, hS'.dom, hS'.slots, hS.size, hS.defers⟩ hd hr)
                · cases hin
              · cases hin
            · cases hin
          · cases hin
        · split at e
          · rename_i C s hrc
            exact rowCall_sound hE hS hd hrc e hK
          · exact seq_sound hE hG hS hd e hK
theorem execOps_sound (hE : EnvOk P E) {J : Inliner} (hJ : InlSound P E J) (hG : GlobOk E.gl h0) {top : Nat} (ops : Array Oper) {Q : Exit → Act → World → Prop} {k : St → Prop}
    (hd : ∀ o ∈ ops.toList, ∀ t, o.dst = some t → t < n) (hQ : ∀ σ' N' h' a' w', k σ' → Sat B w0 h0 b u n σ' N' h' a' w' → Q .normal a' w') :
    ∀ (l : List Oper) (i : Nat) (σ : St) (N : Names) (h : PHeap) (a : Act) (w : World), ops.toList.drop i = l → execOps E J b top ops.toList l σ k → Sat B w0 h0 b u n σ N h a w → wpOps P ops Q (List.range' i l.length) a w := by
  intro l
  induction l with
  | nil =>
    intro i σ N h a w _ e hS
    exact hQ σ N h a w e hS
  | cons o l ih =>
    intro i σ N h a w hl e hS
    have hi : ops.toList[i]? = some o := by
      have : (ops.toList.drop i)[0]? = some o := by rw [hl]; rfl
      rwa [List.getElem?_drop, Nat.add_zero] at this
    have hoi : ops[i]? = some o := by rw [← hi]; simp
    have hdo := hd o (List.mem_of_getElem? hi)
    have hl' : ops.toList.drop (i + 1) = l := by
      rw [← List.drop_drop, hl]
      rfl
    simp only [List.length_cons, List.range'_succ]
    rw [wpOps_cons]
    have run : ∀ (σ : St) (N : Names) (h : PHeap) (a : Act) (w : World), Sat B w0 h0 b u n σ N h a w → Region.wanted o (yielded ops a.tmps) = true → exec1 E J b top o σ (fun σ' => execOps E J b top ops.toList l σ' k) →
        wpOp P ops Q i (wpOps P ops Q (List.range' (i + 1) l.length)) a w := by
      intro σ N h a w hS hw e
      unfold wpOp
      rw [hoi]
      simp only [hw, if_true]
      exact .inl (exec1_sound hE hJ hG hS hdo e fun σ' N' h' a' w' hk hS' => ih (i + 1) σ' N' h' a' w' hl' hk hS')
    have skip : ∀ (σ : St) (N : Names) (h : PHeap) (a : Act) (w : World), Sat B w0 h0 b u n σ N h a w → Region.wanted o (yielded ops a.tmps) = false → setK σ (dstAt b o.dst) (.leaf .undef) (fun σ' => execOps E J b top ops.toList l σ' k) →
        wpOp P ops Q i (wpOps P ops Q (List.range' (i + 1) l.length)) a w := by
      intro σ N h a w hS hw e
      rw [setK_eq] at e
      unfold wpOp
      rw [hoi]
      simp only [hw, Bool.false_eq_true, if_false]
      exact ih (i + 1) _ N h _ w hl' e (hS.put hdo (SV.leaf_iff.2 (by simp only [Leaf.rel])))
    unfold execOps at e
    split at e
    · rename_i hg
      exact run σ N h a w hS (by simp [Region.wanted, hg]) e
    · rename_i j wt hg
      split at e
      · exact e.elim
      · rename_i t ht
        have hyield : yielded ops a.tmps j = match a.tmps.getD t undef with | .bool b => some b | _ => none := by
          unfold dstOf at ht
          split at ht
          · rename_i oj hoj
            have : ops[j]? = some oj := by rw [← hoj]; simp
            have htn : t < a.tmps.size := by rw [hS.size]; exact hd oj (List.mem_of_getElem? hoj) t ht
            have e1 : ((ops[j]?).bind (·.dst)).bind (a.tmps[·]?) = some (a.tmps.getD t undef) := by
              rw [this]
              simp only [Option.bind_some, ht]
              rw [Array.getElem?_eq_getElem htn, Array.getD_eq_getD_getElem?, Array.getElem?_eq_getElem htn]
              rfl
            unfold yielded
            rw [e1]
            cases a.tmps.getD t undef <;> rfl
          · cases ht
        have hwant : ∀ b, a.tmps.getD t undef = .bool b → Region.wanted o (yielded ops a.tmps) = (b == wt) := by
          intro b hb
          simp [Region.wanted, hg, hyield, hb]
        have hslot := hS.slots (b + t)
        rw [vals_at] at hslot
        have gd : ∀ (c : Bool) (σ : St) (N : Names) (h : PHeap), Sat B w0 h0 b u n σ N h a w → a.tmps.getD t undef = .bool c → guarded wt c (exec1 E J b top o σ fun σ' => execOps E J b top ops.toList l σ' k) (setK σ (dstAt b o.dst) (.leaf .undef) fun σ' => execOps E J b top ops.toList l σ' k) →
            wpOp P ops Q i (wpOps P ops Q (List.range' (i + 1) l.length)) a w := by
          intro c σ N h hS hb e
          have hw := hwant c hb
          cases c <;> cases wt <;> simp only [guarded] at e
          · exact run σ N h a w hS (by rw [hw]; rfl) e
          · exact skip σ N h a w hS (by rw [hw]; rfl) e
          · exact skip σ N h a w hS (by rw [hw]; rfl) e
          · exact run σ N h a w hS (by rw [hw]; rfl) e
        split at e
        · rename_i c hb
          rw [hb] at hslot
          simp only [SV.rel, Leaf.rel] at hslot
          exact gd c σ N h hS hslot e
        · rename_i c hb
          rw [hb] at hslot
          have hval : a.tmps.getD t undef = .bool c := by
            obtain ⟨cs, q1, q2⟩ := SV.tv_iff.1 hslot
            simp only [rep] at q1
            subst q1
            exact q2
          have known : ∀ c' : Bool, c = c' → Sat B w0 h0 b u n (σ.put (some (b + t)) (.leaf (.blit c'))) N h a w := by
            intro c' hc
            subst hc
            refine ⟨hS.mem, hS.grow, hS.dom, fun t' => ?_, hS.size, hS.defers⟩
            show (getS ((b + t, SV.leaf (Leaf.blit c)) :: σ.slots) t').rel N h (vals b u a t')
            rw [getS_cons]
            split
            · rename_i e; subst e; rw [vals_at]; exact SV.leaf_iff.2 (by simp only [Leaf.rel]; exact hval)
            · exact hS.slots t'
          cases c with
          | true =>
            have e := e.1 rfl
            rw [setK_eq] at e
            exact gd true _ N h (known true rfl) hval e
          | false =>
            have e := e.2 rfl
            rw [setK_eq] at e
            exact gd false _ N h (known false rfl) hval e
        · rename_i hu
          rw [hu] at hslot
          have hw : Region.wanted o (yielded ops a.tmps) = false := by
            have : a.tmps.getD t undef = undef := by simpa only [SV.rel, Leaf.rel] using hslot
            have hn : yielded ops a.tmps j = none := by rw [hyield, this]; rfl
            unfold Region.wanted
            rw [hg]
            simp only
            rw [hn]
            rfl
          exact skip σ N h a w hS hw e
        · exact e.elim
theorem freezeK_sound {nm : Nat → Bool} {b' : Nat} {ops : List Oper} {σ : St} (hS : Sat B w0 h0 b u n σ N h a w) {k : St → Prop} (e : freezeK nm b' ops σ k) : ∃ σ' h', k σ' ∧ Sat B w0 h0 b u n σ' N h' a w := by
  unfold freezeK at e
  split at e
  · exact ⟨_, _, e, hS⟩
  · rw [fSt_eq] at e
    obtain ⟨h1, hS1⟩ := freezeAt_sound (addAll b' (toFreeze nm b' ops)) hS
    obtain ⟨h2, hS2⟩ := freezeBehind_sound (addAll b' ((toFreeze nm b' ops).flatMap (loadsTo ops ops))) hS1
    exact ⟨_, _, e, hS2⟩
end
end Go.Fr
namespace Go.Fr
open Go Go.RowKit
universe u
section
variable {B : Nat} {w0 w : World} {N : Names} {h0 h : PHeap} {b : Nat} {u : Nat → Value} {a : Act} {n : Nat} {m : Nat → Option Nat}
def Names.via (N : Names) (m : Nat → Option Nat) : Names := { ρ := N.ρ, V := fun X => match m X with | some r => N.V r | none => .slice none 0 0 }
theorem holds_true {b : Bool} (e : holds b) : b = true := by cases b <;> first | exact e.elim | rfl
mutual
theorem entLeaf_rel : (l l' : Leaf) → entLeaf m l l' → {v : Value} → l.rel N h v → l'.rel (N.via m) h v
  | _, .any, _, _, _ => by simp only [Leaf.rel]
  | l, .tv t x, e, v, hr => by
    simp only [entLeaf, argValK_eq] at e
    split at e
    · rename_i y hy
      subst e
      simp only [Leaf.rel]
      exact argVal_rel (s := .leaf l) hy (SV.leaf_iff.2 hr)
    · exact e.elim
  | l, .blit b, e, v, hr => by
    unfold entLeaf at e
    split at e
    · subst e; simp only [Leaf.rel] at hr ⊢; exact hr
    · subst e
      obtain ⟨cs, q1, q2⟩ := tv_rel.1 hr
      simp only [rep] at q1
      subst q1
      simp only [Leaf.rel]
      exact q2
    · exact e.elim
  | l, .raw u, e, v, hr => by
    unfold entLeaf at e
    split at e
    · subst e; simp only [Leaf.rel] at hr ⊢; exact hr
    · exact e.elim
  | l, .ptr i off, e, v, hr => by
    unfold entLeaf at e
    split at e
    · have := holds_true e
      simp only [Bool.and_eq_true] at this
      simp only [Leaf.rel] at hr ⊢
      rw [Nat.eq_of_beq_eq_true this.1, Nat.eq_of_beq_eq_true this.2]
      exact hr
    · exact e.elim
  | l, .mref i, e, v, hr => by
    unfold entLeaf at e
    split at e
    · have := Nat.eq_of_beq_eq_true (holds_true e)
      simp only [Leaf.rel] at hr ⊢
      rw [this]
      exact hr
    · exact e.elim
  | l, .row X, e, v, hr => by
    unfold entLeaf at e
    split at e
    · rename_i r hmr
      split at e
      · have := Nat.eq_of_beq_eq_true (holds_true e)
        subst this
        simp only [Leaf.rel, Names.via, hmr] at hr ⊢
        exact hr
      · exact e.elim
    · rename_i hmr
      split at e
      · simp only [Leaf.rel, Names.via, hmr] at hr ⊢
        exact ⟨hr, by rw [hr]; rfl⟩
      · exact e.elim
  | l, .clo f caps, e, v, hr => by
    unfold entLeaf at e
    split at e
    · rename_i f' caps'
      split at e
      · rename_i hf
        have := Nat.eq_of_beq_eq_true hf
        subst this
        simp only [Leaf.rel] at hr ⊢
        obtain ⟨vs, e1, e2⟩ := hr
        exact ⟨vs, e1, entLeaves_rel caps' caps e e2⟩
      · exact e.elim
    · exact e.elim
  | _, .undef, e, _, _ => by simp only [entLeaf] at e
  | _, .eptr _ _ _ _, e, _, _ => by simp only [entLeaf] at e
  | _, .rptr _ _ _ _, e, _, _ => by simp only [entLeaf] at e
  | _, .rsub _ _ _, e, _, _ => by simp only [entLeaf] at e
theorem entLeaves_rel : (ls ls' : List Leaf) → entLeaves m ls ls' → {vs : List Value} → LeafRels N h ls vs → LeafRels (N.via m) h ls' vs
  | ls, [], e, vs, hr => by
    unfold entLeaves at e
    split at e
    · rw [LeafRels.nil_iff] at hr ⊢; exact hr
    · exact e.elim
  | ls, l' :: r', e, vs, hr => by
    unfold entLeaves at e
    split at e
    · exact e.elim
    · rename_i l r
      obtain ⟨c, cs, rfl, h1, h2⟩ := rels_cons hr
      split at e
      · split at e
        · rw [LeafRels.nil_iff] at h2
          subst h2
          exact LeafRels.cons (entLeaf_rel l l' e h1) (LeafRels.nil _ _)
        · exact e.elim
      · exact LeafRels.cons (entLeaf_rel l l' e.1 h1) (entLeaves_rel r _ e.2 h2)
end
theorem entSV_rel {s s' : SV} (e : entSV m s s') {v : Value} (hr : s.rel N h v) : s'.rel (N.via m) h v := by
  unfold entSV at e
  split at e
  · exact SV.leaf_iff.2 (by simp only [Leaf.rel])
  · rw [argValK_eq] at e
    split at e
    · rename_i y hy
      subst e
      exact SV.tv_iff.2 (argVal_rel hy hr)
    · exact e.elim
  · split at e
    · exact SV.leaf_iff.2 (entLeaf_rel _ _ e (SV.leaf_iff.1 hr))
    · exact e.elim
  · rename_i ls'
    split at e
    · rename_i ls hls
      obtain ⟨cs, q1, q2, q3⟩ := aggOf_rel hls hr
      exact ⟨cs, q1, entLeaves_rel _ _ e q2, q3⟩
    · exact e.elim
  · exact e.elim
theorem entSlots_sat {v : Nat → Value} {src : Slots} (hs : SlotSat src N h v) : (tgt : Slots) → entSlots m src tgt → SlotSat tgt (N.via m) h v
  | [], _, t => SV.leaf_iff.2 (by simp only [Leaf.rel])
  | [(k, s')], e, t => by
    simp only [entSlots] at e
    rw [getS_cons]
    split
    · rename_i hk; subst hk; exact entSV_rel e (hs k)
    · exact SV.leaf_iff.2 (by simp only [Leaf.rel])
  | (k, s') :: p :: r, e, t => by
    simp only [entSlots] at e
    rw [getS_cons]
    split
    · rename_i hk; subst hk; exact entSV_rel e.1 (hs k)
    · exact entSlots_sat hs (p :: r) e.2 t
theorem entIt_eq {cs : List Leaf} {x y : Option It} (e : entIt cs x y) : x = y ∧ (y = some .map → isTv cs) := by
  unfold entIt at e
  split at e
  · exact ⟨rfl, fun h => by cases h⟩
  · obtain ⟨rfl, rfl⟩ := e; exact ⟨rfl, fun h => by cases h⟩
  · exact ⟨rfl, fun _ => e⟩
  · exact e.elim
theorem entBlk_get {src : Blks} {n : Nat} {c : Blk} (e : entBlk m src n c) : ∃ b, getB src n = some b ∧ b.ty = c.ty ∧ entLeaves m b.cells c.cells ∧ b.it = c.it ∧ (c.it = some .map → isTv c.cells) := by
  obtain ⟨t', cs', it'⟩ := c
  unfold entBlk at e
  simp only at e
  split at e
  · rename_i t cs it hg
    split at e
    · rename_i ht
      split at e
      · split at e
        · exact ⟨_, hg, Nat.eq_of_beq_eq_true ht, e, rfl, fun h => by cases h⟩
        · exact e.elim
      · exact ⟨_, hg, Nat.eq_of_beq_eq_true ht, e.1, entIt_eq e.2⟩
    · exact e.elim
  · exact e.elim
theorem entBlks_get {src : Blks} : (tgt : Blks) → entBlks m src tgt → ∀ i b', getB tgt i = some b' → ∃ b, getB src i = some b ∧ b.ty = b'.ty ∧ entLeaves m b.cells b'.cells ∧ b.it = b'.it ∧ (b'.it = some .map → isTv b'.cells)
  | [], _, i, b', hb => by cases hb
  | (k, c) :: r, e, i, b', hb => by
    unfold entBlks at e
    rw [getB_cons] at hb
    split at e
    · by_cases hk : k = i
      · subst hk
        rw [if_pos rfl] at hb
        injection hb with hb; subst hb
        exact entBlk_get e
      · rw [if_neg hk] at hb; cases hb
    · by_cases hk : k = i
      · subst hk
        rw [if_pos rfl] at hb
        injection hb with hb; subst hb
        exact entBlk_get e.1
      · rw [if_neg hk] at hb
        exact entBlks_get _ e.2 i b' hb
theorem holdsNil_eq {α : Type} {xs : List α} (e : holdsNil xs) : xs = [] := by
  cases xs with
  | nil => rfl
  | cons _ _ => exact e.elim
theorem entRows_get {src : Rows} : (tgt : Rows) → entRows m src tgt → ∀ X R', getR tgt X = some R' → (∃ y R, m X = some y ∧ getR src y = some R ∧ R.e = R'.e ∧ ∃ ht : R.t = R'.t, ht ▸ R.xs = R'.xs) ∨ (m X = none ∧ R'.xs = [])
  | [], _, X, R', hR => by cases hR
  | (k, S) :: r, e, X, R', hR => by
    simp only [entRows] at e
    rw [getR_cons] at hR
    split at e
    · rename_i y hy
      split at e
      · rename_i R hg
        split at e
        · rename_i hee
          rw [popSlK_eq] at e
          split at e
          · rename_i xs rr hp
            by_cases hk : k = X
            · subst hk
              rw [if_pos rfl] at hR
              injection hR with hR; subst hR
              refine .inl ⟨y, R, hy, hg, Nat.eq_of_beq_eq_true hee, ?_⟩
              have hp' : (if e : R.t = S.t then some ((e ▸ R.xs : List S.t.den), ([] : List Leaf)) else none) = some (xs, rr) := hp
              by_cases ht : R.t = S.t
              · rw [dif_pos ht] at hp'
                injection hp' with hp'
                injection hp' with hp1 hp2
                refine ⟨ht, ?_⟩
                rw [← e.1, ← hp1]
              · rw [dif_neg ht] at hp'
                cases hp'
            · rw [if_neg hk] at hR
              exact entRows_get r e.2 X R' hR
          · exact e.elim
        · exact e.elim
      · exact e.elim
    · rename_i hy
      by_cases hk : k = X
      · subst hk
        rw [if_pos rfl] at hR
        injection hR with hR; subst hR
        exact .inr ⟨hy, holdsNil_eq e.1⟩
      · rw [if_neg hk] at hR
        exact entRows_get r e.2 X R' hR
theorem getR_mem {rs : Rows} {X : Nat} {R : RowS} (hR : getR rs X = some R) : (X, R) ∈ rs := by
  induction rs with
  | nil => cases hR
  | cons p r ih =>
    obtain ⟨k, S⟩ := p
    rw [getR_cons] at hR
    split at hR
    · rename_i hk; subst hk; injection hR with hR; subst hR; exact List.mem_cons_self ..
    · exact List.mem_cons_of_mem _ (ih hR)
theorem rowsApart_inj : (rs : Rows) → rowsApart m rs = true → ∀ X Y R S y, getR rs X = some R → getR rs Y = some S → m X = some y → m Y = some y → X = Y
  | [], _, X, Y, R, S, y, hX, _, _, _ => by cases hX
  | (k, T) :: r, e, X, Y, R, S, y, hX, hY, h1, h2 => by
    simp only [rowsApart, Bool.and_eq_true] at e
    rw [getR_cons] at hX hY
    have key : ∀ Z U, getR r Z = some U → m k = some y → m Z = some y → False := by
      intro Z U hZ hk hz
      have e1 := e.1
      rw [hk] at e1
      simp only [Bool.not_eq_true', List.any_eq_false] at e1
      have := e1 _ (getR_mem hZ)
      rw [hz] at this
      exact this (Nat.beq_refl y)
    by_cases kx : k = X
    · by_cases ky : k = Y
      · rw [← kx, ← ky]
      · rw [if_neg ky] at hY
        subst kx
        exact (key Y S hY h1 h2).elim
    · rw [if_neg kx] at hX
      by_cases ky : k = Y
      · subst ky
        exact (key X R hX h2 h1).elim
      · rw [if_neg ky] at hY
        exact rowsApart_inj r e.2 X Y R S y hX hY h1 h2
theorem entAt_sat {sl sl' : Slots} {bs bs' : Blks} {rs rs' : Rows} (hS : Sat B w0 h0 b u n ⟨sl, bs, rs⟩ N h a w) (e : entAt m sl bs rs sl' bs' rs') : Sat B w0 h0 b u n ⟨sl', bs', rs'⟩ (N.via m) h a w := by
  unfold entAt at e
  split at e
  · rename_i hap
    simp only [Bool.and_eq_true] at hap
    have parts : entSlots m sl sl' ∧ entBlks m bs bs' ∧ entRows m rs rs' := by
      split at e
      · exact ⟨e, trivial, trivial⟩
      · exact ⟨e.1, e.2, trivial⟩
      · exact ⟨e.1, trivial, e.2⟩
      · exact e
    obtain ⟨e1, e2, e3⟩ := parts
    have hM := hS.mem
    refine ⟨⟨hM.below, hM.size, hM.pin, ?_, ?_, ?_, ?_, ?_, ?_⟩, hS.grow, hS.dom, entSlots_sat hS.slots sl' e1, hS.size, hS.defers⟩
    · intro i b' hb
      obtain ⟨⟨t, ls, it⟩, g1, g2, g3, g4⟩ := entBlks_get bs' e2 i b' hb
      obtain ⟨t', ls', it'⟩ := b'
      simp only at g2 g3 g4
      obtain ⟨g4, g5⟩ := g4
      subst g2 g4
      obtain ⟨o, q1, q2, q3⟩ := hM.blk i _ g1
      refine ⟨o, q1, ?_, q3⟩
      cases it with
      | none =>
        obtain ⟨cs, p1, p2, p3⟩ := BlkSat.cells.1 q2
        exact BlkSat.cells.2 ⟨cs, p1, entLeaves_rel _ _ g3 p2, p3⟩
      | some p =>
        cases p with
        | str s p => exact q2
        | map =>
          obtain ⟨K, V, xs, es, cl, p1, p2, p3⟩ := BlkSat.map.1 q2
          subst p1
          have g5 := g5 rfl
          refine BlkSat.map.2 ?_
          have hls : ∃ T x, ls' = [.tv T x] := by
            unfold isTv at g5
            split at g5
            · exact ⟨_, _, rfl⟩
            · exact g5.elim
          obtain ⟨T, x, rfl⟩ := hls
          · simp only [entLeaves, entLeaf, argValK_eq] at g3
            unfold argVal at g3
            simp only at g3
            by_cases ht : mapT K V = T
            · subst ht
              rw [dif_pos rfl] at g3
              subst g3
              exact ⟨K, V, xs, es, cl, rfl, p2, p3⟩
            · rw [dif_neg ht] at g3
              exact g3.elim
    · intro i j b c hb hc he
      obtain ⟨b1, g1, _⟩ := entBlks_get bs' e2 i b hb
      obtain ⟨c1, g2, _⟩ := entBlks_get bs' e2 j c hc
      exact hM.inj i j b1 c1 g1 g2 he
    · intro X R' hX
      rcases entRows_get rs' e3 X R' hX with ⟨y, R, g1, g2, g3, g4, g5⟩ | ⟨g1, g2⟩
      · obtain ⟨cs, q1, q2⟩ := hM.row y R g2
        obtain ⟨t, te, xs⟩ := R
        obtain ⟨t', te', xs'⟩ := R'
        simp only at g3 g4 g5 q1 q2
        subst g3 g4 g5
        refine ⟨cs, ?_, q2⟩
        simp only [Names.via, g1]
        exact q1
      · refine ⟨[], ?_, by rw [g2]; rfl⟩
        rw [g2]
        simp only [Names.via, g1]
        exact World.ownsRow_nil w B _ _
    · intro X R' g hX hg
      rcases entRows_get rs' e3 X R' hX with ⟨y, R, g1, g2, _⟩ | ⟨g1, _⟩
      · simp only [Names.via, g1] at hg
        exact hM.rowh y R g g2 hg
      · simp only [Names.via, g1] at hg
        cases hg
    · intro X R' g i b hX hg hb
      obtain ⟨b1, p1, _⟩ := entBlks_get bs' e2 i b hb
      rcases entRows_get rs' e3 X R' hX with ⟨y, R, g1, g2, _⟩ | ⟨g1, _⟩
      · simp only [Names.via, g1] at hg
        exact hM.rowb y R g i b1 g2 hg p1
      · simp only [Names.via, g1] at hg
        cases hg
    · intro X Y R' S' g hX hY hx hy
      rcases entRows_get rs' e3 X R' hX with ⟨y, R, g1, g2, _⟩ | ⟨g1, _⟩
      · rcases entRows_get rs' e3 Y S' hY with ⟨z, S, k1, k2, _⟩ | ⟨k1, _⟩
        · simp only [Names.via, g1] at hx
          simp only [Names.via, k1] at hy
          have := hM.rowr y z R S g g2 k2 hx hy
          subst this
          exact rowsApart_inj rs' hap.1 X Y R' S' y hX hY g1 k1
        · simp only [Names.via, k1] at hy
          cases hy
      · simp only [Names.via, g1] at hx
        cases hx
  · exact e.elim
theorem entH_sat {hh : Hint} {σ0 σ : St} {x : varsDen hh.vars} (hS : Sat B w0 h0 b u n σ N h a w) (e : entH hh σ0 σ x) : ∃ N', Sat B w0 h0 b u n (atHead hh σ0 x) N' h a w := by
  unfold entH at e
  split at e
  rename_i sl' bs' rs' hat
  rw [hat]
  exact ⟨_, entAt_sat hS e⟩
end
end Go.Fr
namespace Go.Fr
open Go Go.RowKit
universe u
theorem optEq_eq {a : Option Nat} {t : Nat} : optEq a t = true ↔ a = some t := by
  cases a with
  | none => simp [optEq]
  | some x =>
    simp only [optEq, Option.some.injEq]
    exact ⟨Nat.eq_of_beq_eq_true, fun e => by subst e; exact Nat.beq_refl x⟩
theorem readsOk_get {all : List Oper} {i t : Nat} : (l : List Oper) → (j0 : Nat) → readsOk all i t j0 l = true → ∀ (k : Nat) o, l[k]? = some o → o.dst = some t → (j0 + k < i → afterOf all i (j0 + k) = true) ∧ (i < j0 + k → afterOf all (j0 + k) i = true)
  | [], _, _, k, o, ho, _ => by simp at ho
  | x :: r, j0, e, k, o, ho, hd => by
    simp only [readsOk, Bool.and_eq_true] at e
    cases k with
    | zero =>
      simp at ho; subst ho
      have h1 := e.1
      rw [optEq_eq.2 hd] at h1
      simp only [cond_true, Nat.add_zero] at h1 ⊢
      refine ⟨fun hlt => ?_, fun hlt => ?_⟩
      · rw [show Nat.blt j0 i = true from Nat.ble_eq_true_of_le hlt] at h1
        exact h1
      · have n1 : Nat.blt j0 i = false := by
          cases hb : Nat.blt j0 i with
          | false => rfl
          | true => have := Nat.le_of_ble_eq_true hb; omega
        have n2 : Nat.beq j0 i = false := by
          cases hb : Nat.beq j0 i with
          | false => rfl
          | true => have := Nat.eq_of_beq_eq_true hb; omega
        rw [n1, n2] at h1
        exact h1
    | succ k =>
      have := readsOk_get r (j0 + 1) e.2 k o (by simpa using ho) hd
      rw [show j0 + (k + 1) = j0 + 1 + k by omega]
      exact this
theorem dstOnce_get {all : List Oper} {i : Nat} {d : Nat} : (l : List Oper) → (j0 : Nat) → dstOnce all i (some d) j0 l = true → ∀ (k : Nat) o, l[k]? = some o → o.dst = some d → j0 + k = i
  | [], _, _, k, o, ho, _ => by simp at ho
  | x :: r, j0, e, k, o, ho, hd => by
    simp only [dstOnce, Bool.and_eq_true] at e
    cases k with
    | zero =>
      simp at ho; subst ho
      have h1 := e.1
      cases hb : Nat.beq i j0 with
      | true => have := Nat.eq_of_beq_eq_true hb; omega
      | false =>
        rw [hb] at h1
        simp only [cond_false, optEq_eq.2 hd] at h1
        cases h1
    | succ k =>
      have := dstOnce_get r (j0 + 1) e.2 k o (by simpa using ho) hd
      omega
structure OkAt (all : List Oper) (i : Nat) (o : Oper) : Prop where
  reads : ∀ t ∈ looks all o, ∀ (k : Nat) x, all[k]? = some x → x.dst = some t → (k < i → afterOf all i k = true) ∧ (i < k → afterOf all k i = true)
  once : ∀ d, o.dst = some d → ∀ (k : Nat) x, all[k]? = some x → x.dst = some d → k = i
  guard : ∀ j w, o.guard = some (j, w) → j < i ∧ afterOf all i j = true
  back : ∀ e ∈ o.after.toList, Region.binds .any e = true → e.on < i
theorem edgesBack_get {i : Nat} : {es : List Edge} → edgesBack i es = true → ∀ e ∈ es, Region.binds .any e = true → e.on < i
  | [], _, e, he, _ => by cases he
  | x :: r, h, e, he, hb => by
    simp only [edgesBack, Bool.and_eq_true] at h
    rcases List.mem_cons.1 he with he | he
    · subst he
      have h1 := h.1
      unfold Region.binds at hb
      cases hg : e.ground <;> rw [hg] at h1 hb <;> first | exact Nat.le_of_ble_eq_true h1 | exact absurd (show (Region.Mode.any == Region.Mode.text) = true from hb) (by decide) | exact absurd (show (Region.Mode.any == Region.Mode.gc) = true from hb) (by decide)
    · exact edgesBack_get h.2 e he hb
theorem okOps_get {all : List Oper} : (l : List Oper) → (i0 : Nat) → okOps all i0 l = true → ∀ (k : Nat) o, l[k]? = some o → OkAt all (i0 + k) o
  | [], _, _, k, o, ho => by simp at ho
  | x :: r, i0, e, k, o, ho => by
    simp only [okOps, Bool.and_eq_true] at e
    obtain ⟨⟨⟨⟨e1, e2⟩, e3⟩, e4⟩, e5⟩ := e
    cases k with
    | zero =>
      simp at ho; subst ho
      refine ⟨?_, ?_, ?_, edgesBack_get e4⟩
      · intro t ht k y hy hd
        have := readsOk_get all 0 (List.all_eq_true.1 e1 t ht) k y hy hd
        rw [Nat.zero_add] at this
        exact this
      · intro d hd k y hy hyd
        rw [hd] at e2
        have := dstOnce_get all 0 e2 k y hy hyd
        omega
      · intro j w hg
        rw [hg] at e3
        simp only [guardOk, Bool.and_eq_true] at e3
        exact ⟨Nat.le_of_ble_eq_true e3.1, e3.2⟩
    | succ k =>
      have := okOps_get r (i0 + 1) e5 k o (by simpa using ho)
      rw [show i0 + (k + 1) = i0 + 1 + k by omega]
      exact this
theorem onList_get {es : List Edge} {j : Nat} : onList es j = true ↔ ∃ e ∈ es, e.on = j ∧ Region.binds .any e = true := by
  induction es with
  | nil => simp [onList]
  | cons x r ih =>
    simp only [onList, Bool.or_eq_true, Bool.and_eq_true, ih, List.mem_cons]
    constructor
    · rintro (⟨h1, h2⟩ | ⟨e, h1, h2⟩)
      · refine ⟨x, .inl rfl, Nat.eq_of_beq_eq_true h1, ?_⟩
        unfold Region.binds
        cases hg : x.ground <;> rw [hg] at h2 <;> first | rfl | cases h2
      · exact ⟨e, .inr h1, h2⟩
    · rintro ⟨e, h1 | h1, h2, h3⟩
      · subst h1
        left
        refine ⟨by rw [h2]; exact Nat.beq_refl j, ?_⟩
        unfold Region.binds at h3
        cases hg : e.ground <;> rw [hg] at h3 <;> first | rfl | exact absurd (show (Region.Mode.any == Region.Mode.text) = true from h3) (by decide) | exact absurd (show (Region.Mode.any == Region.Mode.gc) = true from h3) (by decide)
      · exact .inr ⟨e, h1, h2, h3⟩
def Eqv (s s' : SV) : Prop := ∀ N h v, s.rel N h v ↔ s'.rel N h v
theorem Eqv.refl (s : SV) : Eqv s s := fun _ _ _ => Iff.rfl
theorem Eqv.symm {s s' : SV} (e : Eqv s s') : Eqv s' s := fun N h v => (e N h v).symm
theorem Eqv.trans {a b c : SV} (e : Eqv a b) (f : Eqv b c) : Eqv a c := fun N h v => (e N h v).trans (f N h v)
theorem tv_blit (b : Bool) : Eqv (.leaf (.tv .bool b)) (.leaf (.blit b)) := fun N h v => by
  constructor
  · intro hh
    obtain ⟨cs, q1, q2⟩ := SV.tv_iff.1 hh
    simp only [rep] at q1
    subst q1
    exact SV.leaf_iff.2 (by simp only [Leaf.rel]; exact q2)
  · intro e
    have e := SV.leaf_iff.1 e
    simp only [Leaf.rel] at e
    exact SV.tv_iff.2 ⟨[.bool b], rfl, e⟩
def Guards (b : Nat) (all : List Oper) (g : Option (Nat × Bool)) (σ σ1 : St) (yes : Bool) : Prop :=
  match g with
  | none => σ1 = σ ∧ yes = true
  | some (j, w) => ∃ t, dstOf all j = some t ∧
    ((∃ c, getS σ.slots (b + t) = .leaf (.blit c) ∧ σ1 = σ ∧ yes = (c == w)) ∨
     (∃ c : Bool, getS σ.slots (b + t) = .leaf (.tv .bool c) ∧ σ1 = σ.put (some (b + t)) (.leaf (.blit c)) ∧ yes = (c == w)) ∨
     (getS σ.slots (b + t) = .leaf .undef ∧ σ1 = σ ∧ yes = false))
def memOf (b : Nat) (i : Nat) (sl : Slots) (op : Op) (mem : Mem) : Mem :=
  match touches b sl op with
  | some (q, w) => (i, q, w) :: mem
  | none => mem
def behind (all : List Oper) (i : Nat) (A : Made) (f : Nat → Bool) : Prop := ∀ p ∈ A, f p.2 = true → i = p.1 ∨ afterOf all i p.1 = true
def ActD (E : Env) (b : Nat) (all : List Oper) (A : Made) (i : Nat) (o : Oper) (σ1 : St) (mem : Mem) (σ' : St) (mem' : Mem) : Prop :=
  (∃ r p, pureEv E b σ1.slots σ1.blks σ1.rows o.op = some (r, p) ∧ (∀ q, p = some q → q) ∧ σ' = σ1.put (dstAt b o.dst) r ∧ mem' = memOf b i σ1.slots o.op mem ∧ behind all i A (fun q => r.anyL (Leaf.namesB q))) ∨
  (∃ q c, storeEv E b σ1.slots σ1.blks o.op = some (q, c) ∧ o.dst = none ∧ σ' = ⟨σ1.slots, setB σ1.blks q c, σ1.rows⟩ ∧ mem' = (i, 2 * q, true) :: mem ∧ behind all i A (fun q => anyLeaf (Leaf.namesB q) c.cells)) ∨
  (∃ q c, rowStoreEv E b σ1.slots σ1.rows o.op = some (q, c) ∧ o.dst = none ∧ σ' = ⟨σ1.slots, σ1.blks, setR σ1.rows q c⟩ ∧ mem' = (i, 2 * q + 1, true) :: mem) ∨
  (∃ t ti d q, o.op = .alloc t ∧ E.tt t = some ti ∧ ti.zero.length = ti.size ∧ o.dst = some d ∧ (i, q) ∈ A ∧ (∀ p ∈ A, p.2 = q → i = p.1) ∧ (∀ p ∈ A, anyLeaf (Leaf.namesB p.2) ti.zero = false) ∧ σ' = ⟨(b + d, .leaf (.ptr q 0)) :: σ1.slots, (q, ⟨t, ti.zero, none⟩) :: σ1.blks, σ1.rows⟩ ∧ mem' = (i, 2 * q, true) :: mem)
def StepD (E : Env) (b : Nat) (all : List Oper) (A : Made) (i : Nat) (o : Oper) (σ : St) (mem : Mem) (σ' : St) (mem' : Mem) : Prop :=
  ∃ σ1 yes, Guards b all o.guard σ σ1 yes ∧
    ((yes = true ∧ ActD E b all A i o σ1 mem σ' mem') ∨
     (yes = false ∧ σ' = σ1.put (dstAt b o.dst) (.leaf .undef) ∧ mem' = mem))
theorem behindM_all {all : List Oper} {i : Nat} {f : Nat → Bool} : {A : Made} → behindM all i f A = true → behind all i A f
  | [], _, p, hp, _ => by cases hp
  | (j, q) :: r, e, p, hp, hf => by
    simp only [behindM, Bool.and_eq_true] at e
    rcases List.mem_cons.1 hp with h | h
    · subst h
      have e1 := e.1
      rw [hf] at e1
      simp only [cond_true] at e1
      cases hb : Nat.beq i j with
      | true => exact .inl (Nat.eq_of_beq_eq_true hb)
      | false => rw [hb] at e1; exact .inr e1
    · exact behindM_all e.2 p h hf
theorem noneM_all {f : Nat → Bool} : {A : Made} → noneM f A = true → ∀ p ∈ A, f p.2 = false
  | [], _, p, hp => by cases hp
  | (j, q) :: r, e, p, hp => by
    simp only [noneM, Bool.and_eq_true, Bool.not_eq_true'] at e
    rcases List.mem_cons.1 hp with h | h
    · subst h; exact e.1
    · exact noneM_all e.2 p h
theorem onlyM_all {i q : Nat} : {A : Made} → onlyM i q A = true → ∀ p ∈ A, p.2 = q → i = p.1
  | [], _, p, hp, _ => by cases hp
  | (j, q') :: r, e, p, hp, hq => by
    simp only [onlyM, Bool.and_eq_true] at e
    rcases List.mem_cons.1 hp with h | h
    · subst h
      have e1 := e.1
      simp only at hq
      subst hq
      rw [Nat.beq_refl] at e1
      exact Nat.eq_of_beq_eq_true e1
    · exact onlyM_all e.2 p h hq
theorem madeAt_mem {i q : Nat} : {A : Made} → madeAt i A = some q → (i, q) ∈ A
  | [], e => by cases e
  | (j, q') :: r, e => by
    simp only [madeAt] at e
    cases hb : Nat.beq i j with
    | true =>
      rw [hb] at e
      simp only [cond_true, Option.some.injEq] at e
      rw [Nat.eq_of_beq_eq_true hb, e]
      exact List.mem_cons_self ..
    | false => rw [hb] at e; exact List.mem_cons_of_mem _ (madeAt_mem e)
theorem freshM_all {sl : Slots} {bs : Blks} : {A : Made} → freshM sl bs A = true → ∀ p ∈ A, usedB sl bs p.2 = false
  | [], _, p, hp => by cases hp
  | (j, q) :: r, e, p, hp => by
    simp only [freshM, Bool.and_eq_true, Bool.not_eq_true'] at e
    rcases List.mem_cons.1 hp with h | h
    · subst h; exact e.1
    · exact freshM_all e.2 p h
section
variable {P : Program} {E : Env} {b : Nat} {all : List Oper} {A : Made}
theorem execD1_step {i : Nat} {o : Oper} {σ : St} {mem : Mem} {k : St → Mem → Prop} (e : execD1 E b all A i o σ mem k) :
    ∃ σ' mem', k σ' mem' ∧ ActD E b all A i o σ mem σ' mem' := by
  obtain ⟨sl, bs, rs⟩ := σ
  simp only [execD1] at e
  split at e
  · rename_i r p hr
    obtain ⟨hp, e⟩ := oblige_some e
    have e := nameK_at e
    cases hbe : behindM all i (fun q => r.anyL (Leaf.namesB q)) A with
    | false => rw [hbe] at e; exact e.elim
    | true =>
      rw [hbe] at e
      simp only [cond_true] at e
      rw [putK_eq] at e
      refine ⟨_, memOf b i sl o.op mem, ?_, .inl ⟨r, p, hr, hp, rfl, rfl, behindM_all hbe⟩⟩
      unfold memOf
      split at e
      · rename_i q w ht; rw [ht]; exact e
      · rename_i ht; rw [ht]; exact e
  · split at e
    · rename_i q t cs it hst
      split at e
      · rename_i hdst
        rw [fLs_eq] at e
        cases hbe : behindM all i (fun q => anyLeaf (Leaf.namesB q) cs) A with
        | false => rw [hbe] at e; exact e.elim
        | true =>
          rw [hbe] at e
          simp only [cond_true] at e
          rw [setBK_eq] at e
          exact ⟨_, _, e, .inr (.inl ⟨q, ⟨t, cs, it⟩, hst, hdst, rfl, rfl, behindM_all hbe⟩)⟩
      · exact e.elim
    · split at e
      · rename_i q t te xs hst
        split at e
        · rename_i hdst
          rw [setRK_eq] at e
          exact ⟨_, _, e, .inr (.inr (.inl ⟨q, ⟨t, te, xs⟩, hst, hdst, rfl, rfl⟩))⟩
        · exact e.elim
      · split at e
        · rename_i t hop
          split at e
          · rename_i d hdst
            split at e
            · rename_i ti hti
              split at e
              · rename_i q hq
                cases hb : (Nat.beq ti.zero.length ti.size && noneM (fun p => anyLeaf (Leaf.namesB p) ti.zero) A && onlyM i q A) with
                | false => rw [hb] at e; exact e.elim
                | true =>
                  rw [hb] at e
                  simp only [cond_true] at e
                  rw [fLs_eq] at e
                  simp only [Bool.and_eq_true] at hb
                  exact ⟨_, _, e, .inr (.inr (.inr ⟨t, ti, d, q, hop, hti, Nat.eq_of_beq_eq_true hb.1.1, hdst, madeAt_mem hq, onlyM_all hb.2, noneM_all hb.1.2, rfl, rfl⟩))⟩
              · exact e.elim
            · exact e.elim
          · exact e.elim
        · exact e.elim
theorem execD_step {i : Nat} {o : Oper} {l : List Oper} {σ : St} {mem : Mem} {k : St → Prop} (e : execD E b all A i (o :: l) σ mem k) :
    ∃ σ' mem', StepD E b all A i o σ mem σ' mem' ∧ execD E b all A (i + 1) l σ' mem' k := by
  simp only [execD] at e
  have gd : ∀ (w c : Bool) (σ1 : St), Guards b all o.guard σ σ1 (c == w) →
      guarded w c (execD1 E b all A i o σ1 mem fun σ' mem' => execD E b all A (i + 1) l σ' mem' k) (setK σ1 (dstAt b o.dst) (.leaf .undef) fun σ' => execD E b all A (i + 1) l σ' mem k) →
      ∃ σ' mem', StepD E b all A i o σ mem σ' mem' ∧ execD E b all A (i + 1) l σ' mem' k := by
    intro w c σ1 hg e
    have yes : (c == w) = true → execD1 E b all A i o σ1 mem (fun σ' mem' => execD E b all A (i + 1) l σ' mem' k) → ∃ σ' mem', StepD E b all A i o σ mem σ' mem' ∧ execD E b all A (i + 1) l σ' mem' k := by
      intro hb e
      obtain ⟨σ', mem', h1, h2⟩ := execD1_step e
      exact ⟨σ', mem', ⟨σ1, _, hg, .inl ⟨hb, h2⟩⟩, h1⟩
    have no : (c == w) = false → setK σ1 (dstAt b o.dst) (.leaf .undef) (fun σ' => execD E b all A (i + 1) l σ' mem k) → ∃ σ' mem', StepD E b all A i o σ mem σ' mem' ∧ execD E b all A (i + 1) l σ' mem' k := by
      intro hb e
      rw [setK_eq] at e
      exact ⟨_, _, ⟨σ1, _, hg, .inr ⟨hb, rfl, rfl⟩⟩, e⟩
    cases w <;> cases c <;> simp only [guarded] at e
    · exact yes rfl e
    · exact no rfl e
    · exact no rfl e
    · exact yes rfl e
  split at e
  · rename_i hg
    obtain ⟨σ', mem', h1, h2⟩ := execD1_step e
    exact ⟨σ', mem', ⟨σ, true, by rw [hg]; exact ⟨rfl, rfl⟩, .inl ⟨rfl, h2⟩⟩, h1⟩
  · rename_i j w hg
    split at e
    · exact e.elim
    · rename_i t ht
      split at e
      · rename_i c hb
        exact gd w c σ (by rw [hg]; exact ⟨t, ht, .inl ⟨c, hb, rfl, rfl⟩⟩) e
      · rename_i c hb
        have hG : ∀ c' : Bool, c = c' → Guards b all o.guard σ (σ.put (some (b + t)) (.leaf (.blit c'))) (c' == w) := by
          intro c' hc
          subst hc
          rw [hg]
          exact ⟨t, ht, .inr (.inl ⟨c, hb, rfl, rfl⟩)⟩
        cases c with
        | true =>
          have e := e.1 rfl
          rw [setK_eq] at e
          exact gd w true _ (hG true rfl) e
        | false =>
          have e := e.2 rfl
          rw [setK_eq] at e
          exact gd w false _ (hG false rfl) e
      · rename_i hu
        rw [setK_eq] at e
        exact ⟨_, _, ⟨σ, false, by rw [hg]; exact ⟨t, ht, .inr (.inr ⟨hu, rfl, rfl⟩)⟩, .inr ⟨rfl, rfl, rfl⟩⟩, e⟩
      · exact e.elim
theorem execD_chain {k : St → Prop} : (l : List Oper) → (i : Nat) → (σ : St) → (mem : Mem) → execD E b all A i l σ mem k →
    ∃ (S : Nat → St) (M : Nat → Mem), S i = σ ∧ M i = mem ∧ (∀ (j : Nat) o, l[j]? = some o → StepD E b all A (i + j) o (S (i + j)) (M (i + j)) (S (i + j + 1)) (M (i + j + 1))) ∧ memOk all (M (i + l.length)) = true ∧ k (S (i + l.length))
  | [], i, σ, mem, e => by
    simp only [execD] at e
    split at e
    · rename_i hm
      exact ⟨fun _ => σ, fun _ => mem, rfl, rfl, fun j o ho => by simp at ho, hm, e⟩
    · exact e.elim
  | o :: l, i, σ, mem, e => by
    obtain ⟨σ', mem', h1, h2⟩ := execD_step e
    obtain ⟨S, M, s1, s2, s3, s4, s5⟩ := execD_chain l (i + 1) σ' mem' h2
    refine ⟨fun j => if j = i then σ else S j, fun j => if j = i then mem else M j, by simp, by simp, ?_, ?_, ?_⟩
    · intro j x hx
      cases j with
      | zero =>
        simp at hx; subst hx
        simp only [Nat.add_zero, if_true]
        rw [if_neg (by omega), if_neg (by omega), s1, s2]
        exact h1
      | succ j =>
        have := s3 j x (by simpa using hx)
        simp only [if_neg (show ¬ i + (j + 1) = i by omega), if_neg (show ¬ i + (j + 1) + 1 = i by omega)]
        rw [show i + (j + 1) = i + 1 + j by omega]
        exact this
    · simp only [List.length_cons]
      rw [if_neg (by omega), show i + (l.length + 1) = i + 1 + l.length by omega]
      exact s4
    · simp only [List.length_cons]
      rw [if_neg (by omega), show i + (l.length + 1) = i + 1 + l.length by omega]
      exact s5
end
end Go.Fr
namespace Go.Fr
open Go Go.RowKit
universe u
section
variable {E : Env} {b : Nat} {all : List Oper} {A : Made}
theorem guards_slot {g : Option (Nat × Bool)} {σ σ1 : St} {yes : Bool} (hg : Guards b all g σ σ1 yes) (t : Nat) : Eqv (getS σ.slots t) (getS σ1.slots t) := by
  unfold Guards at hg
  split at hg
  · rw [hg.1]; exact Eqv.refl _
  · obtain ⟨t0, _, h⟩ := hg
    rcases h with ⟨c, _, h1, _⟩ | ⟨c, h1, h2, _⟩ | ⟨_, h1, _⟩
    · rw [h1]; exact Eqv.refl _
    · rw [h2]
      show Eqv _ (getS ((b + t0, SV.leaf (Leaf.blit c)) :: σ.slots) t)
      rw [getS_cons]
      split
      · rename_i e; subst e; rw [h1]; exact tv_blit c
      · exact Eqv.refl _
    · rw [h1]; exact Eqv.refl _
theorem guards_rest {g : Option (Nat × Bool)} {σ σ1 : St} {yes : Bool} (hg : Guards b all g σ σ1 yes) : σ1.blks = σ.blks ∧ σ1.rows = σ.rows := by
  unfold Guards at hg
  split at hg
  · rw [hg.1]; exact ⟨rfl, rfl⟩
  · obtain ⟨t0, _, h⟩ := hg
    rcases h with ⟨c, _, h1, _⟩ | ⟨c, h1, h2, _⟩ | ⟨_, h1, _⟩
    · rw [h1]; exact ⟨rfl, rfl⟩
    · rw [h2]; exact ⟨rfl, rfl⟩
    · rw [h1]; exact ⟨rfl, rfl⟩
theorem put_slot {σ : St} {d : Option Nat} {s : SV} {t : Nat} (ht : d ≠ some t) : getS (σ.put d s).slots t = getS σ.slots t := by
  cases d with
  | none => rfl
  | some k =>
    show getS ((k, s) :: σ.slots) t = _
    rw [getS_cons, if_neg (fun e => ht (by rw [e]))]
theorem put_slot_same {σ : St} {d : Nat} {s : SV} : getS (σ.put (some d) s).slots d = s := by
  show getS ((d, s) :: σ.slots) d = _
  rw [getS_cons, if_pos rfl]
theorem put_rest {σ : St} {d : Option Nat} {s : SV} : (σ.put d s).blks = σ.blks ∧ (σ.put d s).rows = σ.rows := by cases d <;> exact ⟨rfl, rfl⟩
theorem step_slot {i : Nat} {o : Oper} {σ σ' : St} {mem mem' : Mem} (h : StepD E b all A i o σ mem σ' mem') {t : Nat} (ht : dstAt b o.dst ≠ some t) : Eqv (getS σ.slots t) (getS σ'.slots t) := by
  obtain ⟨σ1, yes, hg, h⟩ := h
  refine (guards_slot hg t).trans ?_
  rcases h with ⟨_, ⟨r, p, _, _, h1, _⟩ | ⟨q, c, _, _, h1, _⟩ | ⟨q, c, _, _, h1, _⟩ | ⟨t0, ti, d, q, _, _, _, hd, _, _, _, h1, _⟩⟩ | ⟨_, h1, _⟩
  · rw [h1, put_slot ht]; exact Eqv.refl _
  · rw [h1]; exact Eqv.refl _
  · rw [h1]; exact Eqv.refl _
  · rw [h1]
    show Eqv _ (getS ((b + d, SV.leaf (Leaf.ptr q 0)) :: σ1.slots) t)
    rw [getS_cons, if_neg (fun e => ht (by rw [hd, ← e]; rfl))]
    exact Eqv.refl _
  · rw [h1, put_slot ht]; exact Eqv.refl _
def SameShape (R S : Option RowS) : Prop :=
  match R, S with
  | none, none => True
  | some R, some S => R.t = S.t ∧ R.e = S.e ∧ R.xs.length = S.xs.length
  | _, _ => False
theorem SameShape.refl (R : Option RowS) : SameShape R R := by cases R <;> simp [SameShape]
theorem SameShape.trans {R S T : Option RowS} (h1 : SameShape R S) (h2 : SameShape S T) : SameShape R T := by
  cases R <;> cases S <;> cases T <;> simp only [SameShape] at h1 h2 ⊢
  exact ⟨h1.1.trans h2.1, h1.2.1.trans h2.2.1, h1.2.2.trans h2.2.2⟩
theorem SameShape.symm {R S : Option RowS} (h1 : SameShape R S) : SameShape S R := by
  cases R <;> cases S <;> simp only [SameShape] at h1 ⊢
  exact ⟨h1.1.symm, h1.2.1.symm, h1.2.2.symm⟩
theorem rowStore_shape {sl : Slots} {rs : Rows} {op : Op} {q : Nat} {c : RowS} (h : rowStoreEv E b sl rs op = some (q, c)) : SameShape (getR rs q) (some c) ∧ touches b sl op = some (2 * q + 1, true) := by
  cases op <;> try (cases h; done)
  case store t a x =>
    simp only [rowStoreEv] at h
    split at h
    · rename_i ti hti
      split at h
      · rename_i r sz i off ha
        split at h
        · rename_i R hR
          split at h
          · rename_i ls hls
            cases hh : (Nat.beq sz R.t.size && Nat.beq ls.length ti.size && Nat.ble (off + ti.size) R.t.size) with
            | false => rw [hh] at h; cases h
            | true =>
              rw [hh] at h
              simp only [cond_true, implodeK_eq] at h
              split at h
              · rename_i z rest hz
                cases rest with
                | cons _ _ => cases h
                | nil =>
                  injection h with h; injection h with h1 h2
                  subst h1 h2
                  refine ⟨by rw [hR]; simp [SameShape], ?_⟩
                  simp only [touches, ha]
              · cases h
          · cases h
        · cases h
      · cases h
    · cases h
theorem pure_touch {sl : Slots} {bs : Blks} {rs : Rows} {op : Op} {r : SV} {p : Option Prop} (h : pureEv E b sl bs rs op = some (r, p)) {q : Nat} {w : Bool} (ht : touches b sl op = some (q, w)) : w = false := by
  cases op <;> try (cases ht; done)
  · simp only [touches] at ht
    split at ht
    · injection ht with ht; injection ht with h1 h2; exact h2.symm
    · injection ht with ht; injection ht with h1 h2; exact h2.symm
    · cases ht
  · cases h
theorem pure_mem {sl : Slots} {bs bs' : Blks} {rs rs' : Rows} {op : Op} (hB : ∀ q w, touches b sl op = some (2 * q, w) → getB bs q = getB bs' q) (hR : ∀ q w, touches b sl op = some (2 * q + 1, w) → getR rs q = getR rs' q)
    (hS : ∀ q, SameShape (getR rs q) (getR rs' q)) : pureEv E b sl bs rs op = pureEv E b sl bs' rs' op := by
  have shape : ∀ q, (∃ R R', getR rs q = some R ∧ getR rs' q = some R' ∧ R.t = R'.t ∧ R.e = R'.e ∧ R.xs.length = R'.xs.length) ∨ (getR rs q = none ∧ getR rs' q = none) := by
    intro q
    have := hS q
    cases h1 : getR rs q with
    | none => cases h2 : getR rs' q with
      | none => exact .inr ⟨rfl, rfl⟩
      | some _ => rw [h1, h2] at this; exact this.elim
    | some R => cases h2 : getR rs' q with
      | none => rw [h1, h2] at this; exact this.elim
      | some R' => rw [h1, h2] at this; exact .inl ⟨R, R', rfl, rfl, this⟩
  have hlen : ∀ t x, evLen E rs t x = evLen E rs' t x := by
    intro t x
    unfold evLen
    cases E.tt t with
    | none => rfl
    | some ti =>
      simp only
      cases ti.k <;> try rfl
      simp only
      split
      · rfl
      · rename_i r
        rcases shape r with ⟨R, R', h1, h2, h3, h4, h5⟩ | ⟨h1, h2⟩
        · rw [h1, h2]; simp only; rw [h5]
        · rw [h1, h2]
      · rfl
      · rfl
  cases op <;> try rfl
  case load t a =>
    simp only [pureEv, evLoad]
    simp only [touches] at hB hR
    cases E.tt t with
    | none => rfl
    | some ti =>
      simp only
      split
      · rename_i i off ha
        rw [hB i false (by rw [ha])]
      · rfl
      · rfl
      · rename_i r sz i off ha
        rw [hR r false (by rw [ha])]
      · rfl
  case indexAddr t x i =>
    simp only [pureEv, evIndexAddr]
    split
    · rfl
    · split
      · rfl
      · split
        · split
          · rfl
          · split
            · rfl
            · rename_i r _
              rcases shape r with ⟨R, R', h1, h2, h3, h4, h5⟩ | ⟨h1, h2⟩
              · have h3' : R.t.size = R'.t.size := by rw [h3]
                rw [h1, h2]; simp only; rw [h3', h5]
              · rw [h1, h2]
            · rfl
        · rfl
        · rfl
  case call c =>
    simp only [pureEv]
    split
    · rename_i bi hbi
      simp only [evBuiltin]
      split
      · split
        · split
          · exact hlen _ _
          · rfl
        · rfl
      · rfl
      · rfl
      · rfl
      · rfl
    · rfl
theorem store_mem {sl : Slots} {bs bs' : Blks} {op : Op} {q : Nat} {c : Blk} (h : storeEv E b sl bs op = some (q, c)) (hb : getB bs q = getB bs' q) : storeEv E b sl bs' op = some (q, c) := by
  cases op <;> try (cases h; done)
  case store t a x =>
    simp only [storeEv] at h ⊢
    split at h
    · rename_i ti hti
      split at h
      · rename_i i off ha
        split at h
        · rename_i bt bc hbb
          split at h
          · rename_i ls hls
            cases hh : (Nat.beq ls.length ti.size && Nat.ble (off + ti.size) bc.length) with
            | false => rw [hh] at h; cases h
            | true =>
              rw [hh] at h
              simp only [cond_true] at h
              injection h with h
              injection h with h1 h2
              subst h1
              rw [← hb, hbb]
              simp only [hh, cond_true, h2]
          · cases h
        · cases h
      · cases h
    · cases h
theorem rowStore_mem {sl : Slots} {rs rs' : Rows} {op : Op} {q : Nat} {c : RowS} (h : rowStoreEv E b sl rs op = some (q, c)) (hb : getR rs q = getR rs' q) : rowStoreEv E b sl rs' op = some (q, c) := by
  cases op <;> try (cases h; done)
  case store t a x =>
    simp only [rowStoreEv] at h ⊢
    split at h
    · rename_i ti hti
      split at h
      · rename_i r sz i off ha
        split at h
        · rename_i R hR
          have hq : r = q := by
            split at h
            · rename_i ls hls
              cases hh : (Nat.beq sz R.t.size && Nat.beq ls.length ti.size && Nat.ble (off + ti.size) R.t.size) with
              | false => rw [hh] at h; cases h
              | true =>
                rw [hh] at h
                simp only [cond_true, implodeK_eq] at h
                split at h
                · rename_i z rest hz
                  cases rest with
                  | cons _ _ => cases h
                  | nil => injection h with h; injection h with h1 h2
                · cases h
            · cases h
          subst hq
          rw [← hb, hR]
          exact h
        · cases h
      · cases h
    · cases h
structure Chain (E : Env) (b : Nat) (all : List Oper) (A : Made) (S : Nat → St) (M : Nat → Mem) : Prop where
  start : M 0 = []
  fresh : ∀ p ∈ A, usedB (S 0).slots (S 0).blks p.2 = false
  step : ∀ (j : Nat) o, all[j]? = some o → StepD E b all A j o (S j) (M j) (S (j + 1)) (M (j + 1))
  mem : memOk all (M all.length) = true
  ok : ∀ (j : Nat) o, all[j]? = some o → OkAt all j o
variable {S : Nat → St} {M : Nat → Mem}
theorem Chain.memStep (hC : Chain E b all A S M) {j : Nat} (hj : j < all.length) : M (j + 1) = M j ∨ ∃ q w, M (j + 1) = (j, q, w) :: M j := by
  obtain ⟨σ1, yes, hg, h⟩ := hC.step j _ (List.getElem?_eq_getElem hj)
  rcases h with ⟨_, ⟨r, p, _, _, _, h1, _⟩ | ⟨q, c, _, _, _, h1, _⟩ | ⟨q, c, _, _, _, h1⟩ | ⟨t0, ti, d, q, _, _, _, _, _, _, _, _, h1⟩⟩ | ⟨_, _, h1⟩
  · unfold memOf at h1
    split at h1
    · exact .inr ⟨_, _, h1⟩
    · exact .inl h1
  · exact .inr ⟨_, _, h1⟩
  · exact .inr ⟨_, _, h1⟩
  · exact .inr ⟨_, _, h1⟩
  · exact .inl h1
theorem Chain.memLt (hC : Chain E b all A S M) : ∀ m, m ≤ all.length → ∀ p ∈ M m, p.1 < m
  | 0, _, p, hp => by rw [hC.start] at hp; cases hp
  | m + 1, hm, p, hp => by
    rcases hC.memStep (j := m) (by omega) with h | ⟨q, w, h⟩
    · rw [h] at hp; have := hC.memLt m (by omega) p hp; omega
    · rw [h] at hp
      rcases List.mem_cons.1 hp with e | e
      · subst e; simp
      · have := hC.memLt m (by omega) p e; omega
theorem Chain.memMono (hC : Chain E b all A S M) {j : Nat} : ∀ m, j ≤ m → m ≤ all.length → ∀ p ∈ M j, p ∈ M m
  | 0, h1, _, p, hp => by rw [show j = 0 by omega] at hp; exact hp
  | m + 1, h1, h2, p, hp => by
    by_cases e : j = m + 1
    · rw [e] at hp; exact hp
    · have := hC.memMono m (by omega) (by omega) p hp
      rcases hC.memStep (j := m) (by omega) with h | ⟨q, w, h⟩
      · rw [h]; exact this
      · rw [h]; exact List.mem_cons_of_mem _ this
theorem Chain.memAfter (hC : Chain E b all A S M) : ∀ m, m ≤ all.length → memOk all (M m) = true → ∀ i q w j w', (i, q, w) ∈ M m → (j, q, w') ∈ M m → j < i → (w || w') = true → afterOf all i j = true
  | 0, _, _, i, q, w, j, w', hi, _, _, _ => by rw [hC.start] at hi; cases hi
  | m + 1, hm, hok, i, q, w, j, w', hi, hj, hlt, hw => by
    rcases hC.memStep (j := m) (by omega) with h | ⟨b0, w0, h⟩
    · rw [h] at hi hj hok
      exact hC.memAfter m (by omega) hok i q w j w' hi hj hlt hw
    · rw [h] at hi hj hok
      simp only [memOk, Bool.and_eq_true] at hok
      rcases List.mem_cons.1 hi with e | e
      · rcases List.mem_cons.1 hj with f | f
        · injection e with e1 _; injection f with f1 _; omega
        · have := List.all_eq_true.1 hok.1 _ f
          injection e with e1 e2
          injection e2 with e2 e3
          subst e1 e2 e3
          simp only [Nat.beq_refl, Bool.not_true, Bool.false_or, hw, Bool.not_true] at this
          exact this
      · rcases List.mem_cons.1 hj with f | f
        · injection f with f1 _
          have := hC.memLt m (by omega) _ e
          simp only at this
          omega
        · exact hC.memAfter m (by omega) hok.2 i q w j w' e f hlt hw
def Writes (M : Nat → Mem) (all : List Oper) (k q : Nat) : Prop := (k, q, true) ∈ M all.length
theorem Chain.memAt (hC : Chain E b all A S M) {k q : Nat} {w : Bool} (h : (k, q, w) ∈ M all.length) : k < all.length ∧ M (k + 1) = (k, q, w) :: M k := by
  have hk : k < all.length := hC.memLt _ (Nat.le_refl _) _ h
  refine ⟨hk, ?_⟩
  -- it came in at its own step
  have key : ∀ m, m ≤ all.length → (k, q, w) ∈ M m → M (k + 1) = (k, q, w) :: M k := by
    intro m
    induction m with
    | zero => intro _ hm; rw [hC.start] at hm; cases hm
    | succ m ih =>
      intro hm hmem
      rcases hC.memStep (j := m) (by omega) with h | ⟨b0, w0, h⟩
      · rw [h] at hmem; exact ih (by omega) hmem
      · rw [h] at hmem
        rcases List.mem_cons.1 hmem with e | e
        · injection e with e1 e2
          injection e2 with e2 e3
          subst e1 e2 e3
          exact h
        · exact ih (by omega) e
  exact key _ (Nat.le_refl _) h
theorem step_blk {i : Nat} {o : Oper} {σ σ' : St} {mem mem' : Mem} (h : StepD E b all A i o σ mem σ' mem') {q : Nat} (hb : (i, 2 * q, true) ∉ mem') : getB σ'.blks q = getB σ.blks q := by
  obtain ⟨σ1, yes, hg, h⟩ := h
  have := (guards_rest hg).1
  rcases h with ⟨_, ⟨r, p, _, _, h1, _⟩ | ⟨b0, c, _, _, h1, h2, _⟩ | ⟨b0, c, _, _, h1, h2⟩ | ⟨t0, ti, d, q0, _, _, _, _, _, _, _, h1, h2⟩⟩ | ⟨_, h1, _⟩
  · rw [h1, put_rest.1, this]
  · rw [h1, ← this]
    simp only [getB_setB]
    rw [if_neg]
    intro e
    subst e
    exact hb (by rw [h2]; exact List.mem_cons_self ..)
  · rw [h1, ← this]
  · rw [h1, ← this]
    simp only [getB_cons]
    rw [if_neg]
    intro e
    subst e
    exact hb (by rw [h2]; exact List.mem_cons_self ..)
  · rw [h1, put_rest.1, this]
theorem step_row {i : Nat} {o : Oper} {σ σ' : St} {mem mem' : Mem} (h : StepD E b all A i o σ mem σ' mem') {q : Nat} (hb : (i, 2 * q + 1, true) ∉ mem') : getR σ'.rows q = getR σ.rows q := by
  obtain ⟨σ1, yes, hg, h⟩ := h
  have := (guards_rest hg).2
  rcases h with ⟨_, ⟨r, p, _, _, h1, _⟩ | ⟨b0, c, _, _, h1, h2, _⟩ | ⟨b0, c, _, _, h1, h2⟩ | ⟨t0, ti, d, q0, _, _, _, _, _, _, _, h1, h2⟩⟩ | ⟨_, h1, _⟩
  · rw [h1, put_rest.2, this]
  · rw [h1, ← this]
  · rw [h1, ← this]
    simp only [getR_setR]
    rw [if_neg]
    intro e
    subst e
    exact hb (by rw [h2]; exact List.mem_cons_self ..)
  · rw [h1, ← this]
  · rw [h1, put_rest.2, this]
theorem step_shape {i : Nat} {o : Oper} {σ σ' : St} {mem mem' : Mem} (h : StepD E b all A i o σ mem σ' mem') (q : Nat) : SameShape (getR σ'.rows q) (getR σ.rows q) := by
  obtain ⟨σ1, yes, hg, h⟩ := h
  have := (guards_rest hg).2
  rcases h with ⟨_, ⟨r, p, _, _, h1, _⟩ | ⟨b0, c, _, _, h1, h2, _⟩ | ⟨b0, c, hc, _, h1, h2⟩ | ⟨t0, ti, d, q0, _, _, _, _, _, _, _, h1, h2⟩⟩ | ⟨_, h1, _⟩
  · rw [h1, put_rest.2, this]; exact SameShape.refl _
  · rw [h1, ← this]; exact SameShape.refl _
  · rw [h1, ← this]
    simp only [getR_setR]
    by_cases e : b0 = q
    · subst e
      rw [if_pos rfl]
      have hs := (rowStore_shape hc).1
      cases hr : getR σ1.rows b0 with
      | none => rw [hr] at hs; exact hs.elim
      | some R => rw [hr] at hs; exact hs.symm
    · rw [if_neg e]; exact SameShape.refl _
  · rw [h1, ← this]; exact SameShape.refl _
  · rw [h1, put_rest.2, this]; exact SameShape.refl _
theorem Chain.shape (hC : Chain E b all A S M) (q : Nat) : ∀ m, m ≤ all.length → SameShape (getR (S m).rows q) (getR (S 0).rows q)
  | 0, _ => SameShape.refl _
  | m + 1, hm => (step_shape (hC.step m _ (List.getElem?_eq_getElem (by omega))) q).trans (hC.shape q m (by omega))
theorem Chain.slot (hC : Chain E b all A S M) {i t : Nat} : ∀ m, i ≤ m → m ≤ all.length → (∀ (k : Nat) o, all[k]? = some o → i ≤ k → k < m → dstAt b o.dst ≠ some t) → Eqv (getS (S i).slots t) (getS (S m).slots t)
  | 0, h1, _, _ => by rw [show i = 0 by omega]; exact Eqv.refl _
  | m + 1, h1, h2, h3 => by
    by_cases e : i = m + 1
    · rw [e]; exact Eqv.refl _
    · refine (hC.slot m (by omega) (by omega) fun k o ho hk hkm => h3 k o ho hk (by omega)).trans ?_
      exact step_slot (hC.step m _ (List.getElem?_eq_getElem (by omega))) (h3 m _ (List.getElem?_eq_getElem (by omega)) (by omega) (by omega))
theorem Chain.blk (hC : Chain E b all A S M) {i q : Nat} : ∀ m, i ≤ m → m ≤ all.length → (∀ k, i ≤ k → k < m → ¬ Writes M all k (2 * q)) → getB (S m).blks q = getB (S i).blks q
  | 0, h1, _, _ => by rw [show i = 0 by omega]
  | m + 1, h1, h2, h3 => by
    by_cases e : i = m + 1
    · rw [e]
    · rw [← hC.blk m (by omega) (by omega) fun k hk hkm => h3 k hk (by omega)]
      exact step_blk (hC.step m _ (List.getElem?_eq_getElem (by omega))) fun hm => h3 m (by omega) (by omega) (hC.memMono _ (by omega) (Nat.le_refl _) _ hm)
theorem Chain.row (hC : Chain E b all A S M) {i q : Nat} : ∀ m, i ≤ m → m ≤ all.length → (∀ k, i ≤ k → k < m → ¬ Writes M all k (2 * q + 1)) → getR (S m).rows q = getR (S i).rows q
  | 0, h1, _, _ => by rw [show i = 0 by omega]
  | m + 1, h1, h2, h3 => by
    by_cases e : i = m + 1
    · rw [e]
    · rw [← hC.row m (by omega) (by omega) fun k hk hkm => h3 k hk (by omega)]
      exact step_row (hC.step m _ (List.getElem?_eq_getElem (by omega))) fun hm => h3 m (by omega) (by omega) (hC.memMono _ (by omega) (Nat.le_refl _) _ hm)
theorem guards_names {g : Option (Nat × Bool)} {σ σ1 : St} {yes : Bool} (hg : Guards b all g σ σ1 yes) {q t : Nat} (h : (getS σ1.slots t).anyL (Leaf.namesB q) = true) : (getS σ.slots t).anyL (Leaf.namesB q) = true := by
  unfold Guards at hg
  split at hg
  · rw [hg.1] at h; exact h
  · obtain ⟨t0, _, hg⟩ := hg
    rcases hg with ⟨c, _, h1, _⟩ | ⟨c, h1, h2, _⟩ | ⟨_, h1, _⟩
    · rw [h1] at h; exact h
    · rw [h2] at h
      replace h : (getS ((b + t0, SV.leaf (Leaf.blit c)) :: σ.slots) t).anyL (Leaf.namesB q) = true := h
      rw [getS_cons] at h
      split at h
      · cases h
      · exact h
    · rw [h1] at h; exact h
theorem put_names {σ : St} {d : Option Nat} {s : SV} {q t : Nat} (h : (getS (σ.put d s).slots t).anyL (Leaf.namesB q) = true) : (d = some t ∧ s.anyL (Leaf.namesB q) = true) ∨ (getS σ.slots t).anyL (Leaf.namesB q) = true := by
  cases d with
  | none => exact .inr h
  | some k =>
    replace h : (getS ((k, s) :: σ.slots) t).anyL (Leaf.namesB q) = true := h
    rw [getS_cons] at h
    split at h
    · rename_i e; subst e; exact .inl ⟨rfl, h⟩
    · exact .inr h
theorem Chain.slotNames (hC : Chain E b all A S M) {p : Nat × Nat} (hp : p ∈ A) {t : Nat} : ∀ m, m ≤ all.length → (getS (S m).slots t).anyL (Leaf.namesB p.2) = true →
    ∃ (k : Nat) (x : Oper), all[k]? = some x ∧ dstAt b x.dst = some t ∧ (k = p.1 ∨ afterOf all k p.1 = true)
  | 0, _, h => by
    have := hC.fresh p hp
    unfold usedB at this
    simp only [Bool.or_eq_false_iff] at this
    cases (anySlots_false this.1 t h)
  | m + 1, hm, h => by
    have ho : all[m]? = some all[m] := List.getElem?_eq_getElem (by omega)
    obtain ⟨σ1, yes, hg, hc⟩ := hC.step m _ ho
    have back : (getS σ1.slots t).anyL (Leaf.namesB p.2) = true → ∃ (k : Nat) (x : Oper), all[k]? = some x ∧ dstAt b x.dst = some t ∧ (k = p.1 ∨ afterOf all k p.1 = true) :=
      fun h => hC.slotNames hp m (by omega) (guards_names hg h)
    rcases hc with ⟨_, ⟨r, p0, _, _, h1, _, hb⟩ | ⟨q, c, _, _, h1, _⟩ | ⟨q, c, _, _, h1, _⟩ | ⟨t0, ti, d, q, _, _, _, hd, _, honly, _, h1, _⟩⟩ | ⟨_, h1, _⟩
    · rw [h1] at h
      rcases put_names h with ⟨e1, e2⟩ | e
      · exact ⟨m, _, ho, e1, hb p hp e2⟩
      · exact back e
    · rw [h1] at h; exact back h
    · rw [h1] at h; exact back h
    · rw [h1] at h
      replace h : (getS ((b + d, SV.leaf (Leaf.ptr q 0)) :: σ1.slots) t).anyL (Leaf.namesB p.2) = true := h
      rw [getS_cons] at h
      split at h
      · rename_i e
        have hq : p.2 = q := (Nat.eq_of_beq_eq_true h).symm
        exact ⟨m, _, ho, by rw [hd, ← e]; rfl, .inl (honly p hp hq)⟩
      · exact back h
    · rw [h1] at h
      rcases put_names h with ⟨_, e2⟩ | e
      · cases e2
      · exact back e
theorem Chain.blkNames (hC : Chain E b all A S M) {p : Nat × Nat} (hp : p ∈ A) {q' : Nat} {c' : Blk} : ∀ m, m ≤ all.length → getB (S m).blks q' = some c' → anyLeaf (Leaf.namesB p.2) c'.cells = true →
    ∃ k, k < m ∧ Writes M all k (2 * q') ∧ (k = p.1 ∨ afterOf all k p.1 = true)
  | 0, _, hb, h => by
    have := hC.fresh p hp
    unfold usedB at this
    simp only [Bool.or_eq_false_iff] at this
    rw [anyBlks_false this.2 _ _ hb] at h
    cases h
  | m + 1, hm, hb, h => by
    have ho : all[m]? = some all[m] := List.getElem?_eq_getElem (by omega)
    obtain ⟨σ1, yes, hg, hc⟩ := hC.step m _ ho
    have hrest := (guards_rest hg).1
    have back : getB σ1.blks q' = some c' → ∃ k, k < m + 1 ∧ Writes M all k (2 * q') ∧ (k = p.1 ∨ afterOf all k p.1 = true) := by
      intro e
      rw [hrest] at e
      obtain ⟨k, k1, k2, k3⟩ := hC.blkNames hp m (by omega) e h
      exact ⟨k, by omega, k2, k3⟩
    have here : ∀ q, M (m + 1) = (m, 2 * q, true) :: M m → Writes M all m (2 * q) := fun q e => hC.memMono (j := m + 1) _ (by omega) (Nat.le_refl _) _ (by rw [e]; exact List.mem_cons_self ..)
    rcases hc with ⟨_, ⟨r, p0, _, _, h1, _, _⟩ | ⟨q, c, _, _, h1, h2, hbe⟩ | ⟨q, c, _, _, h1, _⟩ | ⟨t0, ti, d, q, _, _, _, hd, _, honly, hz, h1, h2⟩⟩ | ⟨_, h1, _⟩
    · rw [h1, put_rest.1] at hb; exact back hb
    · rw [h1] at hb
      simp only [getB_setB] at hb
      by_cases e : q = q'
      · subst e
        rw [if_pos rfl] at hb
        cases hgb : getB σ1.blks q with
        | none => rw [hgb] at hb; cases hb
        | some c0 =>
          rw [hgb] at hb
          simp only [Option.map_some] at hb
          injection hb with hb
          subst hb
          exact ⟨m, by omega, here _ h2, hbe p hp h⟩
      · rw [if_neg e] at hb; exact back hb
    · rw [h1] at hb; exact back hb
    · rw [h1] at hb
      simp only [getB_cons] at hb
      by_cases e : q = q'
      · subst e
        rw [if_pos rfl] at hb
        injection hb with hb
        subst hb
        rw [hz p hp] at h
        cases h
      · rw [if_neg e] at hb; exact back hb
    · rw [h1, put_rest.1] at hb; exact back hb
theorem Chain.blk_stage (hC : Chain E b all A S M) {i j q : Nat} (hi : i ≤ all.length) (hj : j ≤ all.length) (h : ∀ k, Writes M all k (2 * q) → (k < i ↔ k < j)) : getB (S i).blks q = getB (S j).blks q := by
  rcases Nat.le_total i j with hij | hij
  · exact (hC.blk j hij hj fun k hk hkj hw => by have := (h k hw).2 hkj; omega).symm
  · exact hC.blk i hij hi fun k hk hki hw => by have := (h k hw).1 hki; omega
theorem Chain.row_stage (hC : Chain E b all A S M) {i j q : Nat} (hi : i ≤ all.length) (hj : j ≤ all.length) (h : ∀ k, Writes M all k (2 * q + 1) → (k < i ↔ k < j)) : getR (S i).rows q = getR (S j).rows q := by
  rcases Nat.le_total i j with hij | hij
  · exact (hC.row j hij hj fun k hk hkj hw => by have := (h k hw).2 hkj; omega).symm
  · exact hC.row i hij hi fun k hk hki hw => by have := (h k hw).1 hki; omega
theorem MemSat.same {B : Nat} {w0 w : World} {bs bs' : Blks} {rs rs' : Rows} {N : Names} {h : PHeap} (hM : MemSat B w0 bs rs N h w) (he : ∀ i, getB bs' i = getB bs i) (hr : ∀ i, getR rs' i = getR rs i) : MemSat B w0 bs' rs' N h w :=
  ⟨hM.below, hM.size, hM.pin, fun i b hb => hM.blk i b (by rw [← he]; exact hb), fun i j b c hb hc => hM.inj i j b c (by rw [← he]; exact hb) (by rw [← he]; exact hc), fun r R hR => hM.row r R (by rw [← hr]; exact hR), fun r R g hR => hM.rowh r R g (by rw [← hr]; exact hR),
    fun r R g i b hR hg hb => hM.rowb r R g i b (by rw [← hr]; exact hR) hg (by rw [← he]; exact hb), fun r s R T g hR hT => hM.rowr r s R T g (by rw [← hr]; exact hR) (by rw [← hr]; exact hT)⟩
def lst (listed : Array Bool) (k : Nat) : Prop := listed.getD k false = true
structure Inv (B : Nat) (w0 : World) (h0 : PHeap) (b : Nat) (u : Nat → Value) (n : Nat) (all : List Oper) (S : Nat → St) (M : Nat → Mem) (N : Names) (listed : Array Bool) (h : PHeap) (bsL : Blks) (rsL : Rows) (a : Act) (w : World) : Prop where
  mem : MemSat B w0 bsL rsL N h w
  grow : PLe h0 h
  dom : ∀ k, h k ≠ none → h0 k ≠ none ∨ B ≤ k
  size : a.tmps.size = n
  defers : a.defers = []
  llen : listed.size = all.length
  closed : ∀ i j, lst listed i → afterOf all i j = true → lst listed j
  wrote : ∀ (t k : Nat) o, all[k]? = some o → dstAt b o.dst = some t → lst listed k → (getS (S all.length).slots t).rel N h (vals b u a t)
  first : ∀ t, (∀ (k : Nat) o, all[k]? = some o → dstAt b o.dst = some t → ¬ lst listed k) → (getS (S 0).slots t).rel N h (vals b u a t)
  blks : ∀ q, ∃ s, s ≤ all.length ∧ (∀ k, Writes M all k (2 * q) → (lst listed k ↔ k < s)) ∧ getB bsL q = getB (S s).blks q
  rows : ∀ q, ∃ s, s ≤ all.length ∧ (∀ k, Writes M all k (2 * q + 1) → (lst listed k ↔ k < s)) ∧ getR rsL q = getR (S s).rows q
theorem lst_set {listed : Array Bool} {i k : Nat} (hi : i < listed.size) : lst (listed.setIfInBounds i true) k ↔ k = i ∨ lst listed k := by
  unfold lst
  simp only [Array.getD_eq_getD_getElem?, Array.getElem?_setIfInBounds]
  by_cases e : i = k
  · subst e; simp [hi]
  · rw [if_neg e]
    constructor
    · exact .inr
    · rintro (h | h)
      · exact absurd h.symm e
      · exact h
variable {P : Program} {B : Nat} {w0 : World} {h0 : PHeap} {u : Nat → Value} {n : Nat} {N : Names}
theorem any_step (hE : EnvOk P E) (hG : GlobOk E.gl h0) {ops : Array Oper} (hall : ops.toList = all) (hC : Chain E b all A S M) (hd : ∀ o ∈ all, ∀ t, o.dst = some t → t < n) {Q : Exit → Act → World → Prop}
    {listed : Array Bool} {h : PHeap} {bsL : Blks} {rsL : Rows} {a : Act} {w : World} (hI : Inv B w0 h0 b u n all S M N listed h bsL rsL a w) {i : Nat} (hr : i ∈ Region.ready .any ops listed) {K : Act → World → Prop}
    (hK : ∀ N' h' bs' rs' a' w', Inv B w0 h0 b u n all S M N' (listed.setIfInBounds i true) h' bs' rs' a' w' → K a' w') : wpOp P ops Q i K a w := by
  simp only [Region.ready, List.mem_filter, List.mem_range, Bool.and_eq_true, Bool.not_eq_true'] at hr
  obtain ⟨hisz, hnl, hready⟩ := hr
  have hil : i < all.length := by rw [← hall]; simpa using hisz
  have hls : i < listed.size := by rw [hI.llen]; exact hil
  have hoi : all[i]? = some all[i] := List.getElem?_eq_getElem hil
  generalize all[i] = o at hoi
  have hopi : ops[i]? = some o := by rw [← Array.getElem?_toList, hall]; exact hoi
  have hnl' : ¬ lst listed i := by
    unfold lst
    rw [Array.getD_eq_getD_getElem?] at hnl ⊢
    rw [Array.getElem?_eq_getElem hls] at hnl ⊢
    simp at hnl ⊢
    exact hnl
  -- what it must come behind is listed
  have hafter : ∀ j, afterOf all i j = true → lst listed j := by
    intro j hj
    unfold afterOf at hj
    rw [hoi] at hj
    obtain ⟨e, he, h1, h2⟩ := onList_get.1 hj
    rw [hopi] at hready
    simp only [Option.map_some, Option.getD_some, Array.all_eq_true] at hready
    obtain ⟨m, hm, hme⟩ := List.getElem_of_mem he
    have := hready m (by simpa using hm)
    have hme' : o.after[m]'(by simpa using hm) = e := by rw [← hme]; simp
    rw [hme', h2, h1] at this
    simpa [lst] using this
  have hok := hC.ok i o hoi
  obtain ⟨σ1, yes, hg, hcase⟩ := hC.step i o hoi
  have hdo := hd o (List.mem_of_getElem? hoi)
  have hlset : ∀ k, lst (listed.setIfInBounds i true) k ↔ k = i ∨ lst listed k := fun k => lst_set hls
  have hdst_lt : ∀ (k : Nat) x t, all[k]? = some x → x.dst = some t → t < n := fun k x t hx ht => hd x (List.mem_of_getElem? hx) t ht
  have hat : ∀ (x : Oper) (t : Nat), dstAt b x.dst = some (b + t) ↔ x.dst = some t := by
    intro x t
    constructor
    · intro e
      obtain ⟨k, e1, e2⟩ := dstAt_some e
      rw [e1]
      congr 1
      omega
    · intro e; rw [e]; rfl
  -- a slot that the operation looks at
  have hlook : ∀ t, t ∈ looks all o → (getS (S i).slots (b + t)).rel N h (a.tmps.getD t undef) := by
    intro t ht
    rw [← vals_at b u a t]
    have hreads := hok.reads t ht
    by_cases hex : ∃ (k : Nat) (x : Oper), all[k]? = some x ∧ x.dst = some t
    · obtain ⟨k, x, hx, hxt⟩ := hex
      have hkl : k < all.length := (List.getElem?_eq_some_iff.1 hx).1
      have huniq : ∀ (j : Nat) y, all[j]? = some y → dstAt b y.dst = some (b + t) → j = k := fun j y hy hyt => (hC.ok k x hx).once t hxt j y hy ((hat y t).1 hyt)
      by_cases hki : k < i
      · have hl := hafter k ((hreads k x hx hxt).1 hki)
        have h1 := hI.wrote (b + t) k x hx ((hat x t).2 hxt) hl
        have := hC.slot (i := i) (t := b + t) all.length (by omega) (Nat.le_refl _) fun j y hy hj _ hyt => by
          have := huniq j y hy hyt
          omega
        exact (this N h _).2 h1
      · have hnk : ¬ lst listed k := by
          intro hl
          by_cases e : k = i
          · subst e; exact hnl' hl
          · exact hnl' (hI.closed k i hl ((hreads k x hx hxt).2 (by omega)))
        have h1 := hI.first (b + t) fun j y hy hyt hl => by
          have := huniq j y hy hyt
          subst this
          exact hnk hl
        have := hC.slot (i := 0) (t := b + t) i (Nat.zero_le _) (by omega) fun j y hy _ hji hyt => by
          have := huniq j y hy hyt
          omega
        exact (this N h _).1 h1
    · have h1 := hI.first (b + t) fun k x hx hxt => absurd ⟨k, x, hx, (hat x t).1 hxt⟩ hex
      have := hC.slot (i := 0) (t := b + t) i (Nat.zero_le _) (by omega) fun k x hx _ _ hxt => hex ⟨k, x, hx, (hat x t).1 hxt⟩
      exact (this N h _).1 h1
  -- its operands
  have hops : ∀ x ∈ o.op.operands.toList, (evO b σ1.slots x).rel N h (a.eval x) := by
    intro x hx
    cases x with
    | tmp t =>
      have ht : t ∈ looks all o := by
        unfold looks
        refine List.mem_append_left _ ?_
        exact List.mem_flatMap.2 ⟨_, hx, by simp [tmpOf]⟩
      exact ((guards_slot hg (b + t)) N h _).1 (hlook t ht)
    | const v => exact evO_const_rel N h v
    | global g => exact raw_rel N h _
    | func f => exact raw_rel N h _
  -- whether it is wanted
  have hwant : Region.wanted o (yielded ops a.tmps) = yes := by
    unfold Guards at hg
    split at hg
    · rename_i hgn
      simp [Region.wanted, hgn, hg.2]
    · rename_i j w hgn
      obtain ⟨t, ht, hg⟩ := hg
      have htl : t ∈ looks all o := by
        unfold looks
        refine List.mem_append_right _ ?_
        rw [hgn]
        simp only
        rw [ht]
        exact List.mem_cons_self ..
      have hslot := hlook t htl
      have hyield : yielded ops a.tmps j = match a.tmps.getD t undef with | .bool b => some b | _ => none := by
        unfold dstOf at ht
        split at ht
        · rename_i oj hoj
          have : ops[j]? = some oj := by rw [← Array.getElem?_toList, hall]; exact hoj
          have htn : t < a.tmps.size := by rw [hI.size]; exact hdst_lt j oj t hoj ht
          have e1 : ((ops[j]?).bind (·.dst)).bind (a.tmps[·]?) = some (a.tmps.getD t undef) := by
            rw [this]
            simp only [Option.bind_some, ht]
            rw [Array.getElem?_eq_getElem htn, Array.getD_eq_getD_getElem?, Array.getElem?_eq_getElem htn]
            rfl
          unfold yielded
          rw [e1]
          cases a.tmps.getD t undef <;> rfl
        · cases ht
      have hw : ∀ b, a.tmps.getD t undef = .bool b → Region.wanted o (yielded ops a.tmps) = (b == w) := by
        intro b hb
        simp [Region.wanted, hgn, hyield, hb]
      rcases hg with ⟨c, h1, _, h3⟩ | ⟨c, h1, _, h3⟩ | ⟨h1, _, h3⟩
      · rw [h1] at hslot
        rw [h3]; exact hw c (by simpa only [SV.rel, Leaf.rel] using hslot)
      · rw [h1] at hslot
        rw [h3]; exact hw c (by simpa only [SV.rel, Leaf.rel] using (tv_blit c N h _).1 hslot)
      · rw [h1] at hslot
        have : a.tmps.getD t undef = undef := by simpa only [SV.rel, Leaf.rel] using hslot
        have hn : yielded ops a.tmps j = none := by rw [hyield, this]; rfl
        rw [h3]
        unfold Region.wanted
        rw [hgn]
        simp only
        rw [hn]
        rfl
  -- a slot behind it
  have finN : ∀ (N' : Names) (h' : PHeap) (bs' : Blks) (rs' : Rows) (w' : World) (r : SV) (v : Value), PLe h h' → (∀ k, h' k ≠ none → h0 k ≠ none ∨ B ≤ k) → MemSat B w0 bs' rs' N' h' w' →
      (∀ (t k : Nat) x, all[k]? = some x → dstAt b x.dst = some t → lst listed k → (getS (S all.length).slots t).rel N' h' (vals b u a t)) →
      (∀ t, (∀ (k : Nat) x, all[k]? = some x → dstAt b x.dst = some t → ¬ lst listed k) → (getS (S 0).slots t).rel N' h' (vals b u a t)) →
      (∀ d, o.dst = some d → r.rel N' h' v ∧ getS (S (i + 1)).slots (b + d) = r) →
      (∀ q, ∃ s, s ≤ all.length ∧ (∀ k, Writes M all k (2 * q) → ((k = i ∨ lst listed k) ↔ k < s)) ∧ getB bs' q = getB (S s).blks q) →
      (∀ q, ∃ s, s ≤ all.length ∧ (∀ k, Writes M all k (2 * q + 1) → ((k = i ∨ lst listed k) ↔ k < s)) ∧ getR rs' q = getR (S s).rows q) → K (a.put o.dst v) w' := by
    intro N' h' bs' rs' w' r v hle hdom hM hwr hfi hv hb hrr
    refine hK N' h' bs' rs' _ w' ⟨hM, hI.grow.trans hle, hdom, by rw [size_put]; exact hI.size, by rw [defers_put]; exact hI.defers, by simpa using hI.llen, ?_, ?_, ?_, ?_, ?_⟩
    · intro p q hp hq
      rcases (hlset p).1 hp with e | e
      · subst e; exact (hlset q).2 (.inr (hafter q hq))
      · exact (hlset q).2 (.inr (hI.closed p q e hq))
    · intro t k x hx hxt hk
      obtain ⟨t0, ht0, rfl⟩ := dstAt_some hxt
      by_cases e : k = i
      · subst e
        rw [hoi] at hx
        injection hx with hx
        subst hx
        obtain ⟨hr1, hr2⟩ := hv t0 ht0
        rw [ht0, vals_put (by rw [hI.size]; exact hdo t0 ht0), if_pos rfl]
        have := hC.slot (i := k + 1) (t := b + t0) all.length (by omega) (Nat.le_refl _) fun j y hy hj _ hyt => by
          have := hok.once t0 ht0 j y hy ((hat y t0).1 hyt)
          omega
        exact (this N' h' _).1 (by rw [hr2]; exact hr1)
      · have hkl : lst listed k := by
          rcases (hlset k).1 hk with f | f
          · exact absurd f e
          · exact f
        have h1 := hwr (b + t0) k x hx hxt hkl
        cases hdst : o.dst with
        | none => exact h1
        | some d =>
          rw [vals_put (by rw [hI.size]; exact hdo d hdst), if_neg]
          · exact h1
          · intro f
            have : d = t0 := Nat.add_left_cancel f
            subst this
            exact e (hok.once d hdst k x hx ht0)
    · intro t ht
      have hni : dstAt b o.dst ≠ some t := fun f => ht i o hoi f ((hlset i).2 (.inl rfl))
      have h1 := hfi t fun k x hx hxt hk => ht k x hx hxt ((hlset k).2 (.inr hk))
      cases hdst : o.dst with
      | none => exact h1
      | some d =>
        rw [vals_put (by rw [hI.size]; exact hdo d hdst), if_neg (fun f => hni (by rw [hdst, ← f]; rfl))]
        exact h1
    · intro q
      obtain ⟨s, s1, s2, s3⟩ := hb q
      exact ⟨s, s1, fun k hk => by rw [hlset k]; exact s2 k hk, s3⟩
    · intro q
      obtain ⟨s, s1, s2, s3⟩ := hrr q
      exact ⟨s, s1, fun k hk => by rw [hlset k]; exact s2 k hk, s3⟩
  have fin : ∀ (h' : PHeap) (bs' : Blks) (rs' : Rows) (w' : World) (r : SV) (v : Value), PLe h h' → (∀ k, h' k ≠ none → h0 k ≠ none ∨ B ≤ k) → MemSat B w0 bs' rs' N h' w' → (∀ d, o.dst = some d → r.rel N h' v ∧ getS (S (i + 1)).slots (b + d) = r) →
      (∀ q, ∃ s, s ≤ all.length ∧ (∀ k, Writes M all k (2 * q) → ((k = i ∨ lst listed k) ↔ k < s)) ∧ getB bs' q = getB (S s).blks q) →
      (∀ q, ∃ s, s ≤ all.length ∧ (∀ k, Writes M all k (2 * q + 1) → ((k = i ∨ lst listed k) ↔ k < s)) ∧ getR rs' q = getR (S s).rows q) → K (a.put o.dst v) w' :=
    fun h' bs' rs' w' r v hle hdom hM hv hb hrr => finN N h' bs' rs' w' r v hle hdom hM (fun t k x hx hxt hk => SV.rel_mono hle _ _ (hI.wrote t k x hx hxt hk)) (fun t ht => SV.rel_mono hle _ _ (hI.first t ht)) hv hb hrr
  -- the blocks, the rows, where it writes none
  have keep1 : ∀ (q s : Nat), ¬ Writes M all i q → (∀ k, Writes M all k q → (lst listed k ↔ k < s)) → ∀ k, Writes M all k q → ((k = i ∨ lst listed k) ↔ k < s) := by
    intro q s hno s2 k hk
    rw [← s2 k hk]
    constructor
    · rintro (e | e)
      · subst e; exact absurd hk hno
      · exact e
    · exact .inr
  have keepB : ∀ q, ¬ Writes M all i (2 * q) → ∃ s, s ≤ all.length ∧ (∀ k, Writes M all k (2 * q) → ((k = i ∨ lst listed k) ↔ k < s)) ∧ getB bsL q = getB (S s).blks q := by
    intro q hno
    obtain ⟨s, s1, s2, s3⟩ := hI.blks q
    exact ⟨s, s1, keep1 _ s hno s2, s3⟩
  have keepR : ∀ q, ¬ Writes M all i (2 * q + 1) → ∃ s, s ≤ all.length ∧ (∀ k, Writes M all k (2 * q + 1) → ((k = i ∨ lst listed k) ↔ k < s)) ∧ getR rsL q = getR (S s).rows q := by
    intro q hno
    obtain ⟨s, s1, s2, s3⟩ := hI.rows q
    exact ⟨s, s1, keep1 _ s hno s2, s3⟩
  -- what it touches is as in the order of the text
  have hord : ∀ (q : Nat) (wr : Bool), M (i + 1) = (i, q, wr) :: M i → ∀ k, Writes M all k q → k ≠ i → (lst listed k ↔ k < i) := by
    intro q wr hm k hk hne
    have hin : (i, q, wr) ∈ M all.length := hC.memMono (j := i + 1) _ (by omega) (Nat.le_refl _) _ (by rw [hm]; exact List.mem_cons_self ..)
    constructor
    · intro hl
      by_cases hki : k < i
      · exact hki
      · exfalso
        have := hC.memAfter _ (Nat.le_refl _) hC.mem k q true i wr hk hin (by omega) (by simp)
        exact hnl' (hI.closed k i hl this)
    · intro hki
      exact hafter k (hC.memAfter _ (Nat.le_refl _) hC.mem i q wr k true hin hk hki (by simp))
  have stage : ∀ (q : Nat) (wr : Bool) (s : Nat), M (i + 1) = (i, q, wr) :: M i → (∀ k, Writes M all k q → (lst listed k ↔ k < s)) → ∀ k, Writes M all k q → (k < s ↔ k < i) := by
    intro q wr s hm s2 k hk
    by_cases e : k = i
    · subst e
      rw [← s2 k hk]
      exact ⟨fun f => absurd f hnl', fun f => absurd f (Nat.lt_irrefl _)⟩
    · rw [← s2 k hk]
      exact hord q wr hm k hk e
  have touchB : ∀ (q : Nat) (wr : Bool), M (i + 1) = (i, 2 * q, wr) :: M i → getB bsL q = getB (S i).blks q := by
    intro q wr hm
    obtain ⟨s, s1, s2, s3⟩ := hI.blks q
    rw [s3]
    exact hC.blk_stage s1 (by omega) (stage _ wr s hm s2)
  have touchR : ∀ (q : Nat) (wr : Bool), M (i + 1) = (i, 2 * q + 1, wr) :: M i → getR rsL q = getR (S i).rows q := by
    intro q wr hm
    obtain ⟨s, s1, s2, s3⟩ := hI.rows q
    rw [s3]
    exact hC.row_stage s1 (by omega) (stage _ wr s hm s2)
  have hrest := guards_rest hg
  have hshape : ∀ q, SameShape (getR σ1.rows q) (getR rsL q) := by
    intro q
    obtain ⟨s, s1, _, s3⟩ := hI.rows q
    rw [hrest.2, s3]
    exact (hC.shape q i (by omega)).trans (hC.shape q s s1).symm
  have notOther : ∀ (q q' : Nat) (wr : Bool), M (i + 1) = (i, q, wr) :: M i → q' ≠ q → ¬ Writes M all i q' := by
    intro q q' wr hm hne hw
    obtain ⟨_, hm'⟩ := hC.memAt hw
    rw [hm] at hm'
    injection hm' with hm' _
    injection hm' with _ hm'
    injection hm' with hm1 _
    exact hne hm1.symm
  unfold wpOp
  rw [hopi]
  simp only [hwant]
  rcases hcase with ⟨hy, ⟨r, p, he, hp, h1, h2, _⟩ | ⟨q, c, he, hdst, h1, h2, _⟩ | ⟨q, c, he, hdst, h1, h2⟩ | ⟨t0, ti, d, q, hop, hti, hzl, hdst, hqA, honly, hzn, h1, h2⟩⟩ | ⟨hy, h1, h2⟩
  · rw [hy]
    simp only [if_true]
    refine .inl ?_
    -- nothing is written
    have hno : ∀ q, ¬ Writes M all i q := by
      intro q hw
      obtain ⟨_, hm⟩ := hC.memAt hw
      rw [h2] at hm
      unfold memOf at hm
      split at hm
      · rename_i b' w' ht
        injection hm with hm _
        injection hm with _ hm
        injection hm with hm1 hm2
        have := pure_touch he ht
        rw [this] at hm2
        cases hm2
      · have := congrArg List.length hm
        simp at this
    have hmm : ∀ q wr, touches b σ1.slots o.op = some (q, wr) → M (i + 1) = (i, q, wr) :: M i := by
      intro q wr ht
      rw [h2]
      unfold memOf
      rw [ht]
    have he' : pureEv E b σ1.slots bsL rsL o.op = some (r, p) := by
      rw [← he]
      refine (pure_mem (fun q wr ht => ?_) (fun q wr ht => ?_) hshape).symm
      · rw [hrest.1]; exact (touchB q wr (hmm _ _ ht)).symm
      · rw [hrest.2]; exact (touchR q wr (hmm _ _ ht)).symm
    refine pure_sound hE hI.mem (hG.mono hI.grow) he' hp hops fun v h' w' g1 g2 _ hM' hv => ?_
    refine fin h' bsL rsL w' r v g1 (fun k hk => ?_) hM' (fun d hd' => ⟨hv, by rw [h1, hd']; exact put_slot_same⟩) (fun q => keepB q (hno _)) (fun q => keepR q (hno _))
    rcases g2 k hk with g | g
    · exact hI.dom k g
    · exact .inr (Nat.le_trans hI.mem.size g)
  · rw [hy]
    simp only [if_true]
    refine .inl ?_
    have t1 := touchB q true h2
    have he' : storeEv E b σ1.slots bsL o.op = some (q, c) := store_mem he (by rw [hrest.1]; exact t1.symm)
    refine store_sound hE (σ := ⟨σ1.slots, bsL, rsL⟩) he' hops hI.mem fun w' hM' => ?_
    refine fin h _ rsL w' (.leaf .undef) undef (PLe.refl h) hI.dom hM' (fun d hd' => by rw [hdst] at hd'; cases hd') ?_ (fun q' => keepR q' (notOther _ _ true h2 (by omega)))
    intro q'
    by_cases e : q = q'
    · subst e
      refine ⟨i + 1, by omega, fun k hk => ?_, ?_⟩
      · by_cases e : k = i
        · subst e; exact ⟨fun _ => by omega, fun _ => .inl rfl⟩
        · rw [show (k = i ∨ lst listed k) ↔ lst listed k from ⟨fun f => f.elim (fun g => absurd g e) id, .inr⟩, hord _ true h2 k hk e]
          omega
      · rw [h1]
        simp only [getB_setB, if_true]
        rw [t1, hrest.1]
    · obtain ⟨s, s1, s2, s3⟩ := keepB q' (notOther _ _ true h2 (by omega))
      exact ⟨s, s1, s2, by rw [getB_setB, if_neg e]; exact s3⟩
  · rw [hy]
    simp only [if_true]
    refine .inl ?_
    have t1 := touchR q true h2
    have he' : rowStoreEv E b σ1.slots rsL o.op = some (q, c) := rowStore_mem he (by rw [hrest.2]; exact t1.symm)
    refine rowStore_sound hE (σ := ⟨σ1.slots, bsL, rsL⟩) he' hops hI.mem fun w' hM' => ?_
    refine fin h bsL _ w' (.leaf .undef) undef (PLe.refl h) hI.dom hM' (fun d hd' => by rw [hdst] at hd'; cases hd') (fun q' => keepB q' (notOther _ _ true h2 (by omega))) ?_
    intro q'
    by_cases e : q = q'
    · subst e
      refine ⟨i + 1, by omega, fun k hk => ?_, ?_⟩
      · by_cases e : k = i
        · subst e; exact ⟨fun _ => by omega, fun _ => .inl rfl⟩
        · rw [show (k = i ∨ lst listed k) ↔ lst listed k from ⟨fun f => f.elim (fun g => absurd g e) id, .inr⟩, hord _ true h2 k hk e]
          omega
      · rw [h1]
        simp only [getR_setR, if_true]
        rw [t1, hrest.2]
    · obtain ⟨s, s1, s2, s3⟩ := keepR q' (notOther _ _ true h2 (by omega))
      exact ⟨s, s1, s2, by rw [getR_setR, if_neg e]; exact s3⟩
  · rw [hy]
    simp only [if_true]
    refine .inl ?_
    obtain ⟨ii, hi1, hsz, _, hz⟩ := (hE.tt t0 ti hti).info
    obtain ⟨z, hz1, cs, hz2, hz3, hz4⟩ := hz hzl
    -- who is listed does not name what is made
    have hsl : ∀ (k : Nat), lst listed k → ¬ (k = i ∨ afterOf all k i = true) := by
      intro k hk hh
      rcases hh with e | e
      · subst e; exact hnl' hk
      · exact hnl' (hI.closed k i hk e)
    have hbn : ∀ q' c', getB bsL q' = some c' → anyLeaf (Leaf.namesB q) c'.cells = false := by
      intro q' c' hb
      cases hh : anyLeaf (Leaf.namesB q) c'.cells with
      | false => rfl
      | true =>
        exfalso
        obtain ⟨s, s1, s2, s3⟩ := hI.blks q'
        obtain ⟨k, k1, k2, k3⟩ := hC.blkNames hqA s s1 (s3 ▸ hb) hh
        exact hsl k ((s2 k k2).2 k1) k3
    have hM' := hI.mem.newB' (d := q) (b := ⟨t0, ti.zero, none⟩) (o := .cells cs.toArray t0 (0, 0)) (BlkSat.cells.2 ⟨cs, rfl, hz3 _ _, hz4⟩) hbn
    have hnames : ∀ (s : SV) (v : Value), s.anyL (Leaf.namesB q) = false → s.rel N h v → s.rel (N.setB q w.heap.size) h v := by
      intro s v hs hv
      refine SV.rel_names _ hv (fun j hj => ?_) (fun _ _ => rfl)
      simp only [Names.setB]
      rw [if_neg]
      intro e
      subst e
      rw [hs] at hj
      cases hj
    have := finN (N.setB q w.heap.size) h ((q, ⟨t0, ti.zero, none⟩) :: bsL) rsL (w.alloc (.cells cs.toArray t0 (0, 0))) (.leaf (.ptr q 0)) (.pointer (some ⟨w.heap.size, 0, none⟩)) (PLe.refl h) hI.dom hM' ?_ ?_ ?_ ?_ (fun q' => keepR q' (notOther _ _ true h2 (by omega)))
    · unfold Oper.wp
      simp only [hop, execOp, Instr.alloc, zeroValue, Sem.run_bind, run_typeInfo_of hi1, Result.andThen_ok, hz1, Sem.run_pure, newVar, newRow, run_newObj, hz2]
      exact this
    · intro t k x hx hxt hk
      refine hnames _ _ ?_ (hI.wrote t k x hx hxt hk)
      cases hh : (getS (S all.length).slots t).anyL (Leaf.namesB q) with
      | false => rfl
      | true =>
        exfalso
        obtain ⟨k', x', hx', hxt', hk'⟩ := hC.slotNames hqA _ (Nat.le_refl _) hh
        obtain ⟨t1, ht1, e1⟩ := dstAt_some hxt
        have : k' = k := (hC.ok k x hx).once t1 ht1 k' x' hx' (by rw [e1] at hxt'; exact (hat x' t1).1 hxt')
        subst this
        exact hsl _ hk hk'
    · intro t ht
      refine hnames _ _ ?_ (hI.first t ht)
      have := hC.fresh (i, q) hqA
      unfold usedB at this
      simp only [Bool.or_eq_false_iff] at this
      cases hh : (getS (S 0).slots t).anyL (Leaf.namesB q) with
      | false => rfl
      | true => cases (anySlots_false this.1 t hh)
    · intro d' hd'
      rw [hdst] at hd'
      injection hd' with hd'
      subst hd'
      refine ⟨SV.leaf_iff.2 (by simp [Leaf.rel, Names.setB]), ?_⟩
      rw [h1]
      show getS ((b + d, SV.leaf (Leaf.ptr q 0)) :: σ1.slots) (b + d) = _
      rw [getS_cons, if_pos rfl]
    · intro q'
      by_cases e : q = q'
      · subst e
        refine ⟨i + 1, by omega, fun k hk => ?_, ?_⟩
        · by_cases e : k = i
          · subst e; exact ⟨fun _ => by omega, fun _ => .inl rfl⟩
          · rw [show (k = i ∨ lst listed k) ↔ lst listed k from ⟨fun f => f.elim (fun g => absurd g e) id, .inr⟩, hord _ true h2 k hk e]
            omega
        · rw [h1]
          simp only [getB_cons, if_true]
      · obtain ⟨s, s1, s2, s3⟩ := keepB q' (notOther _ _ true h2 (by omega))
        exact ⟨s, s1, s2, by rw [getB_cons, if_neg e]; exact s3⟩
  · rw [hy]
    simp only [Bool.false_eq_true, if_false]
    have hno : ∀ q, ¬ Writes M all i q := by
      intro q hw
      obtain ⟨_, hm⟩ := hC.memAt hw
      rw [h2] at hm
      have := congrArg List.length hm
      simp at this
    exact fin h bsL rsL w (.leaf .undef) undef (PLe.refl h) hI.dom hI.mem (fun d hd' => ⟨SV.leaf_iff.2 (by simp only [Leaf.rel]), by rw [h1, hd']; exact put_slot_same⟩) (fun q => keepB q (hno _)) (fun q => keepR q (hno _))
def openOf : List Bool → Nat
  | [] => 0
  | true :: r => openOf r
  | false :: r => openOf r + 1
theorem openOf_set : (l : List Bool) → (i : Nat) → l[i]? = some false → openOf (l.set i true) + 1 = openOf l
  | [], _, e => by simp at e
  | b :: r, 0, e => by simp at e; subst e; rfl
  | b :: r, i + 1, e => by
    have := openOf_set r i (by simpa using e)
    cases b <;> simp only [List.set_cons_succ, openOf] <;> omega
theorem openOf_zero : (l : List Bool) → openOf l = 0 → ∀ (i : Nat) b, l[i]? = some b → b = true
  | [], _, i, b, hb => by simp at hb
  | true :: r, e, 0, b, hb => by simp at hb; exact hb
  | true :: r, e, i + 1, b, hb => openOf_zero r e i b (by simpa using hb)
  | false :: r, e, _, _, _ => by simp [openOf] at e
theorem any_run (hE : EnvOk P E) (hG : GlobOk E.gl h0) {ops : Array Oper} (hall : ops.toList = all) (hC : Chain E b all A S M) (hd : ∀ o ∈ all, ∀ t, o.dst = some t → t < n) {Q : Exit → Act → World → Prop}
    (hQ : ∀ N h' a' w', Sat B w0 h0 b u n (S all.length) N h' a' w' → Q .normal a' w') :
    ∀ (fuel : Nat) (N : Names) (listed : Array Bool) (h : PHeap) (bsL : Blks) (rsL : Rows) (a : Act) (w : World), openOf listed.toList ≤ fuel → Inv B w0 h0 b u n all S M N listed h bsL rsL a w → wpAny P .any ops Q fuel listed a w := by
  -- where nothing may come up any more all is listed
  have done : ∀ (N : Names) (listed : Array Bool) (h : PHeap) (bsL : Blks) (rsL : Rows) (a : Act) (w : World), Inv B w0 h0 b u n all S M N listed h bsL rsL a w → Region.ready .any ops listed = [] → Q .normal a w := by
    intro N listed h bsL rsL a w hI hr
    have hl : ∀ k, k < all.length → lst listed k := by
      intro k
      induction k using Nat.strongRecOn with
      | _ k ih =>
        intro hk
        rcases Classical.em (lst listed k) with f | f
        · exact f
        · exfalso
          have hoi : all[k]? = some all[k] := List.getElem?_eq_getElem hk
          have hsz : k < ops.size := by rw [← hall] at hk; simpa using hk
          have hopi : ops[k]? = some all[k] := by rw [← Array.getElem?_toList, hall]; exact hoi
          have : k ∈ Region.ready .any ops listed := by
            simp only [Region.ready, List.mem_filter, List.mem_range, Bool.and_eq_true, Bool.not_eq_true']
            have hls : k < listed.size := by rw [hI.llen]; exact hk
            refine ⟨hsz, ?_, ?_⟩
            · unfold lst at f
              rw [Array.getD_eq_getD_getElem?, Array.getElem?_eq_getElem hls] at f ⊢
              simpa using f
            · rw [hopi]
              simp only [Option.map_some, Option.getD_some, Array.all_eq_true]
              intro m hm
              rcases Bool.eq_false_or_eq_true (Region.binds .any (all[k].after[m])) with hbd | hbd
              · have hb := (hC.ok k _ hoi).back (all[k].after[m]) (by simp) hbd
                have := ih _ hb (by omega)
                unfold lst at this
                simp [this]
              · simp [hbd]
          rw [hr] at this
          cases this
    refine hQ N h a w ⟨?_, hI.grow, hI.dom, fun t => ?_, hI.size, hI.defers⟩
    · refine hI.mem.same (fun q => ?_) (fun q => ?_)
      · obtain ⟨s, s1, s2, s3⟩ := hI.blks q
        rw [s3]
        refine hC.blk_stage (Nat.le_refl _) s1 fun k hk => ?_
        rw [← s2 k hk]
        exact ⟨fun hh => hl k hh, fun _ => (hC.memAt hk).1⟩
      · obtain ⟨s, s1, s2, s3⟩ := hI.rows q
        rw [s3]
        refine hC.row_stage (Nat.le_refl _) s1 fun k hk => ?_
        rw [← s2 k hk]
        exact ⟨fun hh => hl k hh, fun _ => (hC.memAt hk).1⟩
    · by_cases hex : ∃ (k : Nat) (x : Oper), all[k]? = some x ∧ dstAt b x.dst = some t
      · obtain ⟨k, x, hx, hxt⟩ := hex
        exact hI.wrote t k x hx hxt (hl k (List.getElem?_eq_some_iff.1 hx).1)
      · have h1 := hI.first t fun k x hx hxt => absurd ⟨k, x, hx, hxt⟩ hex
        have := hC.slot (i := 0) (t := t) all.length (Nat.zero_le _) (Nat.le_refl _) fun k x hx _ _ hxt => hex ⟨k, x, hx, hxt⟩
        exact (this N h _).1 h1
  intro fuel
  induction fuel with
  | zero =>
    intro N listed h bsL rsL a w hf hI
    have hr : Region.ready .any ops listed = [] := by
      cases hrr : Region.ready .any ops listed with
      | nil => rfl
      | cons i r =>
        exfalso
        have hi : i ∈ Region.ready .any ops listed := by rw [hrr]; exact List.mem_cons_self ..
        simp only [Region.ready, List.mem_filter, List.mem_range, Bool.and_eq_true, Bool.not_eq_true'] at hi
        have hls : i < listed.size := by rw [hI.llen, ← hall]; simpa using hi.1
        have h1 := openOf_zero listed.toList (by omega) i listed[i] (by simp [hls])
        have h2 := hi.2.1
        rw [Array.getD_eq_getD_getElem?, Array.getElem?_eq_getElem hls] at h2
        simp [h1] at h2
    exact ⟨hr, done N listed h bsL rsL a w hI hr⟩
  | succ fuel ih =>
    intro N listed h bsL rsL a w hf hI
    refine ⟨done N listed h bsL rsL a w hI, fun i hi => any_step hE hG hall hC hd hI hi fun N' h' bs' rs' a' w' hI' => ih N' _ h' bs' rs' a' w' ?_ hI'⟩
    have hi' := hi
    simp only [Region.ready, List.mem_filter, List.mem_range, Bool.and_eq_true, Bool.not_eq_true'] at hi'
    have hls : i < listed.size := by rw [hI.llen, ← hall]; simpa using hi'.1
    have h2 := hi'.2.1
    rw [Array.getD_eq_getD_getElem?, Array.getElem?_eq_getElem hls] at h2
    have := openOf_set listed.toList i (by simp [hls]; simpa using h2)
    rw [Array.toList_setIfInBounds]
    omega
theorem execD_sound (hE : EnvOk P E) (hG : GlobOk E.gl h0) (hm : P.follows .mixedOrders = true) (ops : Array Oper) (id : Nat) (hok : okOps ops.toList 0 ops.toList = true) {Q : Exit → Act → World → Prop} {k : St → Prop}
    (hd : ∀ o ∈ ops.toList, ∀ t, o.dst = some t → t < n) (hQ : ∀ σ' N' h' a' w', k σ' → Sat B w0 h0 b u n σ' N' h' a' w' → Q .normal a' w')
    {σ : St} {h : PHeap} {a : Act} {w : World} (hfr : freshM σ.slots σ.blks A = true) (e : execD E b ops.toList A 0 ops.toList σ [] k) (hS : Sat B w0 h0 b u n σ N h a w) : (Code.region id ops true).wp P Q a w := by
  obtain ⟨S, M, s1, s2, s3, s4, s5⟩ := execD_chain ops.toList 0 σ [] e
  simp only [Nat.zero_add] at s3 s4 s5
  have hC : Chain E b ops.toList A S M := ⟨s2, by rw [s1]; exact freshM_all hfr, s3, s4, fun j o ho => by have := okOps_get ops.toList 0 hok j o ho; rwa [Nat.zero_add] at this⟩
  refine wp_region_any hm ?_
  refine any_run (S := S) (M := M) (B := B) (w0 := w0) (h0 := h0) (u := u) (n := n) hE hG rfl hC hd (fun N' h' a' w' hS' => hQ _ N' h' a' w' s5 hS') ops.size N _ h σ.blks σ.rows a _ ?_ ?_
  · have : ∀ m, openOf (List.replicate m false) = m := by
      intro m
      induction m with
      | zero => rfl
      | succ m ih => simp [List.replicate_succ, openOf, ih]
    rw [Array.toList_replicate, this]
    exact Nat.le_refl _
  · have hno : ∀ k, ¬ lst (Array.replicate ops.size false) k := by
      intro k hk
      unfold lst at hk
      rw [Array.getD_eq_getD_getElem?, Array.getElem?_replicate] at hk
      split at hk <;> simp at hk
    have hmem : MemSat B w0 σ.blks σ.rows N h { w with drawn := w.drawn + 1 } := by
      have := hS.mem
      exact ⟨⟨this.below.os, this.below.tape, this.below.output, this.below.size, this.below.block, Nat.le_succ_of_le this.below.drawn⟩, this.size, this.pin, this.blk, this.inj, this.row, this.rowh, this.rowb, this.rowr⟩
    refine ⟨hmem, hS.grow, hS.dom, hS.size, hS.defers, by simp, fun i j hi _ => absurd hi (hno i), fun t k o _ _ hk => absurd hk (hno k), fun t _ => by rw [s1]; exact hS.slots t, fun q => ⟨0, Nat.zero_le _, fun k _ => ⟨fun hk => absurd hk (hno k), fun hk => by omega⟩, by rw [s1]⟩, fun q => ⟨0, Nat.zero_le _, fun k _ => ⟨fun hk => absurd hk (hno k), fun hk => by omega⟩, by rw [s1]⟩⟩
theorem execM_sound (hE : EnvOk P E) (hG : GlobOk E.gl h0) (hm : P.follows .mixedOrders = true) (ops : Array Oper) (id : Nat) (hok : okOps ops.toList 0 ops.toList = true) {Q : Exit → Act → World → Prop} {k : St → Prop}
    (hd : ∀ o ∈ ops.toList, ∀ t, o.dst = some t → t < n) (hQ : ∀ σ' N' h' a' w', k σ' → Sat B w0 h0 b u n σ' N' h' a' w' → Q .normal a' w')
    {σ : St} {h : PHeap} {a : Act} {w : World} (e : execM E b ops.toList σ k) (hS : Sat B w0 h0 b u n σ N h a w) : (Code.region id ops true).wp P Q a w := by
  unfold execM at e
  cases h1 : freshM σ.slots σ.blks (madeOf b 0 0 ops.toList) with
  | true => rw [h1] at e; exact execD_sound hE hG hm ops id hok hd hQ h1 e hS
  | false =>
    rw [h1] at e
    simp only [cond_false] at e
    cases h2 : freshM σ.slots σ.blks (madeOf b 100000000 0 ops.toList) with
    | true => rw [h2] at e; exact execD_sound hE hG hm ops id hok hd hQ h2 e hS
    | false =>
      rw [h2] at e
      simp only [cond_false] at e
      cases h3 : freshM σ.slots σ.blks (madeOf b 200000000 0 ops.toList) with
      | true => rw [h3] at e; exact execD_sound hE hG hm ops id hok hd hQ h3 e hS
      | false => rw [h3] at e; exact e.elim
end
end Go.Fr
