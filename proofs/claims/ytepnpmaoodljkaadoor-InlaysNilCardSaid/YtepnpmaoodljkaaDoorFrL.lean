/-
  Appends; one operation; a region in the order of its text. Conditions: none.
-/
import Derived.Test.YtepnpmaoodljkaaDoorFrK
import Derived.Lib.AppendStr
import Derived.Lib.AppendZeros
namespace Go.Fr
open Go Go.RowKit Go.Lib
universe u

section
variable {P : Program} {E : Env} {B : Nat} {w0 w w' : World} {bs : Blks} {rs : Rows} {N : Names} {h h' : PHeap} {sl : Slots} {v : Nat → Value} {n : Nat}

/-! ### What is forgotten, what is put for what -/
theorem SV.sub_any (g : Nat → Option Leaf) : SV.sub g (.leaf .any) = .leaf .any := rfl
theorem mapSlots_get (g : Nat → Option Leaf) : (sl : Slots) → ∀ t, getS (mapSlots g sl) t = (getS sl t).sub g
  | [], t => rfl
  | (k, s) :: r, t => by
    show getS ((k, s.sub g) :: mapSlots g r) t = _
    rw [getS_cons, getS_cons, mapSlots_get g r t]
    split <;> rfl
theorem mapBlks_get (g : Nat → Option Leaf) : (bs : Blks) → ∀ i, getB (mapBlks g bs) i = (getB bs i).map fun b => ⟨b.ty, subs g b.cells, b.it⟩
  | [], i => rfl
  | (k, b) :: r, i => by
    show getB ((k, ⟨b.ty, subs g b.cells, b.it⟩) :: mapBlks g r) i = _
    rw [getB_cons, getB_cons, mapBlks_get g r i]
    split <;> rfl
theorem rmR_get : (rs : Rows) → ∀ r i, getR (rmR rs r) i = if r = i then none else getR rs i
  | [], r, i => by simp [rmR, getR]
  | (k, R) :: rs, r, i => by
    unfold rmR
    cases hb : Nat.beq k r with
    | true =>
      have := Nat.eq_of_beq_eq_true hb
      subst this
      rw [cond_true, rmR_get rs, getR_cons]
      split <;> simp [*]
    | false =>
      have := Nat.ne_of_beq_eq_false hb
      rw [cond_false, getR_cons, getR_cons, rmR_get rs]
      by_cases e : k = i
      · subst e; simp [Ne.symm this]
      · simp [e]

/-- What is put for a row fits where the row fitted. -/
def Keeps (N : Names) (_h : PHeap) (h' : PHeap) (g : Nat → Option Leaf) : Prop := ∀ i l, g i = some l → ∀ v, v = N.V i ∧ v.oneCell' = true → l.rel N h' v
mutual
theorem Leaf.rel_sub {g : Nat → Option Leaf} (hg : Keeps N h h' g) (hl : PLe h h') : (l : Leaf) → {v : Value} → l.rel N h v → (l.sub g).rel N h' v
  | .row i, v, hr => by
    simp only [Leaf.sub]
    cases hi : g i with
    | none => exact Leaf.rel_mono hl _ v hr
    | some l => exact hg i l hi v (by simpa only [Leaf.rel] using hr)
  | .rptr i a b c, v, hr => by
    simp only [Leaf.sub]
    cases hi : g i with
    | none => exact Leaf.rel_mono hl _ v hr
    | some l => simp only [Leaf.rel]
  | .rsub i a b, v, hr => by
    simp only [Leaf.sub]
    cases hi : g i with
    | none => exact Leaf.rel_mono hl _ v hr
    | some l => simp only [Leaf.rel]
  | .clo f caps, v, hr => by
    simp only [Leaf.sub, Leaf.rel] at hr ⊢
    obtain ⟨vs, e1, e2⟩ := hr
    exact ⟨vs, e1, rels_sub hg hl caps e2⟩
  | .any, v, hr => Leaf.rel_mono hl _ v hr
  | .undef, v, hr => Leaf.rel_mono hl _ v hr
  | .blit _, v, hr => Leaf.rel_mono hl _ v hr
  | .tv _ _, v, hr => Leaf.rel_mono hl _ v hr
  | .raw _, v, hr => Leaf.rel_mono hl _ v hr
  | .ptr _ _, v, hr => Leaf.rel_mono hl _ v hr
  | .mref _, v, hr => Leaf.rel_mono hl _ v hr
  | .eptr _ _ _ _, v, hr => Leaf.rel_mono hl _ v hr
theorem rels_sub {g : Nat → Option Leaf} (hg : Keeps N h h' g) (hl : PLe h h') : (ls : List Leaf) → {vs : List Value} → LeafRels N h ls vs → LeafRels N h' (subs g ls) vs
  | [], _, hr => by rw [LeafRels] at hr; simp only [subs]; exact LeafRels.nil_iff.2 hr
  | l :: ls, _, hr => by
    rw [LeafRels] at hr
    obtain ⟨v, r, rfl, e1, e2⟩ := hr
    simp only [subs]
    exact LeafRels.cons (Leaf.rel_sub hg hl l e1) (rels_sub hg hl ls e2)
end
theorem SV.rel_sub {g : Nat → Option Leaf} (hg : Keeps N h h' g) (hl : PLe h h') (s : SV) {v : Value} (hr : s.rel N h v) : (s.sub g).rel N h' v := by
  cases s with
  | leaf l => exact SV.leaf_iff.2 (l.rel_sub hg hl (SV.leaf_iff.1 hr))
  | agg ls =>
    obtain ⟨cs, e1, e2, e3⟩ := hr
    exact ⟨cs, e1, rels_sub hg hl ls e2, e3⟩
  | tupv t x =>
    obtain ⟨vs, e1, e2⟩ := hr
    exact ⟨vs, e1, trep_mono hl t x vs e2⟩
theorem SlotSat.mapped {g : Nat → Option Leaf} (hg : Keeps N h h' g) (hl : PLe h h') (hs : SlotSat sl N h v) : SlotSat (mapSlots g sl) N h' v := fun t => by
  rw [mapSlots_get g]
  exact SV.rel_sub hg hl _ (hs t)
theorem BlkSat.mapped {g : Nat → Option Leaf} (hg : Keeps N h h' g) (hl : PLe h h') {b : Blk} {o : Obj} (e : BlkSat N h b o) : BlkSat N h' ⟨b.ty, subs g b.cells, b.it⟩ o := by
  obtain ⟨t, ls, it⟩ := b
  cases it with
  | none =>
    obtain ⟨cs, q1, q2, q3⟩ := BlkSat.cells.1 e
    exact BlkSat.cells.2 ⟨cs, q1, rels_sub hg hl ls q2, q3⟩
  | some p =>
    cases p with
    | str s p => exact e
    | map =>
      obtain ⟨K, V, xs, es, cl, q1, q2, q3⟩ := BlkSat.map.1 e
      subst q1
      exact BlkSat.map.2 ⟨K, V, xs, es, cl, rfl, q2, MapRep.mono hl _ _ q3⟩

theorem forget_keeps (r : Nat) : Keeps N h h (forget r) := by
  intro i l hl v hv
  unfold forget at hl
  cases hb : Nat.beq i r with
  | true => rw [hb] at hl; injection hl with hl; subst hl; simp only [Leaf.rel]
  | false => rw [hb] at hl; cases hl

/-- Only the cells' leaves change. -/
theorem MemSat.mapBlks {g : Nat → Option Leaf} (hg : Keeps N h h g) (hM : MemSat B w0 bs rs N h w) : MemSat B w0 (Go.Fr.mapBlks g bs) rs N h w := by
  have hget : ∀ i b, getB (Go.Fr.mapBlks g bs) i = some b → ∃ c, getB bs i = some c ∧ b = ⟨c.ty, subs g c.cells, c.it⟩ := by
    intro i b hb
    rw [mapBlks_get] at hb
    cases hc : getB bs i with
    | none => rw [hc] at hb; cases hb
    | some c => rw [hc] at hb; injection hb with hb; exact ⟨c, rfl, hb.symm⟩
  refine ⟨hM.below, hM.size, hM.pin, ?_, ?_, hM.row, hM.rowh, ?_, hM.rowr⟩
  · intro i b hb
    obtain ⟨c, hc, rfl⟩ := hget i b hb
    obtain ⟨o, q1, q2, q4⟩ := hM.blk i c hc
    exact ⟨o, q1, q2.mapped hg (PLe.refl h), q4⟩
  · intro i j b c hb hc he
    obtain ⟨b', hb', _⟩ := hget i b hb
    obtain ⟨c', hc', _⟩ := hget j c hc
    exact hM.inj i j b' c' hb' hc' he
  · intro r R g i b hR hg hb
    obtain ⟨b', hb', _⟩ := hget i b hb
    exact hM.rowb r R g i b' hR hg hb'

theorem MemSat.rmRow (hM : MemSat B w0 bs rs N h w) (r : Nat) : MemSat B w0 bs (rmR rs r) N h w := by
  have hget : ∀ i R, getR (rmR rs r) i = some R → getR rs i = some R ∧ r ≠ i := by
    intro i R hR
    rw [rmR_get] at hR
    split at hR
    · cases hR
    · rename_i e; exact ⟨hR, e⟩
  exact ⟨hM.below, hM.size, hM.pin, hM.blk, hM.inj, fun i R hR => hM.row i R (hget i R hR).1, fun i R g hR => hM.rowh i R g (hget i R hR).1,
    fun i R g j b hR => hM.rowb i R g j b (hget i R hR).1, fun i j R S g hR hS => hM.rowr i j R S g (hget i R hR).1 (hget j S hS).1⟩

def Names.setR (N : Names) (d : Nat) (v : Value) : Names := { N with V := fun k => if k = d then v else N.V k }

/-- A row is named anew: what is behind it lies in a block that no other name has. -/
theorem MemSat.newR (hM : MemSat B w0 bs rs N h w) {d : Nat} {R : RowS} {v : Value} {cs : List Value} {row : Option Nat} (hb : Below B w0 w') (hsz : w.heap.size ≤ w'.heap.size)
    (hgr : ∀ k, k < w.heap.size → some k ≠ row → w'.heap[k]? = w.heap[k]?) (ho : w'.ownsRow B R.e R.t.size v R.xs.length cs) (hc : RowCells h R.t R.xs cs)
    (hfree : ∀ g, v.ownBlock = some g ∨ row = some g → h g = none ∧ (∀ i b, getB bs i = some b → N.ρ i ≠ g) ∧ (∀ s S, getR rs s = some S → (N.V s).ownBlock ≠ some g))
    (hn : anyBlks (Leaf.namesR d) bs = false) : MemSat B w0 bs ((d, R) :: rs) (N.setR d v) h w' := by
  have hV : ∀ (ls : List Leaf), anyLeaf (Leaf.namesR d) ls = false → ∀ l ∈ ls, ∀ i, Leaf.namesR i l = true → (N.setR d v).V i = N.V i := by
    intro ls hf l hl i hi
    simp only [Names.setR]
    rw [if_neg]
    intro e
    subst e
    rw [anyLeaf_false hf l hl] at hi
    cases hi
  refine ⟨hb, Nat.le_trans hM.size hsz, ?_, ?_, hM.inj, ?_, ?_, ?_, ?_⟩
  · intro k o hk
    have hlt := hM.pin.lt hk
    rw [hgr k hlt (fun e => by rw [(hfree k (.inr e.symm)).1] at hk; cases hk)]
    exact hM.pin k o hk
  · intro i b hi
    obtain ⟨o, q1, q2, q4, q5⟩ := hM.blk i b hi
    refine ⟨o, by rw [show (N.setR d v).ρ i = N.ρ i from rfl, hgr _ (lt_of_heap q1) (fun e => (hfree _ (.inr e.symm)).2.1 i b hi rfl)]; exact q1, ?_, q4, q5⟩
    unfold BlkSat at q2 ⊢
    split at q2
    · obtain ⟨ds, p1, p2, p3⟩ := q2
      exact ⟨ds, p1, LeafRels.names _ _ p2 (fun _ _ _ _ => rfl) (hV _ (anyBlks_false hn i b hi)), p3⟩
    · exact q2
    · exact q2
  · intro r S hS
    rw [getR_cons] at hS
    simp only [Names.setR]
    by_cases e : d = r
    · subst e
      rw [if_pos rfl] at hS ⊢
      injection hS with hS; subst hS
      exact ⟨cs, ho, hc⟩
    · rw [if_neg e] at hS
      rw [if_neg (fun hh => e hh.symm)]
      obtain ⟨ds, q1, q2⟩ := hM.row r S hS
      refine ⟨ds, ⟨q1.1, ?_⟩, q2⟩
      rcases q1.2 with h0 | ⟨g, cap, cur, e1, e2, e3, e4⟩
      · exact .inl h0
      · exact .inr ⟨g, cap, cur, e1, e2, by rw [hgr g (lt_of_heap e3) (fun hh => (hfree g (.inr hh.symm)).2.2 r S hS (by rw [e1]; rfl))]; exact e3, e4⟩
  · intro r S g hS hg
    rw [getR_cons] at hS
    simp only [Names.setR] at hg
    by_cases e : d = r
    · subst e
      rw [if_pos rfl] at hg
      exact (hfree g (.inl hg)).1
    · rw [if_neg e] at hS
      rw [if_neg (fun hh => e hh.symm)] at hg
      exact hM.rowh r S g hS hg
  · intro r S g i b hS hg hi
    rw [getR_cons] at hS
    simp only [Names.setR] at hg ⊢
    by_cases e : d = r
    · subst e
      rw [if_pos rfl] at hg
      exact (hfree g (.inl hg)).2.1 i b hi
    · rw [if_neg e] at hS
      rw [if_neg (fun hh => e hh.symm)] at hg
      exact hM.rowb r S g i b hS hg hi
  · intro r s R1 R2 g h1 h2 g1 g2
    rw [getR_cons] at h1 h2
    simp only [Names.setR] at g1 g2
    by_cases e1 : d = r
    · by_cases e2 : d = s
      · omega
      · rw [if_neg e2] at h2
        rw [if_pos e1.symm] at g1
        rw [if_neg (fun hh => e2 hh.symm)] at g2
        exact absurd g2 ((hfree g (.inl g1)).2.2 s R2 h2)
    · rw [if_neg e1] at h1
      rw [if_neg (fun hh => e1 hh.symm)] at g1
      by_cases e2 : d = s
      · rw [if_pos e2.symm] at g2
        exact absurd g1 ((hfree g (.inl g2)).2.2 r R1 h1)
      · rw [if_neg e2] at h2
        rw [if_neg (fun hh => e2 hh.symm)] at g2
        exact hM.rowr r s R1 R2 g h1 h2 g1 g2

/-- The cells of a list that is known element by element. -/
theorem list_cells (t : Ty) (ad : Addr) : (ys : List t.den) → (k : Nat) → (∀ (i : Nat) x, ys[i]? = some x → ∃ ds, rep h t x ds ∧ CellsAt h (ad.add ((k + i) * t.size)) ds) →
    ∃ news, RowCells h t ys news ∧ ∀ (j : Nat) u, news[j]? = some u → hcell h (ad.add (k * t.size + j)) = some u
  | [], k, _ => ⟨[], rfl, fun j u hu => by simp at hu⟩
  | y :: ys, k, hy => by
    obtain ⟨ds, g1, g2⟩ := hy 0 y rfl
    obtain ⟨news, q1, q2⟩ := list_cells t ad ys (k + 1) fun i x hx => by
      obtain ⟨es, p1, p2⟩ := hy (i + 1) x (by simpa using hx)
      exact ⟨es, p1, by rw [show k + 1 + i = k + (i + 1) by omega]; exact p2⟩
    have hl := rep_len t y ds g1
    refine ⟨ds ++ news, ⟨ds, news, rfl, g1, q1⟩, fun j u hu => ?_⟩
    by_cases hj : j < ds.length
    · rw [List.getElem?_append_left hj] at hu
      have := g2 j u hu
      rw [add_add, Nat.add_zero] at this
      exact this
    · rw [List.getElem?_append_right (by omega)] at hu
      have := q2 _ u hu
      rw [show (k + 1) * t.size + (j - ds.length) = k * t.size + j by rw [Nat.add_mul]; omega] at this
      exact this

theorem run_append_nil_src (base : Nat) (t ty e : TypeId) (i : TypeInfo) (size : Nat) (ht : P.underlying t = some (.slice e)) (hi : P.info? e = some i)
    (v : Value) (n : Nat) (xs : List Value) (hown : w.ownsRow base e size v n xs) (c : Nat) : (Builtin.append_ #[t, t] ty #[v, .slice none 0 c]).run P w = .ok v w := by
  rcases hown.2 with ⟨rfl, rfl⟩ | ⟨g, cap, cur, rfl, _, _, hnc, _⟩
  · simp [Builtin.append_, run_underlying ht, sizeOf, typeInfo, hi, Builtin.lenOf, Builtin.firstCells]
  · simp [Builtin.append_, run_underlying ht, sizeOf, typeInfo, hi, Builtin.lenOf, Builtin.firstCells, hnc, storeCells]

/-- A row's element is turned. -/
theorem getR_setR (rs : Rows) (i : Nat) (c : RowS) (j : Nat) : getR (setR rs i c) j = if i = j then (getR rs j).map fun _ => c else getR rs j := by
  induction rs with
  | nil => simp [setR, getR]
  | cons p r ih =>
    obtain ⟨k, b⟩ := p
    unfold setR
    cases hb : Nat.beq k i with
    | true =>
      have := Nat.eq_of_beq_eq_true hb
      subst this
      rw [cond_true, getR_cons, getR_cons]
      by_cases hj : k = j <;> simp [hj]
    | false =>
      have := Nat.ne_of_beq_eq_false hb
      rw [cond_false, getR_cons, getR_cons, ih]
      by_cases hj : k = j
      · subst hj
        simp [Ne.symm this]
      · simp [hj]

theorem RowCells_set (t : Ty) : (xs : List t.den) → (cs : List Value) → RowCells h t xs cs → ∀ (i : Nat) (y : t.den) (ds : List Value), i < xs.length → rep h t y ds → RowCells h t (xs.set i y) (cs.take (i * t.size) ++ ds ++ cs.drop (i * t.size + t.size))
  | [], _, _, i, y, ds, hi, _ => by simp at hi
  | x :: xs, cs, ⟨d, r, e, h1, h2⟩, 0, y, ds, hi, hy => by
    subst e
    have hd := rep_len t x d h1
    refine ⟨ds, r, ?_, hy, h2⟩
    simp [hd]
  | x :: xs, cs, ⟨d, r, e, h1, h2⟩, i + 1, y, ds, hi, hy => by
    subst e
    have hd := rep_len t x d h1
    have ih := RowCells_set t xs r h2 i y ds (by simpa using hi) hy
    refine ⟨d, _, ?_, h1, ih⟩
    have e1 : (i + 1) * t.size = d.length + i * t.size := by rw [hd, Nat.add_mul]; omega
    rw [e1, Nat.add_assoc, List.take_length_add_append, List.drop_length_add_append]
    simp [List.append_assoc]

/-- What of the memory does not change where a row's block changes. -/
theorem MemSat.turnRow (hM : MemSat B w0 bs rs N h w) {r : Nat} {R R' : RowS} (hR : getR rs r = some R) {g : Nat} (hg : (N.V r).ownBlock = some g) (hbel : Below B w0 w') (hsz : w'.heap.size = w.heap.size)
    (hother : ∀ k, k ≠ g → w'.heap[k]? = w.heap[k]?) {cs : List Value} (ho : w'.ownsRow B R'.e R'.t.size (N.V r) R'.xs.length cs) (hc : RowCells h R'.t R'.xs cs) : MemSat B w0 bs (setR rs r R') N h w' := by
  have hget : ∀ j S, getR (setR rs r R') j = some S → ∃ S', getR rs j = some S' := by
    intro j S hj
    rw [getR_setR] at hj
    split at hj
    · rename_i e; subst e; exact ⟨R, hR⟩
    · exact ⟨S, hj⟩
  refine ⟨hbel, by rw [hsz]; exact hM.size, ?_, ?_, hM.inj, ?_, ?_, ?_, ?_⟩
  · intro k o hk
    rw [hother k (fun e => by rw [e, hM.rowh r R g hR hg] at hk; cases hk)]
    exact hM.pin k o hk
  · intro i b hb
    obtain ⟨o, q1, q2, q4, q5⟩ := hM.blk i b hb
    exact ⟨o, by rw [hother _ (hM.rowb r R g i b hR hg hb)]; exact q1, q2, q4, q5⟩
  · intro q S hS
    rw [getR_setR] at hS
    by_cases e : r = q
    · subst e
      rw [if_pos rfl, hR] at hS
      simp only [Option.map_some, Option.some.injEq] at hS
      subst hS
      exact ⟨cs, ho, hc⟩
    · rw [if_neg e] at hS
      obtain ⟨ds, q1, q2⟩ := hM.row q S hS
      refine ⟨ds, ⟨q1.1, ?_⟩, q2⟩
      rcases q1.2 with h0 | ⟨g', cap, cur, e1, e2, e3, e4⟩
      · exact .inl h0
      · exact .inr ⟨g', cap, cur, e1, e2, by rw [hother g' (fun hh => e (hM.rowr r q R S g hR hS hg (by rw [e1, ← hh]; rfl)))]; exact e3, e4⟩
  · intro q S k hq hk
    obtain ⟨S', hS'⟩ := hget q S hq
    exact hM.rowh q S' k hS' hk
  · intro q S k i b hq hk hb
    obtain ⟨S', hS'⟩ := hget q S hq
    exact hM.rowb q S' k i b hS' hk hb
  · intro q1 q2 S1 S2 k h1 h2 k1 k2
    obtain ⟨S1', hS1'⟩ := hget q1 S1 h1
    obtain ⟨S2', hS2'⟩ := hget q2 S2 h2
    exact hM.rowr q1 q2 S1' S2' k hS1' hS2' k1 k2

/-- A row's elements are turned, and other memory grows. -/
theorem MemSat.turnRowG (hM : MemSat B w0 bs rs N h w) {r : Nat} {R R' : RowS} (hR : getR rs r = some R) (hbel : Below B w0 w') (hsz : w.heap.size ≤ w'.heap.size)
    (hother : ∀ k, k < w.heap.size → some k ≠ (N.V r).ownBlock → w'.heap[k]? = w.heap[k]?) {cs : List Value} (ho : w'.ownsRow B R'.e R'.t.size (N.V r) R'.xs.length cs) (hc : RowCells h R'.t R'.xs cs) : MemSat B w0 bs (setR rs r R') N h w' := by
  have hget : ∀ j S, getR (setR rs r R') j = some S → ∃ S', getR rs j = some S' := by
    intro j S hj
    rw [getR_setR] at hj
    split at hj
    · rename_i e; subst e; exact ⟨R, hR⟩
    · exact ⟨S, hj⟩
  refine ⟨hbel, Nat.le_trans hM.size hsz, ?_, ?_, hM.inj, ?_, ?_, ?_, ?_⟩
  · intro k o hk
    rw [hother k (hM.pin.lt hk) (fun e => by rw [hM.rowh r R k hR e.symm] at hk; cases hk)]
    exact hM.pin k o hk
  · intro i b hb
    obtain ⟨o, q1, q2, q4, q5⟩ := hM.blk i b hb
    exact ⟨o, by rw [hother _ (lt_of_heap q1) (fun e => hM.rowb r R _ i b hR e.symm hb rfl)]; exact q1, q2, q4, q5⟩
  · intro q S hS
    rw [getR_setR] at hS
    by_cases e : r = q
    · subst e
      rw [if_pos rfl, hR] at hS
      simp only [Option.map_some, Option.some.injEq] at hS
      subst hS
      exact ⟨cs, ho, hc⟩
    · rw [if_neg e] at hS
      obtain ⟨ds, q1, q2⟩ := hM.row q S hS
      refine ⟨ds, ⟨q1.1, ?_⟩, q2⟩
      rcases q1.2 with h0 | ⟨g', cap, cur, e1, e2, e3, e4⟩
      · exact .inl h0
      · exact .inr ⟨g', cap, cur, e1, e2, by rw [hother g' (lt_of_heap e3) (fun hh => e (hM.rowr r q R S g' hR hS hh.symm (by rw [e1]; rfl)))]; exact e3, e4⟩
  · intro q S k hq hk
    obtain ⟨S', hS'⟩ := hget q S hq
    exact hM.rowh q S' k hS' hk
  · intro q S k i b hq hk hb
    obtain ⟨S', hS'⟩ := hget q S hq
    exact hM.rowb q S' k i b hS' hk hb
  · intro q1 q2 S1 S2 k h1 h2 k1 k2
    obtain ⟨S1', hS1'⟩ := hget q1 S1 h1
    obtain ⟨S2', hS2'⟩ := hget q2 S2 h2
    exact hM.rowr q1 q2 S1' S2' k hS1' hS2' k1 k2

/-- Appending a text's bytes to a row that is owned. -/
theorem append_str_run {t t' te : TypeId} {tei : TI} (hTe : TIok P te tei) (ht : P.underlying t = some (.slice te)) (ht' : P.underlying t' = some .string) (hk : tei.zero.length = tei.size) (h1 : tei.size = 1)
    {v : Value} {xs : List Int} {cs : List Value} (hB : B ≤ w.heap.size) (ho : w.ownsRow B te 1 v xs.length cs) (hc : RowCells h (.int .u8) xs cs) (s : ByteArray)
    (hb : (xs.length + (strBytes s).length) * tei.bytes ≤ 140737488355328) (hm : xs.length + (strBytes s).length ≤ maxLen) (ty : TypeId) :
    ∃ v' w' cs', (Builtin.append_ #[t, t'] ty #[v, .string s]).run P w = .ok v' w' ∧ w'.ownsRow B te 1 v' (xs ++ strBytes s).length cs' ∧ RowCells h (.int .u8) (xs ++ strBytes s) cs' ∧ GrownBy w w' v.ownBlock ∧ (v'.ownBlock = v.ownBlock ∨ v'.ownBlock = some w.heap.size) := by
  obtain ⟨i, hi, hsz, hby, hzz⟩ := hTe.info
  obtain ⟨z, hz1, zcs, hz2, hz3, _⟩ := hzz hk
  have hs1 : i.size = 1 := by rw [hsz, h1]
  have hsl : (strBytes s).length = s.size := by simp [strBytes]
  have hcl : cs.length = xs.length := by have := RowCells_len (.int .u8) xs cs hc; simpa [Ty.size] using this
  have hzc : z.cells.size = 1 := by
    have := LeafRels.length _ _ (hz3 ⟨fun k => k, fun _ => .nilFunc⟩ h)
    rw [hz2]
    simp
    omega
  have hcells : RowCells h (.int .u8) (strBytes s) (strCells s) := by
    have key : ∀ l : List UInt8, RowCells h (.int .u8) (l.map fun b => (b.toNat : Int)) (l.map fun b => Value.int .u8 b.toNat) := by
      intro l
      induction l with
      | nil => rfl
      | cons x l ih => exact ⟨[.int .u8 x.toNat], _, rfl, rfl, ih⟩
    exact key s.data.toList
  have hall := RowCells_append (.int .u8) xs (strBytes s) cs (strCells s) hc hcells
  have hsmall : xs.length + s.size ≤ 9223372036854775807 := by rw [hsl] at hm; simp only [maxLen] at hm; omega
  rw [hsl] at hm hb
  rw [← hby] at hb
  have hlen : (cs ++ strCells s).length = (xs.length + s.size) * 1 := by rw [List.length_append, hcl, strCells_length, Nat.mul_one]
  have fresh : ∀ (old : Nat), old < xs.length + s.size → ∀ (row : Option Nat),
      (w.drew.alloc (.cells (cs.toArray ++ (strCells s).toArray ++ Builtin.zeroCells z.cells (grownCap w (xs.length + s.size) old te - (xs.length + s.size))) te)).ownsRow B te 1
        (.slice (some ⟨w.heap.size, 0, none⟩) (xs.length + s.size) (grownCap w (xs.length + s.size) old te)) (xs.length + s.size) (cs ++ strCells s) ∧
      GrownBy w (w.drew.alloc (.cells (cs.toArray ++ (strCells s).toArray ++ Builtin.zeroCells z.cells (grownCap w (xs.length + s.size) old te - (xs.length + s.size))) te)) row := by
    intro old hold row
    refine ⟨⟨hlen, .inr ⟨w.heap.size, _, _, rfl, hB, heap_alloc_new w.drew _, grownCap_ge w (xs.length + s.size) old te, grownCap_le_maxLen w (xs.length + s.size) old te hm, ?_, ?_⟩⟩, ⟨rfl, rfl, rfl, by simp, fun k hk _ => Below.heap_alloc _ _ _ hk, Nat.le_succ _⟩⟩
    · have hge := grownCap_ge w (xs.length + s.size) old te
      simp only [Array.size_append, List.size_toArray, size_zeroCells, hzc, hcl, strCells_length]
      omega
    · simp only [Array.toList_append, List.append_assoc]
      rw [← List.append_assoc, ← hlen]
      exact List.take_left
  have e0 : (xs ++ strBytes s).length = xs.length + s.size := by rw [List.length_append, hsl]
  rw [e0]
  rcases ho.2 with ⟨rfl, h0⟩ | ⟨g, cap, cur, rfl, hbg, hg, hnc, hcm, hcs, htake⟩
  · have hx : xs = [] := List.eq_nil_of_length_eq_zero h0
    subst hx
    have hc0 : cs = [] := List.eq_nil_of_length_eq_zero (by rw [hcl]; rfl)
    subst hc0
    by_cases hm0 : s.size = 0
    · have hn : strCells s = [] := List.eq_nil_of_length_eq_zero (by rw [strCells_length]; exact hm0)
      refine ⟨.slice none 0 0, w, [], ?_, by rw [hm0]; exact World.ownsRow_nil w B te 1, by rw [← hn]; exact hcells, ⟨rfl, rfl, rfl, Nat.le_refl _, fun _ _ _ => rfl, Nat.le_refl _⟩, .inl rfl⟩
      have hf := run_firstCells_string (P := P) w 1 s
      rw [hm0] at hf
      simp [Builtin.append_, run_underlying ht, run_underlying ht', sizeOf, typeInfo, hi, hs1, Builtin.lenOf, hm0, hf]
    · have hr := run_append_nil_string (P := P) w t t' ty te i z ht ht' hi hz1 s (by omega) (by omega) (by simp only [List.length_nil, Nat.zero_add] at hb; omega)
      have hgr := fresh 0 (by simp; omega) (Value.ownBlock (.slice none 0 0))
      simp only [List.length_nil, Nat.zero_add, List.nil_append, Array.empty_append] at hgr ⊢
      have e1 : (s.data.map fun b => Value.int .u8 b.toNat) = (strCells s).toArray := by
        apply Array.ext'
        simp [strCells]
      rw [e1] at hr
      exact ⟨_, _, _, hr, hgr.1, hcells, hgr.2, .inr rfl⟩
  · by_cases hroom : xs.length + s.size ≤ cap
    · have hcs' : cur.size = cap := by simpa using hcs
      have hr := run_append_room_string (P := P) w t t' ty te i ht ht' hi hs1 g xs.length cap cur hg s hroom (by omega)
      refine ⟨_, _, cs ++ strCells s, hr, ⟨hlen, .inr ⟨g, cap, _, rfl, hbg, setRow_heap w g cur _ te _ hg, hroom, hcm, ?_, ?_⟩⟩, hall, ⟨rfl, rfl, rfl, by simp, fun k _ hk => setRow_other w g k _ (fun e => hk (by simp [Value.ownBlock, e])), Nat.le_refl _⟩, .inl rfl⟩
      · simp only [List.size_toArray, List.length_append, List.length_take, List.length_drop, Array.length_toList, strCells_length]
        omega
      · have ht1 : cur.toList.take xs.length = cs := by simpa using htake
        rw [ht1, ← hlen]
        exact List.take_left
    · have holds : ∀ j u, cs[j]? = some u → w.cell? ((⟨g, 0, none⟩ : Addr).add j) = some u := ho.cells (g := g) rfl
      have hr := run_append_grow_string (P := P) w t t' ty te i z ht ht' hi hz1 ⟨g, 0, none⟩ xs.length cap cs (by rw [hs1, hcl, Nat.mul_one]) holds s (by omega) (by omega) (growslice_fits (by omega) hb)
      have hgr := fresh cap (by omega) (Value.ownBlock (.slice (some ⟨g, 0, none⟩) xs.length cap))
      exact ⟨_, _, _, hr, hgr.1, hall, hgr.2, .inr rfl⟩

/-- An append to a row that is owned. -/
theorem append_run {t te : TypeId} {tei : TI} (hTe : TIok P te tei) (ht : P.underlying t = some (.slice te)) (hz : tei.zero.length = tei.size) (h1 : 1 ≤ tei.size) {T : Ty} (hTs : tei.size = T.size)
    {v : Value} {xs ys : List T.den} {cs : List Value} (hB : B ≤ w.heap.size) (ho : w.ownsRow B te T.size v xs.length cs) (hc : RowCells h T xs cs) (hp : PIn h w)
    {u : Value} (hu : vrep h (.sl T) ys u) (hb : (xs.length + ys.length) * tei.bytes ≤ 140737488355328) (hm : xs.length + ys.length ≤ maxLen) (ty : TypeId) :
    ∃ v' w' cs', (Builtin.append_ #[t, t] ty #[v, u]).run P w = .ok v' w' ∧ w'.ownsRow B te T.size v' (xs ++ ys).length cs' ∧ RowCells h T (xs ++ ys) cs' ∧ GrownBy w w' v.ownBlock ∧ (v'.ownBlock = v.ownBlock ∨ v'.ownBlock = some w.heap.size) := by
  obtain ⟨i, hi, hsz, hby, hzz⟩ := hTe.info
  obtain ⟨z, hz1, zcs, hz2, hz3, _⟩ := hzz hz
  have hzs : z.cells.size = T.size := by
    rw [hz2, ← hTs, ← hz]
    have := LeafRels.length _ _ (hz3 ⟨fun k => k, fun _ => .nilFunc⟩ h)
    simp [this]
  obtain ⟨us, g1, rfl⟩ := hu
  obtain ⟨A, c, rfl, g2, g3, g4⟩ := g1
  cases A with
  | none =>
    have hy := g3 rfl
    subst hy
    exact ⟨v, w, cs, run_append_nil_src B t ty te i T.size ht hi v _ _ ho c, by simpa using ho, by simpa using hc, GrownBy.refl w _, .inl rfl⟩
  | some ad =>
    obtain ⟨news, q1, q2⟩ := list_cells (h := h) T ad ys 0 fun i x hx => by
      obtain ⟨ds, p1, p2⟩ := g4 i x ad hx rfl
      exact ⟨ds, p1, by rw [Nat.zero_add]; exact p2⟩
    obtain ⟨v', w', hr, e1, e2, _, e3⟩ := run_append_own_at (P := P) w B t ty te i z T.size tei.bytes ht hi hz1 (by omega) hby hzs (by omega) v xs.length cs ho ad ys.length c news
      (RowCells_len T ys news q1) (fun j u hu => cell_of_hcell hp (by have := q2 j u hu; simpa using this)) (RowCells_one T ys news q1) hm hb hB
    exact ⟨v', w', cs ++ news, hr, by rw [List.length_append]; exact e1, RowCells_append T xs ys cs news hc q1, .of e2 (sem_drawn _ _ hr), e3⟩
/-! ### Zero values -/
theorem zeroCells_flat (zs : List Value) : ∀ n, (Builtin.zeroCells zs.toArray n).toList = (List.replicate n zs).flatten
  | 0 => by simp [Builtin.zeroCells]
  | n + 1 => by
    have ih := zeroCells_flat zs n
    have hl : (List.replicate n zs).flatten.length = n * zs.length := by simp
    rw [List.replicate_succ', List.flatten_append, ← ih]
    apply List.ext_getElem?
    intro j
    have hsz : (Builtin.zeroCells zs.toArray n).toList.length = n * zs.length := by simp [Builtin.zeroCells]
    by_cases h1 : j < n * zs.length
    · rw [List.getElem?_append_left (by omega)]
      have h2 : j < (n + 1) * zs.length := by rw [Nat.add_mul]; omega
      simp [Builtin.zeroCells, h1, h2]
    · rw [List.getElem?_append_right (by omega), hsz]
      by_cases h2 : j < (n + 1) * zs.length
      · have h3 : j - n * zs.length < zs.length := by rw [Nat.add_mul] at h2; omega
        have h4 : j % zs.length = j - n * zs.length := by
          have hmc := Nat.mul_comm zs.length n
          have : j = (j - n * zs.length) + zs.length * n := by omega
          rw [this, Nat.add_mul_mod_self_left, Nat.mod_eq_of_lt h3]
          omega
        simp [Builtin.zeroCells, h2, h3, h4]
      · have h3 : ¬ j - n * zs.length < zs.length := by rw [Nat.add_mul] at h2; omega
        simp [Builtin.zeroCells, h2, h3]
theorem RowCells_replicate (T : Ty) {z : T.den} {zs : List Value} (hz : rep h T z zs) : ∀ n, RowCells h T (List.replicate n z) (List.replicate n zs).flatten
  | 0 => rfl
  | n + 1 => ⟨zs, (List.replicate n zs).flatten, by simp [List.replicate_succ], hz, RowCells_replicate T hz n⟩
/-- Appending zero values to nil. -/
theorem append_zeros_run {t t' te : TypeId} {tei : TI} (hTe : TIok P te tei) (ht : P.underlying t = some (.slice te)) {kn : IntKind} (ht' : P.underlying t' = some (.int kn)) (hk : tei.zero.length = tei.size) (h1 : 1 ≤ tei.size) {T : Ty} (hTs : tei.size = T.size)
    {z : T.den} (hz : implode T tei.zero = some (z, [])) (hB : B ≤ w.heap.size) {k : IntKind} {n : Nat} (hb : n * tei.bytes ≤ 140737488355328) (hm : n ≤ maxLen) (ty : TypeId) :
    ∃ v' w' cs', (Builtin.append_ #[t, t'] ty #[.slice none 0 0, .int k n]).run P w = .ok v' w' ∧ w'.ownsRow B te T.size v' n cs' ∧ RowCells h T (List.replicate n z) cs' ∧ GrownBy w w' none ∧ (v'.ownBlock = none ∨ v'.ownBlock = some w.heap.size) := by
  obtain ⟨i, hi, hsz, hby, hzz⟩ := hTe.info
  obtain ⟨zv, hz1, zcs, hz2, hz3, _⟩ := hzz hk
  have hrz : rep h T z zcs := implode_all hz (hz3 ⟨fun k => k, fun _ => .nilFunc⟩ h)
  have hzl : zcs.length = T.size := rep_len T z zcs hrz
  have hcells := RowCells_replicate T hrz n
  have h63 : (n : Int) ≤ 9223372036854775807 := by simp only [maxLen] at hm; omega
  have hbb : n * i.bytes ≤ 281474976710656 := by rw [hby]; omega
  cases n with
  | zero =>
    refine ⟨.slice none 0 0, w, [], ?_, World.ownsRow_nil w B te _, rfl, GrownBy.refl w _, .inl rfl⟩
    simp [Builtin.append_, run_underlying ht, run_underlying ht', sizeOf, typeInfo, hi, _root_.Go.asInt, asIntOf, IntKind.wrap_i64]
  | succ n =>
    have hr := Lib.run_append_nil_zeros (P := P) w t t' ty te i zv k kn ht ht' hi hz1 (n + 1) (by omega) (by omega) h63 hbb
    refine ⟨_, _, _, hr, ⟨?_, .inr ⟨w.heap.size, _, _, rfl, hB, heap_alloc_new w.drew _, grownCap_ge w (n + 1) 0 te, grownCap_le_maxLen w (n + 1) 0 te hm, ?_, ?_⟩⟩, hcells, ⟨rfl, rfl, rfl, by simp, fun k hk _ => Below.heap_alloc _ _ _ hk, Nat.le_succ _⟩, .inr rfl⟩
    · have := RowCells_len T _ _ hcells
      simpa using this
    · have hge := grownCap_ge w (n + 1) 0 te
      simp only [Array.size_append, size_zeroCells, hz2, List.size_toArray, hzl]
      rw [← Nat.add_mul]
      congr 1
      omega
    · rw [Array.toList_append, hz2, zeroCells_flat]
      have := RowCells_len T _ _ hcells
      rw [List.length_replicate] at this
      rw [← this]
      exact List.take_left
/-- The last elements of a row that is owned are set to zero. -/
theorem clear_run {t te : TypeId} {tei : TI} (hTe : TIok P te tei) (ht : P.underlying t = some (.slice te)) (hk : tei.zero.length = tei.size) {T : Ty} (hTs : tei.size = T.size)
    {z : T.den} (hz : implode T tei.zero = some (z, [])) {g len cap i : Nat} {e : TypeId} {cur : Array Value} (hg : w.heap[g]? = some (.cells cur e (0, 0))) (hcs : cur.size = cap * T.size) (hlc : len ≤ cap) (hi : i < len) (c : Nat) (ty : TypeId) :
    ∃ zs : List Value, rep h T z zs ∧ (Builtin.clear_ #[t] ty #[.slice (some ⟨g, i * T.size, none⟩) (len - i) c]).run P w = .ok (.tuple #[]) (w.setRow g (cur.toList.take (i * T.size) ++ (List.replicate (len - i) zs).flatten ++ cur.toList.drop (i * T.size + (len - i) * T.size)).toArray) := by
  obtain ⟨ie, hie, hsz, hby, hzz⟩ := hTe.info
  obtain ⟨zv, hz1, zcs, hz2, hz3, hz4⟩ := hzz hk
  have hrz : rep h T z zcs := implode_all hz (hz3 ⟨fun k => k, fun _ => .nilFunc⟩ h)
  have hzl : zcs.length = T.size := rep_len T z zcs hrz
  refine ⟨zcs, hrz, ?_⟩
  have hfl : (List.replicate (len - i) zcs).flatten.length = (len - i) * T.size := by simp [hzl]
  have hfit : i * T.size + (len - i) * T.size ≤ cur.size := by
    rw [← Nat.add_mul, hcs]
    exact Nat.mul_le_mul_right _ (by omega)
  have hst := run_storeCells_at P g (i * T.size) e (List.replicate (len - i) zcs).flatten 0 cur w hg (by rw [hfl]; omega) (by
    intro v hv
    obtain ⟨l, hl, hvl⟩ := List.mem_flatten.1 hv
    rw [(List.mem_replicate.1 hl).2] at hvl
    exact hz4 v hvl)
  rw [Nat.add_zero, hfl] at hst
  have hzc : (Builtin.zeroCells zv.cells (len - i)).toList = (List.replicate (len - i) zcs).flatten := by rw [hz2, zeroCells_flat]
  obtain ⟨m, hm⟩ : ∃ m, len - i = m + 1 := ⟨len - i - 1, by omega⟩
  rw [hm] at hst hzc ⊢
  simp only [List.append_assoc] at hst ⊢
  simp [Builtin.clear_, run_underlying ht, zeroValue, typeInfo, hie, hz1, hzc, hst]
end
end Go.Fr
