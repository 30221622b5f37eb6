/-
  Appends; one operation; a region in the order of its text. Conditions: none.
-/
import Derived.Test.YtkgmpnadgilpjaaFrK
namespace Go.Fr
open Go Go.RowKit
universe u

section
variable {P : Program} {E : Env} {B : Nat} {w0 w w' : World} {bs : Blks} {rs : Rows} {N : Names} {h h' : PHeap} {sl : Slots} {a : Act} {n : Nat}

/-! ### What is forgotten, what is put for what -/
theorem mapSlots_get (f : Leaf → Leaf) (hf : f .any = .any) : (sl : Slots) → ∀ t, getS (mapSlots f sl) t = (getS sl t).mapL f
  | [], t => by simp [mapSlots, getS, SV.mapL, hf]
  | (k, s) :: r, t => by
    show getS ((k, s.mapL f) :: mapSlots f r) t = _
    rw [getS_cons, getS_cons, mapSlots_get f hf r t]
    split <;> rfl
theorem mapBlks_get (f : Leaf → Leaf) : (bs : Blks) → ∀ i, getB (mapBlks f bs) i = (getB bs i).map fun b => ⟨b.ty, b.cells.map f⟩
  | [], i => rfl
  | (k, b) :: r, i => by
    show getB ((k, ⟨b.ty, b.cells.map f⟩) :: mapBlks f r) i = _
    rw [getB_cons, getB_cons, mapBlks_get f r i]
    split <;> rfl
theorem rmR_get : (rs : Rows) → ∀ r i, getR (rmR rs r) i = if r = i then none else getR rs i
  | [], r, i => by simp [rmR, getR]
  | (k, R) :: rs, r, i => by
    unfold rmR
    cases hb : Nat.beq k r with
    | true =>
      have := Nat.eq_of_beq_eq_true hb
      subst this
      rw [cond_true, rmR_get rs, getR_cons]
      split <;> simp [*]
    | false =>
      have := Nat.ne_of_beq_eq_false hb
      rw [cond_false, getR_cons, getR_cons, rmR_get rs]
      by_cases e : k = i
      · subst e; simp [Ne.symm this]
      · simp [e]

/-- A map of leaves under which whatever fitted fits. -/
def Keeps (N : Names) (h : PHeap) (N' : Names) (h' : PHeap) (f : Leaf → Leaf) : Prop := ∀ l v, l.rel N h v → (f l).rel N' h' v
theorem LeafRels.mapped {N' : Names} {f : Leaf → Leaf} (hf : Keeps N h N' h' f) : (ls : List Leaf) → (vs : List Value) → LeafRels N h ls vs → LeafRels N' h' (ls.map f) vs
  | [], [], _ => trivial
  | l :: ls, v :: vs, ⟨e1, e2⟩ => ⟨hf l v e1, LeafRels.mapped hf ls vs e2⟩
  | [], _ :: _, e => e.elim
  | _ :: _, [], e => e.elim
theorem SV.rel_mapped {N' : Names} {f : Leaf → Leaf} (hf : Keeps N h N' h' f) (hl : PLe h h') (s : SV) {v : Value} (hr : s.rel N h v) : (s.mapL f).rel N' h' v := by
  cases s with
  | leaf l => exact hf l v hr
  | agg ls =>
    obtain ⟨cs, e1, e2, e3⟩ := hr
    exact ⟨cs, e1, LeafRels.mapped hf ls cs e2, e3⟩
  | tupv t x =>
    obtain ⟨vs, e1, e2⟩ := hr
    exact ⟨vs, e1, trep_mono hl t x vs e2⟩
theorem SlotSat.mapped {N' : Names} {f : Leaf → Leaf} (h0 : f .any = .any) (hf : Keeps N h N' h' f) (hl : PLe h h') (hs : SlotSat sl N h a) : SlotSat (mapSlots f sl) N' h' a := fun t => by
  rw [mapSlots_get f h0]
  exact SV.rel_mapped hf hl _ (hs t)

theorem forget_keeps (r : Nat) : Keeps N h N h (forget r) := by
  intro l v hr
  cases l with
  | row i =>
    simp only [forget]
    cases Nat.beq i r with
    | true => trivial
    | false => exact hr
  | rptr i s j o =>
    simp only [forget]
    cases Nat.beq i r with
    | true => trivial
    | false => exact hr
  | _ => exact hr

/-- Only the cells' leaves change. -/
theorem MemSat.mapBlks {f : Leaf → Leaf} (hf : Keeps N h N h f) (hM : MemSat B w0 bs rs N h w) : MemSat B w0 (Go.Fr.mapBlks f bs) rs N h w := by
  have hget : ∀ i b, getB (Go.Fr.mapBlks f bs) i = some b → ∃ c, getB bs i = some c ∧ b = ⟨c.ty, c.cells.map f⟩ := by
    intro i b hb
    rw [mapBlks_get] at hb
    cases hc : getB bs i with
    | none => rw [hc] at hb; cases hb
    | some c => rw [hc] at hb; injection hb with hb; exact ⟨c, rfl, hb.symm⟩
  refine ⟨hM.below, hM.size, hM.pin, ?_, ?_, hM.row, hM.rowh, ?_, hM.rowr⟩
  · intro i b hb
    obtain ⟨c, hc, rfl⟩ := hget i b hb
    obtain ⟨cs, q1, q2, q3, q4⟩ := hM.blk i c hc
    exact ⟨cs, q1, LeafRels.mapped hf _ _ q2, q3, q4⟩
  · intro i j b c hb hc he
    obtain ⟨b', hb', _⟩ := hget i b hb
    obtain ⟨c', hc', _⟩ := hget j c hc
    exact hM.inj i j b' c' hb' hc' he
  · intro r R g i b hR hg hb
    obtain ⟨b', hb', _⟩ := hget i b hb
    exact hM.rowb r R g i b' hR hg hb'

theorem MemSat.rmRow (hM : MemSat B w0 bs rs N h w) (r : Nat) : MemSat B w0 bs (rmR rs r) N h w := by
  have hget : ∀ i R, getR (rmR rs r) i = some R → getR rs i = some R ∧ r ≠ i := by
    intro i R hR
    rw [rmR_get] at hR
    split at hR
    · cases hR
    · rename_i e; exact ⟨hR, e⟩
  exact ⟨hM.below, hM.size, hM.pin, hM.blk, hM.inj, fun i R hR => hM.row i R (hget i R hR).1, fun i R g hR => hM.rowh i R g (hget i R hR).1,
    fun i R g j b hR => hM.rowb i R g j b (hget i R hR).1, fun i j R S g hR hS => hM.rowr i j R S g (hget i R hR).1 (hget j S hS).1⟩

def Names.setR (N : Names) (d : Nat) (v : Value) : Names := { N with V := fun k => if k = d then v else N.V k }

/-- A row is named anew: what is behind it lies in a block that no other name has. -/
theorem MemSat.newR (hM : MemSat B w0 bs rs N h w) {d : Nat} {R : RowS} {v : Value} {cs : List Value} {row : Option Nat} (hb : Below B w0 w') (hsz : w.heap.size ≤ w'.heap.size)
    (hgr : ∀ k, k < w.heap.size → some k ≠ row → w'.heap[k]? = w.heap[k]?) (ho : w'.ownsRow B R.e R.t.size v R.xs.length cs) (hc : RowCells h R.t R.xs cs)
    (hfree : ∀ g, v.ownBlock = some g ∨ row = some g → h g = none ∧ (∀ i b, getB bs i = some b → N.ρ i ≠ g) ∧ (∀ s S, getR rs s = some S → (N.V s).ownBlock ≠ some g))
    (hn : anyBlks (Leaf.namesR d) bs = false) : MemSat B w0 bs ((d, R) :: rs) (N.setR d v) h w' := by
  have hV : ∀ (ls : List Leaf), anyLeaf (Leaf.namesR d) ls = false → ∀ l ∈ ls, ∀ i, Leaf.namesR i l = true → (N.setR d v).V i = N.V i := by
    intro ls hf l hl i hi
    simp only [Names.setR]
    rw [if_neg]
    intro e
    subst e
    rw [anyLeaf_false hf l hl] at hi
    cases hi
  refine ⟨hb, Nat.le_trans hM.size hsz, ?_, ?_, hM.inj, ?_, ?_, ?_, ?_⟩
  · intro k o hk
    have hlt := hM.pin.lt hk
    rw [hgr k hlt (fun e => by rw [(hfree k (.inr e.symm)).1] at hk; cases hk)]
    exact hM.pin k o hk
  · intro i b hi
    obtain ⟨ds, q1, q2, q3, q4, q5⟩ := hM.blk i b hi
    exact ⟨ds, by rw [show (N.setR d v).ρ i = N.ρ i from rfl, hgr _ (lt_of_heap q1) (fun e => (hfree _ (.inr e.symm)).2.1 i b hi rfl)]; exact q1, LeafRels.names _ _ q2 (fun _ _ _ _ => rfl) (hV _ (anyBlks_false hn i b hi)), q3, q4, q5⟩
  · intro r S hS
    rw [getR_cons] at hS
    simp only [Names.setR]
    by_cases e : d = r
    · subst e
      rw [if_pos rfl] at hS ⊢
      injection hS with hS; subst hS
      exact ⟨cs, ho, hc⟩
    · rw [if_neg e] at hS
      rw [if_neg (fun hh => e hh.symm)]
      obtain ⟨ds, q1, q2⟩ := hM.row r S hS
      refine ⟨ds, ⟨q1.1, ?_⟩, q2⟩
      rcases q1.2 with h0 | ⟨g, cap, cur, e1, e2, e3, e4⟩
      · exact .inl h0
      · exact .inr ⟨g, cap, cur, e1, e2, by rw [hgr g (lt_of_heap e3) (fun hh => (hfree g (.inr hh.symm)).2.2 r S hS (by rw [e1]; rfl))]; exact e3, e4⟩
  · intro r S g hS hg
    rw [getR_cons] at hS
    simp only [Names.setR] at hg
    by_cases e : d = r
    · subst e
      rw [if_pos rfl] at hg
      exact (hfree g (.inl hg)).1
    · rw [if_neg e] at hS
      rw [if_neg (fun hh => e hh.symm)] at hg
      exact hM.rowh r S g hS hg
  · intro r S g i b hS hg hi
    rw [getR_cons] at hS
    simp only [Names.setR] at hg ⊢
    by_cases e : d = r
    · subst e
      rw [if_pos rfl] at hg
      exact (hfree g (.inl hg)).2.1 i b hi
    · rw [if_neg e] at hS
      rw [if_neg (fun hh => e hh.symm)] at hg
      exact hM.rowb r S g i b hS hg hi
  · intro r s R1 R2 g h1 h2 g1 g2
    rw [getR_cons] at h1 h2
    simp only [Names.setR] at g1 g2
    by_cases e1 : d = r
    · by_cases e2 : d = s
      · omega
      · rw [if_neg e2] at h2
        rw [if_pos e1.symm] at g1
        rw [if_neg (fun hh => e2 hh.symm)] at g2
        exact absurd g2 ((hfree g (.inl g1)).2.2 s R2 h2)
    · rw [if_neg e1] at h1
      rw [if_neg (fun hh => e1 hh.symm)] at g1
      by_cases e2 : d = s
      · rw [if_pos e2.symm] at g2
        exact absurd g1 ((hfree g (.inl g2)).2.2 r R1 h1)
      · rw [if_neg e2] at h2
        rw [if_neg (fun hh => e2 hh.symm)] at g2
        exact hM.rowr r s R1 R2 g h1 h2 g1 g2

/-- The cells of a list that is known element by element. -/
theorem list_cells (t : Ty) (ad : Addr) : (ys : List t.den) → (k : Nat) → (∀ (i : Nat) x, ys[i]? = some x → ∃ ds, rep h t x ds ∧ CellsAt h (ad.add ((k + i) * t.size)) ds) →
    ∃ news, RowCells h t ys news ∧ ∀ (j : Nat) u, news[j]? = some u → hcell h (ad.add (k * t.size + j)) = some u
  | [], k, _ => ⟨[], rfl, fun j u hu => by simp at hu⟩
  | y :: ys, k, hy => by
    obtain ⟨ds, g1, g2⟩ := hy 0 y rfl
    obtain ⟨news, q1, q2⟩ := list_cells t ad ys (k + 1) fun i x hx => by
      obtain ⟨es, p1, p2⟩ := hy (i + 1) x (by simpa using hx)
      exact ⟨es, p1, by rw [show k + 1 + i = k + (i + 1) by omega]; exact p2⟩
    have hl := rep_len t y ds g1
    refine ⟨ds ++ news, ⟨ds, news, rfl, g1, q1⟩, fun j u hu => ?_⟩
    by_cases hj : j < ds.length
    · rw [List.getElem?_append_left hj] at hu
      have := g2 j u hu
      rw [add_add, Nat.add_zero] at this
      exact this
    · rw [List.getElem?_append_right (by omega)] at hu
      have := q2 _ u hu
      rw [show (k + 1) * t.size + (j - ds.length) = k * t.size + j by rw [Nat.add_mul]; omega] at this
      exact this

theorem run_append_nil_src (base : Nat) (t ty e : TypeId) (i : TypeInfo) (size : Nat) (ht : P.underlying t = some (.slice e)) (hi : P.info? e = some i)
    (v : Value) (n : Nat) (xs : List Value) (hown : w.ownsRow base e size v n xs) (c : Nat) : (Builtin.append_ #[t, t] ty #[v, .slice none 0 c]).run P w = .ok v w := by
  rcases hown.2 with ⟨rfl, rfl⟩ | ⟨g, cap, cur, rfl, _, _, hnc, _⟩
  · simp [Builtin.append_, run_underlying ht, sizeOf, typeInfo, hi, Builtin.lenOf, Builtin.firstCells]
  · simp [Builtin.append_, run_underlying ht, sizeOf, typeInfo, hi, Builtin.lenOf, Builtin.firstCells, hnc, storeCells]

/-- An append to a row that is owned. -/
theorem append_run {t te : TypeId} {tei : TI} (hTe : TIok P te tei) (ht : P.underlying t = some (.slice te)) (hz : tei.zero.length = tei.size) (h1 : 1 ≤ tei.size) {T : Ty} (hTs : tei.size = T.size)
    {v : Value} {xs ys : List T.den} {cs : List Value} (hB : B ≤ w.heap.size) (ho : w.ownsRow B te T.size v xs.length cs) (hc : RowCells h T xs cs) (hp : PIn h w)
    {u : Value} (hu : vrep h (.sl T) ys u) (hb : (xs.length + ys.length) * tei.bytes ≤ 140737488355328) (hm : xs.length + ys.length ≤ maxLen) (ty : TypeId) :
    ∃ v' w' cs', (Builtin.append_ #[t, t] ty #[v, u]).run P w = .ok v' w' ∧ w'.ownsRow B te T.size v' (xs ++ ys).length cs' ∧ RowCells h T (xs ++ ys) cs' ∧ w.grownBy w' v.ownBlock ∧ (v'.ownBlock = v.ownBlock ∨ v'.ownBlock = some w.heap.size) := by
  obtain ⟨i, hi, hsz, hby, hzz⟩ := hTe.info
  obtain ⟨z, hz1, zcs, hz2, hz3, _⟩ := hzz hz
  have hzs : z.cells.size = T.size := by
    rw [hz2, ← hTs, ← hz]
    have := LeafRels.length _ _ (hz3 ⟨fun k => k, fun _ => .nilFunc⟩ h)
    simp [this]
  obtain ⟨us, g1, rfl⟩ := hu
  obtain ⟨A, c, rfl, g2, g3, g4⟩ := g1
  cases A with
  | none =>
    have hy := g3 rfl
    subst hy
    exact ⟨v, w, cs, run_append_nil_src B t ty te i T.size ht hi v _ _ ho c, by simpa using ho, by simpa using hc, World.grownBy.refl w _, .inl rfl⟩
  | some ad =>
    obtain ⟨news, q1, q2⟩ := list_cells (h := h) T ad ys 0 fun i x hx => by
      obtain ⟨ds, p1, p2⟩ := g4 i x ad hx rfl
      exact ⟨ds, p1, by rw [Nat.zero_add]; exact p2⟩
    obtain ⟨v', w', hr, e1, e2, _, e3⟩ := run_append_own_at (P := P) w B t ty te i z T.size tei.bytes ht hi hz1 (by omega) hby hzs (by omega) v xs.length cs ho ad ys.length c news
      (RowCells_len T ys news q1) (fun j u hu => cell_of_hcell hp (by have := q2 j u hu; simpa using this)) (RowCells_one T ys news q1) hm hb hB
    exact ⟨v', w', cs ++ news, hr, by rw [List.length_append]; exact e1, RowCells_append T xs ys cs news hc q1, e2, e3⟩
end
end Go.Fr
