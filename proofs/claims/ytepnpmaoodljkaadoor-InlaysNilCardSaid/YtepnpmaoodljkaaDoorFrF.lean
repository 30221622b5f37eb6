/-
  What the program's tables must say; callees' contracts; how single operations run. Conditions: none.
-/
import Derived.Test.YtepnpmaoodljkaaDoorFrE
import Derived.Great.BuildSlice
namespace Go.Fr
open Go Go.RowKit
universe u

def ZeroCells (ls : List Leaf) (cs : List Value) : Prop := ∀ N h, LeafRels N h ls cs
def aggDesc : TypeDesc → Bool
  | .struct _ => true
  | .array .. => true
  | _ => false

def scalarDesc : TypeDesc → Bool
  | .int _ => true
  | .string => true
  | .bool => true
  | _ => false
/-- Keys that can be held against each other: numbers, texts, and structs of these. -/
def keyB (P : Program) (k : TypeId) : Bool :=
  match P.underlying k with
  | some (.struct gs) => match P.info? k with
    | some i => gs.toList.all fun g => match P.underlying g.type with
      | some d => scalarDesc d && decide (g.offset < i.size)
      | none => false
    | none => false
  | some d => scalarDesc d
  | none => false
/-- The zero value is laid as its type is. -/
def zeroMB (P : Program) (e : TypeId) : Bool :=
  match P.info? e, P.underlying e with
  | some i, some d => match i.zero with
    | some (.agg _) => aggDesc d
    | some _ => !(aggDesc d)
    | none => false
  | _, _ => false
structure TIok (P : Program) (t : TypeId) (ti : TI) : Prop where
  info : ∃ i, P.info? t = some i ∧ i.size = ti.size ∧ i.bytes = ti.bytes ∧ (ti.zero.length = ti.size → ∃ z, i.zero = some z ∧ ∃ cs : List Value, z.cells = cs.toArray ∧ ZeroCells ti.zero cs ∧ ∀ u ∈ cs, u.oneCell' = true)
  und : ∃ d, P.underlying t = some d ∧ aggDesc d = ti.isAgg ∧ match ti.k with
    | .bool => d = .bool
    | .int k => d = .int k
    | .str => d = .string
    | .struct fs => ∃ gs : Array Field, d = .struct gs ∧ gs.size = fs.length ∧ ∀ (n : Nat) f, fs[n]? = some f → ∃ g i e, gs[n]? = some g ∧ g.offset = f.1 ∧ P.info? g.type = some i ∧ i.size = f.2.1 ∧ P.underlying g.type = some e ∧ aggDesc e = f.2.2
    | .array n e es => d = .array n e ∧ ∃ i, P.info? e = some i ∧ i.size = es
    | .slice e => d = .slice e
    | .ptr e => d = .pointer e
    | .map k e => d = .map k e ∧ keyB P k = true ∧ zeroMB P e = true
    | .iface => d = .interface #[]
    | .other => True
  ty : ∀ T, ti.ty = some T → T.size = ti.size ∧ T.isAgg = ti.isAgg ∧ (T.plain = true → ∀ x y h cs ds w xo yo op, rep h T x cs → rep h T y ds →
    (eqGuard op t xo yo (T.val cs) (T.val ds)).run P w = .ok () w ∧ (Op.equal t (T.val cs) (T.val ds)).run P w = .ok (T.beq x y) w)
  zm : ∀ e, ti.k = .ptr e → zeroMB P t = true

def resRep (h : PHeap) (C : Contract) (y : C.res.den) (v : Value) : Prop :=
  match C.one with
  | true => vrep h C.res y v
  | false => ∃ vs : List Value, v = .tuple vs.toArray ∧ trep h C.res y vs

/-- A slice of a call's own. -/
def ownRep (B : Nat) (w : World) (h : PHeap) (e : TypeId) : (T : Ty) → T.den → Value → Prop
  | .sl t, xs, v => (∃ cs, w.ownsRow B e t.size v xs.length cs ∧ RowCells h t xs cs) ∧ ∀ g, v.ownBlock = some g → h g = none
  | _, _, _ => False
def resOr (B : Nat) (w : World) (h : PHeap) (C : Contract) (y : C.res.den) (v : Value) : Prop :=
  match C.own with
  | none => resRep h C y v
  | some e => ownRep B w h e C.res y v
/-- What a callee is good for: from any world in which the arguments read as data it comes back with what its function gives; what was there is as it was. -/
def GlobOk (G : Nat → Option ((t : Ty) × t.den)) (h : PHeap) : Prop := ∀ g T x, G g = some ⟨T, x⟩ → ∃ cs, rep h T x cs ∧ CellsAt h ⟨g, 0, none⟩ cs
theorem GlobOk.mono {G : Nat → Option ((t : Ty) × t.den)} {h h' : PHeap} (hl : PLe h h') (e : GlobOk G h) : GlobOk G h' := fun g T x hg => by
  obtain ⟨cs, q1, q2⟩ := e g T x hg
  exact ⟨cs, rep_mono hl T x cs q1, fun j u hu => hcell_mono hl (q2 j u hu)⟩

def tailVals (l : List FuncId) : List Value := l.map fun f => .func (.func f) #[] #[]
def CallSpec (P : Program) (G : Nat → Option ((t : Ty) × t.den)) (f : FuncId) (C : Contract) : Prop :=
  (∃ fn c, P.funcs[f]? = some fn ∧ fn.name ≠ "runtime.NumGoroutine" ∧ fn.body = some c) ∧
  ∀ x (h : PHeap) (w : World) (args : List Value), C.pre x → trep h C.arg x args → PIn h w → GlobOk G h →
    Calls P f (args ++ tailVals C.tail).toArray w fun e w' => ∃ v h', e = .returned v ∧ PLe h h' ∧ (∀ k, h' k ≠ none → h k ≠ none ∨ w.heap.size ≤ k) ∧ PIn h' w' ∧ resOr w.heap.size w' h' C (C.fn x) v ∧ Below w.heap.size w w'

def opsBd (n : Nat) : List Oper → Bool
  | [] => true
  | o :: r => (match o.dst with | some t => Nat.blt t n | none => true) && opsBd n r
def codeBd (n : Nat) : Code → Bool
  | .region _ ops draw => opsBd n ops.toList && (match draw with | true => okOps ops.toList 0 ops.toList | false => true)
  | .seq a b => codeBd n a && codeBd n b
  | .cond _ a b => codeBd n a && codeBd n b
  | .block _ b => codeBd n b
  | .loop b => codeBd n b
  | _ => true


structure InlOk (P : Program) (f : FuncId) (F : Inl) : Prop where
  fn : ∃ fn, P.funcs[f]? = some fn ∧ fn.name ≠ "runtime.NumGoroutine" ∧ fn.body = some F.body ∧ fn.ntmps = F.n ∧ fn.results.toList = F.res
  bd : codeBd F.n F.body = true

/-- What a callee that turns a row is good for. -/
def RSpec (P : Program) (f : FuncId) (C : RContract) : Prop :=
  (∃ fn c, P.funcs[f]? = some fn ∧ fn.name ≠ "runtime.NumGoroutine" ∧ fn.body = some c) ∧
  ∀ (xs : List C.t.den) (h : PHeap) (w : World) (B : Nat) (v : Value) (cs : List Value), C.pre xs → PIn h w → B ≤ w.heap.size → w.ownsRow B C.e C.t.size v xs.length cs → RowCells h C.t xs cs → (∀ g, v.ownBlock = some g → h g = none) →
    Calls P f ([v] ++ tailVals C.tail).toArray w fun e w' => ∃ u v' ys cs', e = .returned u ∧ C.post xs ys ∧ w'.ownsRow B C.e C.t.size v' ys.length cs' ∧ RowCells h C.t ys cs' ∧ GrownBy w w' v.ownBlock ∧
      (∀ g, v'.ownBlock = some g → v.ownBlock = some g ∨ w.heap.size ≤ g) ∧ (match C.back with | true => u = v' | false => v' = v)

structure EnvOk (P : Program) (E : Env) : Prop where
  tt : ∀ t ti, E.tt t = some ti → TIok P t ti
  ct : ∀ f C, E.ct f = some C → CallSpec P E.gl f C
  inl : ∀ f F, E.inl f = some F → InlOk P f F
  rct : ∀ f C, E.rct f = some C → RSpec P f C

section
variable {B : Nat} {w0 w w' : World} {bs : Blks} {rs : Rows} {N : Names} {h h' : PHeap}

theorem PIn.lt {k : Nat} {o : Obj} (hp : PIn h w) (hk : h k = some o) : k < w.heap.size := by
  rcases Nat.lt_or_ge k w.heap.size with hl | hg
  · exact hl
  · have := hp k o hk
    rw [Array.getElem?_eq_none hg] at this
    cases this
theorem lt_of_heap {k : Nat} {o : Obj} (hk : w.heap[k]? = some o) : k < w.heap.size := (Array.getElem?_eq_some_iff.1 hk).1

theorem ownBlock_lt {r : Nat} {R : RowS} {g : Nat} (hM : MemSat B w0 bs rs N h w) (hR : getR rs r = some R) (hg : (N.V r).ownBlock = some g) : B ≤ g ∧ g < w.heap.size := by
  obtain ⟨cs, ho, _⟩ := hM.row r R hR
  exact ho.lt g hg

/-- The memory has grown, and no block that was there has turned. -/
theorem MemSat.grow (hM : MemSat B w0 bs rs N h w) (hl : PLe h h') (hf : ∀ k, h' k ≠ none → h k ≠ none ∨ w.heap.size ≤ k) (hp : PIn h' w') (hb : Below w.heap.size w w') : MemSat B w0 bs rs N h' w' := by
  have hnone : ∀ k, k < w.heap.size → h k = none → h' k = none := fun k hk hn => by
    cases e : h' k with
    | none => rfl
    | some o =>
      rcases hf k (by rw [e]; simp) with g | g
      · exact absurd hn g
      · omega
  refine ⟨hM.below.trans (hb.mono hM.size), Nat.le_trans hM.size hb.size, hp, ?_, hM.inj, ?_, ?_, hM.rowb, hM.rowr⟩
  · intro i b hi
    obtain ⟨o, h1, h2, h4, h5⟩ := hM.blk i b hi
    have hlt := lt_of_heap h1
    exact ⟨o, (hb.block _ hlt).trans h1, h2.mono hl, h4, hnone _ hlt h5⟩
  · intro r R hR
    obtain ⟨cs, h1, h2⟩ := hM.row r R hR
    refine ⟨cs, ⟨h1.1, ?_⟩, RowCells_mono hl _ _ _ h2⟩
    rcases h1.2 with h0 | ⟨g, cap, cur, e1, e2, e3, e4⟩
    · exact .inl h0
    · exact .inr ⟨g, cap, cur, e1, e2, (hb.block _ (lt_of_heap e3)).trans e3, e4⟩
  · intro r R g hR hg
    exact hnone g (ownBlock_lt hM hR hg).2 (hM.rowh r R g hR hg)

theorem SlotSat.mono {sl : Slots} {v : Nat → Value} (hl : PLe h h') (hs : SlotSat sl N h v) : SlotSat sl N h' v := fun t => SV.rel_mono hl _ _ (hs t)

/-- A new block of data. -/
def hnew (h : PHeap) (g : Nat) (o : Obj) : PHeap := fun k => if k = g then some o else h k
theorem hnew_le {g : Nat} {o : Obj} (hn : h g = none) : PLe h (hnew h g o) := fun k p e => by
  unfold hnew
  rw [if_neg]
  · exact e
  · intro hk; subst hk; rw [hn] at e; cases e
theorem hnew_in {g : Nat} {o : Obj} (hp : PIn h w) (hg : w.heap[g]? = some o) : PIn (hnew h g o) w := fun k p e => by
  unfold hnew at e
  split at e
  · rename_i hk; subst hk; injection e with e; subst e; exact hg
  · exact hp k p e
end

/-! ### Runs -/
section
variable {P : Program} {w : World}

theorem run_typeInfo_of {t : TypeId} {i : TypeInfo} (hi : P.info? t = some i) : (typeInfo t).run P w = .ok i w := by simp [typeInfo, hi]
theorem run_sizeOf_of {t : TypeId} {i : TypeInfo} (hi : P.info? t = some i) : (sizeOf t).run P w = .ok i.size w := by simp [sizeOf, typeInfo, hi]
theorem run_isAgg_of {t : TypeId} {d : TypeDesc} (hd : P.underlying t = some d) : (isAgg t).run P w = .ok (aggDesc d) w := by
  cases d <;> simp [isAgg, run_underlying hd, aggDesc]

theorem TIok.size_run {t : TypeId} {ti : TI} (hT : TIok P t ti) : (sizeOf t).run P w = .ok ti.size w := by
  obtain ⟨i, h1, h2, _⟩ := hT.info
  rw [run_sizeOf_of h1, h2]
theorem TIok.agg_run {t : TypeId} {ti : TI} (hT : TIok P t ti) : (isAgg t).run P w = .ok ti.isAgg w := by
  obtain ⟨d, h1, h2, _⟩ := hT.und
  rw [run_isAgg_of h1, h2]

/-- A variable of so many cells is loaded. -/
theorem run_loadVar_of {t : TypeId} {ti : TI} (hT : TIok P t ti) (a : Addr) (cs : List Value) (hl : cs.length = ti.size) (hc : ∀ (j : Nat) u, cs[j]? = some u → w.cell? (a.add j) = some u) :
    (loadVar t a).run P w = if ti.isAgg then .ok (.agg cs.toArray) w else (load a).run P w := by
  unfold loadVar
  simp only [Sem.run_bind, hT.agg_run, Result.andThen_ok]
  cases ti.isAgg with
  | true =>
    simp only [if_true, Sem.run_bind, hT.size_run, Result.andThen_ok, ← hl, run_loadCells_list w a cs hc, Sem.run_pure]
  | false => simp

theorem add_add (a : Addr) (i j : Nat) : (a.add i).add j = a.add (i + j) := by
  unfold Addr.add
  by_cases hi : i = 0 <;> by_cases hj : j = 0 <;> simp [hi, hj, Nat.add_assoc]
theorem add_lit (g o n : Nat) : (⟨g, o, none⟩ : Addr).add n = ⟨g, o + n, none⟩ := by
  unfold Addr.add
  by_cases hn : n = 0 <;> simp [hn]

theorem run_load_cell {a : Addr} {u : Value} (hc : w.cell? a = some u) : (load a).run P w = .ok u w := by simp [hc]

/-- A load, of a struct or of one cell, where the cells are known. -/
theorem run_loadAt_of {t : TypeId} {ti : TI} (hT : TIok P t ti) (a : Addr) (cs : List Value) (hl : cs.length = ti.size) (hc : ∀ (j : Nat) u, cs[j]? = some u → w.cell? (a.add j) = some u)
    (h1 : ti.isAgg = false → ∃ u, cs[0]? = some u) :
    (Instr.loadAt t (.pointer (some a))).run P w = .ok (if ti.isAgg then .agg cs.toArray else cs.headD undef) w := by
  unfold Instr.loadAt Instr.sureAddr
  simp only [Sem.run_bind, Sem.run_pure, Result.andThen_ok]
  rw [run_loadVar_of hT a cs hl hc]
  cases ha : ti.isAgg with
  | true => simp
  | false =>
    obtain ⟨u, hu⟩ := h1 ha
    have hc0 := hc 0 u hu
    rw [show a.add 0 = a from rfl] at hc0
    simp only [Bool.false_eq_true, if_false]
    rw [run_load_cell hc0]
    cases cs with
    | nil => cases hu
    | cons x r => simp at hu; subst hu; rfl

/-- 'fill' one part further. -/
theorem foldl_set (off : Nat) : ∀ (ds : List Value) (j : Nat) (cells : Array Value), off + j + ds.length ≤ cells.size →
    ((ds.zipIdx j).foldl (fun cs (x : Value × Nat) => cs.setIfInBounds (off + x.2) x.1) cells).toList = cells.toList.take (off + j) ++ ds ++ cells.toList.drop (off + j + ds.length)
  | [], j, cells, _ => by simp
  | d :: ds, j, cells, hl => by
    simp only [List.zipIdx_cons, List.foldl_cons]
    simp only [List.length_cons] at hl
    rw [foldl_set off ds (j + 1) _ (by simp; omega)]
    have hlt : off + j < cells.toList.length := by simp; omega
    rw [Array.toList_setIfInBounds]
    rw [show off + (j + 1) = (off + j) + 1 by omega]
    rw [List.take_succ_eq_append_getElem (by simp; omega)]
    rw [List.take_set_of_le (by omega)]
    simp only [List.getElem_set_self, List.append_assoc, List.cons_append, List.nil_append, List.length_cons]
    rw [List.drop_set_of_lt (by omega)]
    rw [show off + j + 1 + ds.length = off + j + (ds.length + 1) by omega]
end
end Go.Fr
