/-
  What a symbolic state says of a world; values and cells. Conditions: none.
-/
import Derived.Test.YtepnpmaoodljkaaDoorFrD1
namespace Go.Fr
open Go Go.RowKit
universe u

def RowCells (h : PHeap) (t : Ty) : List t.den → List Value → Prop
  | [], cs => cs = []
  | x :: xs, cs => ∃ d r, cs = d ++ r ∧ rep h t x d ∧ RowCells h t xs r

/-- What a map's entries read as. -/
def MapRep (h : PHeap) (K V : Ty) : List (K.den × V.den × Unit) → List MapEntry → Prop
  | [], es => es = []
  | x :: xs, es => ∃ e r, es = e :: r ∧ vrep h K x.1 e.key ∧ vrep h V x.2.1 e.val ∧ MapRep h K V xs r
theorem MapRep.mono {h h' : PHeap} (hl : PLe h h') {K V : Ty} : (xs : List (K.den × V.den × Unit)) → (es : List MapEntry) → MapRep h K V xs es → MapRep h' K V xs es
  | [], _, e => e
  | _ :: xs, _, ⟨e, r, q, h1, h2, h3⟩ => ⟨e, r, q, vrep_mono hl h1, vrep_mono hl h2, MapRep.mono hl xs r h3⟩
theorem MapRep.len {h : PHeap} {K V : Ty} : (xs : List (K.den × V.den × Unit)) → (es : List MapEntry) → MapRep h K V xs es → es.length = xs.length
  | [], _, e => by simp only [MapRep] at e; subst e; rfl
  | _ :: xs, _, ⟨e, r, q, _, _, h3⟩ => by subst q; simp [MapRep.len xs r h3]
theorem MapRep.pt {h : PHeap} {K V : Ty} : (xs : List (K.den × V.den × Unit)) → (es : List MapEntry) → MapRep h K V xs es → ∀ (i : Nat) x e, xs[i]? = some x → es[i]? = some e → vrep h K x.1 e.key ∧ vrep h V x.2.1 e.val
  | [], _, _, _, _, _, hx, _ => by simp at hx
  | _ :: xs, _, ⟨e, r, q, h1, h2, h3⟩, i, x, en, hx, he => by
    subst q
    cases i with
    | zero => simp at hx he; subst hx he; exact ⟨h1, h2⟩
    | succ i => exact MapRep.pt xs r h3 i x en (by simpa using hx) (by simpa using he)
theorem MapRep.of {h : PHeap} {K V : Ty} : (xs : List (K.den × V.den × Unit)) → (es : List MapEntry) → es.length = xs.length → (∀ (i : Nat) x e, xs[i]? = some x → es[i]? = some e → vrep h K x.1 e.key ∧ vrep h V x.2.1 e.val) → MapRep h K V xs es
  | [], es, hl, _ => by
    simp only [MapRep]
    exact List.eq_nil_of_length_eq_zero hl
  | _ :: _, [], hl, _ => by simp at hl
  | x :: xs, e :: r, hl, hp => ⟨e, r, rfl, (hp 0 x e rfl rfl).1, (hp 0 x e rfl rfl).2, MapRep.of xs r (by simpa using hl) fun i y en hy he => hp (i + 1) y en (by simpa using hy) (by simpa using he)⟩
/-- A map as data. -/
theorem mp_rep {h : PHeap} {K V : Ty} {xs : List (K.den × V.den × Unit)} {cs : List Value} : rep h (.mp K V) xs cs ↔ (xs = [] ∧ cs = [.map none]) ∨ ∃ (g : Nat) (es : Array MapEntry) (cl : Nat), cs = [.map (some g)] ∧ h g = some (.map es cl) ∧ MapRep h K V xs es.toList := by
  simp only [rep]
  constructor
  · rintro (e | ⟨g, es, cl, e1, e2, e3, e4⟩)
    · exact .inl e
    · exact .inr ⟨g, es, cl, e1, e2, MapRep.of xs _ e3 e4⟩
  · rintro (e | ⟨g, es, cl, e1, e2, e3⟩)
    · exact .inl e
    · exact .inr ⟨g, es, cl, e1, e2, MapRep.len xs _ e3, MapRep.pt xs _ e3⟩
/-- What a block is. -/
def BlkSat (N : Names) (h : PHeap) (b : Blk) (o : Obj) : Prop :=
  match b.it with
  | none => ∃ cs : List Value, o = .cells cs.toArray b.ty (0, 0) ∧ LeafRels N h b.cells cs ∧ ∀ u ∈ cs, u.oneCell' = true
  | some (.str s p) => o = .stringIter s p
  | some .map => ∃ (K V : Ty) (xs : List (K.den × V.den × Unit)) (es : Array MapEntry) (cl : Nat), b.cells = [.tv (mapT K V) xs] ∧ o = .map es cl ∧ MapRep h K V xs es.toList

structure MemSat (B : Nat) (w0 : World) (bs : Blks) (rs : Rows) (N : Names) (h : PHeap) (w : World) : Prop where
  below : Below B w0 w
  size : B ≤ w.heap.size
  pin : PIn h w
  blk : ∀ i b, getB bs i = some b → ∃ o, w.heap[N.ρ i]? = some o ∧ BlkSat N h b o ∧ B ≤ N.ρ i ∧ h (N.ρ i) = none
  inj : ∀ i j b c, getB bs i = some b → getB bs j = some c → N.ρ i = N.ρ j → i = j
  row : ∀ r R, getR rs r = some R → ∃ cs, w.ownsRow B R.e R.t.size (N.V r) R.xs.length cs ∧ RowCells h R.t R.xs cs
  rowh : ∀ r R g, getR rs r = some R → (N.V r).ownBlock = some g → h g = none
  rowb : ∀ r R g i b, getR rs r = some R → (N.V r).ownBlock = some g → getB bs i = some b → N.ρ i ≠ g
  rowr : ∀ r s R S g, getR rs r = some R → getR rs s = some S → (N.V r).ownBlock = some g → (N.V s).ownBlock = some g → r = s

/-- What the slots' values are: those below the frame's first one are given. -/
def vals (b : Nat) (u : Nat → Value) (a : Act) (t : Nat) : Value := if t < b then u t else a.tmps.getD (t - b) undef
theorem vals_at (b : Nat) (u : Nat → Value) (a : Act) (t : Nat) : vals b u a (b + t) = a.tmps.getD t undef := by
  unfold vals
  rw [if_neg (by omega), Nat.add_sub_cancel_left]
def SlotSat (sl : Slots) (N : Names) (h : PHeap) (v : Nat → Value) : Prop := ∀ t, (getS sl t).rel N h (v t)

theorem BlkSat.mono {N : Names} {h h' : PHeap} (hl : PLe h h') {b : Blk} {o : Obj} (e : BlkSat N h b o) : BlkSat N h' b o := by
  unfold BlkSat at e ⊢
  split at e
  · obtain ⟨cs, q1, q2, q3⟩ := e
    exact ⟨cs, q1, LeafRels.mono hl _ _ q2, q3⟩
  · exact e
  · obtain ⟨K, V, xs, es, cl, q1, q2, q3⟩ := e
    exact ⟨K, V, xs, es, cl, q1, q2, MapRep.mono hl _ _ q3⟩
theorem BlkSat.map {N : Names} {h : PHeap} {t : TypeId} {ls : List Leaf} {o : Obj} : BlkSat N h ⟨t, ls, some .map⟩ o ↔ ∃ (K V : Ty) (xs : List (K.den × V.den × Unit)) (es : Array MapEntry) (cl : Nat), ls = [.tv (mapT K V) xs] ∧ o = .map es cl ∧ MapRep h K V xs es.toList := Iff.rfl
theorem BlkSat.cells {N : Names} {h : PHeap} {t : TypeId} {ls : List Leaf} {o : Obj} : BlkSat N h ⟨t, ls, none⟩ o ↔ ∃ cs : List Value, o = .cells cs.toArray t (0, 0) ∧ LeafRels N h ls cs ∧ ∀ u ∈ cs, u.oneCell' = true := Iff.rfl
theorem BlkSat.iter {N : Names} {h : PHeap} {t : TypeId} {ls : List Leaf} {s : ByteArray} {p : Nat} {o : Obj} : BlkSat N h ⟨t, ls, some (.str s p)⟩ o ↔ o = .stringIter s p := Iff.rfl

theorem RowCells_mono {h h' : PHeap} (hl : PLe h h') (t : Ty) : (xs : List t.den) → (cs : List Value) → RowCells h t xs cs → RowCells h' t xs cs
  | [], _, e => e
  | x :: xs, _, ⟨d, r, e, h1, h2⟩ => ⟨d, r, e, rep_mono hl t x d h1, RowCells_mono hl t xs r h2⟩
theorem RowCells_append {h : PHeap} (t : Ty) : (xs ys : List t.den) → (cs ds : List Value) → RowCells h t xs cs → RowCells h t ys ds → RowCells h t (xs ++ ys) (cs ++ ds)
  | [], _, _, _, e, e' => by simp only [RowCells] at e; subst e; exact e'
  | x :: xs, ys, _, ds, ⟨d, r, e, h1, h2⟩, e' => ⟨d, r ++ ds, by rw [e, List.append_assoc], h1, RowCells_append t xs ys r ds h2 e'⟩
theorem RowCells_len {h : PHeap} (t : Ty) : (xs : List t.den) → (cs : List Value) → RowCells h t xs cs → cs.length = xs.length * t.size
  | [], _, e => by simp only [RowCells] at e; subst e; simp
  | x :: xs, _, ⟨d, r, e, h1, h2⟩ => by
    rw [e, List.length_append, rep_len t x d h1, RowCells_len t xs r h2, List.length_cons, Nat.add_mul]
    omega
theorem RowCells_one {h : PHeap} (t : Ty) : (xs : List t.den) → (cs : List Value) → RowCells h t xs cs → ∀ u ∈ cs, u.oneCell' = true
  | [], _, e => by simp only [RowCells] at e; subst e; simp
  | x :: xs, _, ⟨d, r, e, h1, h2⟩ => by
    subst e
    intro u hu
    rcases List.mem_append.1 hu with hu | hu
    · exact rep_one t x d h1 u hu
    · exact RowCells_one t xs r h2 u hu
/-- The i-th element's cells. -/
theorem RowCells_at {h : PHeap} (t : Ty) : (xs : List t.den) → (cs : List Value) → RowCells h t xs cs → ∀ (i : Nat) x, xs[i]? = some x → ∃ ds, rep h t x ds ∧ ∀ (j : Nat) u, ds[j]? = some u → cs[i * t.size + j]? = some u
  | [], _, _, i, x, hx => by simp at hx
  | y :: xs, _, ⟨d, r, e, h1, h2⟩, 0, x, hx => by
    simp at hx; subst hx; subst e
    refine ⟨d, h1, fun j u hu => ?_⟩
    rw [Nat.zero_mul, Nat.zero_add, List.getElem?_append_left (List.getElem?_eq_some_iff.1 hu).1]
    exact hu
  | y :: xs, _, ⟨d, r, e, h1, h2⟩, i + 1, x, hx => by
    subst e
    obtain ⟨ds, g1, g2⟩ := RowCells_at t xs r h2 i x (by simpa using hx)
    refine ⟨ds, g1, fun j u hu => ?_⟩
    have hd := rep_len t y d h1
    rw [List.getElem?_append_right (by rw [hd, Nat.add_mul]; omega), hd]
    rw [show (i + 1) * t.size + j - t.size = i * t.size + j by rw [Nat.add_mul]; omega]
    exact g2 j u hu

theorem val_cells {h : PHeap} (t : Ty) (x : t.den) (cs : List Value) (hr : rep h t x cs) : (t.val cs).cells = cs.toArray := by
  cases t with
  | unit => rfl
  | pair a b => rfl
  | bool => simp only [rep] at hr; subst hr; rfl
  | int k => simp only [rep] at hr; subst hr; rfl
  | str => simp only [rep] at hr; subst hr; rfl
  | sl t => obtain ⟨A, c, rfl, _⟩ := hr; rfl
  | opt t => rcases hr with ⟨_, rfl⟩ | ⟨y, ad, ds, _, rfl, _⟩ <;> rfl
  | mp _ _ => rcases hr with ⟨_, rfl⟩ | ⟨g, es, cl, rfl, _⟩ <;> rfl
  | nd _ _ _ _ => simp only [rep] at hr; cases hr <;> rfl
theorem val_one {h : PHeap} (t : Ty) (x : t.den) (cs : List Value) (hr : rep h t x cs) (ha : t.isAgg = false) : cs = [t.val cs] ∧ (t.val cs).oneCell' = true := by
  cases t with
  | unit => cases ha
  | pair a b => cases ha
  | bool => simp only [rep] at hr; subst hr; exact ⟨rfl, rfl⟩
  | int k => simp only [rep] at hr; subst hr; exact ⟨rfl, rfl⟩
  | str => simp only [rep] at hr; subst hr; exact ⟨rfl, rfl⟩
  | sl t => obtain ⟨A, c, rfl, _⟩ := hr; exact ⟨rfl, rfl⟩
  | opt t => rcases hr with ⟨_, rfl⟩ | ⟨y, ad, ds, _, rfl, _⟩ <;> exact ⟨rfl, rfl⟩
  | mp _ _ => rcases hr with ⟨_, rfl⟩ | ⟨g, es, cl, rfl, _⟩ <;> exact ⟨rfl, rfl⟩
  | nd _ _ _ _ => simp only [rep] at hr; cases hr <;> exact ⟨rfl, rfl⟩
theorem cells_one {v : Value} (h : v.oneCell' = true) : v.cells = #[v] := by cases v <;> first | rfl | cases h

theorem cellsOf_rel {N : Names} {h : PHeap} {s : SV} {ls : List Leaf} {v : Value} (e : cellsOf s = some ls) (hr : s.rel N h v) :
    ∃ cs : List Value, v.cells = cs.toArray ∧ LeafRels N h ls cs ∧ ∀ u ∈ cs, u.oneCell' = true := by
  have one : ∀ (l : Leaf) (v : Value), l.rel N h v → v.oneCell' = true → ∃ cs : List Value, v.cells = cs.toArray ∧ LeafRels N h [l] cs ∧ ∀ u ∈ cs, u.oneCell' = true :=
    fun l v hl ho => ⟨[v], cells_one ho, LeafRels.cons hl (LeafRels.nil N h), by simpa using ho⟩
  unfold cellsOf at e
  split at e
  · injection e with e; subst e
    obtain ⟨cs, h1, rfl⟩ := SV.tv_iff.1 hr
    exact ⟨cs, val_cells _ _ _ h1, explode_rel _ _ _ h1, rep_one _ _ _ h1⟩
  · cases e
  · cases e
  · split at e
    · cases e
    · cases e
    · rename_i w h1 h2
      injection e with e; subst e
      refine one _ _ hr ?_
      simp only [SV.rel, Leaf.rel] at hr
      subst hr
      cases v <;> first | rfl | exact absurd rfl (h1 _) | exact absurd rfl (h2 _)
  · rename_i l h1 h2 h3 h4
    injection e with e; subst e
    refine one _ _ hr ?_
    simp only [SV.rel] at hr
    cases l with
    | any => exact absurd rfl h2
    | undef => exact absurd rfl h3
    | tv t x => exact absurd rfl (h1 _ _)
    | raw v => exact absurd rfl (h4 _)
    | blit b => simp only [Leaf.rel] at hr; subst hr; rfl
    | ptr i off => simp only [Leaf.rel] at hr; subst hr; rfl
    | eptr t xs i off => simp only [Leaf.rel] at hr; obtain ⟨_, ad, rfl, _⟩ := hr; rfl
    | row r => simp only [Leaf.rel] at hr; exact hr.2
    | rptr r s i off => simp only [Leaf.rel] at hr; obtain ⟨g, len, cap, _, _, rfl⟩ := hr; rfl
    | rsub r s i => simp only [Leaf.rel] at hr; obtain ⟨g, len, cap, _, _, rfl⟩ := hr; rfl
    | clo f c => simp only [Leaf.rel] at hr; obtain ⟨vs, rfl, _⟩ := hr; rfl
    | mref i => simp only [Leaf.rel] at hr; subst hr; rfl
  · injection e with e; subst e
    obtain ⟨cs, rfl, h1, h2⟩ := hr
    exact ⟨cs, rfl, h1, h2⟩
  · cases e

theorem implode_all {N : Names} {h : PHeap} {t : Ty} {ls : List Leaf} {x : t.den} {cs : List Value} (e : implode t ls = some (x, [])) (hr : LeafRels N h ls cs) : rep h t x cs := by
  obtain ⟨c1, c2, rfl, h1, h2⟩ := implode_rel t ls x [] e cs hr
  have : c2 = [] := by
    have := LeafRels.length _ _ h2
    exact List.eq_nil_of_length_eq_zero this.symm
  subst this
  simpa using h1

theorem argVal_rel {N : Names} {h : PHeap} {t : Ty} {s : SV} {x : t.den} {v : Value} (e : argVal t s = some x) (hr : s.rel N h v) : vrep h t x v := by
  unfold argVal at e
  split at e
  · rename_i t' y
    split at e
    · rename_i ht
      subst ht
      injection e with e; subst e
      exact SV.tv_iff.1 hr
    · cases e
  · rename_i l _
    cases ha : t.isAgg with
    | true => rw [ha] at e; cases e
    | false =>
      rw [ha] at e
      simp only [cond_false] at e
      split at e
      · rename_i y hy
        injection e with e; subst e
        have h1 : rep h t y [v] := implode_all (cs := [v]) hy (LeafRels.cons hr (LeafRels.nil N h))
        exact ⟨[v], h1, by
          obtain ⟨g1, _⟩ := val_one t y [v] h1 ha
          injection g1⟩
      · cases e
  · rename_i ls
    cases ha : t.isAgg with
    | false => rw [ha] at e; cases e
    | true =>
      rw [ha] at e
      simp only [cond_true] at e
      split at e
      · rename_i y hy
        injection e with e; subst e
        obtain ⟨cs, rfl, h1, _⟩ := hr
        refine ⟨cs, implode_all hy h1, ?_⟩
        cases t with
        | unit => rfl
        | pair a b => rfl
        | _ => cases ha
      · cases e
  · cases e

theorem argsOf_rel {N : Names} {h : PHeap} : (t : Ty) → (ss : List SV) → (x : t.den) → argsOf t ss = some x → (vs : List Value) → ss.length = vs.length → (∀ (i : Nat) s v, ss[i]? = some s → vs[i]? = some v → s.rel N h v) → trep h t x vs
  | .unit, [], x, e, vs, hl, _ => by simp only [trep]; exact List.eq_nil_of_length_eq_zero hl.symm
  | .unit, _ :: _, x, e, vs, hl, _ => by cases e
  | .pair a b, [], x, e, vs, hl, _ => by cases e
  | .pair a b, s :: r, x, e, vs, hl, hr => by
    cases vs with
    | nil => simp at hl
    | cons v vs =>
      simp only [argsOf] at e
      cases h1 : argVal a s with
      | none => rw [h1] at e; cases e
      | some y =>
        rw [h1] at e
        simp only [] at e
        cases h2 : argsOf b r with
        | none => rw [h2] at e; cases e
        | some z =>
          rw [h2] at e
          injection e with e; subst e
          exact ⟨v, vs, rfl, argVal_rel h1 (hr 0 s v rfl rfl), argsOf_rel b r z h2 vs (by simpa using hl) fun i s v hs hv => hr (i + 1) s v (by simpa using hs) (by simpa using hv)⟩
  | .bool, ss, x, e, _, _, _ => by cases ss <;> cases e
  | .int _, ss, x, e, _, _, _ => by cases ss <;> cases e
  | .str, ss, x, e, _, _, _ => by cases ss <;> cases e
  | .sl _, ss, x, e, _, _, _ => by cases ss <;> cases e
  | .opt _, ss, x, e, _, _, _ => by cases ss <;> cases e
  | .mp _ _, ss, x, e, _, _, _ => by cases ss <;> cases e
  | .nd _ _ _ _, ss, x, e, _, _, _ => by cases ss <;> cases e

theorem asInt_rel {N : Names} {h : PHeap} {s : SV} {k : IntKind} {n : Int} {v : Value} (e : asInt s = some (k, n)) (hr : s.rel N h v) : v = .int k n := by
  unfold asInt at e
  split at e
  · injection e with e
    injection e with e1 e2
    subst e1 e2
    obtain ⟨cs, h1, rfl⟩ := SV.tv_iff.1 hr
    simp only [rep] at h1
    subst h1
    rfl
  · cases e
theorem asBool_rel {N : Names} {h : PHeap} {s : SV} {b : Bool} {v : Value} (e : asBool s = some b) (hr : s.rel N h v) : v = .bool b := by
  unfold asBool at e
  split at e
  · injection e with e; subst e
    obtain ⟨cs, h1, rfl⟩ := SV.tv_iff.1 hr
    simp only [rep] at h1
    subst h1
    rfl
  · injection e with e; subst e
    simp only [SV.rel, Leaf.rel] at hr
    exact hr
  · cases e
theorem asStr_rel {N : Names} {h : PHeap} {s : SV} {b : ByteArray} {v : Value} (e : asStr s = some b) (hr : s.rel N h v) : v = .string b := by
  unfold asStr at e
  split at e
  · injection e with e; subst e
    obtain ⟨cs, h1, rfl⟩ := SV.tv_iff.1 hr
    simp only [rep] at h1
    subst h1
    rfl
  · cases e
theorem mkInt_rel (N : Names) (h : PHeap) (k : IntKind) (n : Int) : (mkInt k n).rel N h (.int k n) := SV.tv_iff.2 ⟨[.int k n], rfl, rfl⟩
theorem mkBool_rel (N : Names) (h : PHeap) (b : Bool) : (mkBool b).rel N h (.bool b) := SV.tv_iff.2 ⟨[.bool b], rfl, rfl⟩
theorem mkStr_rel (N : Names) (h : PHeap) (s : ByteArray) : (SV.leaf (.tv .str s)).rel N h (.string s) := SV.tv_iff.2 ⟨[.string s], rfl, rfl⟩

theorem raw_rel (N : Names) (h : PHeap) (v : Value) : (SV.leaf (.raw v)).rel N h v := by simp only [SV.rel, Leaf.rel]
theorem evO_const_rel (N : Names) (h : PHeap) (v : Value) : (constSV v).rel N h v := by
  unfold constSV
  split
  · simp only [SV.rel, Leaf.rel]
  · exact mkInt_rel N h _ _
  · exact mkStr_rel N h _
  · exact raw_rel N h _

theorem evO_rel {b : Nat} {u : Nat → Value} {sl : Slots} {N : Names} {h : PHeap} {a : Act} (hs : SlotSat sl N h (vals b u a)) (x : Operand) : (evO b sl x).rel N h (a.eval x) := by
  cases x with
  | tmp t =>
    have := hs (b + t)
    rw [vals_at] at this
    exact this
  | const v => exact evO_const_rel N h v
  | global g => exact raw_rel N h _
  | func f => exact raw_rel N h _
end Go.Fr
