/-
  The core of a symbolic walk over the model's code: typed data, what a value in memory reads as, symbolic states. Conditions: none.
-/
import Derived.WalkKit
import Derived.KernelRfl
namespace Go.Fr
open Go Go.RowKit
universe u

/-- Trees behind an interface: nothing; a leaf's data; nodes, and what lies beside them. -/
inductive NT (α β : Type) where
  | nil
  | leaf (a : α)
  | inner (ks : List (NT α β)) (b : β)
def NT.isNil {α β : Type} : NT α β → Bool
  | .nil => true
  | _ => false
def NT.asLeaf {α β : Type} : NT α β → Option α
  | .leaf a => some a
  | _ => none
def NT.asInner {α β : Type} : NT α β → Option (List (NT α β) × β)
  | .inner ks b => some (ks, b)
  | _ => none
def NT.ofLeaf {α β : Type} : Option α → NT α β
  | some a => .leaf a
  | none => .nil
def NT.ofInner {α β : Type} : Option (List (NT α β) × β) → NT α β
  | some x => .inner x.1 x.2
  | none => .nil

/-- Codes of data. (A tree's: the types of the pointers to leaves and to inner nodes; a leaf's data; what lies beside an inner node's nodes.) -/
inductive Ty where
  | bool | int (k : IntKind) | str | unit | sl (t : Ty) | opt (t : Ty) | pair (a b : Ty) | mp (k v : Ty) | nd (tl ti : Nat) (l i : Ty)
  deriving DecidableEq

@[reducible] def Ty.den : Ty → Type
  | .bool => Bool
  | .int _ => Int
  | .str => ByteArray
  | .unit => Unit
  | .sl t => List t.den
  | .opt t => Option t.den
  | .pair a b => a.den × b.den
  | .mp k v => List (k.den × v.den × Unit)
  | .nd _ _ l i => NT l.den i.den

def Ty.size : Ty → Nat
  | .unit => 0
  | .pair a b => a.size + b.size
  | _ => 1

def Ty.isAgg : Ty → Bool
  | .unit | .pair .. => true
  | _ => false

def Ty.dflt : (t : Ty) → t.den
  | .bool => false
  | .int _ => (0 : Int)
  | .str => ByteArray.empty
  | .unit => ()
  | .sl _ => []
  | .opt _ => none
  | .pair a b => (a.dflt, b.dflt)
  | .mp _ _ => []
  | .nd _ _ _ _ => .nil

/-- A part of a heap. -/
abbrev PHeap := Nat → Option Obj

def hcell (h : PHeap) (a : Addr) : Option Value :=
  match h a.block with
  | some (.cells c _ _) => if a.spot.isSome then none else c[a.off]?
  | _ => none

def PLe (h h' : PHeap) : Prop := ∀ k o, h k = some o → h' k = some o
theorem PLe.refl (h : PHeap) : PLe h h := fun _ _ e => e
theorem PLe.trans {a b c : PHeap} (h : PLe a b) (k : PLe b c) : PLe a c := fun i o e => k i o (h i o e)

theorem hcell_mono {h h' : PHeap} (hl : PLe h h') {a : Addr} {v : Value} (hc : hcell h a = some v) : hcell h' a = some v := by
  unfold hcell at hc ⊢
  cases hb : h a.block with
  | none => rw [hb] at hc; cases hc
  | some o => rw [hl _ _ hb]; rw [hb] at hc; exact hc

def PIn (h : PHeap) (w : World) : Prop := ∀ k o, h k = some o → w.heap[k]? = some o

theorem cell_of_hcell {h : PHeap} {w : World} (hi : PIn h w) {a : Addr} {v : Value} (hc : hcell h a = some v) : w.cell? a = some v := by
  unfold hcell at hc
  unfold World.cell?
  cases hb : h a.block with
  | none => rw [hb] at hc; cases hc
  | some o => rw [hi _ _ hb]; rw [hb] at hc; exact hc

/-- Cells from an address on. -/
def CellsAt (h : PHeap) (a : Addr) (ds : List Value) : Prop := ∀ j u, ds[j]? = some u → hcell h (a.add j) = some u

/-- A value of cells. -/
def Ty.val : Ty → List Value → Value
  | .unit, cs => .agg cs.toArray
  | .pair .., cs => .agg cs.toArray
  | _, cs => cs.headD undef

/-- What an interface's cell holds a tree. -/
inductive NdRep (h : PHeap) (tl ti : Nat) {α β : Type} (RL : α → List Value → Prop) (RI : β → List Value → Prop) : NT α β → List Value → Prop
  | nil : NdRep h tl ti RL RI .nil [.nilIface]
  | leaf (a : α) (ad : Addr) (ds : List Value) : RL a ds → CellsAt h ad ds → NdRep h tl ti RL RI (.leaf a) [.iface tl (.pointer (some ad))]
  | inner (ks : List (NT α β)) (b : β) (ad : Addr) (A : Option Addr) (c : Nat) (ds : List Value) (f : Nat → List Value) : CellsAt h ad (.slice A ks.length c :: ds) → RI b ds → ks.length ≤ c → (A = none → ks = []) →
      (∀ (i : Nat) k, ks[i]? = some k → NdRep h tl ti RL RI k (f i)) → (∀ (i : Nat) k ad', ks[i]? = some k → A = some ad' → CellsAt h (ad'.add (i * 1)) (f i)) → NdRep h tl ti RL RI (.inner ks b) [.iface ti (.pointer (some ad))]
theorem NdRep.one {h : PHeap} {tl ti : Nat} {α β : Type} {RL : α → List Value → Prop} {RI : β → List Value → Prop} {x : NT α β} {cs : List Value} (e : NdRep h tl ti RL RI x cs) : ∃ v, cs = [v] ∧ v.oneCell' = true := by
  cases e with
  | nil => exact ⟨_, rfl, rfl⟩
  | leaf => exact ⟨_, rfl, rfl⟩
  | inner => exact ⟨_, rfl, rfl⟩
theorem NdRep.mono {h h' : PHeap} (hl : PLe h h') {tl ti : Nat} {α β : Type} {RL RL' : α → List Value → Prop} {RI RI' : β → List Value → Prop} (hL : ∀ a ds, RL a ds → RL' a ds) (hI : ∀ a ds, RI a ds → RI' a ds) {x : NT α β} {cs : List Value} (e : NdRep h tl ti RL RI x cs) : NdRep h' tl ti RL' RI' x cs := by
  induction e with
  | nil => exact .nil
  | leaf a ad ds h1 h2 => exact .leaf a ad ds (hL _ _ h1) fun j u hu => hcell_mono hl (h2 j u hu)
  | inner ks b ad A c ds f h1 h2 h3 h4 _ h6 ih => exact .inner ks b ad A c ds f (fun j u hu => hcell_mono hl (h1 j u hu)) (hI _ _ h2) h3 h4 ih fun i k ad' hk hA j u hu => hcell_mono hl (h6 i k ad' hk hA j u hu)

/-- What cells hold data. -/
def rep (h : PHeap) : (t : Ty) → t.den → List Value → Prop
  | .bool, b, cs => cs = [.bool b]
  | .int k, n, cs => cs = [.int k n]
  | .str, s, cs => cs = [.string s]
  | .unit, _, cs => cs = []
  | .sl t, xs, cs => ∃ (A : Option Addr) (c : Nat), cs = [.slice A xs.length c] ∧ xs.length ≤ c ∧ (A = none → xs = []) ∧
      ∀ (i : Nat) x ad, xs[i]? = some x → A = some ad → ∃ ds, rep h t x ds ∧ CellsAt h (ad.add (i * t.size)) ds
  | .opt t, x, cs => (x = none ∧ cs = [.pointer none]) ∨ ∃ y ad ds, x = some y ∧ cs = [.pointer (some ad)] ∧ rep h t y ds ∧ CellsAt h ad ds
  | .pair a b, x, cs => ∃ c1 c2, cs = c1 ++ c2 ∧ rep h a x.1 c1 ∧ rep h b x.2 c2
  | .mp K V, xs, cs => (xs = [] ∧ cs = [.map none]) ∨ ∃ (g : Nat) (es : Array MapEntry) (cl : Nat), cs = [.map (some g)] ∧ h g = some (.map es cl) ∧ es.toList.length = xs.length ∧
      ∀ (i : Nat) x e, xs[i]? = some x → es.toList[i]? = some e → (∃ ck, rep h K x.1 ck ∧ e.key = K.val ck) ∧ (∃ cv, rep h V x.2.1 cv ∧ e.val = V.val cv)
  | .nd tl ti l i, x, cs => NdRep h tl ti (fun a ds => rep h l a ds) (fun b ds => rep h i b ds) x cs

theorem rep_len {h : PHeap} : (t : Ty) → (x : t.den) → (cs : List Value) → rep h t x cs → cs.length = t.size
  | .bool, _, _, e => by simp only [rep] at e; subst e; rfl
  | .int _, _, _, e => by simp only [rep] at e; subst e; rfl
  | .str, _, _, e => by simp only [rep] at e; subst e; rfl
  | .unit, _, _, e => by simp only [rep] at e; subst e; rfl
  | .sl _, _, _, e => by obtain ⟨A, c, rfl, _⟩ := e; rfl
  | .opt _, _, _, e => by rcases e with ⟨_, rfl⟩ | ⟨y, ad, ds, _, rfl, _⟩ <;> rfl
  | .pair a b, x, _, e => by
    obtain ⟨c1, c2, rfl, h1, h2⟩ := e
    rw [List.length_append, rep_len a _ _ h1, rep_len b _ _ h2]; rfl
  | .mp _ _, _, _, e => by rcases e with ⟨_, rfl⟩ | ⟨g, es, cl, rfl, _⟩ <;> rfl
  | .nd _ _ _ _, _, _, e => by simp only [rep] at e; obtain ⟨v, rfl, _⟩ := e.one; rfl

theorem rep_mono {h h' : PHeap} (hl : PLe h h') : (t : Ty) → (x : t.den) → (cs : List Value) → rep h t x cs → rep h' t x cs
  | .bool, _, _, e => e
  | .int _, _, _, e => e
  | .str, _, _, e => e
  | .unit, _, _, e => e
  | .sl t, _, _, e => by
    obtain ⟨A, c, e1, e2, e3, e4⟩ := e
    refine ⟨A, c, e1, e2, e3, fun i x ad hx hA => ?_⟩
    obtain ⟨ds, hd, hc⟩ := e4 i x ad hx hA
    exact ⟨ds, rep_mono hl t x ds hd, fun j u hu => hcell_mono hl (hc j u hu)⟩
  | .opt t, _, _, e => by
    rcases e with e | ⟨y, ad, ds, e1, e2, hd, hc⟩
    · exact .inl e
    · exact .inr ⟨y, ad, ds, e1, e2, rep_mono hl t y ds hd, fun j u hu => hcell_mono hl (hc j u hu)⟩
  | .pair a b, x, _, e => by
    obtain ⟨c1, c2, e0, h1, h2⟩ := e
    exact ⟨c1, c2, e0, rep_mono hl a _ _ h1, rep_mono hl b _ _ h2⟩
  | .mp K V, _, _, e => by
    rcases e with e | ⟨g, es, cl, e1, e2, e3, e4⟩
    · exact .inl e
    · refine .inr ⟨g, es, cl, e1, hl _ _ e2, e3, fun i x en hx he => ?_⟩
      obtain ⟨⟨ck, k1, k2⟩, cv, v1, v2⟩ := e4 i x en hx he
      exact ⟨⟨ck, rep_mono hl K _ _ k1, k2⟩, cv, rep_mono hl V _ _ v1, v2⟩
  | .nd tl ti l i, _, _, e => by
    simp only [rep] at e ⊢
    exact e.mono hl (fun a ds => rep_mono hl l a ds) (fun b ds => rep_mono hl i b ds)

/-- The cells of plain data are single ones. -/
theorem rep_one {h : PHeap} : (t : Ty) → (x : t.den) → (cs : List Value) → rep h t x cs → ∀ u ∈ cs, u.oneCell' = true
  | .bool, _, _, e => by simp only [rep] at e; subst e; simp [Value.oneCell']
  | .int _, _, _, e => by simp only [rep] at e; subst e; simp [Value.oneCell']
  | .str, _, _, e => by simp only [rep] at e; subst e; simp [Value.oneCell']
  | .unit, _, _, e => by simp only [rep] at e; subst e; simp
  | .sl _, _, _, e => by obtain ⟨A, c, rfl, _⟩ := e; simp [Value.oneCell']
  | .opt _, _, _, e => by rcases e with ⟨_, rfl⟩ | ⟨y, ad, ds, _, rfl, _⟩ <;> simp [Value.oneCell']
  | .pair a b, x, _, e => by
    obtain ⟨c1, c2, rfl, h1, h2⟩ := e
    intro u hu
    rcases List.mem_append.1 hu with hu | hu
    · exact rep_one a _ _ h1 u hu
    · exact rep_one b _ _ h2 u hu
  | .mp _ _, _, _, e => by rcases e with ⟨_, rfl⟩ | ⟨g, es, cl, rfl, _⟩ <;> simp [Value.oneCell']
  | .nd _ _ _ _, _, _, e => by
    simp only [rep] at e
    obtain ⟨v, rfl, h1⟩ := e.one
    intro u hu
    rw [List.mem_singleton.1 hu]
    exact h1

/-- An inner node, as the struct to which it points. -/
theorem nd_inner_inv {h : PHeap} {tl ti : Nat} {l i : Ty} {ks : List (NT l.den i.den)} {b : i.den} {cs : List Value} (e : rep h (.nd tl ti l i) (.inner ks b) cs) :
    ∃ ad ds, cs = [.iface ti (.pointer (some ad))] ∧ rep h (.pair (.sl (.nd tl ti l i)) i) (ks, b) ds ∧ CellsAt h ad ds := by
  simp only [rep] at e
  cases e with
  | inner _ _ ad A c ds f h1 h2 h3 h4 h5 h6 =>
    refine ⟨ad, [.slice A ks.length c] ++ ds, rfl, ⟨[.slice A ks.length c], ds, rfl, ⟨A, c, rfl, h3, h4, fun j x ad' hx hA => ⟨f j, ?_, h6 j x ad' hx hA⟩⟩, h2⟩, h1⟩
    simp only [rep]
    exact h5 j x hx
theorem nd_leaf_inv {h : PHeap} {tl ti : Nat} {l i : Ty} {a : l.den} {cs : List Value} (e : rep h (.nd tl ti l i) (.leaf a) cs) :
    ∃ ad ds, cs = [.iface tl (.pointer (some ad))] ∧ rep h l a ds ∧ CellsAt h ad ds := by
  simp only [rep] at e
  cases e with
  | leaf _ ad ds h1 h2 => exact ⟨ad, ds, rfl, h1, h2⟩
theorem nd_nil_inv {h : PHeap} {tl ti : Nat} {l i : Ty} {cs : List Value} (e : rep h (.nd tl ti l i) .nil cs) : cs = [.nilIface] := by
  simp only [rep] at e
  cases e
  rfl
theorem nd_leaf_rep {h : PHeap} {tl ti : Nat} {l i : Ty} {a : l.den} {ad : Addr} {ds : List Value} (h1 : rep h l a ds) (h2 : CellsAt h ad ds) : rep h (.nd tl ti l i) (.leaf a) [.iface tl (.pointer (some ad))] := by
  simp only [rep]
  exact .leaf a ad ds h1 h2
theorem nd_inner_rep {h : PHeap} {tl ti : Nat} {l i : Ty} {x : List (NT l.den i.den) × i.den} {ad : Addr} {ds : List Value} (h1 : rep h (.pair (.sl (.nd tl ti l i)) i) x ds) (h2 : CellsAt h ad ds) :
    rep h (.nd tl ti l i) (.inner x.1 x.2) [.iface ti (.pointer (some ad))] := by
  obtain ⟨ks, b⟩ := x
  obtain ⟨c1, c2, rfl, ⟨A, c, rfl, g1, g2, g3⟩, h3⟩ := h1
  simp only [rep] at g3 ⊢
  have hex : ∀ j : Nat, ∃ fs : List Value, ∀ k, ks[j]? = some k → NdRep h tl ti (fun a ds => rep h l a ds) (fun b ds => rep h i b ds) k fs ∧ ∀ ad', A = some ad' → CellsAt h (ad'.add (j * 1)) fs := fun j => by
    cases hk : ks[j]? with
    | none => exact ⟨[], fun k hk' => by cases hk'⟩
    | some k =>
      cases A with
      | none => have e0 : ks = [] := g2 rfl; subst e0; simp at hk
      | some ad' =>
        obtain ⟨fs, q1, q2⟩ := g3 j k ad' hk rfl
        exact ⟨fs, fun k' hk' => by injection hk' with hk'; subst hk'; exact ⟨q1, fun ad'' e => by injection e with e; subst e; exact q2⟩⟩
  obtain ⟨f, hf⟩ := Classical.axiomOfChoice hex
  exact .inner ks b ad A c c2 f h2 h3 g1 g2 (fun j k hk => (hf j k hk).1) fun j k ad' hk hA => (hf j k hk).2 ad' hA

def vrep (h : PHeap) (t : Ty) (x : t.den) (v : Value) : Prop := ∃ cs, rep h t x cs ∧ v = t.val cs
theorem vrep_mono {h h' : PHeap} (hl : PLe h h') {t : Ty} {x : t.den} {v : Value} (hv : vrep h t x v) : vrep h' t x v := by
  obtain ⟨cs, h1, h2⟩ := hv
  exact ⟨cs, rep_mono hl t x cs h1, h2⟩

/-- A tuple of values. -/
def trep (h : PHeap) : (t : Ty) → t.den → List Value → Prop
  | .unit, _, vs => vs = []
  | .pair a b, x, vs => ∃ v r, vs = v :: r ∧ vrep h a x.1 v ∧ trep h b x.2 r
  | _, _, _ => False
theorem trep_mono {h h' : PHeap} (hl : PLe h h') : (t : Ty) → (x : t.den) → (vs : List Value) → trep h t x vs → trep h' t x vs
  | .unit, _, _, e => e
  | .pair a b, x, _, e => by
    obtain ⟨v, r, e0, h1, h2⟩ := e
    exact ⟨v, r, e0, vrep_mono hl h1, trep_mono hl b _ _ h2⟩
  | .bool, _, _, e => e.elim
  | .int _, _, _, e => e.elim
  | .str, _, _, e => e.elim
  | .sl _, _, _, e => e.elim
  | .opt _, _, _, e => e.elim
  | .mp _ _, _, _, e => e.elim
  | .nd _ _ _ _, _, _, e => e.elim

/-! ### Symbolic values -/
inductive Leaf where
  | any
  | undef
  | blit (b : Bool)
  | tv (t : Ty) (x : t.den)
  | raw (v : Value)
  | ptr (i off : Nat)
  | eptr (t : Ty) (xs : List t.den) (i off : Nat)
  | row (r : Nat)
  | rptr (r size i off : Nat)
  /-- A slice of a row from its i-th element on. -/
  | rsub (r size i : Nat)
  | clo (f : FuncId) (caps : List Leaf)
  /-- A map of the call's own. -/
  | mref (i : Nat)

inductive SV where
  | leaf (l : Leaf)
  | agg (ls : List Leaf)
  | tupv (t : Ty) (x : t.den)

/-- What the names stand for: blocks of the call's own, rows that it appends to. -/
structure Names where
  ρ : Nat → Nat
  V : Nat → Value

def optL {α : Type} : Option α → List α
  | none => []
  | some a => [a]
/-- The list's head lies at an address. -/
def ListAt (h : PHeap) (t : Ty) (xs : List t.den) (ad : Addr) : Prop :=
  ∀ (i : Nat) x, xs[i]? = some x → ∃ ds, rep h t x ds ∧ CellsAt h (ad.add (i * t.size)) ds

mutual
def Leaf.rel (N : Names) (h : PHeap) : Leaf → Value → Prop
  | .any, _ => True
  | .undef, v => v = Go.undef
  | .blit b, v => v = .bool b
  | .tv t x, v => vrep h t x v
  | .raw u, v => v = u
  | .ptr i off, v => v = .pointer (some ⟨N.ρ i, off, none⟩)
  | .eptr t xs i off, v => i < xs.length ∧ ∃ ad, v = .pointer (some ((ad : Addr).add (i * t.size + off))) ∧ ListAt h t xs ad
  | .row r, v => v = N.V r ∧ v.oneCell' = true
  | .rptr r size i off, v => ∃ g len cap, N.V r = .slice (some ⟨g, 0, none⟩) len cap ∧ i < len ∧ v = .pointer (some ⟨g, i * size + off, none⟩)
  | .rsub r size i, v => ∃ g len cap, N.V r = .slice (some ⟨g, 0, none⟩) len cap ∧ i < len ∧ v = .slice (some ⟨g, i * size, none⟩) (len - i) (cap - i)
  | .clo f caps, v => ∃ vs : List Value, v = .func (.func f) #[] vs.toArray ∧ LeafRels N h caps vs
  | .mref i, v => v = .map (some (N.ρ i))
/-- Cells side by side. -/
def LeafRels (N : Names) (h : PHeap) : List Leaf → List Value → Prop
  | [], vs => vs = []
  | l :: ls, vs => ∃ v r, vs = v :: r ∧ l.rel N h v ∧ LeafRels N h ls r
end

def SV.rel (N : Names) (h : PHeap) : SV → Value → Prop
  | .leaf l, v => l.rel N h v
  | .agg ls, v => ∃ cs : List Value, v = .agg cs.toArray ∧ LeafRels N h ls cs ∧ ∀ u ∈ cs, u.oneCell' = true
  | .tupv t x, v => ∃ vs : List Value, v = .tuple vs.toArray ∧ trep h t x vs

theorem LeafRels.nil_iff {N : Names} {h : PHeap} {vs : List Value} : LeafRels N h [] vs ↔ vs = [] := by simp only [LeafRels]
theorem LeafRels.cons_iff {N : Names} {h : PHeap} {l : Leaf} {ls : List Leaf} {v : Value} {vs : List Value} : LeafRels N h (l :: ls) (v :: vs) ↔ l.rel N h v ∧ LeafRels N h ls vs := by
  rw [LeafRels]
  constructor
  · rintro ⟨v', r, e, h1, h2⟩
    injection e with e1 e2
    subst e1 e2
    exact ⟨h1, h2⟩
  · rintro ⟨h1, h2⟩
    exact ⟨v, vs, rfl, h1, h2⟩
theorem LeafRels.nil (N : Names) (h : PHeap) : LeafRels N h [] [] := LeafRels.nil_iff.2 rfl
theorem LeafRels.cons {N : Names} {h : PHeap} {l : Leaf} {ls : List Leaf} {v : Value} {vs : List Value} (h1 : l.rel N h v) (h2 : LeafRels N h ls vs) : LeafRels N h (l :: ls) (v :: vs) := LeafRels.cons_iff.2 ⟨h1, h2⟩

mutual
theorem Leaf.rel_mono {N : Names} {h h' : PHeap} (hl : PLe h h') : (l : Leaf) → (v : Value) → l.rel N h v → l.rel N h' v
  | .any, _, _ => by simp only [Leaf.rel]
  | .undef, _, e => by simp only [Leaf.rel] at e ⊢; exact e
  | .blit _, _, e => by simp only [Leaf.rel] at e ⊢; exact e
  | .tv _ _, _, e => by simp only [Leaf.rel] at e ⊢; exact vrep_mono hl e
  | .raw _, _, e => by simp only [Leaf.rel] at e ⊢; exact e
  | .ptr .., _, e => by simp only [Leaf.rel] at e ⊢; exact e
  | .mref _, _, e => by simp only [Leaf.rel] at e ⊢; exact e
  | .eptr t xs i off, _, e => by
      simp only [Leaf.rel] at e ⊢
      obtain ⟨e0, ad, e1, e2⟩ := e
      exact ⟨e0, ad, e1, fun i x hx => by
        obtain ⟨ds, h1, h2⟩ := e2 i x hx
        exact ⟨ds, rep_mono hl t x ds h1, fun j u hu => hcell_mono hl (h2 j u hu)⟩⟩
  | .row _, _, e => by simp only [Leaf.rel] at e ⊢; exact e
  | .rptr .., _, e => by simp only [Leaf.rel] at e ⊢; exact e
  | .rsub .., _, e => by simp only [Leaf.rel] at e ⊢; exact e
  | .clo _ caps, _, e => by
      simp only [Leaf.rel] at e ⊢
      obtain ⟨vs, e1, e2⟩ := e
      exact ⟨vs, e1, LeafRels.mono hl caps vs e2⟩
theorem LeafRels.mono {N : Names} {h h' : PHeap} (hl : PLe h h') : (ls : List Leaf) → (vs : List Value) → LeafRels N h ls vs → LeafRels N h' ls vs
  | [], _, e => by rw [LeafRels] at e ⊢; exact e
  | l :: ls, _, e => by
      rw [LeafRels] at e ⊢
      obtain ⟨v, r, e0, e1, e2⟩ := e
      exact ⟨v, r, e0, l.rel_mono hl v e1, LeafRels.mono hl ls r e2⟩
end

theorem SV.rel_mono {N : Names} {h h' : PHeap} (hl : PLe h h') : (s : SV) → (v : Value) → s.rel N h v → s.rel N h' v
  | .leaf l, v, e => l.rel_mono hl v e
  | .agg ls, _, ⟨cs, e1, e2, e3⟩ => ⟨cs, e1, LeafRels.mono hl ls cs e2, e3⟩
  | .tupv t x, _, ⟨vs, e1, e2⟩ => ⟨vs, e1, trep_mono hl t x vs e2⟩

theorem LeafRels.length {N : Names} {h : PHeap} : (ls : List Leaf) → (vs : List Value) → LeafRels N h ls vs → ls.length = vs.length
  | [], _, e => by rw [LeafRels] at e; subst e; rfl
  | _ :: ls, _, e => by
    rw [LeafRels] at e
    obtain ⟨v, r, rfl, _, e2⟩ := e
    simp [LeafRels.length ls r e2]

theorem LeafRels.append {N : Names} {h : PHeap} : (l1 l2 : List Leaf) → (v1 v2 : List Value) → LeafRels N h l1 v1 → LeafRels N h l2 v2 → LeafRels N h (l1 ++ l2) (v1 ++ v2)
  | [], _, _, _, e1, e => by rw [LeafRels] at e1; subst e1; exact e
  | _ :: ls, l2, _, v2, e1, e => by
    rw [LeafRels] at e1
    obtain ⟨v, r, rfl, g1, g2⟩ := e1
    exact LeafRels.cons g1 (LeafRels.append ls l2 r v2 g2 e)

theorem LeafRels.take {N : Names} {h : PHeap} : (n : Nat) → (ls : List Leaf) → (vs : List Value) → LeafRels N h ls vs → LeafRels N h (ls.take n) (vs.take n)
  | 0, _, _, _ => by simpa using LeafRels.nil N h
  | _ + 1, [], _, e => by rw [LeafRels] at e; subst e; exact LeafRels.nil N h
  | n + 1, _ :: ls, _, e => by
    rw [LeafRels] at e
    obtain ⟨v, r, rfl, g1, g2⟩ := e
    exact LeafRels.cons g1 (LeafRels.take n ls r g2)

theorem LeafRels.drop {N : Names} {h : PHeap} : (n : Nat) → (ls : List Leaf) → (vs : List Value) → LeafRels N h ls vs → LeafRels N h (ls.drop n) (vs.drop n)
  | 0, _, _, e => e
  | _ + 1, [], _, e => by rw [LeafRels] at e; subst e; exact LeafRels.nil N h
  | n + 1, _ :: ls, _, e => by
    rw [LeafRels] at e
    obtain ⟨v, r, rfl, _, g2⟩ := e
    exact LeafRels.drop n ls r g2

theorem LeafRels.get {N : Names} {h : PHeap} : (ls : List Leaf) → (vs : List Value) → LeafRels N h ls vs → ∀ (n : Nat) l, ls[n]? = some l → ∃ v, vs[n]? = some v ∧ l.rel N h v
  | [], _, _, _, _, e => by simp at e
  | l :: ls, _, e0, n, l', e => by
    rw [LeafRels] at e0
    obtain ⟨v, r, rfl, g1, g2⟩ := e0
    cases n with
    | zero => simp at e; subst e; exact ⟨v, rfl, g1⟩
    | succ n =>
      obtain ⟨v', h1, h2⟩ := LeafRels.get ls r g2 n l' (by simpa using e)
      exact ⟨v', by simpa using h1, h2⟩

/-- The cells of data, one by one. -/
def explode : (t : Ty) → t.den → List Leaf
  | .unit, _ => []
  | .pair a b, x => explode a x.1 ++ explode b x.2
  | .bool, x => [.tv .bool x]
  | .int k, x => [.tv (.int k) x]
  | .str, x => [.tv .str x]
  | .sl t, x => [.tv (.sl t) x]
  | .opt t, x => [.tv (.opt t) x]
  | .mp K V, x => [.tv (.mp K V) x]
  | .nd tl ti l i, x => [.tv (.nd tl ti l i) x]

theorem tv_rel {N : Names} {h : PHeap} {t : Ty} {x : t.den} {v : Value} : (Leaf.tv t x).rel N h v ↔ vrep h t x v := by simp only [Leaf.rel]
theorem SV.tv_iff {N : Names} {h : PHeap} {t : Ty} {x : t.den} {v : Value} : (SV.leaf (.tv t x)).rel N h v ↔ vrep h t x v := by simp only [SV.rel, Leaf.rel]
theorem SV.leaf_iff {N : Names} {h : PHeap} {l : Leaf} {v : Value} : (SV.leaf l).rel N h v ↔ l.rel N h v := by simp only [SV.rel]
theorem explode_rel {N : Names} {h : PHeap} : (t : Ty) → (x : t.den) → (cs : List Value) → rep h t x cs → LeafRels N h (explode t x) cs
  | .bool, _, cs, e => by
      simp only [rep] at e; subst e; exact LeafRels.cons (tv_rel.2 ⟨_, rfl, rfl⟩) (LeafRels.nil N h)
  | .int _, _, _, e => by simp only [rep] at e; subst e; exact LeafRels.cons (tv_rel.2 ⟨_, rfl, rfl⟩) (LeafRels.nil N h)
  | .str, _, _, e => by simp only [rep] at e; subst e; exact LeafRels.cons (tv_rel.2 ⟨_, rfl, rfl⟩) (LeafRels.nil N h)
  | .unit, _, _, e => by simp only [rep] at e; subst e; exact LeafRels.nil N h
  | .sl _, _, _, e => by
      have e' := e
      obtain ⟨A, c, rfl, _⟩ := e
      exact LeafRels.cons (tv_rel.2 ⟨_, e', rfl⟩) (LeafRels.nil N h)
  | .opt _, _, _, e => by
      have e' := e
      rcases e with ⟨_, rfl⟩ | ⟨y, ad, ds, _, rfl, _⟩
      · exact LeafRels.cons (tv_rel.2 ⟨_, e', rfl⟩) (LeafRels.nil N h)
      · exact LeafRels.cons (tv_rel.2 ⟨_, e', rfl⟩) (LeafRels.nil N h)
  | .pair a b, x, _, e => by
      obtain ⟨c1, c2, rfl, h1, h2⟩ := e
      exact LeafRels.append _ _ _ _ (explode_rel a _ _ h1) (explode_rel b _ _ h2)
  | .mp _ _, _, _, e => by
      have e' := e
      rcases e with ⟨_, rfl⟩ | ⟨g, es, cl, rfl, _⟩
      · exact LeafRels.cons (tv_rel.2 ⟨_, e', rfl⟩) (LeafRels.nil N h)
      · exact LeafRels.cons (tv_rel.2 ⟨_, e', rfl⟩) (LeafRels.nil N h)
  | .nd _ _ _ _, _, _, e => by
      have e' := e
      simp only [rep] at e
      obtain ⟨v, rfl, _⟩ := e.one
      exact LeafRels.cons (tv_rel.2 ⟨_, e', rfl⟩) (LeafRels.nil N h)

def popBool : List Leaf → Option (Bool × List Leaf)
  | .tv .bool b :: r => some (b, r)
  | .blit b :: r => some (b, r)
  | _ => none
def popInt (k : IntKind) : List Leaf → Option (Int × List Leaf)
  | .tv (.int k') n :: r => if k' = k then some ((n : Int), r) else none
  | _ => none
def popStr : List Leaf → Option (ByteArray × List Leaf)
  | .tv .str s :: r => some (s, r)
  | _ => none
def popSl (t : Ty) : List Leaf → Option (List t.den × List Leaf)
  | .tv (.sl t') xs :: r => if e : t' = t then some (e ▸ xs, r) else none
  | .raw (.slice none 0 0) :: r => some ([], r)
  | _ => none

def popOpt (t : Ty) : List Leaf → Option (Option t.den × List Leaf)
  | .tv (.opt t') xs :: r => if e : t' = t then some (e ▸ xs, r) else none
  | .raw (.pointer none) :: r => some (none, r)
  | _ => none

def popMp (K V : Ty) : List Leaf → Option (List (K.den × V.den × Unit) × List Leaf)
  | .tv (.mp K' V') xs :: r => if e : K' = K ∧ V' = V then some (e.1 ▸ e.2 ▸ xs, r) else none
  | .raw (.map none) :: r => some ([], r)
  | _ => none

def popNd (tl ti : Nat) (l i : Ty) : List Leaf → Option (NT l.den i.den × List Leaf)
  | .tv (.nd a b c d) x :: r => if e : Ty.nd a b c d = Ty.nd tl ti l i then some (Eq.rec (motive := fun t _ => Ty.den t) x e, r) else none
  | .raw .nilIface :: r => some (.nil, r)
  | _ => none

/-- Data out of cells. -/
def implode : (t : Ty) → List Leaf → Option (t.den × List Leaf)
  | .bool, ls => popBool ls
  | .int k, ls => popInt k ls
  | .str, ls => popStr ls
  | .unit, r => some ((), r)
  | .sl t, ls => popSl t ls
  | .opt t, ls => popOpt t ls
  | .mp K V, ls => popMp K V ls
  | .nd tl ti l i, ls => popNd tl ti l i ls
  | .pair a b, ls =>
    match implode a ls with
    | some (x, r) => match implode b r with
      | some (y, r') => some ((x, y), r')
      | none => none
    | none => none

theorem rels_cons {N : Names} {h : PHeap} {l : Leaf} {ls : List Leaf} {cs : List Value} (hr : LeafRels N h (l :: ls) cs) : ∃ c r, cs = c :: r ∧ l.rel N h c ∧ LeafRels N h ls r := by
  rw [LeafRels] at hr
  exact hr

theorem implode_rel {N : Names} {h : PHeap} : (t : Ty) → (ls : List Leaf) → (x : t.den) → (r : List Leaf) → implode t ls = some (x, r) → (cs : List Value) → LeafRels N h ls cs →
    ∃ c1 c2, cs = c1 ++ c2 ∧ rep h t x c1 ∧ LeafRels N h r c2
  | .bool, ls, x, r, e, cs, hr => by
    simp only [implode] at e
    unfold popBool at e
    split at e
    · injection e with e; injection e with e1 e2; subst e1 e2
      obtain ⟨c, cs, rfl, h1, h2⟩ := rels_cons hr
      obtain ⟨ds, g1, g2⟩ := tv_rel.1 h1
      simp only [rep] at g1; subst g1
      exact ⟨[c], cs, rfl, by rw [g2]; rfl, h2⟩
    · injection e with e; injection e with e1 e2; subst e1 e2
      obtain ⟨c, cs, rfl, h1, h2⟩ := rels_cons hr
      exact ⟨[c], cs, rfl, by simp only [Leaf.rel] at h1; rw [h1]; rfl, h2⟩
    · cases e
  | .int k, ls, x, r, e, cs, hr => by
    simp only [implode] at e
    unfold popInt at e
    split at e
    · split at e
      · rename_i hk; subst hk
        injection e with e; injection e with e1 e2; subst e1 e2
        obtain ⟨c, cs, rfl, h1, h2⟩ := rels_cons hr
        obtain ⟨ds, g1, g2⟩ := tv_rel.1 h1
        simp only [rep] at g1; subst g1
        exact ⟨[c], cs, rfl, by rw [g2]; rfl, h2⟩
      · cases e
    · cases e
  | .str, ls, x, r, e, cs, hr => by
    simp only [implode] at e
    unfold popStr at e
    split at e
    · injection e with e; injection e with e1 e2; subst e1 e2
      obtain ⟨c, cs, rfl, h1, h2⟩ := rels_cons hr
      obtain ⟨ds, g1, g2⟩ := tv_rel.1 h1
      simp only [rep] at g1; subst g1
      exact ⟨[c], cs, rfl, by rw [g2]; rfl, h2⟩
    · cases e
  | .unit, ls, x, r, e, cs, hr => by
    simp only [implode] at e
    injection e with e; injection e with e1 e2; subst e2
    exact ⟨[], cs, rfl, rfl, hr⟩
  | .sl t, ls, x, r, e, cs, hr => by
    simp only [implode] at e
    unfold popSl at e
    split at e
    · split at e
      · rename_i hk; subst hk
        injection e with e; injection e with e1 e2; subst e1 e2
        obtain ⟨c, cs, rfl, h1, h2⟩ := rels_cons hr
        obtain ⟨ds, g1, g2⟩ := tv_rel.1 h1
        have g1' := g1
        obtain ⟨A, n, rfl, _⟩ := g1
        refine ⟨[c], cs, rfl, ?_, h2⟩
        rw [show c = Value.slice A _ n from g2]
        exact g1'
      · cases e
    · injection e with e; injection e with e1 e2; subst e1 e2
      obtain ⟨c, cs, rfl, h1, h2⟩ := rels_cons hr
      refine ⟨[c], cs, rfl, ?_, h2⟩
      simp only [Leaf.rel] at h1
      subst h1
      exact ⟨none, 0, rfl, Nat.le_refl _, fun _ => rfl, fun i x ad hx _ => by simp at hx⟩
    · cases e
  | .opt t, ls, x, r, e, cs, hr => by
    simp only [implode] at e
    unfold popOpt at e
    split at e
    · split at e
      · rename_i hk; subst hk
        injection e with e; injection e with e1 e2; subst e1 e2
        obtain ⟨c, cs, rfl, h1, h2⟩ := rels_cons hr
        obtain ⟨ds, g1, g2⟩ := tv_rel.1 h1
        refine ⟨[c], cs, rfl, ?_, h2⟩
        have : ds = [c] := by
          rcases g1 with ⟨_, rfl⟩ | ⟨y, ad, es, _, rfl, _⟩ <;> rw [g2] <;> rfl
        rw [← this]
        exact g1
      · cases e
    · injection e with e; injection e with e1 e2; subst e1 e2
      obtain ⟨c, cs, rfl, h1, h2⟩ := rels_cons hr
      refine ⟨[c], cs, rfl, ?_, h2⟩
      simp only [Leaf.rel] at h1
      subst h1
      exact .inl ⟨rfl, rfl⟩
    · cases e
  | .mp K V, ls, x, r, e, cs, hr => by
    simp only [implode] at e
    unfold popMp at e
    split at e
    · split at e
      · rename_i hk
        obtain ⟨h1, h2⟩ := hk
        subst h1 h2
        injection e with e; injection e with e1 e2; subst e1 e2
        obtain ⟨c, cs, rfl, h1, h2⟩ := rels_cons hr
        obtain ⟨ds, g1, g2⟩ := tv_rel.1 h1
        refine ⟨[c], cs, rfl, ?_, h2⟩
        have : ds = [c] := by
          rcases g1 with ⟨_, rfl⟩ | ⟨g, es, cl, rfl, _⟩ <;> rw [g2] <;> rfl
        rw [← this]
        exact g1
      · cases e
    · injection e with e; injection e with e1 e2; subst e1 e2
      obtain ⟨c, cs, rfl, h1, h2⟩ := rels_cons hr
      refine ⟨[c], cs, rfl, ?_, h2⟩
      simp only [Leaf.rel] at h1
      subst h1
      exact .inl ⟨rfl, rfl⟩
    · cases e
  | .nd tl ti l i, ls, x, r, e, cs, hr => by
    simp only [implode] at e
    unfold popNd at e
    split at e
    · split at e
      · rename_i hk
        cases hk
        injection e with e; injection e with e1 e2; subst e1 e2
        obtain ⟨c, cs, rfl, h1, h2⟩ := rels_cons hr
        obtain ⟨ds, g1, g2⟩ := tv_rel.1 h1
        refine ⟨[c], cs, rfl, ?_, h2⟩
        have : ds = [c] := by
          have g1' := g1
          simp only [rep] at g1'
          obtain ⟨v, rfl, _⟩ := g1'.one
          rw [g2]; rfl
        rw [← this]
        exact g1
      · cases e
    · injection e with e; injection e with e1 e2; subst e1 e2
      obtain ⟨c, cs, rfl, h1, h2⟩ := rels_cons hr
      refine ⟨[c], cs, rfl, ?_, h2⟩
      simp only [Leaf.rel] at h1
      subst h1
      simp only [rep]
      exact .nil
    · cases e
  | .pair a b, ls, x, r, e, cs, hr => by
    simp only [implode] at e
    cases h1 : implode a ls with
    | none => rw [h1] at e; cases e
    | some p =>
      obtain ⟨y, r1⟩ := p
      rw [h1] at e
      simp only [] at e
      cases h2 : implode b r1 with
      | none => rw [h2] at e; cases e
      | some q =>
        obtain ⟨z, r2⟩ := q
        rw [h2] at e
        simp only [Option.some.injEq, Prod.mk.injEq] at e
        obtain ⟨e1, e2⟩ := e
        subst e1 e2
        obtain ⟨c1, c2, rfl, g1, g2⟩ := implode_rel a ls y r1 h1 cs hr
        obtain ⟨c3, c4, rfl, g3, g4⟩ := implode_rel b r1 z r2 h2 c2 g2
        exact ⟨c1 ++ c3, c4, by simp, ⟨c1, c3, rfl, g1, g3⟩, g4⟩

/-! ### The same, handed on: so that no cast stays -/
def popSlK {R : Sort u} (t : Ty) (ls : List Leaf) (fail : R) (k : List t.den → List Leaf → R) : R :=
  match ls with
  | .tv (.sl t') xs :: r => match (inferInstance : Decidable (t' = t)) with
    | .isTrue e => (Eq.rec (motive := fun t _ => (List (Ty.den t) → List Leaf → R) → R) (fun k => k xs r) e) k
    | .isFalse _ => fail
  | .raw (.slice none 0 0) :: r => k [] r
  | _ => fail
theorem popSlK_eq {R : Sort u} (t : Ty) (ls : List Leaf) (fail : R) (k : List t.den → List Leaf → R) :
    popSlK t ls fail k = match popSl t ls with | some (x, r) => k x r | none => fail := by
  unfold popSlK popSl
  split
  · rename_i t' xs r
    by_cases e : t' = t
    · subst e
      rw [dif_pos rfl]
      split
      · rfl
      · rename_i h _; exact absurd rfl h
    · rw [dif_neg e]
      split
      · rename_i h _; exact absurd h e
      · rfl
  · rfl
  · rfl

def popOptK {R : Sort u} (t : Ty) (ls : List Leaf) (fail : R) (k : Option t.den → List Leaf → R) : R :=
  match ls with
  | .tv (.opt t') xs :: r => match (inferInstance : Decidable (t' = t)) with
    | .isTrue e => (Eq.rec (motive := fun t _ => (Option (Ty.den t) → List Leaf → R) → R) (fun k => k xs r) e) k
    | .isFalse _ => fail
  | .raw (.pointer none) :: r => k none r
  | _ => fail
theorem popOptK_eq {R : Sort u} (t : Ty) (ls : List Leaf) (fail : R) (k : Option t.den → List Leaf → R) :
    popOptK t ls fail k = match popOpt t ls with | some (x, r) => k x r | none => fail := by
  unfold popOptK popOpt
  split
  · rename_i t' xs r
    by_cases e : t' = t
    · subst e
      rw [dif_pos rfl]
      split
      · rfl
      · rename_i h _; exact absurd rfl h
    · rw [dif_neg e]
      split
      · rename_i h _; exact absurd h e
      · rfl
  · rfl
  · rfl

def popMpK {R : Sort u} (K V : Ty) (ls : List Leaf) (fail : R) (k : List (K.den × V.den × Unit) → List Leaf → R) : R :=
  match ls with
  | .tv (.mp K' V') xs :: r => match (inferInstance : Decidable (K' = K)) with
    | .isTrue e => match (inferInstance : Decidable (V' = V)) with
      | .isTrue e' => (Eq.rec (motive := fun t _ => (List (Ty.den t × Ty.den V × Unit) → List Leaf → R) → R) (fun k => (Eq.rec (motive := fun t _ => (List (Ty.den K' × Ty.den t × Unit) → List Leaf → R) → R) (fun k => k xs r) e') k) e) k
      | .isFalse _ => fail
    | .isFalse _ => fail
  | .raw (.map none) :: r => k [] r
  | _ => fail
theorem popMpK_eq {R : Sort u} (K V : Ty) (ls : List Leaf) (fail : R) (k : List (K.den × V.den × Unit) → List Leaf → R) :
    popMpK K V ls fail k = match popMp K V ls with | some (x, r) => k x r | none => fail := by
  unfold popMpK popMp
  split
  · rename_i K' V' xs r
    by_cases e : K' = K
    · subst e
      by_cases e' : V' = V
      · subst e'
        rw [dif_pos ⟨rfl, rfl⟩]
        split
        · split
          · rfl
          · rename_i h _; exact absurd rfl h
        · rename_i h _; exact absurd rfl h
      · rw [dif_neg (fun h => e' h.2)]
        split
        · split
          · rename_i h _; exact absurd h e'
          · rfl
        · rfl
    · rw [dif_neg (fun h => e h.1)]
      split
      · rename_i h _; exact absurd h e
      · rfl
  · rfl
  · rfl

def popNdK {R : Sort u} (tl ti : Nat) (l i : Ty) (ls : List Leaf) (fail : R) (k : NT l.den i.den → List Leaf → R) : R :=
  match ls with
  | .tv (.nd a b c d) x :: r => match (inferInstance : Decidable (Ty.nd a b c d = Ty.nd tl ti l i)) with
    | .isTrue e => (Eq.rec (motive := fun t _ => (Ty.den t → List Leaf → R) → R) (fun k => k x r) e) k
    | .isFalse _ => fail
  | .raw .nilIface :: r => k .nil r
  | _ => fail
theorem popNdK_eq {R : Sort u} (tl ti : Nat) (l i : Ty) (ls : List Leaf) (fail : R) (k : NT l.den i.den → List Leaf → R) :
    popNdK tl ti l i ls fail k = match popNd tl ti l i ls with | some (x, r) => k x r | none => fail := by
  unfold popNdK popNd
  split
  · rename_i a b c d x r
    by_cases e : Ty.nd a b c d = Ty.nd tl ti l i
    · have e2 := e
      cases e2
      rw [dif_pos rfl]
      split
      · rfl
      · rename_i h _; exact absurd rfl h
    · rw [dif_neg e]
      split
      · rename_i h _; exact absurd h e
      · rfl
  · rfl
  · rfl

def implodeK {R : Sort u} : (t : Ty) → List Leaf → R → (t.den → List Leaf → R) → R
  | .bool, ls, fail, k => match popBool ls with | some (x, r) => k x r | none => fail
  | .int i, ls, fail, k => match popInt i ls with | some (x, r) => k x r | none => fail
  | .str, ls, fail, k => match popStr ls with | some (x, r) => k x r | none => fail
  | .unit, r, _, k => k () r
  | .sl t, ls, fail, k => popSlK t ls fail k
  | .opt t, ls, fail, k => popOptK t ls fail k
  | .mp K V, ls, fail, k => popMpK K V ls fail k
  | .nd tl ti l i, ls, fail, k => popNdK tl ti l i ls fail k
  | .pair a b, ls, fail, k => implodeK a ls fail fun x r => implodeK b r fail fun y r' => k (x, y) r'
theorem implodeK_eq {R : Sort u} : (t : Ty) → (ls : List Leaf) → (fail : R) → (k : t.den → List Leaf → R) →
    implodeK t ls fail k = match implode t ls with | some (x, r) => k x r | none => fail
  | .bool, ls, fail, k => by
    simp only [implodeK, implode]
    cases popBool ls with
    | none => rfl
    | some p => rfl
  | .int i, ls, fail, k => by
    simp only [implodeK, implode]
    cases popInt i ls with
    | none => rfl
    | some p => rfl
  | .str, ls, fail, k => by
    simp only [implodeK, implode]
    cases popStr ls with
    | none => rfl
    | some p => rfl
  | .unit, ls, fail, k => rfl
  | .sl t, ls, fail, k => by
    simp only [implodeK, implode, popSlK_eq]
    cases popSl t ls with
    | none => rfl
    | some p => rfl
  | .opt t, ls, fail, k => by
    simp only [implodeK, implode, popOptK_eq]
    cases popOpt t ls with
    | none => rfl
    | some p => rfl
  | .mp K V, ls, fail, k => by
    simp only [implodeK, implode, popMpK_eq]
    cases popMp K V ls with
    | none => rfl
    | some p => rfl
  | .nd tl ti l i, ls, fail, k => by
    simp only [implodeK, implode, popNdK_eq]
    cases popNd tl ti l i ls with
    | none => rfl
    | some p => rfl
  | .pair a b, ls, fail, k => by
    simp only [implodeK, implode]
    rw [implodeK_eq a]
    cases implode a ls with
    | none => rfl
    | some p =>
      obtain ⟨x, r⟩ := p
      simp only []
      rw [implodeK_eq b]
      cases implode b r with
      | none => rfl
      | some q => rfl
end Go.Fr
