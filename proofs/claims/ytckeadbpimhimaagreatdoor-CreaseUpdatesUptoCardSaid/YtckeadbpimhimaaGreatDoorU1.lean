/-
  Texts on which the proofs of the seat's statements stand: a symbolic walk, its soundness, the functions' conditions and their proofs (1). Conditions: none.
-/
import Derived.WalkKit
import Derived.KernelRfl
import Derived.Below
import Derived.Laws.AppendOwn
import Derived.Great.BuildSlice
import Derived.Laws.BytesString
namespace Go.Fr
open Go Go.RowKit
universe u
inductive NT (α β : Type) where
  | nil
  | leaf (a : α)
  | inner (ks : List (NT α β)) (b : β)
def NT.isNil {α β : Type} : NT α β → Bool
  | .nil => true
  | _ => false
def NT.asLeaf {α β : Type} : NT α β → Option α
  | .leaf a => some a
  | _ => none
def NT.asInner {α β : Type} : NT α β → Option (List (NT α β) × β)
  | .inner ks b => some (ks, b)
  | _ => none
def NT.ofLeaf {α β : Type} : Option α → NT α β
  | some a => .leaf a
  | none => .nil
def NT.ofInner {α β : Type} : Option (List (NT α β) × β) → NT α β
  | some x => .inner x.1 x.2
  | none => .nil
inductive Ty where
  | bool | int (k : IntKind) | str | unit | sl (t : Ty) | opt (t : Ty) | pair (a b : Ty) | mp (k v : Ty) | nd (tl ti : Nat) (l i : Ty)
  deriving DecidableEq
@[reducible] def Ty.den : Ty → Type
  | .bool => Bool
  | .int _ => Int
  | .str => ByteArray
  | .unit => Unit
  | .sl t => List t.den
  | .opt t => Option t.den
  | .pair a b => a.den × b.den
  | .mp k v => List (k.den × v.den × Unit)
  | .nd _ _ l i => NT l.den i.den
def Ty.size : Ty → Nat
  | .unit => 0
  | .pair a b => a.size + b.size
  | _ => 1
def Ty.isAgg : Ty → Bool
  | .unit | .pair .. => true
  | _ => false
def Ty.dflt : (t : Ty) → t.den
  | .bool => false
  | .int _ => (0 : Int)
  | .str => ByteArray.empty
  | .unit => ()
  | .sl _ => []
  | .opt _ => none
  | .pair a b => (a.dflt, b.dflt)
  | .mp _ _ => []
  | .nd _ _ _ _ => .nil
abbrev PHeap := Nat → Option Obj
def hcell (h : PHeap) (a : Addr) : Option Value :=
  match h a.block with
  | some (.cells c _ _) => if a.spot.isSome then none else c[a.off]?
  | _ => none
def PLe (h h' : PHeap) : Prop := ∀ k o, h k = some o → h' k = some o
theorem PLe.refl (h : PHeap) : PLe h h := fun _ _ e => e
theorem PLe.trans {a b c : PHeap} (h : PLe a b) (k : PLe b c) : PLe a c := fun i o e => k i o (h i o e)
theorem hcell_mono {h h' : PHeap} (hl : PLe h h') {a : Addr} {v : Value} (hc : hcell h a = some v) : hcell h' a = some v := by
  unfold hcell at hc ⊢
  cases hb : h a.block with
  | none => rw [hb] at hc; cases hc
  | some o => rw [hl _ _ hb]; rw [hb] at hc; exact hc
def PIn (h : PHeap) (w : World) : Prop := ∀ k o, h k = some o → w.heap[k]? = some o
theorem cell_of_hcell {h : PHeap} {w : World} (hi : PIn h w) {a : Addr} {v : Value} (hc : hcell h a = some v) : w.cell? a = some v := by
  unfold hcell at hc
  unfold World.cell?
  cases hb : h a.block with
  | none => rw [hb] at hc; cases hc
  | some o => rw [hi _ _ hb]; rw [hb] at hc; exact hc
def CellsAt (h : PHeap) (a : Addr) (ds : List Value) : Prop := ∀ j u, ds[j]? = some u → hcell h (a.add j) = some u
def Ty.val : Ty → List Value → Value
  | .unit, cs => .agg cs.toArray
  | .pair .., cs => .agg cs.toArray
  | _, cs => cs.headD undef
inductive NdRep (h : PHeap) (tl ti : Nat) {α β : Type} (RL : α → List Value → Prop) (RI : β → List Value → Prop) : NT α β → List Value → Prop
  | nil : NdRep h tl ti RL RI .nil [.nilIface]
  | leaf (a : α) (ad : Addr) (ds : List Value) : RL a ds → CellsAt h ad ds → NdRep h tl ti RL RI (.leaf a) [.iface tl (.pointer (some ad))]
  | inner (ks : List (NT α β)) (b : β) (ad : Addr) (A : Option Addr) (c : Nat) (ds : List Value) (f : Nat → List Value) : CellsAt h ad (.slice A ks.length c :: ds) → RI b ds → ks.length ≤ c → (A = none → ks = []) →
      (∀ (i : Nat) k, ks[i]? = some k → NdRep h tl ti RL RI k (f i)) → (∀ (i : Nat) k ad', ks[i]? = some k → A = some ad' → CellsAt h (ad'.add (i * 1)) (f i)) → NdRep h tl ti RL RI (.inner ks b) [.iface ti (.pointer (some ad))]
theorem NdRep.one {h : PHeap} {tl ti : Nat} {α β : Type} {RL : α → List Value → Prop} {RI : β → List Value → Prop} {x : NT α β} {cs : List Value} (e : NdRep h tl ti RL RI x cs) : ∃ v, cs = [v] ∧ v.oneCell' = true := by
  cases e with
  | nil => exact ⟨_, rfl, rfl⟩
  | leaf => exact ⟨_, rfl, rfl⟩
  | inner => exact ⟨_, rfl, rfl⟩
theorem NdRep.mono {h h' : PHeap} (hl : PLe h h') {tl ti : Nat} {α β : Type} {RL RL' : α → List Value → Prop} {RI RI' : β → List Value → Prop} (hL : ∀ a ds, RL a ds → RL' a ds) (hI : ∀ a ds, RI a ds → RI' a ds) {x : NT α β} {cs : List Value} (e : NdRep h tl ti RL RI x cs) : NdRep h' tl ti RL' RI' x cs := by
  induction e with
  | nil => exact .nil
  | leaf a ad ds h1 h2 => exact .leaf a ad ds (hL _ _ h1) fun j u hu => hcell_mono hl (h2 j u hu)
  | inner ks b ad A c ds f h1 h2 h3 h4 _ h6 ih => exact .inner ks b ad A c ds f (fun j u hu => hcell_mono hl (h1 j u hu)) (hI _ _ h2) h3 h4 ih fun i k ad' hk hA j u hu => hcell_mono hl (h6 i k ad' hk hA j u hu)
def rep (h : PHeap) : (t : Ty) → t.den → List Value → Prop
  | .bool, b, cs => cs = [.bool b]
  | .int k, n, cs => cs = [.int k n]
  | .str, s, cs => cs = [.string s]
  | .unit, _, cs => cs = []
  | .sl t, xs, cs => ∃ (A : Option Addr) (c : Nat), cs = [.slice A xs.length c] ∧ xs.length ≤ c ∧ (A = none → xs = []) ∧
      ∀ (i : Nat) x ad, xs[i]? = some x → A = some ad → ∃ ds, rep h t x ds ∧ CellsAt h (ad.add (i * t.size)) ds
  | .opt t, x, cs => (x = none ∧ cs = [.pointer none]) ∨ ∃ y ad ds, x = some y ∧ cs = [.pointer (some ad)] ∧ rep h t y ds ∧ CellsAt h ad ds
  | .pair a b, x, cs => ∃ c1 c2, cs = c1 ++ c2 ∧ rep h a x.1 c1 ∧ rep h b x.2 c2
  | .mp K V, xs, cs => (xs = [] ∧ cs = [.map none]) ∨ ∃ (g : Nat) (es : Array MapEntry) (cl : Nat), cs = [.map (some g)] ∧ h g = some (.map es cl) ∧ es.toList.length = xs.length ∧
      ∀ (i : Nat) x e, xs[i]? = some x → es.toList[i]? = some e → (∃ ck, rep h K x.1 ck ∧ e.key = K.val ck) ∧ (∃ cv, rep h V x.2.1 cv ∧ e.val = V.val cv)
  | .nd tl ti l i, x, cs => NdRep h tl ti (fun a ds => rep h l a ds) (fun b ds => rep h i b ds) x cs
theorem rep_len {h : PHeap} : (t : Ty) → (x : t.den) → (cs : List Value) → rep h t x cs → cs.length = t.size
  | .bool, _, _, e => by simp only [rep] at e; subst e; rfl
  | .int _, _, _, e => by simp only [rep] at e; subst e; rfl
  | .str, _, _, e => by simp only [rep] at e; subst e; rfl
  | .unit, _, _, e => by simp only [rep] at e; subst e; rfl
  | .sl _, _, _, e => by obtain ⟨A, c, rfl, _⟩ := e; rfl
  | .opt _, _, _, e => by rcases e with ⟨_, rfl⟩ | ⟨y, ad, ds, _, rfl, _⟩ <;> rfl
  | .pair a b, x, _, e => by
    obtain ⟨c1, c2, rfl, h1, h2⟩ := e
    rw [List.length_append, rep_len a _ _ h1, rep_len b _ _ h2]; rfl
  | .mp _ _, _, _, e => by rcases e with ⟨_, rfl⟩ | ⟨g, es, cl, rfl, _⟩ <;> rfl
  | .nd _ _ _ _, _, _, e => by simp only [rep] at e; obtain ⟨v, rfl, _⟩ := e.one; rfl
theorem rep_mono {h h' : PHeap} (hl : PLe h h') : (t : Ty) → (x : t.den) → (cs : List Value) → rep h t x cs → rep h' t x cs
  | .bool, _, _, e => e
  | .int _, _, _, e => e
  | .str, _, _, e => e
  | .unit, _, _, e => e
  | .sl t, _, _, e => by
    obtain ⟨A, c, e1, e2, e3, e4⟩ := e
    refine ⟨A, c, e1, e2, e3, fun i x ad hx hA => ?_⟩
    obtain ⟨ds, hd, hc⟩ := e4 i x ad hx hA
    exact ⟨ds, rep_mono hl t x ds hd, fun j u hu => hcell_mono hl (hc j u hu)⟩
  | .opt t, _, _, e => by
    rcases e with e | ⟨y, ad, ds, e1, e2, hd, hc⟩
    · exact .inl e
    · exact .inr ⟨y, ad, ds, e1, e2, rep_mono hl t y ds hd, fun j u hu => hcell_mono hl (hc j u hu)⟩
  | .pair a b, x, _, e => by
    obtain ⟨c1, c2, e0, h1, h2⟩ := e
    exact ⟨c1, c2, e0, rep_mono hl a _ _ h1, rep_mono hl b _ _ h2⟩
  | .mp K V, _, _, e => by
    rcases e with e | ⟨g, es, cl, e1, e2, e3, e4⟩
    · exact .inl e
    · refine .inr ⟨g, es, cl, e1, hl _ _ e2, e3, fun i x en hx he => ?_⟩
      obtain ⟨⟨ck, k1, k2⟩, cv, v1, v2⟩ := e4 i x en hx he
      exact ⟨⟨ck, rep_mono hl K _ _ k1, k2⟩, cv, rep_mono hl V _ _ v1, v2⟩
  | .nd tl ti l i, _, _, e => by
    simp only [rep] at e ⊢
    exact e.mono hl (fun a ds => rep_mono hl l a ds) (fun b ds => rep_mono hl i b ds)
theorem rep_one {h : PHeap} : (t : Ty) → (x : t.den) → (cs : List Value) → rep h t x cs → ∀ u ∈ cs, u.oneCell' = true
  | .bool, _, _, e => by simp only [rep] at e; subst e; simp [Value.oneCell']
  | .int _, _, _, e => by simp only [rep] at e; subst e; simp [Value.oneCell']
  | .str, _, _, e => by simp only [rep] at e; subst e; simp [Value.oneCell']
  | .unit, _, _, e => by simp only [rep] at e; subst e; simp
  | .sl _, _, _, e => by obtain ⟨A, c, rfl, _⟩ := e; simp [Value.oneCell']
  | .opt _, _, _, e => by rcases e with ⟨_, rfl⟩ | ⟨y, ad, ds, _, rfl, _⟩ <;> simp [Value.oneCell']
  | .pair a b, x, _, e => by
    obtain ⟨c1, c2, rfl, h1, h2⟩ := e
    intro u hu
    rcases List.mem_append.1 hu with hu | hu
    · exact rep_one a _ _ h1 u hu
    · exact rep_one b _ _ h2 u hu
  | .mp _ _, _, _, e => by rcases e with ⟨_, rfl⟩ | ⟨g, es, cl, rfl, _⟩ <;> simp [Value.oneCell']
  | .nd _ _ _ _, _, _, e => by
    simp only [rep] at e
    obtain ⟨v, rfl, h1⟩ := e.one
    intro u hu
    rw [List.mem_singleton.1 hu]
    exact h1
theorem nd_inner_inv {h : PHeap} {tl ti : Nat} {l i : Ty} {ks : List (NT l.den i.den)} {b : i.den} {cs : List Value} (e : rep h (.nd tl ti l i) (.inner ks b) cs) :
    ∃ ad ds, cs = [.iface ti (.pointer (some ad))] ∧ rep h (.pair (.sl (.nd tl ti l i)) i) (ks, b) ds ∧ CellsAt h ad ds := by
  simp only [rep] at e
  cases e with
  | inner _ _ ad A c ds f h1 h2 h3 h4 h5 h6 =>
    refine ⟨ad, [.slice A ks.length c] ++ ds, rfl, ⟨[.slice A ks.length c], ds, rfl, ⟨A, c, rfl, h3, h4, fun j x ad' hx hA => ⟨f j, ?_, h6 j x ad' hx hA⟩⟩, h2⟩, h1⟩
    simp only [rep]
    exact h5 j x hx
theorem nd_leaf_inv {h : PHeap} {tl ti : Nat} {l i : Ty} {a : l.den} {cs : List Value} (e : rep h (.nd tl ti l i) (.leaf a) cs) :
    ∃ ad ds, cs = [.iface tl (.pointer (some ad))] ∧ rep h l a ds ∧ CellsAt h ad ds := by
  simp only [rep] at e
  cases e with
  | leaf _ ad ds h1 h2 => exact ⟨ad, ds, rfl, h1, h2⟩
theorem nd_nil_inv {h : PHeap} {tl ti : Nat} {l i : Ty} {cs : List Value} (e : rep h (.nd tl ti l i) .nil cs) : cs = [.nilIface] := by
  simp only [rep] at e
  cases e
  rfl
theorem nd_leaf_rep {h : PHeap} {tl ti : Nat} {l i : Ty} {a : l.den} {ad : Addr} {ds : List Value} (h1 : rep h l a ds) (h2 : CellsAt h ad ds) : rep h (.nd tl ti l i) (.leaf a) [.iface tl (.pointer (some ad))] := by
  simp only [rep]
  exact .leaf a ad ds h1 h2
theorem nd_inner_rep {h : PHeap} {tl ti : Nat} {l i : Ty} {x : List (NT l.den i.den) × i.den} {ad : Addr} {ds : List Value} (h1 : rep h (.pair (.sl (.nd tl ti l i)) i) x ds) (h2 : CellsAt h ad ds) :
    rep h (.nd tl ti l i) (.inner x.1 x.2) [.iface ti (.pointer (some ad))] := by
  obtain ⟨ks, b⟩ := x
  obtain ⟨c1, c2, rfl, ⟨A, c, rfl, g1, g2, g3⟩, h3⟩ := h1
  simp only [rep] at g3 ⊢
  have hex : ∀ j : Nat, ∃ fs : List Value, ∀ k, ks[j]? = some k → NdRep h tl ti (fun a ds => rep h l a ds) (fun b ds => rep h i b ds) k fs ∧ ∀ ad', A = some ad' → CellsAt h (ad'.add (j * 1)) fs := fun j => by
    cases hk : ks[j]? with
    | none => exact ⟨[], fun k hk' => by cases hk'⟩
    | some k =>
      cases A with
      | none => have e0 : ks = [] := g2 rfl; subst e0; simp at hk
      | some ad' =>
        obtain ⟨fs, q1, q2⟩ := g3 j k ad' hk rfl
        exact ⟨fs, fun k' hk' => by injection hk' with hk'; subst hk'; exact ⟨q1, fun ad'' e => by injection e with e; subst e; exact q2⟩⟩
  obtain ⟨f, hf⟩ := Classical.axiomOfChoice hex
  exact .inner ks b ad A c c2 f h2 h3 g1 g2 (fun j k hk => (hf j k hk).1) fun j k ad' hk hA => (hf j k hk).2 ad' hA
def vrep (h : PHeap) (t : Ty) (x : t.den) (v : Value) : Prop := ∃ cs, rep h t x cs ∧ v = t.val cs
theorem vrep_mono {h h' : PHeap} (hl : PLe h h') {t : Ty} {x : t.den} {v : Value} (hv : vrep h t x v) : vrep h' t x v := by
  obtain ⟨cs, h1, h2⟩ := hv
  exact ⟨cs, rep_mono hl t x cs h1, h2⟩
def trep (h : PHeap) : (t : Ty) → t.den → List Value → Prop
  | .unit, _, vs => vs = []
  | .pair a b, x, vs => ∃ v r, vs = v :: r ∧ vrep h a x.1 v ∧ trep h b x.2 r
  | _, _, _ => False
theorem trep_mono {h h' : PHeap} (hl : PLe h h') : (t : Ty) → (x : t.den) → (vs : List Value) → trep h t x vs → trep h' t x vs
  | .unit, _, _, e => e
  | .pair a b, x, _, e => by
    obtain ⟨v, r, e0, h1, h2⟩ := e
    exact ⟨v, r, e0, vrep_mono hl h1, trep_mono hl b _ _ h2⟩
  | .bool, _, _, e => e.elim
  | .int _, _, _, e => e.elim
  | .str, _, _, e => e.elim
  | .sl _, _, _, e => e.elim
  | .opt _, _, _, e => e.elim
  | .mp _ _, _, _, e => e.elim
  | .nd _ _ _ _, _, _, e => e.elim
inductive Leaf where
  | any
  | undef
  | blit (b : Bool)
  | tv (t : Ty) (x : t.den)
  | raw (v : Value)
  | ptr (i off : Nat)
  | eptr (t : Ty) (xs : List t.den) (i off : Nat)
  | row (r : Nat)
  | rptr (r size i off : Nat)
  /-- A slice of a row from its i-th element on. -/
  | rsub (r size i : Nat)
  | clo (f : FuncId) (caps : List Leaf)
  /-- A map of the call's own. -/
  | mref (i : Nat)
inductive SV where
  | leaf (l : Leaf)
  | agg (ls : List Leaf)
  | tupv (t : Ty) (x : t.den)
structure Names where
  ρ : Nat → Nat
  V : Nat → Value
def optL {α : Type} : Option α → List α
  | none => []
  | some a => [a]
def ListAt (h : PHeap) (t : Ty) (xs : List t.den) (ad : Addr) : Prop :=
  ∀ (i : Nat) x, xs[i]? = some x → ∃ ds, rep h t x ds ∧ CellsAt h (ad.add (i * t.size)) ds
mutual
def Leaf.rel (N : Names) (h : PHeap) : Leaf → Value → Prop
  | .any, _ => True
  | .undef, v => v = Go.undef
  | .blit b, v => v = .bool b
  | .tv t x, v => vrep h t x v
  | .raw u, v => v = u
  | .ptr i off, v => v = .pointer (some ⟨N.ρ i, off, none⟩)
  | .eptr t xs i off, v => i < xs.length ∧ ∃ ad, v = .pointer (some ((ad : Addr).add (i * t.size + off))) ∧ ListAt h t xs ad
  | .row r, v => v = N.V r ∧ v.oneCell' = true
  | .rptr r size i off, v => ∃ g len cap, N.V r = .slice (some ⟨g, 0, none⟩) len cap ∧ i < len ∧ v = .pointer (some ⟨g, i * size + off, none⟩)
  | .rsub r size i, v => ∃ g len cap, N.V r = .slice (some ⟨g, 0, none⟩) len cap ∧ i < len ∧ v = .slice (some ⟨g, i * size, none⟩) (len - i) (cap - i)
  | .clo f caps, v => ∃ vs : List Value, v = .func (.func f) #[] vs.toArray ∧ LeafRels N h caps vs
  | .mref i, v => v = .map (some (N.ρ i))
def LeafRels (N : Names) (h : PHeap) : List Leaf → List Value → Prop
  | [], vs => vs = []
  | l :: ls, vs => ∃ v r, vs = v :: r ∧ l.rel N h v ∧ LeafRels N h ls r
end
def SV.rel (N : Names) (h : PHeap) : SV → Value → Prop
  | .leaf l, v => l.rel N h v
  | .agg ls, v => ∃ cs : List Value, v = .agg cs.toArray ∧ LeafRels N h ls cs ∧ ∀ u ∈ cs, u.oneCell' = true
  | .tupv t x, v => ∃ vs : List Value, v = .tuple vs.toArray ∧ trep h t x vs
theorem LeafRels.nil_iff {N : Names} {h : PHeap} {vs : List Value} : LeafRels N h [] vs ↔ vs = [] := by simp only [LeafRels]
theorem LeafRels.cons_iff {N : Names} {h : PHeap} {l : Leaf} {ls : List Leaf} {v : Value} {vs : List Value} : LeafRels N h (l :: ls) (v :: vs) ↔ l.rel N h v ∧ LeafRels N h ls vs := by
  rw [LeafRels]
  constructor
  · rintro ⟨v', r, e, h1, h2⟩
    injection e with e1 e2
    subst e1 e2
    exact ⟨h1, h2⟩
  · rintro ⟨h1, h2⟩
    exact ⟨v, vs, rfl, h1, h2⟩
theorem LeafRels.nil (N : Names) (h : PHeap) : LeafRels N h [] [] := LeafRels.nil_iff.2 rfl
theorem LeafRels.cons {N : Names} {h : PHeap} {l : Leaf} {ls : List Leaf} {v : Value} {vs : List Value} (h1 : l.rel N h v) (h2 : LeafRels N h ls vs) : LeafRels N h (l :: ls) (v :: vs) := LeafRels.cons_iff.2 ⟨h1, h2⟩
mutual
theorem Leaf.rel_mono {N : Names} {h h' : PHeap} (hl : PLe h h') : (l : Leaf) → (v : Value) → l.rel N h v → l.rel N h' v
  | .any, _, _ => by simp only [Leaf.rel]
  | .undef, _, e => by simp only [Leaf.rel] at e ⊢; exact e
  | .blit _, _, e => by simp only [Leaf.rel] at e ⊢; exact e
  | .tv _ _, _, e => by simp only [Leaf.rel] at e ⊢; exact vrep_mono hl e
  | .raw _, _, e => by simp only [Leaf.rel] at e ⊢; exact e
  | .ptr .., _, e => by simp only [Leaf.rel] at e ⊢; exact e
  | .mref _, _, e => by simp only [Leaf.rel] at e ⊢; exact e
  | .eptr t xs i off, _, e => by
      simp only [Leaf.rel] at e ⊢
      obtain ⟨e0, ad, e1, e2⟩ := e
      exact ⟨e0, ad, e1, fun i x hx => by
        obtain ⟨ds, h1, h2⟩ := e2 i x hx
        exact ⟨ds, rep_mono hl t x ds h1, fun j u hu => hcell_mono hl (h2 j u hu)⟩⟩
  | .row _, _, e => by simp only [Leaf.rel] at e ⊢; exact e
  | .rptr .., _, e => by simp only [Leaf.rel] at e ⊢; exact e
  | .rsub .., _, e => by simp only [Leaf.rel] at e ⊢; exact e
  | .clo _ caps, _, e => by
      simp only [Leaf.rel] at e ⊢
      obtain ⟨vs, e1, e2⟩ := e
      exact ⟨vs, e1, LeafRels.mono hl caps vs e2⟩
theorem LeafRels.mono {N : Names} {h h' : PHeap} (hl : PLe h h') : (ls : List Leaf) → (vs : List Value) → LeafRels N h ls vs → LeafRels N h' ls vs
  | [], _, e => by rw [LeafRels] at e ⊢; exact e
  | l :: ls, _, e => by
      rw [LeafRels] at e ⊢
      obtain ⟨v, r, e0, e1, e2⟩ := e
      exact ⟨v, r, e0, l.rel_mono hl v e1, LeafRels.mono hl ls r e2⟩
end
theorem SV.rel_mono {N : Names} {h h' : PHeap} (hl : PLe h h') : (s : SV) → (v : Value) → s.rel N h v → s.rel N h' v
  | .leaf l, v, e => l.rel_mono hl v e
  | .agg ls, _, ⟨cs, e1, e2, e3⟩ => ⟨cs, e1, LeafRels.mono hl ls cs e2, e3⟩
  | .tupv t x, _, ⟨vs, e1, e2⟩ => ⟨vs, e1, trep_mono hl t x vs e2⟩
theorem LeafRels.length {N : Names} {h : PHeap} : (ls : List Leaf) → (vs : List Value) → LeafRels N h ls vs → ls.length = vs.length
  | [], _, e => by rw [LeafRels] at e; subst e; rfl
  | _ :: ls, _, e => by
    rw [LeafRels] at e
    obtain ⟨v, r, rfl, _, e2⟩ := e
    simp [LeafRels.length ls r e2]
theorem LeafRels.append {N : Names} {h : PHeap} : (l1 l2 : List Leaf) → (v1 v2 : List Value) → LeafRels N h l1 v1 → LeafRels N h l2 v2 → LeafRels N h (l1 ++ l2) (v1 ++ v2)
  | [], _, _, _, e1, e => by rw [LeafRels] at e1; subst e1; exact e
  | _ :: ls, l2, _, v2, e1, e => by
    rw [LeafRels] at e1
    obtain ⟨v, r, rfl, g1, g2⟩ := e1
    exact LeafRels.cons g1 (LeafRels.append ls l2 r v2 g2 e)
theorem LeafRels.take {N : Names} {h : PHeap} : (n : Nat) → (ls : List Leaf) → (vs : List Value) → LeafRels N h ls vs → LeafRels N h (ls.take n) (vs.take n)
  | 0, _, _, _ => by simpa using LeafRels.nil N h
  | _ + 1, [], _, e => by rw [LeafRels] at e; subst e; exact LeafRels.nil N h
  | n + 1, _ :: ls, _, e => by
    rw [LeafRels] at e
    obtain ⟨v, r, rfl, g1, g2⟩ := e
    exact LeafRels.cons g1 (LeafRels.take n ls r g2)
theorem LeafRels.drop {N : Names} {h : PHeap} : (n : Nat) → (ls : List Leaf) → (vs : List Value) → LeafRels N h ls vs → LeafRels N h (ls.drop n) (vs.drop n)
  | 0, _, _, e => e
  | _ + 1, [], _, e => by rw [LeafRels] at e; subst e; exact LeafRels.nil N h
  | n + 1, _ :: ls, _, e => by
    rw [LeafRels] at e
    obtain ⟨v, r, rfl, _, g2⟩ := e
    exact LeafRels.drop n ls r g2
theorem LeafRels.get {N : Names} {h : PHeap} : (ls : List Leaf) → (vs : List Value) → LeafRels N h ls vs → ∀ (n : Nat) l, ls[n]? = some l → ∃ v, vs[n]? = some v ∧ l.rel N h v
  | [], _, _, _, _, e => by simp at e
  | l :: ls, _, e0, n, l', e => by
    rw [LeafRels] at e0
    obtain ⟨v, r, rfl, g1, g2⟩ := e0
    cases n with
    | zero => simp at e; subst e; exact ⟨v, rfl, g1⟩
    | succ n =>
      obtain ⟨v', h1, h2⟩ := LeafRels.get ls r g2 n l' (by simpa using e)
      exact ⟨v', by simpa using h1, h2⟩
def explode : (t : Ty) → t.den → List Leaf
  | .unit, _ => []
  | .pair a b, x => explode a x.1 ++ explode b x.2
  | .bool, x => [.tv .bool x]
  | .int k, x => [.tv (.int k) x]
  | .str, x => [.tv .str x]
  | .sl t, x => [.tv (.sl t) x]
  | .opt t, x => [.tv (.opt t) x]
  | .mp K V, x => [.tv (.mp K V) x]
  | .nd tl ti l i, x => [.tv (.nd tl ti l i) x]
theorem tv_rel {N : Names} {h : PHeap} {t : Ty} {x : t.den} {v : Value} : (Leaf.tv t x).rel N h v ↔ vrep h t x v := by simp only [Leaf.rel]
theorem SV.tv_iff {N : Names} {h : PHeap} {t : Ty} {x : t.den} {v : Value} : (SV.leaf (.tv t x)).rel N h v ↔ vrep h t x v := by simp only [SV.rel, Leaf.rel]
theorem SV.leaf_iff {N : Names} {h : PHeap} {l : Leaf} {v : Value} : (SV.leaf l).rel N h v ↔ l.rel N h v := by simp only [SV.rel]
theorem explode_rel {N : Names} {h : PHeap} : (t : Ty) → (x : t.den) → (cs : List Value) → rep h t x cs → LeafRels N h (explode t x) cs
  | .bool, _, cs, e => by
      simp only [rep] at e; subst e; exact LeafRels.cons (tv_rel.2 ⟨_, rfl, rfl⟩) (LeafRels.nil N h)
  | .int _, _, _, e => by simp only [rep] at e; subst e; exact LeafRels.cons (tv_rel.2 ⟨_, rfl, rfl⟩) (LeafRels.nil N h)
  | .str, _, _, e => by simp only [rep] at e; subst e; exact LeafRels.cons (tv_rel.2 ⟨_, rfl, rfl⟩) (LeafRels.nil N h)
  | .unit, _, _, e => by simp only [rep] at e; subst e; exact LeafRels.nil N h
  | .sl _, _, _, e => by
      have e' := e
      obtain ⟨A, c, rfl, _⟩ := e
      exact LeafRels.cons (tv_rel.2 ⟨_, e', rfl⟩) (LeafRels.nil N h)
  | .opt _, _, _, e => by
      have e' := e
      rcases e with ⟨_, rfl⟩ | ⟨y, ad, ds, _, rfl, _⟩
      · exact LeafRels.cons (tv_rel.2 ⟨_, e', rfl⟩) (LeafRels.nil N h)
      · exact LeafRels.cons (tv_rel.2 ⟨_, e', rfl⟩) (LeafRels.nil N h)
  | .pair a b, x, _, e => by
      obtain ⟨c1, c2, rfl, h1, h2⟩ := e
      exact LeafRels.append _ _ _ _ (explode_rel a _ _ h1) (explode_rel b _ _ h2)
  | .mp _ _, _, _, e => by
      have e' := e
      rcases e with ⟨_, rfl⟩ | ⟨g, es, cl, rfl, _⟩
      · exact LeafRels.cons (tv_rel.2 ⟨_, e', rfl⟩) (LeafRels.nil N h)
      · exact LeafRels.cons (tv_rel.2 ⟨_, e', rfl⟩) (LeafRels.nil N h)
  | .nd _ _ _ _, _, _, e => by
      have e' := e
      simp only [rep] at e
      obtain ⟨v, rfl, _⟩ := e.one
      exact LeafRels.cons (tv_rel.2 ⟨_, e', rfl⟩) (LeafRels.nil N h)
def popBool : List Leaf → Option (Bool × List Leaf)
  | .tv .bool b :: r => some (b, r)
  | .blit b :: r => some (b, r)
  | _ => none
def popInt (k : IntKind) : List Leaf → Option (Int × List Leaf)
  | .tv (.int k') n :: r => if k' = k then some ((n : Int), r) else none
  | _ => none
def popStr : List Leaf → Option (ByteArray × List Leaf)
  | .tv .str s :: r => some (s, r)
  | _ => none
def popSl (t : Ty) : List Leaf → Option (List t.den × List Leaf)
  | .tv (.sl t') xs :: r => if e : t' = t then some (e ▸ xs, r) else none
  | .raw (.slice none 0 0) :: r => some ([], r)
  | _ => none
def popOpt (t : Ty) : List Leaf → Option (Option t.den × List Leaf)
  | .tv (.opt t') xs :: r => if e : t' = t then some (e ▸ xs, r) else none
  | .raw (.pointer none) :: r => some (none, r)
  | _ => none
def popMp (K V : Ty) : List Leaf → Option (List (K.den × V.den × Unit) × List Leaf)
  | .tv (.mp K' V') xs :: r => if e : K' = K ∧ V' = V then some (e.1 ▸ e.2 ▸ xs, r) else none
  | .raw (.map none) :: r => some ([], r)
  | _ => none
def popNd (tl ti : Nat) (l i : Ty) : List Leaf → Option (NT l.den i.den × List Leaf)
  | .tv (.nd a b c d) x :: r => if e : Ty.nd a b c d = Ty.nd tl ti l i then some (Eq.rec (motive := fun t _ => Ty.den t) x e, r) else none
  | .raw .nilIface :: r => some (.nil, r)
  | _ => none
def implode : (t : Ty) → List Leaf → Option (t.den × List Leaf)
  | .bool, ls => popBool ls
  | .int k, ls => popInt k ls
  | .str, ls => popStr ls
  | .unit, r => some ((), r)
  | .sl t, ls => popSl t ls
  | .opt t, ls => popOpt t ls
  | .mp K V, ls => popMp K V ls
  | .nd tl ti l i, ls => popNd tl ti l i ls
  | .pair a b, ls =>
    match implode a ls with
    | some (x, r) => match implode b r with
      | some (y, r') => some ((x, y), r')
      | none => none
    | none => none
theorem rels_cons {N : Names} {h : PHeap} {l : Leaf} {ls : List Leaf} {cs : List Value} (hr : LeafRels N h (l :: ls) cs) : ∃ c r, cs = c :: r ∧ l.rel N h c ∧ LeafRels N h ls r := by
  rw [LeafRels] at hr
  exact hr
theorem implode_rel {N : Names} {h : PHeap} : (t : Ty) → (ls : List Leaf) → (x : t.den) → (r : List Leaf) → implode t ls = some (x, r) → (cs : List Value) → LeafRels N h ls cs →
    ∃ c1 c2, cs = c1 ++ c2 ∧ rep h t x c1 ∧ LeafRels N h r c2
  | .bool, ls, x, r, e, cs, hr => by
    simp only [implode] at e
    unfold popBool at e
    split at e
    · injection e with e; injection e with e1 e2; subst e1 e2
      obtain ⟨c, cs, rfl, h1, h2⟩ := rels_cons hr
      obtain ⟨ds, g1, g2⟩ := tv_rel.1 h1
      simp only [rep] at g1; subst g1
      exact ⟨[c], cs, rfl, by rw [g2]; rfl, h2⟩
    · injection e with e; injection e with e1 e2; subst e1 e2
      obtain ⟨c, cs, rfl, h1, h2⟩ := rels_cons hr
      exact ⟨[c], cs, rfl, by simp only [Leaf.rel] at h1; rw [h1]; rfl, h2⟩
    · cases e
  | .int k, ls, x, r, e, cs, hr => by
    simp only [implode] at e
    unfold popInt at e
    split at e
    · split at e
      · rename_i hk; subst hk
        injection e with e; injection e with e1 e2; subst e1 e2
        obtain ⟨c, cs, rfl, h1, h2⟩ := rels_cons hr
        obtain ⟨ds, g1, g2⟩ := tv_rel.1 h1
        simp only [rep] at g1; subst g1
        exact ⟨[c], cs, rfl, by rw [g2]; rfl, h2⟩
      · cases e
    · cases e
  | .str, ls, x, r, e, cs, hr => by
    simp only [implode] at e
    unfold popStr at e
    split at e
    · injection e with e; injection e with e1 e2; subst e1 e2
      obtain ⟨c, cs, rfl, h1, h2⟩ := rels_cons hr
      obtain ⟨ds, g1, g2⟩ := tv_rel.1 h1
      simp only [rep] at g1; subst g1
      exact ⟨[c], cs, rfl, by rw [g2]; rfl, h2⟩
    · cases e
  | .unit, ls, x, r, e, cs, hr => by
    simp only [implode] at e
    injection e with e; injection e with e1 e2; subst e2
    exact ⟨[], cs, rfl, rfl, hr⟩
  | .sl t, ls, x, r, e, cs, hr => by
    simp only [implode] at e
    unfold popSl at e
    split at e
    · split at e
      · rename_i hk; subst hk
        injection e with e; injection e with e1 e2; subst e1 e2
        obtain ⟨c, cs, rfl, h1, h2⟩ := rels_cons hr
        obtain ⟨ds, g1, g2⟩ := tv_rel.1 h1
        have g1' := g1
        obtain ⟨A, n, rfl, _⟩ := g1
        refine ⟨[c], cs, rfl, ?_, h2⟩
        rw [show c = Value.slice A _ n from g2]
        exact g1'
      · cases e
    · injection e with e; injection e with e1 e2; subst e1 e2
      obtain ⟨c, cs, rfl, h1, h2⟩ := rels_cons hr
      refine ⟨[c], cs, rfl, ?_, h2⟩
      simp only [Leaf.rel] at h1
      subst h1
      exact ⟨none, 0, rfl, Nat.le_refl _, fun _ => rfl, fun i x ad hx _ => by simp at hx⟩
    · cases e
  | .opt t, ls, x, r, e, cs, hr => by
    simp only [implode] at e
    unfold popOpt at e
    split at e
    · split at e
      · rename_i hk; subst hk
        injection e with e; injection e with e1 e2; subst e1 e2
        obtain ⟨c, cs, rfl, h1, h2⟩ := rels_cons hr
        obtain ⟨ds, g1, g2⟩ := tv_rel.1 h1
        refine ⟨[c], cs, rfl, ?_, h2⟩
        have : ds = [c] := by
          rcases g1 with ⟨_, rfl⟩ | ⟨y, ad, es, _, rfl, _⟩ <;> rw [g2] <;> rfl
        rw [← this]
        exact g1
      · cases e
    · injection e with e; injection e with e1 e2; subst e1 e2
      obtain ⟨c, cs, rfl, h1, h2⟩ := rels_cons hr
      refine ⟨[c], cs, rfl, ?_, h2⟩
      simp only [Leaf.rel] at h1
      subst h1
      exact .inl ⟨rfl, rfl⟩
    · cases e
  | .mp K V, ls, x, r, e, cs, hr => by
    simp only [implode] at e
    unfold popMp at e
    split at e
    · split at e
      · rename_i hk
        obtain ⟨h1, h2⟩ := hk
        subst h1 h2
        injection e with e; injection e with e1 e2; subst e1 e2
        obtain ⟨c, cs, rfl, h1, h2⟩ := rels_cons hr
        obtain ⟨ds, g1, g2⟩ := tv_rel.1 h1
        refine ⟨[c], cs, rfl, ?_, h2⟩
        have : ds = [c] := by
          rcases g1 with ⟨_, rfl⟩ | ⟨g, es, cl, rfl, _⟩ <;> rw [g2] <;> rfl
        rw [← this]
        exact g1
      · cases e
    · injection e with e; injection e with e1 e2; subst e1 e2
      obtain ⟨c, cs, rfl, h1, h2⟩ := rels_cons hr
      refine ⟨[c], cs, rfl, ?_, h2⟩
      simp only [Leaf.rel] at h1
      subst h1
      exact .inl ⟨rfl, rfl⟩
    · cases e
  | .nd tl ti l i, ls, x, r, e, cs, hr => by
    simp only [implode] at e
    unfold popNd at e
    split at e
    · split at e
      · rename_i hk
        cases hk
        injection e with e; injection e with e1 e2; subst e1 e2
        obtain ⟨c, cs, rfl, h1, h2⟩ := rels_cons hr
        obtain ⟨ds, g1, g2⟩ := tv_rel.1 h1
        refine ⟨[c], cs, rfl, ?_, h2⟩
        have : ds = [c] := by
          have g1' := g1
          simp only [rep] at g1'
          obtain ⟨v, rfl, _⟩ := g1'.one
          rw [g2]; rfl
        rw [← this]
        exact g1
      · cases e
    · injection e with e; injection e with e1 e2; subst e1 e2
      obtain ⟨c, cs, rfl, h1, h2⟩ := rels_cons hr
      refine ⟨[c], cs, rfl, ?_, h2⟩
      simp only [Leaf.rel] at h1
      subst h1
      simp only [rep]
      exact .nil
    · cases e
  | .pair a b, ls, x, r, e, cs, hr => by
    simp only [implode] at e
    cases h1 : implode a ls with
    | none => rw [h1] at e; cases e
    | some p =>
      obtain ⟨y, r1⟩ := p
      rw [h1] at e
      simp only [] at e
      cases h2 : implode b r1 with
      | none => rw [h2] at e; cases e
      | some q =>
        obtain ⟨z, r2⟩ := q
        rw [h2] at e
        simp only [Option.some.injEq, Prod.mk.injEq] at e
        obtain ⟨e1, e2⟩ := e
        subst e1 e2
        obtain ⟨c1, c2, rfl, g1, g2⟩ := implode_rel a ls y r1 h1 cs hr
        obtain ⟨c3, c4, rfl, g3, g4⟩ := implode_rel b r1 z r2 h2 c2 g2
        exact ⟨c1 ++ c3, c4, by simp, ⟨c1, c3, rfl, g1, g3⟩, g4⟩
def popSlK {R : Sort u} (t : Ty) (ls : List Leaf) (fail : R) (k : List t.den → List Leaf → R) : R :=
  match ls with
  | .tv (.sl t') xs :: r => match (inferInstance : Decidable (t' = t)) with
    | .isTrue e => (Eq.rec (motive := fun t _ => (List (Ty.den t) → List Leaf → R) → R) (fun k => k xs r) e) k
    | .isFalse _ => fail
  | .raw (.slice none 0 0) :: r => k [] r
  | _ => fail
theorem popSlK_eq {R : Sort u} (t : Ty) (ls : List Leaf) (fail : R) (k : List t.den → List Leaf → R) :
    popSlK t ls fail k = match popSl t ls with | some (x, r) => k x r | none => fail := by
  unfold popSlK popSl
  split
  · rename_i t' xs r
    by_cases e : t' = t
    · subst e
      rw [dif_pos rfl]
      split
      · rfl
      · rename_i h _; exact absurd rfl h
    · rw [dif_neg e]
      split
      · rename_i h _; exact absurd h e
      · rfl
  · rfl
  · rfl
def popOptK {R : Sort u} (t : Ty) (ls : List Leaf) (fail : R) (k : Option t.den → List Leaf → R) : R :=
  match ls with
  | .tv (.opt t') xs :: r => match (inferInstance : Decidable (t' = t)) with
    | .isTrue e => (Eq.rec (motive := fun t _ => (Option (Ty.den t) → List Leaf → R) → R) (fun k => k xs r) e) k
    | .isFalse _ => fail
  | .raw (.pointer none) :: r => k none r
  | _ => fail
theorem popOptK_eq {R : Sort u} (t : Ty) (ls : List Leaf) (fail : R) (k : Option t.den → List Leaf → R) :
    popOptK t ls fail k = match popOpt t ls with | some (x, r) => k x r | none => fail := by
  unfold popOptK popOpt
  split
  · rename_i t' xs r
    by_cases e : t' = t
    · subst e
      rw [dif_pos rfl]
      split
      · rfl
      · rename_i h _; exact absurd rfl h
    · rw [dif_neg e]
      split
      · rename_i h _; exact absurd h e
      · rfl
  · rfl
  · rfl
def popMpK {R : Sort u} (K V : Ty) (ls : List Leaf) (fail : R) (k : List (K.den × V.den × Unit) → List Leaf → R) : R :=
  match ls with
  | .tv (.mp K' V') xs :: r => match (inferInstance : Decidable (K' = K)) with
    | .isTrue e => match (inferInstance : Decidable (V' = V)) with
      | .isTrue e' => (Eq.rec (motive := fun t _ => (List (Ty.den t × Ty.den V × Unit) → List Leaf → R) → R) (fun k => (Eq.rec (motive := fun t _ => (List (Ty.den K' × Ty.den t × Unit) → List Leaf → R) → R) (fun k => k xs r) e') k) e) k
      | .isFalse _ => fail
    | .isFalse _ => fail
  | .raw (.map none) :: r => k [] r
  | _ => fail
theorem popMpK_eq {R : Sort u} (K V : Ty) (ls : List Leaf) (fail : R) (k : List (K.den × V.den × Unit) → List Leaf → R) :
    popMpK K V ls fail k = match popMp K V ls with | some (x, r) => k x r | none => fail := by
  unfold popMpK popMp
  split
  · rename_i K' V' xs r
    by_cases e : K' = K
    · subst e
      by_cases e' : V' = V
      · subst e'
        rw [dif_pos ⟨rfl, rfl⟩]
        split
        · split
          · rfl
          · rename_i h _; exact absurd rfl h
        · rename_i h _; exact absurd rfl h
      · rw [dif_neg (fun h => e' h.2)]
        split
        · split
          · rename_i h _; exact absurd h e'
          · rfl
        · rfl
    · rw [dif_neg (fun h => e h.1)]
      split
      · rename_i h _; exact absurd h e
      · rfl
  · rfl
  · rfl
def popNdK {R : Sort u} (tl ti : Nat) (l i : Ty) (ls : List Leaf) (fail : R) (k : NT l.den i.den → List Leaf → R) : R :=
  match ls with
  | .tv (.nd a b c d) x :: r => match (inferInstance : Decidable (Ty.nd a b c d = Ty.nd tl ti l i)) with
    | .isTrue e => (Eq.rec (motive := fun t _ => (Ty.den t → List Leaf → R) → R) (fun k => k x r) e) k
    | .isFalse _ => fail
  | .raw .nilIface :: r => k .nil r
  | _ => fail
theorem popNdK_eq {R : Sort u} (tl ti : Nat) (l i : Ty) (ls : List Leaf) (fail : R) (k : NT l.den i.den → List Leaf → R) :
    popNdK tl ti l i ls fail k = match popNd tl ti l i ls with | some (x, r) => k x r | none => fail := by
  unfold popNdK popNd
  split
  · rename_i a b c d x r
    by_cases e : Ty.nd a b c d = Ty.nd tl ti l i
    · have e2 := e
      cases e2
      rw [dif_pos rfl]
      split
      · rfl
      · rename_i h _; exact absurd rfl h
    · rw [dif_neg e]
      split
      · rename_i h _; exact absurd h e
      · rfl
  · rfl
  · rfl
def implodeK {R : Sort u} : (t : Ty) → List Leaf → R → (t.den → List Leaf → R) → R
  | .bool, ls, fail, k => match popBool ls with | some (x, r) => k x r | none => fail
  | .int i, ls, fail, k => match popInt i ls with | some (x, r) => k x r | none => fail
  | .str, ls, fail, k => match popStr ls with | some (x, r) => k x r | none => fail
  | .unit, r, _, k => k () r
  | .sl t, ls, fail, k => popSlK t ls fail k
  | .opt t, ls, fail, k => popOptK t ls fail k
  | .mp K V, ls, fail, k => popMpK K V ls fail k
  | .nd tl ti l i, ls, fail, k => popNdK tl ti l i ls fail k
  | .pair a b, ls, fail, k => implodeK a ls fail fun x r => implodeK b r fail fun y r' => k (x, y) r'
theorem implodeK_eq {R : Sort u} : (t : Ty) → (ls : List Leaf) → (fail : R) → (k : t.den → List Leaf → R) →
    implodeK t ls fail k = match implode t ls with | some (x, r) => k x r | none => fail
  | .bool, ls, fail, k => by
    simp only [implodeK, implode]
    cases popBool ls with
    | none => rfl
    | some p => rfl
  | .int i, ls, fail, k => by
    simp only [implodeK, implode]
    cases popInt i ls with
    | none => rfl
    | some p => rfl
  | .str, ls, fail, k => by
    simp only [implodeK, implode]
    cases popStr ls with
    | none => rfl
    | some p => rfl
  | .unit, ls, fail, k => rfl
  | .sl t, ls, fail, k => by
    simp only [implodeK, implode, popSlK_eq]
    cases popSl t ls with
    | none => rfl
    | some p => rfl
  | .opt t, ls, fail, k => by
    simp only [implodeK, implode, popOptK_eq]
    cases popOpt t ls with
    | none => rfl
    | some p => rfl
  | .mp K V, ls, fail, k => by
    simp only [implodeK, implode, popMpK_eq]
    cases popMp K V ls with
    | none => rfl
    | some p => rfl
  | .nd tl ti l i, ls, fail, k => by
    simp only [implodeK, implode, popNdK_eq]
    cases popNd tl ti l i ls with
    | none => rfl
    | some p => rfl
  | .pair a b, ls, fail, k => by
    simp only [implodeK, implode]
    rw [implodeK_eq a]
    cases implode a ls with
    | none => rfl
    | some p =>
      obtain ⟨x, r⟩ := p
      simp only []
      rw [implodeK_eq b]
      cases implode b r with
      | none => rfl
      | some q => rfl
end Go.Fr
namespace Go.Fr
open Go Go.RowKit
universe u
inductive TK where
  | bool | int (k : IntKind) | str | struct (fs : List (Nat × Nat × Bool)) | array (n : Nat) (e : TypeId) (es : Nat) | slice (e : TypeId) | ptr (e : TypeId) | map (k e : TypeId) | iface | other
structure TI where
  k : TK
  size : Nat
  bytes : Nat
  zero : List Leaf
  ty : Option Ty
def TI.isAgg (i : TI) : Bool := match i.k with | .struct _ => true | .array .. => true | _ => false
structure Contract where
  arg : Ty
  res : Ty
  one : Bool
  pre : arg.den → Prop
  fn : arg.den → res.den
  /-- Functions that are handed over behind the data. -/
  tail : List FuncId := []
  /-- What comes back is a slice of the call's own, of elements of this type. -/
  own : Option TypeId := none
structure RContract where
  t : Ty
  e : TypeId
  pre : List t.den → Prop
  post : List t.den → List t.den → Prop
  back : Bool
  tail : List FuncId := []
structure Inl where
  body : Code
  n : Nat
  res : List ResultVar
inductive Var where
  | slot (t : Nat) (T : Ty)
  | cell (i c : Nat) (T : Ty)
  | pos (i : Nat)
  | rowS (t X : Nat) (T : Ty) (e : TypeId)
  | rowC (i c X : Nat) (T : Ty) (e : TypeId)
  | rowN (X : Nat) (T : Ty) (e : TypeId)
@[reducible] def Var.den : Var → Type
  | .slot _ T => T.den
  | .cell _ _ T => T.den
  | .pos _ => Nat
  | .rowS _ _ T _ => List T.den
  | .rowC _ _ _ T _ => List T.den
  | .rowN _ T _ => List T.den
@[reducible] def varsDen : List Var → Type
  | [] => Unit
  | v :: vs => v.den × varsDen vs
structure Hint where
  vars : List Var
  slots : List Nat
  blks : List Nat
  rows : List Nat
structure Env where
  tt : TypeId → Option TI
  ct : FuncId → Option Contract
  inl : FuncId → Option Inl
  gl : Nat → Option ((t : Ty) × t.den)
  hint : Nat → Nat → Option Hint
  nm : Nat → Bool
  rct : FuncId → Option RContract := fun _ => none
  /-- The tree's type to which a pointer's type belongs. -/
  ifc : TypeId → Option Ty := fun _ => none
inductive It where
  | str (s : ByteArray) (p : Nat)
  | map
structure Blk where
  ty : TypeId
  cells : List Leaf
  it : Option It
structure RowS where
  t : Ty
  e : TypeId
  xs : List t.den
abbrev Slots := List (Nat × SV)
def getS : Slots → Nat → SV
  | [], _ => .leaf .any
  | (k, s) :: r, t => bif Nat.beq k t then s else getS r t
abbrev Blks := List (Nat × Blk)
abbrev Rows := List (Nat × RowS)
def getB : Blks → Nat → Option Blk
  | [], _ => none
  | (k, b) :: r, i => bif Nat.beq k i then some b else getB r i
def getR : Rows → Nat → Option RowS
  | [], _ => none
  | (k, b) :: r, i => bif Nat.beq k i then some b else getR r i
structure St where
  slots : Slots
  blks : Blks
  rows : Rows
def constSV : Value → SV
  | .bool b => .leaf (.blit b)
  | .int k n => .leaf (.tv (.int k) n)
  | .string s => .leaf (.tv .str s)
  | v => .leaf (.raw v)
def evO (b : Nat) (sl : Slots) : Operand → SV
  | .tmp t => getS sl (b + t)
  | .const v => constSV v
  | .func f => .leaf (.raw (.func (.func f) #[] #[]))
  | .global g => .leaf (.raw (.pointer (some ⟨g, 0, none⟩)))
def cellsOf : SV → Option (List Leaf)
  | .leaf (.tv t x) => some (explode t x)
  | .leaf .any => none
  | .leaf .undef => none
  | .leaf (.raw v) => match v with
    | .agg _ => none
    | .tuple _ => none
    | v => some [.raw v]
  | .leaf l => some [l]
  | .agg ls => some ls
  | .tupv _ _ => none
def aggOf : SV → Option (List Leaf)
  | .leaf (.tv t x) => bif t.isAgg then some (explode t x) else none
  | .agg ls => some ls
  | _ => none
def argVal (t : Ty) (s : SV) : Option t.den :=
  match s with
  | .leaf (.tv t' x) => if e : t' = t then some (e ▸ x) else none
  | .leaf l => bif t.isAgg then none else match implode t [l] with
    | some (x, []) => some x
    | _ => none
  | .agg ls => bif t.isAgg then match implode t ls with
    | some (x, []) => some x
    | _ => none
    else none
  | .tupv _ _ => none
def argValK {R : Sort u} (t : Ty) (s : SV) (fail : R) (k : t.den → R) : R :=
  match s with
  | .leaf (.tv t' x) => match (inferInstance : Decidable (t' = t)) with
    | .isTrue e => (Eq.rec (motive := fun t _ => (Ty.den t → R) → R) (fun k => k x) e) k
    | .isFalse _ => fail
  | .leaf l => bif t.isAgg then fail else implodeK t [l] fail fun x r => match r with
    | [] => k x
    | _ :: _ => fail
  | .agg ls => bif t.isAgg then implodeK t ls fail fun x r => match r with
    | [] => k x
    | _ :: _ => fail
    else fail
  | .tupv _ _ => fail
theorem argValK_eq {R : Sort u} (t : Ty) (s : SV) (fail : R) (k : t.den → R) :
    argValK t s fail k = match argVal t s with | some x => k x | none => fail := by
  unfold argValK argVal
  split
  · rename_i t' x
    by_cases e : t' = t
    · subst e
      rw [dif_pos rfl]
      split
      · rfl
      · rename_i h _; exact absurd rfl h
    · rw [dif_neg e]
      split
      · rename_i h _; exact absurd h e
      · rfl
  · rename_i l _
    cases t.isAgg with
    | true => rfl
    | false =>
      simp only [cond_false, implodeK_eq]
      cases implode t [l] with
      | none => rfl
      | some p =>
        obtain ⟨x, r⟩ := p
        cases r <;> rfl
  · rename_i ls
    cases t.isAgg with
    | false => rfl
    | true =>
      simp only [cond_true, implodeK_eq]
      cases implode t ls with
      | none => rfl
      | some p =>
        obtain ⟨x, r⟩ := p
        cases r <;> rfl
  · rfl
def argsOf : (t : Ty) → List SV → Option t.den
  | .unit, [] => some ()
  | .pair a b, s :: r => match argVal a s with
    | some x => match argsOf b r with
      | some y => some (x, y)
      | none => none
    | none => none
  | _, _ => none
def argsK {R : Sort u} : (t : Ty) → List SV → R → (t.den → R) → R
  | .unit, [], _, k => k ()
  | .pair a b, s :: r, fail, k => argValK a s fail fun x => argsK b r fail fun y => k (x, y)
  | _, _, fail, _ => fail
theorem argsK_eq {R : Sort u} : (t : Ty) → (ss : List SV) → (fail : R) → (k : t.den → R) → argsK t ss fail k = match argsOf t ss with | some x => k x | none => fail
  | .unit, [], fail, k => rfl
  | .unit, _ :: _, fail, k => rfl
  | .pair a b, s :: r, fail, k => by
    simp only [argsK, argsOf, argValK_eq]
    cases argVal a s with
    | none => rfl
    | some x =>
      simp only [argsK_eq b]
      cases argsOf b r with
      | none => rfl
      | some y => rfl
  | .pair a b, [], fail, k => rfl
  | .bool, ss, fail, k => by cases ss <;> rfl
  | .int _, ss, fail, k => by cases ss <;> rfl
  | .str, ss, fail, k => by cases ss <;> rfl
  | .sl _, ss, fail, k => by cases ss <;> rfl
  | .opt _, ss, fail, k => by cases ss <;> rfl
  | .mp _ _, ss, fail, k => by cases ss <;> rfl
  | .nd _ _ _ _, ss, fail, k => by cases ss <;> rfl
def asInt : SV → Option (IntKind × Int)
  | .leaf (.tv (.int k) n) => some (k, n)
  | _ => none
def asBool : SV → Option Bool
  | .leaf (.tv .bool b) => some b
  | .leaf (.blit b) => some b
  | _ => none
def asStr : SV → Option ByteArray
  | .leaf (.tv .str s) => some s
  | _ => none
def mkInt (k : IntKind) (n : Int) : SV := .leaf (.tv (.int k) n)
def mkBool (b : Bool) : SV := .leaf (.tv .bool b)
def sameKind (a b : IntKind) : Bool := match a, b with
  | .i8, .i8 | .i16, .i16 | .i32, .i32 | .i64, .i64 | .u8, .u8 | .u16, .u16 | .u32, .u32 | .u64, .u64 => true
  | _, _ => false
def evIntBin (op : BinOp) (k : IntKind) (a b : Int) : Option (SV × Option Prop) :=
  match op with
  | .add => some (mkInt k (k.wrap (a + b)), none)
  | .sub => some (mkInt k (k.wrap (a - b)), none)
  | .mul => some (mkInt k (k.wrap (a * b)), none)
  | .quo => some (mkInt k (k.wrap (a.tdiv b)), some (b ≠ 0))
  | .rem => some (mkInt k (a.tmod b), some (b ≠ 0))
  | .eql => some (mkBool (a == b), none)
  | .neq => some (mkBool (a != b), none)
  | .lss => some (mkBool (decide (a < b)), none)
  | .leq => some (mkBool (decide (a ≤ b)), none)
  | .gtr => some (mkBool (decide (a > b)), none)
  | .geq => some (mkBool (decide (a ≥ b)), none)
  | _ => none
def evStrBin (op : BinOp) (a b : ByteArray) : Option (SV × Option Prop) :=
  match op with
  | .add => some (.leaf (.tv .str (a ++ b)), some (a.size + b.size ≤ 9223372036854775807))
  | .eql => some (mkBool (a.toList == b.toList), none)
  | .neq => some (mkBool (!(a.toList == b.toList)), none)
  | _ => none
def Ty.beq : (t : Ty) → t.den → t.den → Bool
  | .bool, a, b => (a : Bool) == b
  | .int _, a, b => (a : Int) == b
  | .str, a, b => (a : ByteArray) == b
  | .unit, _, _ => true
  | .sl _, _, _ => false
  | .opt _, _, _ => false
  | .mp _ _, _, _ => false
  | .nd _ _ _ _, _, _ => false
  | .pair a b, x, y => a.beq x.1 y.1 && b.beq x.2 y.2
def Ty.plain : Ty → Bool
  | .sl _ => false
  | .opt _ => false
  | .mp _ _ => false
  | .nd _ _ _ _ => false
  | .pair a b => a.plain && b.plain
  | _ => true
def evNil (op : BinOp) (x y : SV) : Option (SV × Option Prop) :=
  match y with
  | .leaf (.raw (.pointer none)) => match op with
    | .eql => match x with
      | .leaf (.tv (.opt _) a) => some (mkBool (Option.isNone a), none)
      | .leaf (.raw (.pointer none)) => some (.leaf (.blit true), none)
      | .leaf (.ptr _ _) => some (.leaf (.blit false), none)
      | _ => none
    | .neq => match x with
      | .leaf (.tv (.opt _) a) => some (mkBool (Option.isSome a), none)
      | .leaf (.raw (.pointer none)) => some (.leaf (.blit false), none)
      | .leaf (.ptr _ _) => some (.leaf (.blit true), none)
      | _ => none
    | _ => none
  | _ => none
def evNilI (op : BinOp) (x y : SV) : Option (SV × Option Prop) :=
  match y with
  | .leaf (.raw .nilIface) => match op with
    | .eql => match x with
      | .leaf (.tv (.nd _ _ _ _) a) => some (mkBool (NT.isNil a), none)
      | .leaf (.raw .nilIface) => some (.leaf (.blit true), none)
      | _ => none
    | .neq => match x with
      | .leaf (.tv (.nd _ _ _ _) a) => some (mkBool (!(NT.isNil a)), none)
      | .leaf (.raw .nilIface) => some (.leaf (.blit false), none)
      | _ => none
    | _ => none
  | _ => none
def evBin (E : Env) (op : BinOp) (t : TypeId) (x y : SV) : Option (SV × Option Prop) :=
  match asInt x with
  | some (k, a) => match asInt y with
    | some (k', b) => bif sameKind k k' then evIntBin op k a b else none
    | none => none
  | none => match asStr x with
    | some a => match asStr y with
      | some b => evStrBin op a b
      | none => none
    | none => match E.tt t with
      | some ti => match ti.k with
        | .ptr _ => evNil op x y
        | .iface => evNilI op x y
        | _ => match ti.ty with
        | some T => bif T.plain then argValK T x none fun a => argValK T y none fun b => match op with
            | .eql => some (mkBool (T.beq a b), none)
            | .neq => some (mkBool (!(T.beq a b)), none)
            | _ => none
          else none
        | none => none
      | none => none
def evUn (op : UnOp) (x : SV) : Option (SV × Option Prop) :=
  match op with
  | .not => match asBool x with
    | some b => some (mkBool (!b), none)
    | none => none
  | .neg => match asInt x with
    | some (k, n) => some (mkInt k (k.wrap (0 - n)), none)
    | none => none
  | _ => none
def mid (ls : List Leaf) (off n : Nat) : List Leaf := (ls.drop off).take n
def splice (ls : List Leaf) (off : Nat) (new : List Leaf) : List Leaf := ls.take off ++ (new ++ ls.drop (off + new.length))
def partOf (ti : TI) (ls : List Leaf) (off : Nat) : Option SV :=
  bif Nat.ble (off + ti.size) ls.length then
    bif ti.isAgg then some (.agg (mid ls off ti.size))
    else match ls[off]? with
      | some l => some (.leaf l)
      | none => none
  else none
def dataAt (ti : TI) (t : Ty) (x : t.den) (off : Nat) : Option SV :=
  bif Nat.beq off 0 && Nat.beq ti.size t.size && (ti.isAgg == t.isAgg) then some (.leaf (.tv t x))
  else partOf ti (explode t x) off
def evLoad (E : Env) (blks : Blks) (rows : Rows) (t : TypeId) (a : SV) : Option (SV × Option Prop) :=
  match E.tt t with
  | some ti => match a with
    | .leaf (.ptr i off) => match getB blks i with
      | some ⟨_, cs, none⟩ => match partOf ti cs off with
        | some s => some (s, none)
        | none => none
      | _ => none
    | .leaf (.raw (.pointer (some ⟨g, off, none⟩))) => match E.gl g with
      | some ⟨T, x⟩ => match dataAt ti T x off with
        | some s => some (s, none)
        | none => none
      | none => none
    | .leaf (.eptr T xs i off) => match dataAt ti T (xs.getD i T.dflt) off with
      | some s => some (s, none)
      | none => none
    | .leaf (.rptr r sz i off) => match getR rows r with
      | some R => bif Nat.beq sz R.t.size then match dataAt ti R.t (R.xs.getD i R.t.dflt) off with
        | some s => some (s, none)
        | none => none
        else none
      | _ => none
    | _ => none
  | none => none
def evFieldAddr (E : Env) (s : TypeId) (x : SV) (f : Nat) : Option (SV × Option Prop) :=
  match E.tt s with
  | some ti => match ti.k with
    | .struct fs => match fs[f]? with
      | some (o, n, _) => bif Nat.beq n 0 then none else match x with
        | .leaf (.ptr i off) => some (.leaf (.ptr i (off + o)), none)
        | .leaf (.eptr T xs i off) => some (.leaf (.eptr T xs i (off + o)), none)
        | .leaf (.rptr r sz i off) => some (.leaf (.rptr r sz i (off + o)), none)
        | _ => none
      | none => none
    | _ => none
  | none => none
def evField (E : Env) (s : TypeId) (x : SV) (f : Nat) : Option (SV × Option Prop) :=
  match E.tt s with
  | some ti => match ti.k with
    | .struct fs => match fs[f]? with
      | some (o, n, g) => match aggOf x with
        | some ls => bif Nat.ble (o + n) ls.length then
            bif g then some (.agg (mid ls o n), none) else match ls[o]? with
              | some l => some (.leaf l, none)
              | none => none
          else none
        | none => none
      | none => none
    | _ => none
  | none => none
def evIndexAddr (E : Env) (rows : Rows) (t : TypeId) (x ix : SV) : Option (SV × Option Prop) :=
  match asInt ix with
  | none => none
  | some (_, e) => match E.tt t with
    | none => none
    | some ti => match ti.k with
      | .slice te => match E.tt te with
        | none => none
        | some tei => match x with
          | .leaf (.tv (.sl T) xs) => bif Nat.beq tei.size T.size then some (.leaf (.eptr T xs e.toNat 0), some (0 ≤ e ∧ e < (List.length xs : Int))) else none
          | .leaf (.row r) => match getR rows r with
            | some R => bif Nat.beq tei.size R.t.size then some (.leaf (.rptr r R.t.size e.toNat 0), some (0 ≤ e ∧ e < (R.xs.length : Int))) else none
            | _ => none
          | _ => none
      | .array n _ es => match x with
        | .leaf (.ptr i off) => some (.leaf (.ptr i (off + e.toNat * es)), some (0 ≤ e ∧ e < (n : Int)))
        | .leaf (.raw (.pointer (some ⟨g, off, none⟩))) => some (.leaf (.raw (.pointer (some ⟨g, off + e.toNat * es, none⟩))), some (0 ≤ e ∧ e < (n : Int)))
        | .leaf (.eptr T xs i off) => some (.leaf (.eptr T xs i (off + e.toNat * es)), some (0 ≤ e ∧ e < (n : Int)))
        | .leaf (.rptr r sz i off) => some (.leaf (.rptr r sz i (off + e.toNat * es)), some (0 ≤ e ∧ e < (n : Int)))
        | _ => none
      | _ => none
def evIndex (E : Env) (t : TypeId) (x ix : SV) : Option (SV × Option Prop) :=
  match asInt ix with
  | none => none
  | some (_, e) => match E.tt t with
    | none => none
    | some ti => match ti.k with
      | .array n te _ => match E.tt te with
        | none => none
        | some tei => match aggOf x with
          | some ls => match partOf tei ls (e.toNat * tei.size) with
            | some s => some (s, some (0 ≤ e ∧ e < (n : Int)))
            | none => none
          | none => none
      | .str => match x with
        | .leaf (.tv .str s) => some (mkInt .u8 (((ByteArray.data s)[e.toNat]?.getD 0).toNat : Int), some (0 ≤ e ∧ e < (ByteArray.size s : Int)))
        | _ => none
      | _ => none
def zeroB : Option SV → Option Prop
  | none => some True
  | some s => match asInt s with
    | some (_, n) => some (n = 0)
    | none => none
def evSliceNil (lo hi : Option SV) : Option (SV × Option Prop) :=
  match zeroB lo with
  | some p => match zeroB hi with
    | some q => some (.leaf (.raw (.slice none 0 0)), some (p ∧ q))
    | none => none
  | none => none
def evSlice (E : Env) (t : TypeId) (x : SV) (lo hi : Option SV) : Option (SV × Option Prop) :=
  match E.tt t with
  | none => none
  | some ti => match ti.k with
    | .slice te => match E.tt te with
      | none => none
      | some tei => match x with
        | .leaf (.tv (.sl T) xs) => bif Nat.beq tei.size T.size then match lo, hi with
          | none, none => some (.leaf (.tv (.sl T) xs), none)
          | some l, none => match asInt l with
            | some (_, l) => some (.leaf (.tv (.sl T) (List.drop l.toNat xs)), some (0 ≤ l ∧ l ≤ (List.length xs : Int)))
            | none => none
          | none, some h => match asInt h with
            | some (_, h) => some (.leaf (.tv (.sl T) (List.take h.toNat xs)), some (0 ≤ h ∧ h ≤ (List.length xs : Int)))
            | none => none
          | some l, some h => match asInt l with
            | some (_, l) => match asInt h with
              | some (_, h) => some (.leaf (.tv (.sl T) (List.drop l.toNat (List.take h.toNat xs))), some (0 ≤ l ∧ l ≤ h ∧ h ≤ (List.length xs : Int)))
              | none => none
            | none => none
          else none
        | .leaf (.raw (.slice none 0 0)) => evSliceNil lo hi
        | _ => none
    | .str => match x with
      | .leaf (.tv .str s) => match lo, hi with
        | none, none => some (.leaf (.tv .str s), none)
        | some l, none => match asInt l with
          | some (_, l) => some (.leaf (.tv .str (ByteArray.extract s l.toNat (ByteArray.size s))), some (0 ≤ l ∧ l ≤ (ByteArray.size s : Int)))
          | none => none
        | none, some h => match asInt h with
          | some (_, h) => some (.leaf (.tv .str (ByteArray.extract s 0 h.toNat)), some (0 ≤ h ∧ h ≤ (ByteArray.size s : Int)))
          | none => none
        | some l, some h => match asInt l with
          | some (_, l) => match asInt h with
            | some (_, h) => some (.leaf (.tv .str (ByteArray.extract s l.toNat h.toNat)), some (0 ≤ l ∧ l ≤ h ∧ h ≤ (ByteArray.size s : Int)))
            | none => none
          | none => none
      | _ => none
    | _ => none
def evLen (E : Env) (rows : Rows) (t : TypeId) (x : SV) : Option (SV × Option Prop) :=
  match E.tt t with
  | none => none
  | some ti => match ti.k with
    | .slice _ => match x with
      | .leaf (.tv (.sl _) xs) => some (mkInt .i64 (List.length xs : Int), none)
      | .leaf (.row r) => match getR rows r with
        | some R => some (mkInt .i64 (R.xs.length : Int), none)
        | _ => none
      | .leaf (.raw (.slice none 0 0)) => some (mkInt .i64 0, none)
      | _ => none
    | .str => match x with
      | .leaf (.tv .str s) => some (mkInt .i64 (ByteArray.size s : Int), none)
      | _ => none
    | _ => none
def buildCells (b : Nat) (place : Nat → Option (Nat × Nat)) (sl : Slots) : List (Nat × Operand) → List Leaf → Option (List Leaf)
  | [], cs => some cs
  | (i, x) :: r, cs => match place i with
    | none => none
    | some (off, n) => match cellsOf (evO b sl x) with
      | none => none
      | some ls => bif Nat.beq ls.length n && Nat.ble (off + n) cs.length then buildCells b place sl r (splice cs off ls) else none
def evBuild (E : Env) (b : Nat) (sl : Slots) (t : TypeId) (parts : List (Nat × Operand)) : Option (SV × Option Prop) :=
  match E.tt t with
  | none => none
  | some ti => bif Nat.beq ti.zero.length ti.size then match ti.k with
    | .struct fs => match buildCells b (fun i => (fs[i]?).map fun f => (f.1, f.2.1)) sl parts ti.zero with
      | some cs => some (.agg cs, none)
      | none => none
    | .array _ _ es => match buildCells b (fun i => some (i * es, es)) sl parts ti.zero with
      | some cs => some (.agg cs, none)
      | none => none
    | _ => none
    else none
def buildElems (b : Nat) (T : Ty) (sl : Slots) : Nat → List (Nat × Operand) → Option (List T.den)
  | _, [] => some []
  | k, (i, x) :: r => bif Nat.beq i k then match argVal T (evO b sl x) with
    | some d => match buildElems b T sl (k + 1) r with
      | some ds => some (d :: ds)
      | none => none
    | none => none
    else none
def buildElemsK {R : Sort u} (b : Nat) (T : Ty) (sl : Slots) (fail : R) : Nat → List (Nat × Operand) → (List T.den → R) → R
  | _, [], k => k []
  | n, (i, x) :: r, k => bif Nat.beq i n then argValK T (evO b sl x) fail fun d => buildElemsK b T sl fail (n + 1) r fun ds => k (d :: ds) else fail
theorem buildElemsK_eq {R : Sort u} (b : Nat) (T : Ty) (sl : Slots) (fail : R) : (n : Nat) → (ps : List (Nat × Operand)) → (k : List T.den → R) →
    buildElemsK b T sl fail n ps k = match buildElems b T sl n ps with | some x => k x | none => fail
  | _, [], k => rfl
  | n, (i, x) :: r, k => by
    simp only [buildElemsK, buildElems, argValK_eq]
    cases Nat.beq i n with
    | false => rfl
    | true =>
      simp only [cond_true]
      cases argVal T (evO b sl x) with
      | none => rfl
      | some d =>
        simp only [buildElemsK_eq b T sl fail (n + 1) r]
        cases buildElems b T sl (n + 1) r with
        | none => rfl
        | some ds => rfl
def evBuildSlice (E : Env) (b : Nat) (sl : Slots) (t : TypeId) (len : Nat) (parts : List (Nat × Operand)) : Option (SV × Option Prop) :=
  match E.tt t with
  | none => none
  | some ti => match ti.k with
    | .slice te => match E.tt te with
      | none => none
      | some tei => match tei.ty with
        | none => none
        | some T => bif Nat.beq parts.length len && Nat.ble (len * tei.size) 16777216 && Nat.beq tei.zero.length tei.size && Nat.beq tei.size T.size && Nat.ble 1 T.size then buildElemsK b T sl none 0 parts fun ds => some (.leaf (.tv (.sl T) ds), none) else none
    | _ => none
def tupGet : (t : Ty) → t.den → Nat → Option SV
  | .pair a _, x, 0 => some (.leaf (.tv a x.1))
  | .pair _ b, x, n + 1 => tupGet b x.2 n
  | _, _, _ => none
def asFn : SV → Option (FuncId × List Leaf)
  | .leaf (.clo f caps) => some (f, caps)
  | .leaf (.raw (.func (.func f) ⟨[]⟩ ⟨[]⟩)) => some (f, [])
  | _ => none
def leafSVs : List Leaf → List SV
  | [] => []
  | l :: r => .leaf l :: leafSVs r
def isTail : List SV → List FuncId → Bool
  | [], [] => true
  | s :: ss, f :: fs => (match asFn s with | some (g, []) => Nat.beq g f | _ => false) && isTail ss fs
  | _, _ => false
def cutTail (tl : List FuncId) (ss : List SV) : Option (List SV) :=
  match tl with
  | [] => some ss
  | _ :: _ => bif isTail (ss.drop (ss.length - tl.length)) tl then some (ss.take (ss.length - tl.length)) else none
def evCall (E : Env) (b : Nat) (sl : Slots) (c : Call) : Option (SV × Option Prop) :=
  match c.callee with
  | .value fv => match asFn (evO b sl fv) with
    | some (f, caps) => match E.ct f with
      | some C => match C.own with
        | none => match cutTail C.tail (c.args.toList.map (evO b sl) ++ leafSVs caps) with
          | some ss => argsK C.arg ss none fun x => bif C.one then some (.leaf (.tv C.res (C.fn x)), some (C.pre x)) else some (.tupv C.res (C.fn x), some (C.pre x))
          | none => none
        | some _ => none
      | none => none
    | none => none
  | _ => none
def inlEv (E : Env) (b : Nat) (sl : Slots) (op : Op) : Option (FuncId × List SV) :=
  match op with
  | .call c => match c.callee with
    | .value fv => match asFn (evO b sl fv) with
      | some (f, caps) => match E.inl f with
        | some _ => some (f, c.args.toList.map (evO b sl) ++ leafSVs caps)
        | none => none
      | none => none
    | _ => none
  | _ => none
def capLeaves (b : Nat) (sl : Slots) : List Operand → Option (List Leaf)
  | [] => some []
  | x :: r => match evO b sl x with
    | .leaf l => match capLeaves b sl r with
      | some ls => some (l :: ls)
      | none => none
    | _ => none
def evFunc (b : Nat) (sl : Slots) (fn : Fn) (first caps : List Operand) : Option (SV × Option Prop) :=
  match fn with
  | .func f => match first with
    | [] => match capLeaves b sl caps with
      | some ls => some (.leaf (.clo f ls), none)
      | none => none
    | _ => none
  | _ => none
def evBuiltin (E : Env) (b : Nat) (sl : Slots) (rows : Rows) (bi : Builtin) (ts : List TypeId) (args : List Operand) : Option (SV × Option Prop) :=
  match bi with
  | .len => match ts with
    | t :: _ => match args with
      | x :: [] => evLen E rows t (evO b sl x)
      | _ => none
    | _ => none
  | .cap => match ts with
    | t :: _ => match args with
      | x :: [] => match E.tt t with
        | some ti => match ti.k with
          | .slice _ => match evO b sl x with
            | .leaf (.raw (.slice none 0 0)) => some (mkInt .i64 0, none)
            | _ => none
          | _ => none
        | none => none
      | _ => none
    | _ => none
  | .min => match args with
    | x :: y :: [] => match asInt (evO b sl x) with
      | some (k, a) => match asInt (evO b sl y) with
        | some (_, b) => some (mkInt k (if b < a then b else a), none)
        | none => none
      | none => none
    | _ => none
  | .max => match args with
    | x :: y :: [] => match asInt (evO b sl x) with
      | some (k, a) => match asInt (evO b sl y) with
        | some (_, b) => some (mkInt k (if a < b then b else a), none)
        | none => none
      | none => none
    | _ => none
  | _ => none
def bytesOf (xs : List Int) : ByteArray := ⟨(xs.map fun n => UInt8.ofNat n.toNat).toArray⟩
def evConvert (E : Env) (src dst : TypeId) (x : SV) : Option (SV × Option Prop) :=
  match E.tt dst with
  | none => none
  | some ti => match ti.k with
    | .int k => match asInt x with
      | some (_, n) => some (mkInt k (k.wrap n), none)
      | none => none
    | .str => match E.tt src with
      | none => none
      | some si => match si.k with
        | .int _ => match asInt x with
          | some (_, n) => some (.leaf (.tv .str (Utf8.encode n)), none)
          | none => none
        | .str => match asStr x with
          | some s => some (.leaf (.tv .str s), none)
          | none => none
        | .slice e => match E.tt e with
          | some ei => match ei.k with
            | .int .u8 => match x with
              | .leaf (.tv (.sl (.int .u8)) xs) => some (.leaf (.tv .str (bytesOf xs)), none)
              | _ => none
            | _ => none
          | none => none
        | _ => none
    | _ => none
def evNilCheck (x : SV) : Option (SV × Option Prop) :=
  match x with
  | .leaf (.tv (.opt T) a) => some (.leaf (.eptr T (optL a) 0 0), some (Option.isSome a = true))
  | .leaf (.ptr i o) => some (.leaf (.ptr i o), none)
  | .leaf (.eptr T xs i o) => some (.leaf (.eptr T xs i o), none)
  | .leaf (.rptr r s i o) => some (.leaf (.rptr r s i o), none)
  | _ => none
def evSliceMax (E : Env) (t : TypeId) (x hi mx : SV) : Option (SV × Option Prop) :=
  match E.tt t with
  | none => none
  | some ti => match ti.k with
    | .slice te => match E.tt te with
      | none => none
      | some tei => match x with
        | .leaf (.tv (.sl T) xs) => bif Nat.beq tei.size T.size then match asInt hi with
          | some (_, h) => match asInt mx with
            | some (_, m) => some (.leaf (.tv (.sl T) (List.take h.toNat xs)), some (0 ≤ h ∧ h ≤ m ∧ m ≤ (List.length xs : Int)))
            | none => none
          | none => none
          else none
        | _ => none
    | _ => none
def evAssert (E : Env) (x : SV) (xt at_ : TypeId) (ok : Bool) : Option (SV × Option Prop) :=
  match E.tt xt with
  | none => none
  | some xi => match xi.ty with
    | some (.nd tl ti l i) => match E.tt at_ with
      | none => none
      | some ai => match ai.k with
        | .ptr _ => match ai.zero with
          | .raw (.pointer none) :: [] => bif Nat.beq tl ti || !(Nat.beq ai.size 1) then none else argValK (.nd tl ti l i) x none fun a =>
            bif Nat.beq at_ tl then match ok with
              | true => some (.tupv (.pair (.opt l) (.pair .bool .unit)) (NT.asLeaf a, Option.isSome (NT.asLeaf a), ()), none)
              | false => some (.leaf (.tv (.opt l) (NT.asLeaf a)), some (Option.isSome (NT.asLeaf a) = true))
            else bif Nat.beq at_ ti then match ok with
              | true => some (.tupv (.pair (.opt (.pair (.sl (.nd tl ti l i)) i)) (.pair .bool .unit)) (NT.asInner a, Option.isSome (NT.asInner a), ()), none)
              | false => some (.leaf (.tv (.opt (.pair (.sl (.nd tl ti l i)) i)) (NT.asInner a)), some (Option.isSome (NT.asInner a) = true))
            else none
          | _ => none
        | _ => none
    | _ => none
def evMkIf (E : Env) (xt : TypeId) (x : SV) : Option (SV × Option Prop) :=
  match E.ifc xt with
  | some (.nd tl ti l i) => match E.tt xt with
    | none => none
    | some xi => match xi.k with
      | .ptr _ => bif Nat.beq xt tl then argValK (.opt l) x none fun a => some (.leaf (.tv (.nd tl ti l i) (NT.ofLeaf a)), some (Option.isSome a = true))
        else bif Nat.beq xt ti then argValK (.opt (.pair (.sl (.nd tl ti l i)) i)) x none fun a => some (.leaf (.tv (.nd tl ti l i) (NT.ofInner a)), some (Option.isSome a = true))
        else none
      | _ => none
  | _ => none
@[reducible] def mapT (K V : Ty) : Ty := .sl (.pair K (.pair V .unit))
def mget (K V : Ty) (key : K.den) : List (K.den × V.den × Unit) → Option V.den
  | [] => none
  | x :: xs => bif K.beq key x.1 then some x.2.1 else mget K V key xs
def mdel (K V : Ty) (key : K.den) : List (K.den × V.den × Unit) → List (K.den × V.den × Unit)
  | [] => []
  | x :: xs => bif K.beq key x.1 then xs else x :: mdel K V key xs
def pureEv (E : Env) (b : Nat) (sl : Slots) (blks : Blks) (rows : Rows) (op : Op) : Option (SV × Option Prop) :=
  match op with
  | .move x => some (evO b sl x, none)
  | .assign x => some (evO b sl x, none)
  | .pick c x y => match evO b sl c with
    | .leaf (.blit true) => some (evO b sl x, none)
    | .leaf (.blit false) => some (evO b sl y, none)
    | _ => none
  | .load t a => evLoad E blks rows t (evO b sl a)
  | .nilCheck x => evNilCheck (evO b sl x)
  | .fieldAddr s x f => evFieldAddr E s (evO b sl x) f
  | .field s x f => evField E s (evO b sl x) f
  | .indexAddr t x i => evIndexAddr E rows t (evO b sl x) (evO b sl i)
  | .index t x i => evIndex E t (evO b sl x) (evO b sl i)
  | .binOp op t x y _ => evBin E op t (evO b sl x) (evO b sl y)
  | .unOp op _ x => evUn op (evO b sl x)
  | .build t ps => evBuild E b sl t ps.toList
  | .buildSlice t n ps => evBuildSlice E b sl t n ps.toList
  | .slice t x lo hi mx => match mx with
    | none => evSlice E t (evO b sl x) (lo.map (evO b sl)) (hi.map (evO b sl))
    | some m => match lo with
      | none => match hi with
        | some hi => evSliceMax E t (evO b sl x) (evO b sl hi) (evO b sl m)
        | none => none
      | some _ => none
  | .typeAssert x xt at_ ok => evAssert E (evO b sl x) xt at_ ok
  | .makeInterface xt x => evMkIf E xt (evO b sl x)
  | .extract x i => match evO b sl x with
    | .tupv t y => match tupGet t y i with
      | some s => some (s, none)
      | none => none
    | _ => none
  | .convert s d x => match E.tt s with
    | some _ => evConvert E s d (evO b sl x)
    | none => none
  | .makeFunc fn first caps => evFunc b sl fn first.toList caps.toList
  | .call c => match c.callee with
    | .builtin bi => evBuiltin E b sl rows bi c.argTypes.toList c.args.toList
    | _ => evCall E b sl c
  | _ => none
def storeEv (E : Env) (b : Nat) (sl : Slots) (blks : Blks) (op : Op) : Option (Nat × Blk) :=
  match op with
  | .store t a x => match E.tt t with
    | some ti => match evO b sl a with
      | .leaf (.ptr i off) => match getB blks i with
        | some ⟨bt, bc, none⟩ => match cellsOf (evO b sl x) with
          | some ls => bif Nat.beq ls.length ti.size && Nat.ble (off + ti.size) bc.length then some (i, ⟨bt, splice bc off ls, none⟩) else none
          | none => none
        | _ => none
      | _ => none
    | none => none
  | _ => none
def rowStoreEv (E : Env) (b : Nat) (sl : Slots) (rows : Rows) (op : Op) : Option (Nat × RowS) :=
  match op with
  | .store t a x => match E.tt t with
    | some ti => match evO b sl a with
      | .leaf (.rptr r sz i off) => match getR rows r with
        | some R => match cellsOf (evO b sl x) with
          | some ls => bif Nat.beq sz R.t.size && Nat.beq ls.length ti.size && Nat.ble (off + ti.size) R.t.size then
              implodeK R.t (splice (explode R.t (R.xs.getD i R.t.dflt)) off ls) none fun y r' => match r' with
                | [] => some (r, ⟨R.t, R.e, R.xs.set i y⟩)
                | _ :: _ => none
            else none
          | none => none
        | none => none
      | _ => none
    | none => none
  | _ => none
end Go.Fr
namespace Go.Fr
open Go Go.RowKit
universe u
def St.put (σ : St) (d : Option Nat) (s : SV) : St :=
  match d with
  | some t => { σ with slots := (t, s) :: σ.slots }
  | none => σ
def dstAt (b : Nat) (d : Option Nat) : Option Nat :=
  match d with
  | some t => some (b + t)
  | none => none
def fLs : List Leaf → (List Leaf → Prop) → Prop
  | [], k => k []
  | l :: r, k => fLs r fun r' => k (l :: r')
def fSV : SV → (SV → Prop) → Prop
  | .agg ls, k => fLs ls fun ls' => k (.agg ls')
  | .leaf l, k => k (.leaf l)
  | .tupv t x, k => k (.tupv t x)
def fSlots : Slots → (Slots → Prop) → Prop
  | [], k => k []
  | (t, s) :: r, k => fSV s fun s' => fSlots r fun r' => k ((t, s') :: r')
def fBlks : Blks → (Blks → Prop) → Prop
  | [], k => k []
  | (n, ⟨t, cs, it⟩) :: r, k => fLs cs fun cs' => fBlks r fun r' => k ((n, ⟨t, cs', it⟩) :: r')
def fRows : Rows → (Rows → Prop) → Prop
  | [], k => k []
  | (n, ⟨t, e, xs⟩) :: r, k => fRows r fun r' => k ((n, ⟨t, e, xs⟩) :: r')
theorem fLs_eq (ls : List Leaf) (k : List Leaf → Prop) : fLs ls k = k ls := by
  induction ls generalizing k with
  | nil => rfl
  | cons l r ih => simp only [fLs, ih]
theorem fSV_eq (s : SV) (k : SV → Prop) : fSV s k = k s := by
  cases s <;> simp only [fSV, fLs_eq]
theorem fSlots_eq (s : Slots) (k : Slots → Prop) : fSlots s k = k s := by
  induction s generalizing k with
  | nil => rfl
  | cons l r ih => obtain ⟨t, s⟩ := l; simp only [fSlots, ih, fSV_eq]
theorem fBlks_eq (s : Blks) (k : Blks → Prop) : fBlks s k = k s := by
  induction s generalizing k with
  | nil => rfl
  | cons l r ih => obtain ⟨n, t, s, it⟩ := l; simp only [fBlks, ih, fLs_eq]
theorem fRows_eq (s : Rows) (k : Rows → Prop) : fRows s k = k s := by
  induction s generalizing k with
  | nil => rfl
  | cons l r ih => obtain ⟨n, t, e, xs⟩ := l; simp only [fRows, ih]
def putK (sl : Slots) (bs : Blks) (rs : Rows) (d : Option Nat) (s : SV) (k : St → Prop) : Prop :=
  match d with
  | some t => fSV s fun s' => k ⟨(t, s') :: sl, bs, rs⟩
  | none => k ⟨sl, bs, rs⟩
theorem putK_eq (sl : Slots) (bs : Blks) (rs : Rows) (d : Option Nat) (s : SV) (k : St → Prop) : putK sl bs rs d s k = k (St.put ⟨sl, bs, rs⟩ d s) := by
  cases d <;> simp [putK, St.put, fSV_eq]
def setB : Blks → Nat → Blk → Blks
  | [], _, _ => []
  | (k, b) :: r, i, c => bif Nat.beq k i then (k, c) :: r else (k, b) :: setB r i c
def setBK : Blks → Nat → Blk → (Blks → Prop) → Prop
  | [], _, _, K => K []
  | (k, b) :: r, i, c, K => bif Nat.beq k i then K ((k, c) :: r) else setBK r i c fun r' => K ((k, b) :: r')
theorem setBK_eq (s : Blks) (i : Nat) (c : Blk) (K : Blks → Prop) : setBK s i c K = K (setB s i c) := by
  induction s generalizing K with
  | nil => rfl
  | cons l r ih => obtain ⟨k, b⟩ := l; simp only [setBK, setB, ih]; cases Nat.beq k i <;> rfl
def setR : Rows → Nat → RowS → Rows
  | [], _, _ => []
  | (k, b) :: r, i, c => bif Nat.beq k i then (k, c) :: r else (k, b) :: setR r i c
def setRK : Rows → Nat → RowS → (Rows → Prop) → Prop
  | [], _, _, K => K []
  | (k, b) :: r, i, c, K => bif Nat.beq k i then K ((k, c) :: r) else setRK r i c fun r' => K ((k, b) :: r')
theorem setRK_eq (s : Rows) (i : Nat) (c : RowS) (K : Rows → Prop) : setRK s i c K = K (setR s i c) := by
  induction s generalizing K with
  | nil => rfl
  | cons l r ih => obtain ⟨k, b⟩ := l; simp only [setRK, setR, ih]; cases Nat.beq k i <;> rfl
def nameK (c : Bool) (s : SV) (k : SV → Prop) : Prop :=
  match c with
  | true => match s with
    | .leaf l => match l with
      | .tv T x => ∀ a : T.den, a = x → k (.leaf (.tv T a))
      | l => k (.leaf l)
    | s => k s
  | false => k s
theorem nameK_at {c : Bool} {s : SV} {k : SV → Prop} (e : nameK c s k) : k s := by
  unfold nameK at e
  split at e
  · split at e
    · split at e
      · exact e _ rfl
      · exact e
    · exact e
  · exact e
def nmAt (f : Nat → Bool) (d : Option Nat) : Bool :=
  match d with
  | some t => f t
  | none => false
def oblige (p : Option Prop) (k : Prop) : Prop :=
  match p with
  | none => k
  | some p => p ∧ k
def anyNat : List Nat → Nat → Bool
  | [], _ => false
  | x :: r, t => Nat.beq x t || anyNat r t
mutual
def Leaf.namesB (t : Nat) : Leaf → Bool
  | .ptr i _ => Nat.beq i t
  | .mref i => Nat.beq i t
  | .clo _ caps => anyB t caps
  | .any => false
  | .undef => false
  | .blit _ => false
  | .tv _ _ => false
  | .raw _ => false
  | .eptr _ _ _ _ => false
  | .row _ => false
  | .rptr _ _ _ _ => false
  | .rsub _ _ _ => false
def anyB (t : Nat) : List Leaf → Bool
  | [] => false
  | l :: r => l.namesB t || anyB t r
end
mutual
def Leaf.namesR (t : Nat) : Leaf → Bool
  | .row i => Nat.beq i t
  | .rptr i _ _ _ => Nat.beq i t
  | .rsub i _ _ => Nat.beq i t
  | .clo _ caps => anyR t caps
  | .any => false
  | .undef => false
  | .blit _ => false
  | .tv _ _ => false
  | .raw _ => false
  | .eptr _ _ _ _ => false
  | .ptr _ _ => false
  | .mref _ => false
def anyR (t : Nat) : List Leaf → Bool
  | [] => false
  | l :: r => l.namesR t || anyR t r
end
def anyLeaf (f : Leaf → Bool) : List Leaf → Bool
  | [] => false
  | l :: r => f l || anyLeaf f r
def SV.anyL (f : Leaf → Bool) : SV → Bool
  | .leaf l => f l
  | .agg ls => anyLeaf f ls
  | .tupv _ _ => false
def anySlots (f : Leaf → Bool) : Slots → Bool
  | [] => false
  | (_, s) :: r => s.anyL f || anySlots f r
def anyBlks (f : Leaf → Bool) : Blks → Bool
  | [] => false
  | (_, b) :: r => anyLeaf f b.cells || anyBlks f r
mutual
def Leaf.sub (g : Nat → Option Leaf) : Leaf → Leaf
  | .row i => match g i with
    | some l => l
    | none => .row i
  | .rptr i a b c => match g i with
    | some _ => .any
    | none => .rptr i a b c
  | .rsub i a b => match g i with
    | some _ => .any
    | none => .rsub i a b
  | .clo f caps => .clo f (subs g caps)
  | .any => .any
  | .undef => .undef
  | .blit b => .blit b
  | .tv t x => .tv t x
  | .raw v => .raw v
  | .ptr i o => .ptr i o
  | .mref i => .mref i
  | .eptr t xs i o => .eptr t xs i o
def subs (g : Nat → Option Leaf) : List Leaf → List Leaf
  | [] => []
  | l :: r => l.sub g :: subs g r
end
def SV.sub (g : Nat → Option Leaf) : SV → SV
  | .leaf l => .leaf (l.sub g)
  | .agg ls => .agg (subs g ls)
  | .tupv t x => .tupv t x
def mapSlots (g : Nat → Option Leaf) : Slots → Slots
  | [] => []
  | (k, s) :: r => (k, s.sub g) :: mapSlots g r
def mapBlks (g : Nat → Option Leaf) : Blks → Blks
  | [] => []
  | (k, b) :: r => (k, ⟨b.ty, subs g b.cells, b.it⟩) :: mapBlks g r
def rmR : Rows → Nat → Rows
  | [], _ => []
  | (k, b) :: r, i => bif Nat.beq k i then rmR r i else (k, b) :: rmR r i
def forget (r : Nat) (i : Nat) : Option Leaf := bif Nat.beq i r then some .any else none
def frz (r : Nat) (t : Ty) (xs : List t.den) (i : Nat) : Option Leaf := bif Nat.beq i r then some (.tv (.sl t) xs) else none
def freeze (σ : St) (r : Nat) : St :=
  match getR σ.rows r with
  | some R => { slots := mapSlots (frz r R.t R.xs) σ.slots, blks := mapBlks (frz r R.t R.xs) σ.blks, rows := rmR σ.rows r }
  | none => σ
mutual
def Leaf.rowsIn : Leaf → List Nat
  | .row r => [r]
  | .clo _ caps => rowsInL caps
  | .any => []
  | .undef => []
  | .blit _ => []
  | .tv _ _ => []
  | .raw _ => []
  | .eptr _ _ _ _ => []
  | .ptr _ _ => []
  | .mref _ => []
  | .rptr _ _ _ _ => []
  | .rsub _ _ _ => []
def rowsInL : List Leaf → List Nat
  | [] => []
  | l :: ls => l.rowsIn ++ rowsInL ls
end
def rowsIn : SV → List Nat
  | .leaf l => l.rowsIn
  | .agg ls => rowsInL ls
  | .tupv _ _ => []
def freezeRows : List Nat → St → St
  | [], σ => σ
  | r :: rs, σ => freezeRows rs (freeze σ r)
def freezeAt : List Nat → St → St
  | [], σ => σ
  | t :: ts, σ => freezeAt ts (freezeRows (rowsIn (getS σ.slots t)) σ)
def rowsBehind (σ : St) (t : Nat) : List Nat :=
  match getS σ.slots t with
  | .leaf (.ptr i _) => match getB σ.blks i with
    | some b => rowsInL b.cells
    | none => []
  | _ => []
def freezeBehind : List Nat → St → St
  | [], σ => σ
  | t :: ts, σ => freezeBehind ts (freezeRows (rowsBehind σ t) σ)
def tmpOf : Operand → List Nat
  | .tmp t => [t]
  | _ => []
def movesTo : List Oper → Nat → List Nat
  | [], _ => []
  | o :: r, t => match o.op with
    | .move (.tmp s) => match o.dst with
      | some d => bif Nat.beq d t then s :: movesTo r t else movesTo r t
      | none => movesTo r t
    | _ => movesTo r t
def handed (nm : Nat → Bool) (b : Nat) : List Oper → List Nat
  | [] => []
  | o :: r => match o.op with
    | .call c => match c.callee with
      | .builtin _ => handed nm b r
      | .value f => match f with
        | .func g => bif nm (3000000000 + g) then handed nm b r else c.args.toList.flatMap tmpOf ++ handed nm b r
        | _ => tmpOf f ++ c.args.toList.flatMap tmpOf ++ handed nm b r
      | _ => c.args.toList.flatMap tmpOf ++ handed nm b r
    | .slice _ x _ _ _ => match o.dst with
      | some d => bif nm (2000000000 + (b + d)) then handed nm b r else tmpOf x ++ handed nm b r
      | none => tmpOf x ++ handed nm b r
    | .convert _ _ x => tmpOf x ++ handed nm b r
    | .build _ ps => match o.dst with
      | some d => bif nm (2000000000 + (b + d)) then handed nm b r else (ps.toList.flatMap fun p => tmpOf p.2) ++ handed nm b r
      | none => (ps.toList.flatMap fun p => tmpOf p.2) ++ handed nm b r
    | .buildSlice _ _ ps => (ps.toList.flatMap fun p => tmpOf p.2) ++ handed nm b r
    | _ => handed nm b r
def addrFrom : List Oper → Nat → Option Nat
  | [], _ => none
  | o :: r, t => match o.dst with
    | some d => bif Nat.beq d t then (match o.op with
      | .fieldAddr _ (.tmp s) _ => some s
      | .move (.tmp s) => some s
      | _ => none) else addrFrom r t
    | none => addrFrom r t
def baseOf (ops : List Oper) : Nat → Nat → Nat
  | 0, t => t
  | n + 1, t => match addrFrom ops t with
    | some s => baseOf ops n s
    | none => t
def loadsTo (ops : List Oper) : List Oper → Nat → List Nat
  | [], _ => []
  | o :: r, t => match o.op with
    | .load _ (.tmp a) => match o.dst with
      | some d => bif Nat.beq d t then baseOf ops 8 a :: loadsTo ops r t else loadsTo ops r t
      | none => loadsTo ops r t
    | _ => loadsTo ops r t
def addAll (b : Nat) : List Nat → List Nat
  | [] => []
  | t :: r => (b + t) :: addAll b r
def toFreeze (nm : Nat → Bool) (b : Nat) (ops : List Oper) : List Nat := handed nm b ops ++ (handed nm b ops).flatMap (movesTo ops)
def fSt (σ : St) (k : St → Prop) : Prop := fSlots σ.slots fun sl => fBlks σ.blks fun bs => fRows σ.rows fun rs => k ⟨sl, bs, rs⟩
theorem fSt_eq (σ : St) (k : St → Prop) : fSt σ k = k σ := by simp only [fSt, fSlots_eq, fBlks_eq, fRows_eq]
def freezeK (nm : Nat → Bool) (b : Nat) (ops : List Oper) (σ : St) (k : St → Prop) : Prop :=
  match σ with
  | ⟨sl, bs, []⟩ => k ⟨sl, bs, []⟩
  | ⟨sl, bs, r :: rs⟩ => fSt (freezeBehind (addAll b ((toFreeze nm b ops).flatMap (loadsTo ops ops))) (freezeAt (addAll b (toFreeze nm b ops)) ⟨sl, bs, r :: rs⟩)) k
def strBytes (s : ByteArray) : List Int := s.data.toList.map fun b => (b.toNat : Int)
def appendSrc (t : Ty) (s : SV) : Option (List t.den) :=
  match s with
  | .leaf l => match popSl t [l] with
    | some (x, _) => some x
    | none => none
  | _ => none
def appendSrcK (t : Ty) (s : SV) (k : List t.den → Prop) : Prop :=
  match s with
  | .leaf l => popSlK t [l] False fun x _ => k x
  | _ => False
theorem appendSrcK_eq (t : Ty) (s : SV) (k : List t.den → Prop) : appendSrcK t s k = match appendSrc t s with | some x => k x | none => False := by
  unfold appendSrcK appendSrc
  cases s with
  | leaf l =>
    simp only [popSlK_eq]
    cases popSl t [l] with
    | none => rfl
    | some p => rfl
  | agg ls => rfl
  | tupv t x => rfl
def appendRow (E : Env) (t : TypeId) (rows : Rows) (s : SV) : Option (Option Nat × RowS) :=
  match E.tt t with
  | none => none
  | some ti => match ti.k with
    | .slice te => match s with
      | .leaf (.row r) => match getR rows r with
        | some R => bif Nat.beq R.e te then some (some r, R) else none
        | _ => none
      | .leaf (.raw (.slice none 0 0)) => match E.tt te with
        | some tei => match tei.ty with
          | some T => some (none, { t := T, e := te, xs := [] })
          | none => none
        | none => none
      | _ => none
    | _ => none
def newRowK (sl : Slots) (bs : Blks) (rs : Rows) (d : Nat) (R : RowS) (k : St → Prop) : Prop :=
  bif anySlots (Leaf.namesR d) sl || anyBlks (Leaf.namesR d) bs then False else k ⟨(d, .leaf (.row d)) :: sl, bs, (d, R) :: rs⟩
def usedB (sl : Slots) (bs : Blks) (q : Nat) : Bool := anySlots (Leaf.namesB q) sl || anyBlks (Leaf.namesB q) bs
def mkBlkK (sl : Slots) (bs : Blks) (rs : Rows) (d q : Nat) (t : TypeId) (ls : List Leaf) (it : Option It) (k : St → Prop) : Prop :=
  fLs ls fun z => k ⟨(d, .leaf (.ptr q 0)) :: sl, (q, ⟨t, z, it⟩) :: bs, rs⟩
def newBlkQ (sl : Slots) (bs : Blks) (rs : Rows) (d q1 q2 q3 : Nat) (t : TypeId) (ls : List Leaf) (it : Option It) (k : St → Prop) : Prop :=
  bif usedB sl bs d then bif usedB sl bs q1 then bif usedB sl bs q2 then bif usedB sl bs q3 then False else mkBlkK sl bs rs d q3 t ls it k else mkBlkK sl bs rs d q2 t ls it k else mkBlkK sl bs rs d q1 t ls it k else mkBlkK sl bs rs d d t ls it k
def newBlkK (sl : Slots) (bs : Blks) (rs : Rows) (d : Nat) (t : TypeId) (ls : List Leaf) (it : Option It) (k : St → Prop) : Prop :=
  newBlkQ sl bs rs d (d + 100000000) (d + 200000000) (d + 300000000) t ls it k
def appendK (E : Env) (sl : Slots) (bs : Blks) (rs : Rows) (d : Nat) (t : TypeId) (s : SV) (src : (T : Ty) → (List T.den → Prop) → Prop) (k : St → Prop) : Prop :=
  match appendRow E t rs s with
  | some (r, R) => match E.tt R.e with
    | some tei => bif Nat.beq tei.size R.t.size && Nat.beq tei.zero.length tei.size && Nat.ble 1 tei.size then src R.t fun ys => (R.xs.length + ys.length) * tei.bytes ≤ 140737488355328 ∧ R.xs.length + ys.length ≤ maxLen ∧
        (match r with
         | none => newRowK sl bs rs d ⟨R.t, R.e, R.xs ++ ys⟩ k
         | some r => fSlots (mapSlots (forget r) sl) fun sl' => fBlks (mapBlks (forget r) bs) fun bs' => fRows (rmR rs r) fun rs' => newRowK sl' bs' rs' d ⟨R.t, R.e, R.xs ++ ys⟩ k)
      else False
    | none => False
  | none => False
def strSrcK (s : SV) (T : Ty) (k : List T.den → Prop) : Prop :=
  match T, k with
  | .int .u8, k => match asStr s with
    | some x => k (strBytes x)
    | none => False
  | _, _ => False
def nextT : Ty := .pair .bool (.pair (.int .i64) (.pair (.int .i32) .unit))
def nextF : Ty := .pair .bool .unit
def ownK : (T : Ty) → T.den → ((t : Ty) → List t.den → Prop) → Prop
  | .sl t, xs, k => k t xs
  | _, _, _ => False
def ownCall (E : Env) (b : Nat) (sl : Slots) (c : Call) (k : (t : Ty) → TypeId → List t.den → Prop) : Prop :=
  match c.callee with
  | .value fv => match asFn (evO b sl fv) with
    | some (f, caps) => match E.ct f with
      | some C => match C.own with
        | some e => match cutTail C.tail (c.args.toList.map (evO b sl) ++ leafSVs caps) with
          | some ss => argsK C.arg ss False fun x => C.pre x ∧ ownK C.res (C.fn x) fun t xs => k t e xs
          | none => False
        | none => False
      | none => False
    | none => False
  | _ => False
def rowSliceK (E : Env) (sl : Slots) (bs : Blks) (rs : Rows) (d : Nat) (t : TypeId) (r : Nat) (R : RowS) (lo hi : Option SV) (k : St → Prop) : Prop :=
  match E.tt t with
  | some ti => match ti.k with
    | .slice te => match E.tt te with
      | some tei => bif Nat.beq tei.size R.t.size then match lo, hi with
        | none, some h => match asInt h with
          | some (_, h) => (0 ≤ h ∧ h ≤ (R.xs.length : Int)) ∧ fSlots (mapSlots (forget r) sl) fun sl' => fBlks (mapBlks (forget r) bs) fun bs' => fRows (rmR rs r) fun rs' => newRowK sl' bs' rs' d ⟨R.t, R.e, R.xs.take h.toNat⟩ k
          | none => False
        | some l, none => match asInt l with
          | some (_, l) => (0 ≤ l ∧ l < (R.xs.length : Int)) ∧ k ⟨(d, .leaf (.rsub r R.t.size l.toNat)) :: sl, bs, rs⟩
          | none => False
        | none, none => False
        | some _, some _ => False
        else False
      | none => False
    | _ => False
  | none => False
def nilB : BinOp → Bool → Option Bool
  | .eql, c => some c
  | .neq, c => some (!c)
  | _, _ => none
def nilK (E : Env) (sl : Slots) (bs : Blks) (rs : Rows) (d : Nat) (op : BinOp) (t : TypeId) (x y : SV) (k : St → Prop) : Prop :=
  match E.tt t with
  | some ti => match ti.k with
    | .slice _ => match y with
      | .leaf (.raw (.slice none 0 0)) => match x with
        | .leaf (.tv (.sl _) xs) => ∀ c : Bool, (c = true → List.length xs = 0) → (match nilB op c with | some e => k ⟨(d, mkBool e) :: sl, bs, rs⟩ | none => False)
        | .leaf (.row r) => match getR rs r with
          | some R => ∀ c : Bool, (c = true → R.xs.length = 0) → (match nilB op c with | some e => k ⟨(d, mkBool e) :: sl, bs, rs⟩ | none => False)
          | none => False
        | .leaf (.raw (.slice none 0 0)) => match nilB op true with | some e => k ⟨(d, .leaf (.blit e)) :: sl, bs, rs⟩ | none => False
        | _ => False
      | _ => False
    | _ => False
  | none => False
def zeroSrcK (E : Env) (t : TypeId) (s x : SV) (T : Ty) (k : List T.den → Prop) : Prop :=
  match s with
  | .leaf (.raw (.slice none 0 0)) => match E.tt t with
    | some ti => match ti.k with
      | .slice te => match E.tt te with
        | some tei => implodeK T tei.zero False fun z r => match r with
          | [] => match asInt x with
            | some (_, n) => (0 ≤ n ∧ n ≤ 4611686018427387904) ∧ k (List.replicate n.toNat z)
            | none => False
          | _ :: _ => False
        | none => False
      | _ => False
    | none => False
  | _ => False
def clearK (E : Env) (b : Nat) (sl : Slots) (bs : Blks) (rs : Rows) (o : Oper) (k : St → Prop) : Prop :=
  match o.op with
  | .call c => match c.callee with
    | .builtin .clear => match c.argTypes.toList with
      | t :: [] => match c.args.toList with
        | x :: [] => match evO b sl x with
          | .leaf (.rsub r sz i) => match getR rs r with
            | some R => match E.tt t with
              | some ti => match ti.k with
                | .slice te => match E.tt te with
                  | some tei => bif Nat.beq sz R.t.size && Nat.beq tei.size R.t.size && Nat.beq tei.zero.length tei.size && Nat.ble 1 tei.size then implodeK R.t tei.zero False fun z r' => match r' with
                    | [] => setRK rs r ⟨R.t, R.e, R.xs.take i ++ List.replicate (R.xs.length - i) z⟩ fun rs' => k ⟨sl, bs, rs'⟩
                    | _ :: _ => False
                    else False
                  | none => False
                | _ => False
              | none => False
            | none => False
          | _ => False
        | _ => False
      | _ => False
    | _ => False
  | _ => False
def mapKV {R : Sort u} (E : Env) (t : TypeId) (fail : R) (k : TI → Ty → Ty → R) : R :=
  match E.tt t with
  | some ti => match ti.k with
    | .map kt et => match E.tt kt with
      | some ki => match ki.ty with
        | some K => match E.tt et with
          | some ei => match ei.ty with
            | some V => bif K.plain then k ei K V else fail
            | none => fail
          | none => fail
        | none => fail
      | none => fail
    | _ => fail
  | none => fail
def mkMapK (sl : Slots) (bs : Blks) (rs : Rows) (d q : Nat) (t : TypeId) (K V : Ty) (k : St → Prop) : Prop :=
  k ⟨(d, .leaf (.mref q)) :: sl, (q, ⟨t, [.tv (mapT K V) []], some .map⟩) :: bs, rs⟩
def newMapK (sl : Slots) (bs : Blks) (rs : Rows) (d q : Nat) (t : TypeId) (K V : Ty) (k : St → Prop) : Prop :=
  bif usedB sl bs d then (bif usedB sl bs q then False else mkMapK sl bs rs d q t K V k) else mkMapK sl bs rs d d t K V k
def mapAtK (bs : Blks) (m : SV) (T : Ty) (k : Nat → TypeId → List T.den → Prop) : Prop :=
  match m with
  | .leaf (.mref i) => match getB bs i with
    | some ⟨bt, cs, some .map⟩ => implodeK (.sl T) cs False fun xs r => match r with
      | [] => k i bt xs
      | _ :: _ => False
    | _ => False
  | _ => False
def mapValK (bs : Blks) (m : SV) (K V : Ty) (k : List (K.den × V.den × Unit) → Prop) : Prop :=
  match m with
  | .leaf (.mref i) => mapAtK bs (.leaf (.mref i)) (.pair K (.pair V .unit)) fun _ _ xs => k xs
  | .leaf l => implodeK (.mp K V) [l] False fun xs r => match r with
    | [] => k xs
    | _ :: _ => False
  | _ => False
def mapLookK (E : Env) (bs : Blks) (t : TypeId) (m key : SV) (k : SV → Prop) : Prop :=
  mapKV E t False fun ei K V => mapValK bs m K V fun xs => argValK K key False fun y => implodeK V ei.zero False fun z r => match r with
    | [] => bif Nat.beq ei.zero.length ei.size then k (.tupv (.pair V (.pair .bool .unit)) ((mget K V y xs).getD z, (mget K V y xs).isSome, ())) else False
    | _ :: _ => False
def mapPutK (E : Env) (sl : Slots) (bs : Blks) (rs : Rows) (t : TypeId) (m key v : SV) (k : St → Prop) : Prop :=
  mapKV E t False fun _ K V => mapAtK bs m (.pair K (.pair V .unit)) fun i bt xs => argValK K key False fun y => argValK V v False fun z =>
    mget K V y xs = none ∧ setBK bs i ⟨bt, [.tv (mapT K V) (xs ++ [(y, z, ())])], some .map⟩ fun bs' => k ⟨sl, bs', rs⟩
def mapDelK (E : Env) (sl : Slots) (bs : Blks) (rs : Rows) (t : TypeId) (m key : SV) (k : St → Prop) : Prop :=
  mapKV E t False fun _ K V => mapAtK bs m (.pair K (.pair V .unit)) fun i bt xs => argValK K key False fun y =>
    setBK bs i ⟨bt, [.tv (mapT K V) (mdel K V y xs)], some .map⟩ fun bs' => k ⟨sl, bs', rs⟩
def mapEv (_E : Env) (b : Nat) (sl : Slots) (op : Op) : Option (Bool × TypeId × SV × SV × SV) :=
  match op with
  | .mapUpdate t m x v => some (true, t, evO b sl m, evO b sl x, evO b sl v)
  | .call c => match c.callee with
    | .builtin .delete => match c.argTypes.toList with
      | t :: _ => match c.args.toList with
        | m :: x :: [] => some (false, t, evO b sl m, evO b sl x, .leaf .any)
        | _ => none
      | _ => none
    | _ => none
  | _ => none
def mapOrClear (E : Env) (b : Nat) (sl : Slots) (bs : Blks) (rs : Rows) (o : Oper) (k : St → Prop) : Prop :=
  match mapEv E b sl o.op with
  | some (put, t, m, x, v) => match put with
    | true => mapPutK E sl bs rs t m x v k
    | false => mapDelK E sl bs rs t m x k
  | none => clearK E b sl bs rs o k
def seqEv0 (E : Env) (b : Nat) (sl : Slots) (bs : Blks) (rs : Rows) (o : Oper) (k : St → Prop) : Prop :=
  match dstAt b o.dst with
  | none => mapOrClear E b sl bs rs o k
  | some d => match o.op with
    | .makeMap t r => match r with
      | none => mapKV E t False fun _ K V => newMapK sl bs rs d (d + 100000000) t K V k
      | some _ => False
    | .lookup t m x ok => match ok with
      | true => mapLookK E bs t (evO b sl m) (evO b sl x) fun s => k ⟨(d, s) :: sl, bs, rs⟩
      | false => False
    | .slice t x lo hi mx => match mx with
      | none => match evO b sl x with
        | .leaf (.row r) => match getR rs r with
          | some R => rowSliceK E sl bs rs d t r R (lo.map (evO b sl)) (hi.map (evO b sl)) k
          | none => False
        | _ => False
      | some _ => False
    | .binOp op t x y _ => nilK E sl bs rs d op t (evO b sl x) (evO b sl y) k
    | .alloc t => match E.tt t with
      | some ti => bif Nat.beq ti.zero.length ti.size then newBlkK sl bs rs d t ti.zero none k else False
      | none => False
    | .box t x => match cellsOf (evO b sl x) with
      | some ls => newBlkK sl bs rs d t ls none k
      | none => False
    | .range t x => match E.tt t with
      | some ti => match ti.k with
        | .str => match asStr (evO b sl x) with
          | some s => newBlkK sl bs rs d 0 [] (some (.str s 0)) k
          | none => False
        | _ => False
      | none => False
    | .next x isStr => match isStr with
      | true => match evO b sl x with
        | .leaf (.ptr i 0) => match getB bs i with
          | some ⟨t, cs, some (.str s p)⟩ =>
            (decide (p < s.size) = true → setBK bs i ⟨t, cs, some (.str s (p + (Utf8.decode s p).2))⟩ fun bs' => k ⟨(d, .tupv nextT (true, (p : Int), ((Utf8.decode s p).1 : Int), ())) :: sl, bs', rs⟩) ∧
            (decide (p < s.size) = false → k ⟨(d, .tupv nextF (false, ())) :: sl, bs, rs⟩)
          | _ => False
        | _ => False
      | false => False
    | .call c => match c.callee with
      | .builtin .append => match c.argTypes.toList with
        | t :: t' :: [] => match c.args.toList with
          | s :: x :: [] => match Nat.beq t t' with
            | true => appendK E sl bs rs d t (evO b sl s) (fun T => appendSrcK T (evO b sl x)) k
            | false => match E.tt t' with
              | some ti' => match ti'.k with
                | .str => appendK E sl bs rs d t (evO b sl s) (strSrcK (evO b sl x)) k
                | .int _ => appendK E sl bs rs d t (evO b sl s) (zeroSrcK E t (evO b sl s) (evO b sl x)) k
                | _ => False
              | none => False
          | _ => False
        | _ => False
      | .value _ => ownCall E b sl c fun t e xs => newRowK sl bs rs d ⟨t, e, xs⟩ k
      | _ => False
    | _ => False
def makeSliceK (E : Env) (sl : Slots) (bs : Blks) (rs : Rows) (d : Nat) (t : TypeId) (ln cp : SV) (k : St → Prop) : Prop :=
  match E.tt t with
  | some ti => match ti.k with
    | .slice te => match E.tt te with
      | some tei => match tei.ty with
        | some T => bif Nat.beq tei.size T.size && Nat.beq tei.zero.length tei.size && Nat.ble 1 tei.size then implodeK T tei.zero False fun z r => match r with
          | [] => match asInt ln with
            | some (_, m) => match asInt cp with
              | some (_, c) => (0 ≤ m ∧ m ≤ c ∧ c * (tei.bytes : Int) ≤ 140737488355328 ∧ c ≤ 1000000000000) ∧ newRowK sl bs rs d ⟨T, te, List.replicate m.toNat z⟩ k
              | none => False
            | none => False
          | _ :: _ => False
          else False
        | none => False
      | none => False
    | _ => False
  | none => False
def copyK (E : Env) (b : Nat) (sl : Slots) (bs : Blks) (rs : Rows) (dst : Option Nat) (c : Call) (k : St → Prop) : Prop :=
  match c.argTypes.toList with
  | t :: _ => match c.args.toList with
    | x :: y :: [] => match evO b sl x with
      | .leaf (.row r) => match getR rs r with
        | some R => match E.tt t with
          | some ti => match ti.k with
            | .slice te => match E.tt te with
              | some tei => bif Nat.beq tei.size R.t.size then appendSrcK R.t (evO b sl y) fun ys => setRK rs r ⟨R.t, R.e, ys.take R.xs.length ++ R.xs.drop ys.length⟩ fun rs' => putK sl bs rs' (dstAt b dst) (mkInt .i64 ((min ys.length R.xs.length : Nat) : Int)) k
                else False
              | none => False
            | _ => False
          | none => False
        | none => False
      | _ => False
    | _ => False
  | _ => False
def seqEv (E : Env) (b : Nat) (sl : Slots) (bs : Blks) (rs : Rows) (o : Oper) (k : St → Prop) : Prop :=
  match o.op with
  | .makeSlice t l c => match dstAt b o.dst with
    | some d => makeSliceK E sl bs rs d t (evO b sl l) (evO b sl c) k
    | none => False
  | .call c => match c.callee with
    | .builtin .copy => copyK E b sl bs rs o.dst c k
    | _ => seqEv0 E b sl bs rs o k
  | _ => seqEv0 E b sl bs rs o k
def ownBuild (E : Env) (b : Nat) (o : Oper) : Option (Nat × TypeId × Nat × List (Nat × Operand)) :=
  match o.op with
  | .buildSlice t n ps => match dstAt b o.dst with
    | some d => bif E.nm (1000000000 + d) then some (d, t, n, ps.toList) else none
    | none => none
  | _ => none
def buildRowK (E : Env) (b : Nat) (sl : Slots) (bs : Blks) (rs : Rows) (d : Nat) (t : TypeId) (len : Nat) (parts : List (Nat × Operand)) (k : St → Prop) : Prop :=
  match E.tt t with
  | none => False
  | some ti => match ti.k with
    | .slice te => match E.tt te with
      | none => False
      | some tei => match tei.ty with
        | none => False
        | some T => bif Nat.beq parts.length len && Nat.ble (len * tei.size) 16777216 && Nat.beq tei.zero.length tei.size && Nat.beq tei.size T.size && Nat.ble 1 T.size then buildElemsK b T sl False 0 parts fun ds => newRowK sl bs rs d ⟨T, te, ds⟩ k else False
    | _ => False
abbrev Inliner := FuncId → Nat → List SV → St → (SV → St → Prop) → Prop
def argRows (b : Nat) (sl : Slots) : List Operand → List Nat
  | [] => []
  | x :: r => rowsIn (evO b sl x) ++ argRows b sl r
def fzK (E : Env) (b : Nat) (o : Oper) (σ : St) (k : St → Prop) : Prop :=
  match o.op with
  | .call c => match c.callee with
    | .value (.func f) => match E.ct f with
      | some _ => match argRows b σ.slots c.args.toList with
        | [] => k σ
        | r :: rs => fSt (freezeRows (r :: rs) σ) k
      | none => k σ
    | _ => k σ
  | _ => k σ
def rowCall (E : Env) (b : Nat) (sl : Slots) (op : Op) : Option (RContract × SV) :=
  match op with
  | .call c => match c.callee with
    | .value fv => match asFn (evO b sl fv) with
      | some (f, []) => match E.rct f with
        | some C => match cutTail C.tail (c.args.toList.map (evO b sl)) with
          | some (s :: []) => some (C, s)
          | _ => none
        | none => none
      | _ => none
    | _ => none
  | _ => none
def rowBackK (sl : Slots) (bs : Blks) (rs : Rows) (d : Option Nat) (R : RowS) (k : St → Prop) : Prop :=
  match d with
  | some d => newRowK sl bs rs d R k
  | none => False
def rowCallK (C : RContract) (s : SV) (sl : Slots) (bs : Blks) (rs : Rows) (d : Option Nat) (k : St → Prop) : Prop :=
  match s with
  | .leaf (.row r) => match getR rs r with
    | some R => bif Nat.beq R.e C.e then popSlK C.t [.tv (.sl R.t) R.xs] False fun xs _ => C.pre xs ∧ ∀ ys : List C.t.den, C.post xs ys → (match C.back with
      | false => setRK rs r ⟨C.t, C.e, ys⟩ fun rs' => putK sl bs rs' d (.leaf .any) k
      | true => fSlots (mapSlots (forget r) sl) fun sl' => fBlks (mapBlks (forget r) bs) fun bs' => fRows (rmR rs r) fun rs' => rowBackK sl' bs' rs' d ⟨C.t, C.e, ys⟩ k)
      else False
    | none => False
  | .leaf (.raw (.slice none 0 0)) => C.pre [] ∧ ∀ ys : List C.t.den, C.post [] ys → (match C.back with
      | false => putK sl bs rs d (.leaf .any) k
      | true => rowBackK sl bs rs d ⟨C.t, C.e, ys⟩ k)
  | _ => False
def exec1 (E : Env) (J : Inliner) (b top : Nat) (o : Oper) (σ : St) (k : St → Prop) : Prop :=
  fzK E b o σ fun σ => match σ with
  | ⟨sl, bs, rs⟩ => match ownBuild E b o with
    | some (d, t, n, ps) => buildRowK E b sl bs rs d t n ps k
    | none => match pureEv E b sl bs rs o.op with
    | some (r, p) => oblige p (nameK (nmAt E.nm (dstAt b o.dst)) r fun r' => putK sl bs rs (dstAt b o.dst) r' k)
    | none => match storeEv E b sl bs o.op with
      | some (i, ⟨t, cs, it⟩) => match o.dst with
        | none => fLs cs fun cs' => setBK bs i ⟨t, cs', it⟩ fun bs' => k ⟨sl, bs', rs⟩
        | some _ => False
      | none => match rowStoreEv E b sl rs o.op with
        | some (r, ⟨t, e, xs⟩) => match o.dst with
          | none => setRK rs r ⟨t, e, xs⟩ fun rs' => k ⟨sl, bs, rs'⟩
          | some _ => False
        | none => match inlEv E b sl o.op with
          | some (f, args) => J f top args ⟨sl, bs, rs⟩ fun s σ' => match σ' with
            | ⟨sl', bs', rs'⟩ => putK sl' bs' rs' (dstAt b o.dst) s k
          | none => match rowCall E b sl o.op with
            | some (C, s) => rowCallK C s sl bs rs (dstAt b o.dst) k
            | none => seqEv E b sl bs rs o k
def setK (σ : St) (d : Option Nat) (s : SV) (k : St → Prop) : Prop :=
  match σ with
  | ⟨sl, bs, rs⟩ => putK sl bs rs d s k
theorem setK_eq (σ : St) (d : Option Nat) (s : SV) (k : St → Prop) : setK σ d s k = k (σ.put d s) := by
  obtain ⟨sl, bs, rs⟩ := σ
  exact putK_eq sl bs rs d s k
def dstOf (all : List Oper) (j : Nat) : Option Nat :=
  match all[j]? with
  | some o => o.dst
  | none => none
def guarded (w b : Bool) (yes no : Prop) : Prop :=
  match w, b with
  | true, true => yes
  | false, false => yes
  | true, false => no
  | false, true => no
def execOps (E : Env) (J : Inliner) (b top : Nat) (all : List Oper) : List Oper → St → (St → Prop) → Prop
  | [], σ, k => k σ
  | o :: r, σ, k => match o.guard with
    | none => exec1 E J b top o σ fun σ' => execOps E J b top all r σ' k
    | some (j, w) => match dstOf all j with
      | none => False
      | some t => match getS σ.slots (b + t) with
        | .leaf (.blit c) => guarded w c (exec1 E J b top o σ fun σ' => execOps E J b top all r σ' k) (setK σ (dstAt b o.dst) (.leaf .undef) fun σ' => execOps E J b top all r σ' k)
        | .leaf (.tv .bool e) =>
          ((e : Bool) = true → setK σ (some (b + t)) (.leaf (.blit true)) fun σ => guarded w true (exec1 E J b top o σ fun σ' => execOps E J b top all r σ' k) (setK σ (dstAt b o.dst) (.leaf .undef) fun σ' => execOps E J b top all r σ' k)) ∧
          ((e : Bool) = false → setK σ (some (b + t)) (.leaf (.blit false)) fun σ => guarded w false (exec1 E J b top o σ fun σ' => execOps E J b top all r σ' k) (setK σ (dstAt b o.dst) (.leaf .undef) fun σ' => execOps E J b top all r σ' k))
        | .leaf .undef => setK σ (dstAt b o.dst) (.leaf .undef) fun σ' => execOps E J b top all r σ' k
        | _ => False
end Go.Fr
namespace Go.Fr
open Go Go.RowKit
def holds (b : Bool) : Prop := match b with | true => True | false => False
mutual
def entLeaf (m : Nat → Option Nat) : Leaf → Leaf → Prop
  | _, .any => True
  | l, .tv t x => argValK t (.leaf l) False fun y => y = x
  | l, .blit b => match l with
    | .blit c => c = b
    | .tv .bool c => (c : Bool) = b
    | _ => False
  | l, .raw v => match l with
    | .raw u => u = v
    | _ => False
  | l, .ptr i off => match l with
    | .ptr i' off' => holds (Nat.beq i i' && Nat.beq off off')
    | _ => False
  | l, .mref i => match l with
    | .mref i' => holds (Nat.beq i i')
    | _ => False
  | l, .row X => match m X with
    | some r => match l with
      | .row r' => holds (Nat.beq r r')
      | _ => False
    | none => match l with
      | .raw (.slice none 0 0) => True
      | _ => False
  | l, .clo f caps => match l with
    | .clo f' caps' => match Nat.beq f f' with
      | true => entLeaves m caps' caps
      | false => False
    | _ => False
  | _, .undef => False
  | _, .eptr _ _ _ _ => False
  | _, .rptr _ _ _ _ => False
  | _, .rsub _ _ _ => False
def entLeaves (m : Nat → Option Nat) : List Leaf → List Leaf → Prop
  | ls, [] => match ls with
    | [] => True
    | _ :: _ => False
  | ls, l' :: r' => match ls with
    | [] => False
    | l :: r => match r' with
      | [] => match r with
        | [] => entLeaf m l l'
        | _ :: _ => False
      | _ :: _ => entLeaf m l l' ∧ entLeaves m r r'
end
def entSV (m : Nat → Option Nat) (s s' : SV) : Prop :=
  match s' with
  | .leaf .any => True
  | .leaf (.tv t x) => argValK t s False fun y => y = x
  | .leaf l' => match s with
    | .leaf l => entLeaf m l l'
    | _ => False
  | .agg ls' => match aggOf s with
    | some ls => entLeaves m ls ls'
    | none => False
  | .tupv _ _ => False
def entSlots (m : Nat → Option Nat) (src : Slots) : Slots → Prop
  | [] => True
  | [(t, s')] => entSV m (getS src t) s'
  | (t, s') :: r => entSV m (getS src t) s' ∧ entSlots m src r
def isTv : List Leaf → Prop
  | [.tv _ _] => True
  | _ => False
def entIt (cs' : List Leaf) (x y : Option It) : Prop :=
  match x, y with
  | none, none => True
  | some (.str s p), some (.str s' p') => s = s' ∧ p = p'
  | some .map, some .map => isTv cs'
  | _, _ => False
def entBlk (m : Nat → Option Nat) (src : Blks) (n : Nat) (c : Blk) : Prop :=
  match c with
  | ⟨t', cs', it'⟩ => match getB src n with
    | some ⟨t, cs, it⟩ => match Nat.beq t t' with
      | true => match it' with
        | none => match it with
          | none => entLeaves m cs cs'
          | some _ => False
        | some _ => entLeaves m cs cs' ∧ entIt cs' it it'
      | false => False
    | none => False
def entBlks (m : Nat → Option Nat) (src : Blks) : Blks → Prop
  | [] => True
  | (n, c) :: r => match r with
    | [] => entBlk m src n c
    | _ :: _ => entBlk m src n c ∧ entBlks m src r
def holdsNil {α : Type} (xs : List α) : Prop := match xs with | [] => True | _ :: _ => False
def entRows (m : Nat → Option Nat) (src : Rows) : Rows → Prop
  | [] => True
  | (X, R') :: r => match m X with
    | some y => match getR src y with
      | some R => match Nat.beq R.e R'.e with
        | true => popSlK R'.t [.tv (.sl R.t) R.xs] False fun xs _ => xs = R'.xs ∧ entRows m src r
        | false => False
      | none => False
    | none => holdsNil R'.xs ∧ entRows m src r
def rowsApart (m : Nat → Option Nat) : Rows → Bool
  | [] => true
  | (X, _) :: r => (match m X with
    | some y => !(r.any fun p => match m p.1 with | some z => Nat.beq y z | none => false)
    | none => true) && rowsApart m r
def blksApart : Blks → Bool
  | [] => true
  | (n, _) :: r => !(r.any fun p => Nat.beq n p.1) && blksApart r
def entAt (m : Nat → Option Nat) (sl : Slots) (bs : Blks) (rs : Rows) (sl' : Slots) (bs' : Blks) (rs' : Rows) : Prop :=
  match rowsApart m rs' && blksApart bs' with
  | true => match bs', rs' with
    | [], [] => entSlots m sl sl'
    | _ :: _, [] => entSlots m sl sl' ∧ entBlks m bs bs'
    | [], _ :: _ => entSlots m sl sl' ∧ entRows m rs rs'
    | _ :: _, _ :: _ => entSlots m sl sl' ∧ entBlks m bs bs' ∧ entRows m rs rs'
  | false => False
def exSl (T : Ty) (rs : Rows) (s : SV) (k : List T.den → Prop) : Prop :=
  match s with
  | .leaf (.row y) => match getR rs y with
    | some R => popSlK T [.tv (.sl R.t) R.xs] False fun xs _ => k xs
    | none => False
  | .leaf (.raw (.slice none 0 0)) => k []
  | _ => False
def exCell (bs : Blks) (i c : Nat) (k : Leaf → Prop) : Prop :=
  match getB bs i with
  | some b => match b.cells[c]? with
    | some l => k l
    | none => False
  | none => False
def exV : (vs : List Var) → St → (varsDen vs → Prop) → Prop
  | [], _, k => k ()
  | .slot t T :: vs, σ, k => argValK T (getS σ.slots t) False fun a => exV vs σ fun r => k (a, r)
  | .cell i c T :: vs, σ, k => exCell σ.blks i c fun l => argValK T (.leaf l) False fun a => exV vs σ fun r => k (a, r)
  | .pos i :: vs, σ, k => match getB σ.blks i with
    | some ⟨_, _, some (.str _ p)⟩ => exV vs σ fun r => k (p, r)
    | _ => False
  | .rowS t _ T _ :: vs, σ, k => exSl T σ.rows (getS σ.slots t) fun a => exV vs σ fun r => k (a, r)
  | .rowC i c _ T _ :: vs, σ, k => exCell σ.blks i c fun l => exSl T σ.rows (.leaf l) fun a => exV vs σ fun r => k (a, r)
  | .rowN X T _ :: vs, σ, k => exSl T σ.rows (.leaf (.row X)) fun a => exV vs σ fun r => k (a, r)
def allV : (vs : List Var) → (varsDen vs → Prop) → Prop
  | [], k => k ()
  | v :: vs, k => ∀ a : v.den, allV vs fun r => k (a, r)
theorem exV_get : (vs : List Var) → {σ : St} → {k : varsDen vs → Prop} → exV vs σ k → ∃ x, k x
  | [], _, _, e => ⟨(), e⟩
  | .slot t T :: vs, σ, k, e => by
    simp only [exV, argValK_eq] at e
    split at e
    · obtain ⟨x, hx⟩ := exV_get vs e; exact ⟨_, hx⟩
    · exact e.elim
  | .cell i c T :: vs, σ, k, e => by
    simp only [exV, exCell, argValK_eq] at e
    split at e
    · split at e
      · split at e
        · obtain ⟨x, hx⟩ := exV_get vs e; exact ⟨_, hx⟩
        · exact e.elim
      · exact e.elim
    · exact e.elim
  | .pos i :: vs, σ, k, e => by
    simp only [exV] at e
    split at e
    · obtain ⟨x, hx⟩ := exV_get vs e; exact ⟨_, hx⟩
    · exact e.elim
  | .rowS t _ T _ :: vs, σ, k, e => by
    simp only [exV, exSl, popSlK_eq] at e
    split at e
    · split at e
      · split at e
        · obtain ⟨x, hx⟩ := exV_get vs e; exact ⟨_, hx⟩
        · exact e.elim
      · exact e.elim
    · obtain ⟨x, hx⟩ := exV_get vs e; exact ⟨_, hx⟩
    · exact e.elim
  | .rowC i c _ T _ :: vs, σ, k, e => by
    simp only [exV, exCell, exSl, popSlK_eq] at e
    split at e
    · split at e
      · split at e
        · split at e
          · split at e
            · obtain ⟨x, hx⟩ := exV_get vs e; exact ⟨_, hx⟩
            · exact e.elim
          · exact e.elim
        · obtain ⟨x, hx⟩ := exV_get vs e; exact ⟨_, hx⟩
        · exact e.elim
      · exact e.elim
    · exact e.elim
  | .rowN X T _ :: vs, σ, k, e => by
    simp only [exV, exSl, popSlK_eq] at e
    split at e
    · split at e
      · obtain ⟨x, hx⟩ := exV_get vs e; exact ⟨_, hx⟩
      · exact e.elim
    · exact e.elim
theorem allV_all : (vs : List Var) → {k : varsDen vs → Prop} → allV vs k → ∀ x, k x
  | [], _, e, () => e
  | _ :: vs, _, e, (a, r) => allV_all vs (e a) r
def Leaf.stays : Leaf → Bool
  | .any => false
  | .undef => false
  | .eptr _ _ _ _ => false
  | .rptr _ _ _ _ => false
  | .rsub _ _ _ => false
  | .blit _ => true
  | .tv _ _ => true
  | .raw _ => true
  | .ptr _ _ => true
  | .row _ => true
  | .clo _ _ => true
  | .mref _ => true
def cleanLs : List Leaf → List Leaf
  | [] => []
  | l :: r => (bif l.stays then l else .any) :: cleanLs r
def cleanSV : SV → SV
  | .leaf l => bif l.stays then .leaf l else .leaf .any
  | .agg ls => .agg (cleanLs ls)
  | .tupv _ _ => .leaf .any
def keepS (sl : Slots) : List Nat → Slots
  | [] => []
  | t :: r => (t, cleanSV (getS sl t)) :: keepS sl r
def keepB (bs : Blks) : List Nat → Blks
  | [] => []
  | i :: r => match getB bs i with
    | some ⟨t, cs, it⟩ => (i, ⟨t, cleanLs cs, it⟩) :: keepB bs r
    | none => keepB bs r
def keepR (rs : Rows) : List Nat → Rows
  | [] => []
  | i :: r => match getR rs i with
    | some R => (i, R) :: keepR rs r
    | none => keepR rs r
def putCell (bs : Blks) (i c : Nat) (l : Leaf) : Blks :=
  match getB bs i with
  | some ⟨t, cs, it⟩ => setB bs i ⟨t, cs.set c l, it⟩
  | none => bs
def putPos (bs : Blks) (i p : Nat) : Blks :=
  match getB bs i with
  | some ⟨t, cs, some (.str s _)⟩ => setB bs i ⟨t, cs, some (.str s p)⟩
  | _ => bs
def turn : (vs : List Var) → varsDen vs → St → St
  | [], _, σ => σ
  | .slot t T :: vs, x, σ => turn vs x.2 ⟨(t, .leaf (.tv T x.1)) :: σ.slots, σ.blks, σ.rows⟩
  | .cell i c T :: vs, x, σ => turn vs x.2 ⟨σ.slots, putCell σ.blks i c (.tv T x.1), σ.rows⟩
  | .pos i :: vs, x, σ => turn vs x.2 ⟨σ.slots, putPos σ.blks i x.1, σ.rows⟩
  | .rowS t X T e :: vs, x, σ => turn vs x.2 ⟨(t, .leaf (.row X)) :: σ.slots, σ.blks, (X, ⟨T, e, x.1⟩) :: σ.rows⟩
  | .rowC i c X T e :: vs, x, σ => turn vs x.2 ⟨σ.slots, putCell σ.blks i c (.row X), (X, ⟨T, e, x.1⟩) :: σ.rows⟩
  | .rowN X T e :: vs, x, σ => turn vs x.2 ⟨σ.slots, σ.blks, (X, ⟨T, e, x.1⟩) :: σ.rows⟩
def atHead (h : Hint) (σ : St) (x : varsDen h.vars) : St := turn h.vars x ⟨keepS σ.slots h.slots, keepB σ.blks h.blks, keepR σ.rows h.rows⟩
def rowOf (s : SV) : Option Nat :=
  match s with
  | .leaf (.row y) => some y
  | _ => none
def srcV (σ : St) : List Var → Nat → Option Nat
  | [], X => some X
  | .rowS t Y _ _ :: vs, X => bif Nat.beq X Y then rowOf (getS σ.slots t) else srcV σ vs X
  | .rowC i c Y _ _ :: vs, X => bif Nat.beq X Y then (match getB σ.blks i with
    | some b => match b.cells[c]? with
      | some l => rowOf (.leaf l)
      | none => none
    | none => none) else srcV σ vs X
  | .slot _ _ :: vs, X => srcV σ vs X
  | .cell _ _ _ :: vs, X => srcV σ vs X
  | .pos _ :: vs, X => srcV σ vs X
  | .rowN _ _ _ :: vs, X => srcV σ vs X
def entH (h : Hint) (σ0 σ : St) (x : varsDen h.vars) : Prop :=
  match atHead h σ0 x with
  | ⟨sl', bs', rs'⟩ => entAt (srcV σ h.vars) σ.slots σ.blks σ.rows sl' bs' rs'
def firstReg : Code → Nat
  | .region id _ _ => id
  | .seq a _ => firstReg a
  | .block _ a => firstReg a
  | .loop a => firstReg a
  | .scope a => firstReg a
  | _ => 1000000
inductive Ex where
  | normal | exit (id : Nat) | ret
def onList (es : List Edge) (j : Nat) : Bool :=
  match es with
  | [] => false
  | e :: r => (Nat.beq e.on j && (match e.ground with | .textOnly _ => false | .gcOnly _ => false | _ => true)) || onList r j
def afterOf (all : List Oper) (i j : Nat) : Bool :=
  match all[i]? with
  | some o => onList o.after.toList j
  | none => false
def looks (all : List Oper) (o : Oper) : List Nat :=
  (o.op.operands.toList.flatMap tmpOf) ++ (match o.guard with
    | some (j, _) => match dstOf all j with
      | some t => [t]
      | none => []
    | none => [])
def optEq (a : Option Nat) (t : Nat) : Bool := match a with | some x => Nat.beq x t | none => false
def readsOk (all : List Oper) (i t : Nat) : Nat → List Oper → Bool
  | _, [] => true
  | j, o :: r => (bif optEq o.dst t then (bif Nat.blt j i then afterOf all i j else bif Nat.beq j i then true else afterOf all j i) else true) && readsOk all i t (j + 1) r
def dstOnce (all : List Oper) (i : Nat) (d : Option Nat) : Nat → List Oper → Bool
  | _, [] => true
  | j, o :: r => (bif Nat.beq i j then true else match d with | some t => !(optEq o.dst t) | none => true) && dstOnce all i d (j + 1) r
def guardOk (all : List Oper) (i : Nat) (g : Option (Nat × Bool)) : Bool :=
  match g with
  | none => true
  | some (j, _) => Nat.blt j i && afterOf all i j
def edgesBack (i : Nat) : List Edge → Bool
  | [] => true
  | e :: r => (match e.ground with | .textOnly _ => true | .gcOnly _ => true | _ => Nat.blt e.on i) && edgesBack i r
def okOps (all : List Oper) : Nat → List Oper → Bool
  | _, [] => true
  | i, o :: r => ((looks all o).all fun t => readsOk all i t 0 all) && dstOnce all i o.dst 0 all && guardOk all i o.guard && edgesBack i o.after.toList && okOps all (i + 1) r
def touches (b : Nat) (sl : Slots) (op : Op) : Option (Nat × Bool) :=
  match op with
  | .load _ a => match evO b sl a with
    | .leaf (.ptr i _) => some (2 * i, false)
    | .leaf (.rptr r _ _ _) => some (2 * r + 1, false)
    | _ => none
  | .store _ a _ => match evO b sl a with
    | .leaf (.ptr i _) => some (2 * i, true)
    | .leaf (.rptr r _ _ _) => some (2 * r + 1, true)
    | _ => none
  | _ => none
abbrev Mem := List (Nat × Nat × Bool)
def memOk (all : List Oper) : Mem → Bool
  | [] => true
  | (i, b, w) :: r => (r.all fun p => !(Nat.beq b p.2.1) || !(w || p.2.2) || afterOf all i p.1) && memOk all r
abbrev Made := List (Nat × Nat)
def madeOf (b K : Nat) : Nat → List Oper → Made
  | _, [] => []
  | i, o :: r => match o.op with
    | .alloc _ => match o.dst with
      | some d => (i, b + d + K) :: madeOf b K (i + 1) r
      | none => madeOf b K (i + 1) r
    | _ => madeOf b K (i + 1) r
def freshM (sl : Slots) (bs : Blks) : Made → Bool
  | [] => true
  | (_, q) :: r => !(usedB sl bs q) && freshM sl bs r
def madeAt (i : Nat) : Made → Option Nat
  | [] => none
  | (j, q) :: r => bif Nat.beq i j then some q else madeAt i r
def behindM (all : List Oper) (i : Nat) (f : Nat → Bool) : Made → Bool
  | [] => true
  | (j, q) :: r => (bif f q then (bif Nat.beq i j then true else afterOf all i j) else true) && behindM all i f r
def noneM (f : Nat → Bool) : Made → Bool
  | [] => true
  | (_, q) :: r => !(f q) && noneM f r
def onlyM (i q : Nat) : Made → Bool
  | [] => true
  | (j, p) :: r => (bif Nat.beq p q then Nat.beq i j else true) && onlyM i q r
def execD1 (E : Env) (b : Nat) (all : List Oper) (A : Made) (i : Nat) (o : Oper) (σ : St) (mem : Mem) (k : St → Mem → Prop) : Prop :=
  match σ with
  | ⟨sl, bs, rs⟩ => match pureEv E b sl bs rs o.op with
    | some (r, p) => oblige p (nameK (nmAt E.nm (dstAt b o.dst)) r fun r' => bif behindM all i (fun q => r'.anyL (Leaf.namesB q)) A then putK sl bs rs (dstAt b o.dst) r' fun σ' => match touches b sl o.op with | some (q, w) => k σ' ((i, q, w) :: mem) | none => k σ' mem else False)
    | none => match storeEv E b sl bs o.op with
      | some (q, ⟨t, cs, it⟩) => match o.dst with
        | none => fLs cs fun cs' => bif behindM all i (fun q => anyLeaf (Leaf.namesB q) cs') A then setBK bs q ⟨t, cs', it⟩ fun bs' => k ⟨sl, bs', rs⟩ ((i, 2 * q, true) :: mem) else False
        | some _ => False
      | none => match rowStoreEv E b sl rs o.op with
        | some (q, ⟨t, e, xs⟩) => match o.dst with
          | none => setRK rs q ⟨t, e, xs⟩ fun rs' => k ⟨sl, bs, rs'⟩ ((i, 2 * q + 1, true) :: mem)
          | some _ => False
        | none => match o.op with
          | .alloc t => match o.dst with
            | some d => match E.tt t with
              | some ti => match madeAt i A with
                | some q => bif Nat.beq ti.zero.length ti.size && noneM (fun p => anyLeaf (Leaf.namesB p) ti.zero) A && onlyM i q A then fLs ti.zero fun z => k ⟨(b + d, .leaf (.ptr q 0)) :: sl, (q, ⟨t, z, none⟩) :: bs, rs⟩ ((i, 2 * q, true) :: mem) else False
                | none => False
              | none => False
            | none => False
          | _ => False
def execD (E : Env) (b : Nat) (all : List Oper) (A : Made) : Nat → List Oper → St → Mem → (St → Prop) → Prop
  | _, [], σ, mem, k => match memOk all mem with
    | true => k σ
    | false => False
  | i, o :: r, σ, mem, k => match o.guard with
    | none => execD1 E b all A i o σ mem fun σ' mem' => execD E b all A (i + 1) r σ' mem' k
    | some (j, w) => match dstOf all j with
      | none => False
      | some t => match getS σ.slots (b + t) with
        | .leaf (.blit c) => guarded w c (execD1 E b all A i o σ mem fun σ' mem' => execD E b all A (i + 1) r σ' mem' k) (setK σ (dstAt b o.dst) (.leaf .undef) fun σ' => execD E b all A (i + 1) r σ' mem k)
        | .leaf (.tv .bool e) =>
          ((e : Bool) = true → setK σ (some (b + t)) (.leaf (.blit true)) fun σ => guarded w true (execD1 E b all A i o σ mem fun σ' mem' => execD E b all A (i + 1) r σ' mem' k) (setK σ (dstAt b o.dst) (.leaf .undef) fun σ' => execD E b all A (i + 1) r σ' mem k)) ∧
          ((e : Bool) = false → setK σ (some (b + t)) (.leaf (.blit false)) fun σ => guarded w false (execD1 E b all A i o σ mem fun σ' mem' => execD E b all A (i + 1) r σ' mem' k) (setK σ (dstAt b o.dst) (.leaf .undef) fun σ' => execD E b all A (i + 1) r σ' mem k))
        | .leaf .undef => setK σ (dstAt b o.dst) (.leaf .undef) fun σ' => execD E b all A (i + 1) r σ' mem k
        | _ => False
def execM (E : Env) (b : Nat) (l : List Oper) (σ : St) (k : St → Prop) : Prop :=
  bif freshM σ.slots σ.blks (madeOf b 0 0 l) then execD E b l (madeOf b 0 0 l) 0 l σ [] k
  else bif freshM σ.slots σ.blks (madeOf b 100000000 0 l) then execD E b l (madeOf b 100000000 0 l) 0 l σ [] k
  else bif freshM σ.slots σ.blks (madeOf b 200000000 0 l) then execD E b l (madeOf b 200000000 0 l) 0 l σ [] k else False
def lget : List Bool → Nat → Bool
  | [], _ => false
  | x :: _, 0 => x
  | _ :: r, i + 1 => lget r i
def lset : List Bool → Nat → List Bool
  | [], _ => []
  | _ :: r, 0 => true :: r
  | x :: r, i + 1 => x :: lset r i
def isReadyL (listed : List Bool) : List Edge → Bool
  | [] => true
  | e :: r => (match e.ground with | .textOnly _ => true | .gcOnly _ => true | _ => lget listed e.on) && isReadyL listed r
def readyL (listed : List Bool) : Nat → List Oper → List Bool → List Nat
  | i, o :: r, f :: fs => bif f then readyL listed (i + 1) r fs else bif isReadyL listed o.after.toList then i :: readyL listed (i + 1) r fs else readyL listed (i + 1) r fs
  | _, _, _ => []
def eagerOp : Op → Bool
  | .move _ => true
  | .assign _ => true
  | .extract _ _ => true
  | .nilCheck _ => true
  | .fieldAddr _ _ _ => true
  | _ => false
def firstEager (all : List Oper) : List Nat → Option Nat
  | [] => none
  | i :: r => match all[i]? with
    | some o => bif eagerOp o.op then some i else firstEager all r
    | none => firstEager all r
def conjL (f : Nat → Prop) : List Nat → Prop
  | [] => True
  | i :: r => match r with
    | [] => f i
    | _ :: _ => f i ∧ conjL f r
def noSel : List Oper → Bool
  | [] => true
  | o :: r => (match o.op with | .select _ _ => false | _ => true) && noSel r
def stepG (E : Env) (J : Inliner) (b top : Nat) (all : List Oper) (o : Oper) (σ : St) (k : St → Prop) : Prop :=
  match o.guard with
    | none => exec1 E J b top o σ k
    | some (j, w) => match dstOf all j with
      | none => False
      | some t => match getS σ.slots (b + t) with
        | .leaf (.blit c) => guarded w c (exec1 E J b top o σ k) (setK σ (dstAt b o.dst) (.leaf .undef) k)
        | .leaf (.tv .bool e) =>
          ((e : Bool) = true → setK σ (some (b + t)) (.leaf (.blit true)) fun σ => guarded w true (exec1 E J b top o σ k) (setK σ (dstAt b o.dst) (.leaf .undef) k)) ∧
          ((e : Bool) = false → setK σ (some (b + t)) (.leaf (.blit false)) fun σ => guarded w false (exec1 E J b top o σ k) (setK σ (dstAt b o.dst) (.leaf .undef) k))
        | .leaf .undef => setK σ (dstAt b o.dst) (.leaf .undef) k
        | _ => False
def execA (E : Env) (J : Inliner) (b top : Nat) (all : List Oper) : Nat → List Bool → St → (St → Prop) → Prop
  | 0, listed, σ, k => match readyL listed 0 all listed with
    | [] => k σ
    | _ :: _ => False
  | m + 1, listed, σ, k => match readyL listed 0 all listed with
    | [] => k σ
    | i :: r => match firstEager all (i :: r) with
      | some j => match all[j]? with
        | some o => stepG E J b top all o σ fun σ' => execA E J b top all m (lset listed j) σ' k
        | none => False
      | none => conjL (fun j => match all[j]? with
        | some o => stepG E J b top all o σ fun σ' => execA E J b top all m (lset listed j) σ' k
        | none => False) (i :: r)
def execAll (E : Env) (J : Inliner) (b top : Nat) (all : List Oper) (σ : St) (k : St → Prop) : Prop :=
  match noSel all with
  | true => execA E J b top all all.length (List.replicate all.length false) σ k
  | false => False
def roundsOf (h : Hint) : Nat :=
  match h.rows with
  | r :: n :: _ => bif Nat.beq r 4000000000 then n else 0
  | _ => 0
def rounds (body : St → (Ex → St → Prop) → Prop) : Nat → St → (Ex → St → Prop) → Prop
  | 0, _, _ => False
  | n + 1, σ, Q => body σ fun e σ' => match e with
    | .normal => rounds body n σ' Q
    | .exit i => Q (.exit i) σ'
    | .ret => Q .ret σ'
def vc (E : Env) (J : Inliner) (b top : Nat) : Code → St → (Ex → St → Prop) → Prop
  | .skip, σ, Q => Q .normal σ
  | .region id ops draw, σ, Q => match draw with
    | false => freezeK E.nm b ops.toList σ fun σ => execOps E J b top ops.toList ops.toList σ (Q .normal)
    | true => match E.nm (4000000000 + 1000 * b + id) with
      | false => freezeK E.nm b ops.toList σ fun σ => execM E b ops.toList σ (Q .normal)
      | true => freezeK E.nm b ops.toList σ fun σ => execAll E J b top ops.toList σ (Q .normal)
  | .seq x y, σ, Q => vc E J b top x σ fun e σ' => match e with
    | .normal => vc E J b top y σ' Q
    | .exit i => Q (.exit i) σ'
    | .ret => Q .ret σ'
  | .cond c x y, σ, Q => match evO b σ.slots c with
    | .leaf (.blit t) => match t with
      | true => vc E J b top x σ Q
      | false => vc E J b top y σ Q
    | .leaf (.tv .bool e) => ((e : Bool) = true → vc E J b top x σ Q) ∧ ((e : Bool) = false → vc E J b top y σ Q)
    | _ => False
  | .block id x, σ, Q => vc E J b top x σ fun e σ' => match e with
    | .normal => Q .normal σ'
    | .exit i => match Nat.beq i id with
      | true => Q .normal σ'
      | false => Q (.exit i) σ'
    | .ret => Q .ret σ'
  | .loop x, σ, Q => match E.hint b (firstReg x) with
    | none => False
    | some h => match roundsOf h with
      | m + 1 => rounds (fun σ Q => vc E J b top x σ Q) (m + 1) σ Q
      | 0 => exV h.vars σ fun x0 => entH h σ σ x0 ∧ ∃ (Z : varsDen h.vars → Prop) (μ : varsDen h.vars → Nat), Z x0 ∧ allV h.vars fun z => Z z → fSt (atHead h σ z) fun τ => vc E J b top x τ fun e σ' => match e with
      | .normal => exV h.vars σ' fun y => entH h σ σ' y ∧ Z y ∧ μ y < μ z
      | .exit i => Q (.exit i) σ'
      | .ret => Q .ret σ'
  | .exit id, σ, Q => Q (.exit id) σ
  | .ret, σ, Q => Q .ret σ
  | .scope x, σ, Q => vc E J b top x σ Q
  | .label _, σ, Q => Q .normal σ
  | _, _, _ => False
def thawS (rows : Rows) (i : Nat) : Option Leaf :=
  match getR rows i with
  | some R => some (.tv (.sl R.t) R.xs)
  | none => some .any
def resSV (E : Env) (b : Nat) (σ : St) : ResultVar → Option SV
  | .tmp t => some (getS σ.slots (b + t))
  | .cell a T => match E.tt T with
    | some ti => match getS σ.slots (b + a) with
      | .leaf (.ptr i off) => match getB σ.blks i with
        | some ⟨_, cs, none⟩ => partOf ti cs off
        | _ => none
      | _ => none
    | none => none
def resSVs (E : Env) (b : Nat) (σ : St) : List ResultVar → Option (List SV)
  | [] => some []
  | r :: rs => match resSV E b σ r with
    | some s => match resSVs E b σ rs with
      | some ss => some (s.sub (thawS σ.rows) :: ss)
      | none => none
    | none => none
def resInl (E : Env) (b : Nat) (σ : St) : List ResultVar → Option SV
  | [] => some (.leaf .any)
  | r :: rs => match rs with
    | [] => resSV E b σ r
    | _ :: _ => none
def cutS (top : Nat) : Slots → Slots
  | [] => []
  | (k, s) :: r => bif Nat.ble top k then cutS top r else (k, s) :: cutS top r
def argSlots : List SV → Nat → Slots → Slots
  | [], _, sl => sl
  | s :: r, i, sl => (i, s) :: argSlots r (i + 1) sl
def inlRet (E : Env) (top : Nat) (rs : List ResultVar) (σ : St) (k : SV → St → Prop) : Prop :=
  match resInl E top σ rs with
  | some s => match σ with
    | ⟨sl2, bs2, rs2⟩ => fSV s fun s' => fSlots (cutS top sl2) fun sl3 => k s' ⟨sl3, bs2, rs2⟩
  | none => False
def vcN (E : Env) : Nat → Inliner
  | 0 => fun _ _ _ _ _ => False
  | d + 1 => fun f top args σ k => match E.inl f with
    | none => False
    | some F => match Nat.ble args.length F.n with
      | false => False
      | true => match σ with
        | ⟨sl, bs, rs⟩ => fSlots (argSlots args (top + 10000 * (f + 1)) (cutS (top + 10000 * (f + 1)) sl)) fun sl' => vc E (vcN E d) (top + 10000 * (f + 1)) (top + 10000 * (f + 1) + F.n) F.body ⟨sl', bs, rs⟩ fun e σ' => match e with
          | .exit _ => False
          | .normal => inlRet E (top + 10000 * (f + 1)) F.res σ' k
          | .ret => inlRet E (top + 10000 * (f + 1)) F.res σ' k
def thawM (bs : Blks) : List Leaf → List Leaf
  | [] => []
  | l :: r => (match l with
    | .mref q => match getB bs q with
      | some ⟨_, [.tv (.sl (.pair K (.pair V .unit))) xs], some .map⟩ => .tv (.mp K V) xs
      | _ => .any
    | l => l) :: thawM bs r
def thawP (E : Env) (bs : Blks) (s : SV) (k : SV → Prop) : Prop :=
  match s with
  | .leaf (.ptr i 0) => match getB bs i with
    | some ⟨t, cs, none⟩ => match E.tt t with
      | some ti => match ti.ty with
        | some T => implodeK T (thawM bs cs) (k s) fun x r => match r with
          | [] => k (.leaf (.tv (.opt T) (some x)))
          | _ :: _ => k s
        | none => k s
      | none => k s
    | _ => k s
  | s => k s
def thawPs (E : Env) (bs : Blks) : List SV → (List SV → Prop) → Prop
  | [], k => k []
  | s :: r, k => thawP E bs s fun s' => thawPs E bs r fun r' => k (s' :: r')
def retVC (E : Env) (b : Nat) (rs : List ResultVar) (one : Bool) (res : Ty) (σ : St) (want : res.den) : Prop :=
  match resSVs E b σ rs with
  | some ss => thawPs E (mapBlks (thawS σ.rows) σ.blks) ss fun ss => match one with
    | true => match ss with
      | [s] => argValK res s False fun y => y = want
      | _ => False
    | false => argsK res ss False fun y => y = want
  | none => False
def tailSlots : List FuncId → Nat → Slots
  | [], _ => []
  | f :: r, i => (i, .leaf (.raw (.func (.func f) #[] #[]))) :: tailSlots r (i + 1)
def entrySlots : (t : Ty) → t.den → List FuncId → Nat → Slots
  | .pair a b, x, tl, i => (i, .leaf (.tv a x.1)) :: entrySlots b x.2 tl (i + 1)
  | _, _, tl, i => tailSlots tl i
def deep : Nat := 8
def bot : Nat := 0
def fnVC (E : Env) (fn : Func) (c : Code) (C : Contract) : Prop :=
  ∀ x, C.pre x → vc E (vcN E deep) bot (bot + fn.ntmps) c ⟨entrySlots C.arg x C.tail bot, [], []⟩ fun e σ => match e with
    | .normal => retVC E bot fn.results.toList C.one C.res σ (C.fn x)
    | .ret => retVC E bot fn.results.toList C.one C.res σ (C.fn x)
    | .exit _ => False
end Go.Fr
namespace Go.Fr
open Go Go.RowKit
theorem ask_drawn {α : Type} : (k : Ask α) → (w : World) → w.drawn ≤ (w.ask k).2.drawn
  | .done a, w => Nat.le_refl _
  | .ask what range k, w => by
    unfold World.ask
    simp only
    split
    · exact ask_drawn _ w
    · exact Nat.le_trans (Nat.le_succ _) (ask_drawn _ { w with drawn := w.drawn + 1 })
theorem sys_drawn (w : World) (c : Sys) : w.drawn ≤ (w.sys c).2.drawn := by
  unfold World.sys
  have h := ask_drawn (Kernel.perform c w.os) w
  split
  · exact Nat.le_refl _
  · rename_i r os w' heq
    rw [heq] at h
    exact h
theorem viewStore_drawn {P : Program} {w w' : World} {at_ : Addr} {u : TypeId} {k : Addr} {v : Value} {b : Bool} {l : List Addr} (h : w.viewStore P at_ u k v b = .ok (w', l)) : w'.drawn = w.drawn := by
  unfold World.viewStore at h
  simp only [bind, Except.bind, pure, Except.pure] at h
  repeat' (split at h)
  all_goals first
    | (cases h; done)
    | (injection h with h; injection h with h1 h2; subst h1; rfl)
    | skip
theorem farStore_drawn {P : Program} {w w' : World} {a : Addr} {v : Value} {b : Bool} {l : List Addr} (h : w.farStore P a v b = .ok (w', l)) : w'.drawn = w.drawn := by
  unfold World.farStore at h
  split at h
  · split at h
    · rename_i r hr
      injection h with h
      subst h
      exact viewStore_drawn hr
    · cases h
  · cases h
theorem freeze_drawn (w : World) (a : Addr) (n : Nat) : (w.freeze a n).drawn = w.drawn := by
  unfold World.freeze
  split <;> rfl
theorem sem_drawn {P : Program} {α : Type} (s : Sem α) : ∀ (w : World) {v : α} {w' : World}, s.run P w = .ok v w' → w.drawn ≤ w'.drawn := by
  induction s with
  | pure a => intro w v w' h; simp only [Sem.run] at h; injection h with _ h; subst h; exact Nat.le_refl _
  | load m a k ih =>
    intro w v w' h
    unfold Sem.run at h
    split at h
    · exact ih _ w h
    · split at h
      · exact ih _ w h
      · cases h
  | store m a x k ih =>
    intro w v w' h
    have main : (match w.cell? a with
      | some _ => if w.frozen? a then .halt (.unsupported (.unsafePointer "a write to bytes that a string shares")) w else k.run P (w.setCell a x)
      | none => match w.farStore P a x (m == .atomic) with
        | .ok (w, _) => k.run P w
        | .error h => .halt h w) = Result.ok v w' → w.drawn ≤ w'.drawn := by
      intro h
      split at h
      · split at h
        · cases h
        · exact ih (w.setCell a x) h
      · split at h
        · rename_i hf
          have := ih _ h
          rw [farStore_drawn hf] at this
          exact this
        · cases h
    cases x <;> first | (simp only [Sem.run] at h; cases h; done) | (simp only [Sem.run] at h; exact main h)
  | new o k ih => intro w v w' h; exact ih _ { w with heap := w.heap.push o } h
  | shape r k ih => intro w v w' h; exact ih _ w h
  | freeze a n k ih =>
    intro w v w' h
    have := ih (w.freeze a n) h
    rw [freeze_drawn] at this
    exact this
  | frozen a k ih => intro w v w' h; exact ih _ w h
  | getObj r k ih =>
    intro w v w' h
    unfold Sem.run at h
    split at h
    · cases h
    · exact ih _ w h
    · cases h
  | setObj r o k ih =>
    intro w v w' h
    unfold Sem.run at h
    split at h
    · cases h
    · exact ih { w with heap := w.heap.setIfInBounds r o } h
    · cases h
  | choose q k ih =>
    intro w v w' h
    unfold Sem.run at h
    split at h
    · exact ih _ w h
    · exact Nat.le_trans (Nat.le_succ _) (ih _ { w with drawn := w.drawn + 1 } h)
  | sys c k ih => intro w v w' h; exact Nat.le_trans (sys_drawn w c) (ih _ _ h)
  | program k ih => intro w v w' h; exact ih _ w h
  | mark _ k ih => intro w v w' h; exact ih w h
  | halt x => intro w v w' h; cases h
structure Below (B : Nat) (w w' : World) : Prop where
  os : w'.os = w.os
  tape : w'.tape = w.tape
  output : w'.output = w.output
  size : w.heap.size ≤ w'.heap.size
  block : ∀ k, k < B → w'.heap[k]? = w.heap[k]?
  drawn : w.drawn ≤ w'.drawn
theorem Below.kit {B : Nat} {w w' : World} (h : Below B w w') : Go.RowKit.Below B w w' := ⟨h.os, h.tape, h.output, h.size, h.block⟩
theorem Below.refl (B : Nat) (w : World) : Below B w w := ⟨rfl, rfl, rfl, Nat.le_refl _, fun _ _ => rfl, Nat.le_refl _⟩
theorem Below.trans {B : Nat} {a b c : World} (h : Below B a b) (k : Below B b c) : Below B a c :=
  ⟨k.os.trans h.os, k.tape.trans h.tape, k.output.trans h.output, Nat.le_trans h.size k.size, fun i hi => (k.block i hi).trans (h.block i hi), Nat.le_trans h.drawn k.drawn⟩
theorem Below.mono {B B' : Nat} {w w' : World} (h : Below B w w') (hB : B' ≤ B) : Below B' w w' := ⟨h.os, h.tape, h.output, h.size, fun k hk => h.block k (Nat.lt_of_lt_of_le hk hB), h.drawn⟩
theorem Below.heap_alloc (w : World) (o : Obj) (k : Nat) (h : k < w.heap.size) : (w.alloc o).heap[k]? = w.heap[k]? := Go.RowKit.Below.heap_alloc w o k h
theorem Below.alloc {B : Nat} {a w : World} (h : Below B a w) (hB : B ≤ w.heap.size) (o : Obj) : Below B a (w.alloc o) :=
  h.trans ⟨rfl, rfl, rfl, by simp, fun k hk => Below.heap_alloc _ _ _ (by omega), Nat.le_refl _⟩
structure GrownBy (w w' : World) (row : Option Nat) : Prop where
  os : w'.os = w.os
  tape : w'.tape = w.tape
  output : w'.output = w.output
  size : w.heap.size ≤ w'.heap.size
  block : ∀ k, k < w.heap.size → some k ≠ row → w'.heap[k]? = w.heap[k]?
  drawn : w.drawn ≤ w'.drawn
theorem GrownBy.refl (w : World) (r : Option Nat) : GrownBy w w r := ⟨rfl, rfl, rfl, Nat.le_refl _, fun _ _ _ => rfl, Nat.le_refl _⟩
theorem GrownBy.of {w w' : World} {r : Option Nat} (h : w.grownBy w' r) (hd : w.drawn ≤ w'.drawn) : GrownBy w w' r := ⟨h.os, h.tape, h.output, h.size, fun k hk hn => h.block k hk hn, hd⟩
theorem Below.grown {B : Nat} {a w w' : World} {row : Option Nat} (h : Below B a w) (hg : GrownBy w w' row) (hB : B ≤ w.heap.size) (hr : ∀ k, row = some k → B ≤ k) : Below B a w' :=
  h.trans ⟨hg.os, hg.tape, hg.output, hg.size, fun k hk => hg.block k (by omega) (fun e => by have := hr k e.symm; omega), hg.drawn⟩
end Go.Fr
namespace Go.Fr
open Go Go.RowKit
universe u
def RowCells (h : PHeap) (t : Ty) : List t.den → List Value → Prop
  | [], cs => cs = []
  | x :: xs, cs => ∃ d r, cs = d ++ r ∧ rep h t x d ∧ RowCells h t xs r
def MapRep (h : PHeap) (K V : Ty) : List (K.den × V.den × Unit) → List MapEntry → Prop
  | [], es => es = []
  | x :: xs, es => ∃ e r, es = e :: r ∧ vrep h K x.1 e.key ∧ vrep h V x.2.1 e.val ∧ MapRep h K V xs r
theorem MapRep.mono {h h' : PHeap} (hl : PLe h h') {K V : Ty} : (xs : List (K.den × V.den × Unit)) → (es : List MapEntry) → MapRep h K V xs es → MapRep h' K V xs es
  | [], _, e => e
  | _ :: xs, _, ⟨e, r, q, h1, h2, h3⟩ => ⟨e, r, q, vrep_mono hl h1, vrep_mono hl h2, MapRep.mono hl xs r h3⟩
theorem MapRep.len {h : PHeap} {K V : Ty} : (xs : List (K.den × V.den × Unit)) → (es : List MapEntry) → MapRep h K V xs es → es.length = xs.length
  | [], _, e => by simp only [MapRep] at e; subst e; rfl
  | _ :: xs, _, ⟨e, r, q, _, _, h3⟩ => by subst q; simp [MapRep.len xs r h3]
theorem MapRep.pt {h : PHeap} {K V : Ty} : (xs : List (K.den × V.den × Unit)) → (es : List MapEntry) → MapRep h K V xs es → ∀ (i : Nat) x e, xs[i]? = some x → es[i]? = some e → vrep h K x.1 e.key ∧ vrep h V x.2.1 e.val
  | [], _, _, _, _, _, hx, _ => by simp at hx
  | _ :: xs, _, ⟨e, r, q, h1, h2, h3⟩, i, x, en, hx, he => by
    subst q
    cases i with
    | zero => simp at hx he; subst hx he; exact ⟨h1, h2⟩
    | succ i => exact MapRep.pt xs r h3 i x en (by simpa using hx) (by simpa using he)
theorem MapRep.of {h : PHeap} {K V : Ty} : (xs : List (K.den × V.den × Unit)) → (es : List MapEntry) → es.length = xs.length → (∀ (i : Nat) x e, xs[i]? = some x → es[i]? = some e → vrep h K x.1 e.key ∧ vrep h V x.2.1 e.val) → MapRep h K V xs es
  | [], es, hl, _ => by
    simp only [MapRep]
    exact List.eq_nil_of_length_eq_zero hl
  | _ :: _, [], hl, _ => by simp at hl
  | x :: xs, e :: r, hl, hp => ⟨e, r, rfl, (hp 0 x e rfl rfl).1, (hp 0 x e rfl rfl).2, MapRep.of xs r (by simpa using hl) fun i y en hy he => hp (i + 1) y en (by simpa using hy) (by simpa using he)⟩
theorem mp_rep {h : PHeap} {K V : Ty} {xs : List (K.den × V.den × Unit)} {cs : List Value} : rep h (.mp K V) xs cs ↔ (xs = [] ∧ cs = [.map none]) ∨ ∃ (g : Nat) (es : Array MapEntry) (cl : Nat), cs = [.map (some g)] ∧ h g = some (.map es cl) ∧ MapRep h K V xs es.toList := by
  simp only [rep]
  constructor
  · rintro (e | ⟨g, es, cl, e1, e2, e3, e4⟩)
    · exact .inl e
    · exact .inr ⟨g, es, cl, e1, e2, MapRep.of xs _ e3 e4⟩
  · rintro (e | ⟨g, es, cl, e1, e2, e3⟩)
    · exact .inl e
    · exact .inr ⟨g, es, cl, e1, e2, MapRep.len xs _ e3, MapRep.pt xs _ e3⟩
def BlkSat (N : Names) (h : PHeap) (b : Blk) (o : Obj) : Prop :=
  match b.it with
  | none => ∃ cs : List Value, o = .cells cs.toArray b.ty (0, 0) ∧ LeafRels N h b.cells cs ∧ ∀ u ∈ cs, u.oneCell' = true
  | some (.str s p) => o = .stringIter s p
  | some .map => ∃ (K V : Ty) (xs : List (K.den × V.den × Unit)) (es : Array MapEntry) (cl : Nat), b.cells = [.tv (mapT K V) xs] ∧ o = .map es cl ∧ MapRep h K V xs es.toList
structure MemSat (B : Nat) (w0 : World) (bs : Blks) (rs : Rows) (N : Names) (h : PHeap) (w : World) : Prop where
  below : Below B w0 w
  size : B ≤ w.heap.size
  pin : PIn h w
  blk : ∀ i b, getB bs i = some b → ∃ o, w.heap[N.ρ i]? = some o ∧ BlkSat N h b o ∧ B ≤ N.ρ i ∧ h (N.ρ i) = none
  inj : ∀ i j b c, getB bs i = some b → getB bs j = some c → N.ρ i = N.ρ j → i = j
  row : ∀ r R, getR rs r = some R → ∃ cs, w.ownsRow B R.e R.t.size (N.V r) R.xs.length cs ∧ RowCells h R.t R.xs cs
  rowh : ∀ r R g, getR rs r = some R → (N.V r).ownBlock = some g → h g = none
  rowb : ∀ r R g i b, getR rs r = some R → (N.V r).ownBlock = some g → getB bs i = some b → N.ρ i ≠ g
  rowr : ∀ r s R S g, getR rs r = some R → getR rs s = some S → (N.V r).ownBlock = some g → (N.V s).ownBlock = some g → r = s
def vals (b : Nat) (u : Nat → Value) (a : Act) (t : Nat) : Value := if t < b then u t else a.tmps.getD (t - b) undef
theorem vals_at (b : Nat) (u : Nat → Value) (a : Act) (t : Nat) : vals b u a (b + t) = a.tmps.getD t undef := by
  unfold vals
  rw [if_neg (by omega), Nat.add_sub_cancel_left]
def SlotSat (sl : Slots) (N : Names) (h : PHeap) (v : Nat → Value) : Prop := ∀ t, (getS sl t).rel N h (v t)
theorem BlkSat.mono {N : Names} {h h' : PHeap} (hl : PLe h h') {b : Blk} {o : Obj} (e : BlkSat N h b o) : BlkSat N h' b o := by
  unfold BlkSat at e ⊢
  split at e
  · obtain ⟨cs, q1, q2, q3⟩ := e
    exact ⟨cs, q1, LeafRels.mono hl _ _ q2, q3⟩
  · exact e
  · obtain ⟨K, V, xs, es, cl, q1, q2, q3⟩ := e
    exact ⟨K, V, xs, es, cl, q1, q2, MapRep.mono hl _ _ q3⟩
theorem BlkSat.map {N : Names} {h : PHeap} {t : TypeId} {ls : List Leaf} {o : Obj} : BlkSat N h ⟨t, ls, some .map⟩ o ↔ ∃ (K V : Ty) (xs : List (K.den × V.den × Unit)) (es : Array MapEntry) (cl : Nat), ls = [.tv (mapT K V) xs] ∧ o = .map es cl ∧ MapRep h K V xs es.toList := Iff.rfl
theorem BlkSat.cells {N : Names} {h : PHeap} {t : TypeId} {ls : List Leaf} {o : Obj} : BlkSat N h ⟨t, ls, none⟩ o ↔ ∃ cs : List Value, o = .cells cs.toArray t (0, 0) ∧ LeafRels N h ls cs ∧ ∀ u ∈ cs, u.oneCell' = true := Iff.rfl
theorem BlkSat.iter {N : Names} {h : PHeap} {t : TypeId} {ls : List Leaf} {s : ByteArray} {p : Nat} {o : Obj} : BlkSat N h ⟨t, ls, some (.str s p)⟩ o ↔ o = .stringIter s p := Iff.rfl
theorem RowCells_mono {h h' : PHeap} (hl : PLe h h') (t : Ty) : (xs : List t.den) → (cs : List Value) → RowCells h t xs cs → RowCells h' t xs cs
  | [], _, e => e
  | x :: xs, _, ⟨d, r, e, h1, h2⟩ => ⟨d, r, e, rep_mono hl t x d h1, RowCells_mono hl t xs r h2⟩
theorem RowCells_append {h : PHeap} (t : Ty) : (xs ys : List t.den) → (cs ds : List Value) → RowCells h t xs cs → RowCells h t ys ds → RowCells h t (xs ++ ys) (cs ++ ds)
  | [], _, _, _, e, e' => by simp only [RowCells] at e; subst e; exact e'
  | x :: xs, ys, _, ds, ⟨d, r, e, h1, h2⟩, e' => ⟨d, r ++ ds, by rw [e, List.append_assoc], h1, RowCells_append t xs ys r ds h2 e'⟩
theorem RowCells_len {h : PHeap} (t : Ty) : (xs : List t.den) → (cs : List Value) → RowCells h t xs cs → cs.length = xs.length * t.size
  | [], _, e => by simp only [RowCells] at e; subst e; simp
  | x :: xs, _, ⟨d, r, e, h1, h2⟩ => by
    rw [e, List.length_append, rep_len t x d h1, RowCells_len t xs r h2, List.length_cons, Nat.add_mul]
    omega
theorem RowCells_one {h : PHeap} (t : Ty) : (xs : List t.den) → (cs : List Value) → RowCells h t xs cs → ∀ u ∈ cs, u.oneCell' = true
  | [], _, e => by simp only [RowCells] at e; subst e; simp
  | x :: xs, _, ⟨d, r, e, h1, h2⟩ => by
    subst e
    intro u hu
    rcases List.mem_append.1 hu with hu | hu
    · exact rep_one t x d h1 u hu
    · exact RowCells_one t xs r h2 u hu
theorem RowCells_at {h : PHeap} (t : Ty) : (xs : List t.den) → (cs : List Value) → RowCells h t xs cs → ∀ (i : Nat) x, xs[i]? = some x → ∃ ds, rep h t x ds ∧ ∀ (j : Nat) u, ds[j]? = some u → cs[i * t.size + j]? = some u
  | [], _, _, i, x, hx => by simp at hx
  | y :: xs, _, ⟨d, r, e, h1, h2⟩, 0, x, hx => by
    simp at hx; subst hx; subst e
    refine ⟨d, h1, fun j u hu => ?_⟩
    rw [Nat.zero_mul, Nat.zero_add, List.getElem?_append_left (List.getElem?_eq_some_iff.1 hu).1]
    exact hu
  | y :: xs, _, ⟨d, r, e, h1, h2⟩, i + 1, x, hx => by
    subst e
    obtain ⟨ds, g1, g2⟩ := RowCells_at t xs r h2 i x (by simpa using hx)
    refine ⟨ds, g1, fun j u hu => ?_⟩
    have hd := rep_len t y d h1
    rw [List.getElem?_append_right (by rw [hd, Nat.add_mul]; omega), hd]
    rw [show (i + 1) * t.size + j - t.size = i * t.size + j by rw [Nat.add_mul]; omega]
    exact g2 j u hu
theorem val_cells {h : PHeap} (t : Ty) (x : t.den) (cs : List Value) (hr : rep h t x cs) : (t.val cs).cells = cs.toArray := by
  cases t with
  | unit => rfl
  | pair a b => rfl
  | bool => simp only [rep] at hr; subst hr; rfl
  | int k => simp only [rep] at hr; subst hr; rfl
  | str => simp only [rep] at hr; subst hr; rfl
  | sl t => obtain ⟨A, c, rfl, _⟩ := hr; rfl
  | opt t => rcases hr with ⟨_, rfl⟩ | ⟨y, ad, ds, _, rfl, _⟩ <;> rfl
  | mp _ _ => rcases hr with ⟨_, rfl⟩ | ⟨g, es, cl, rfl, _⟩ <;> rfl
  | nd _ _ _ _ => simp only [rep] at hr; cases hr <;> rfl
theorem val_one {h : PHeap} (t : Ty) (x : t.den) (cs : List Value) (hr : rep h t x cs) (ha : t.isAgg = false) : cs = [t.val cs] ∧ (t.val cs).oneCell' = true := by
  cases t with
  | unit => cases ha
  | pair a b => cases ha
  | bool => simp only [rep] at hr; subst hr; exact ⟨rfl, rfl⟩
  | int k => simp only [rep] at hr; subst hr; exact ⟨rfl, rfl⟩
  | str => simp only [rep] at hr; subst hr; exact ⟨rfl, rfl⟩
  | sl t => obtain ⟨A, c, rfl, _⟩ := hr; exact ⟨rfl, rfl⟩
  | opt t => rcases hr with ⟨_, rfl⟩ | ⟨y, ad, ds, _, rfl, _⟩ <;> exact ⟨rfl, rfl⟩
  | mp _ _ => rcases hr with ⟨_, rfl⟩ | ⟨g, es, cl, rfl, _⟩ <;> exact ⟨rfl, rfl⟩
  | nd _ _ _ _ => simp only [rep] at hr; cases hr <;> exact ⟨rfl, rfl⟩
theorem cells_one {v : Value} (h : v.oneCell' = true) : v.cells = #[v] := by cases v <;> first | rfl | cases h
theorem cellsOf_rel {N : Names} {h : PHeap} {s : SV} {ls : List Leaf} {v : Value} (e : cellsOf s = some ls) (hr : s.rel N h v) :
    ∃ cs : List Value, v.cells = cs.toArray ∧ LeafRels N h ls cs ∧ ∀ u ∈ cs, u.oneCell' = true := by
  have one : ∀ (l : Leaf) (v : Value), l.rel N h v → v.oneCell' = true → ∃ cs : List Value, v.cells = cs.toArray ∧ LeafRels N h [l] cs ∧ ∀ u ∈ cs, u.oneCell' = true :=
    fun l v hl ho => ⟨[v], cells_one ho, LeafRels.cons hl (LeafRels.nil N h), by simpa using ho⟩
  unfold cellsOf at e
  split at e
  · injection e with e; subst e
    obtain ⟨cs, h1, rfl⟩ := SV.tv_iff.1 hr
    exact ⟨cs, val_cells _ _ _ h1, explode_rel _ _ _ h1, rep_one _ _ _ h1⟩
  · cases e
  · cases e
  · split at e
    · cases e
    · cases e
    · rename_i w h1 h2
      injection e with e; subst e
      refine one _ _ hr ?_
      simp only [SV.rel, Leaf.rel] at hr
      subst hr
      cases v <;> first | rfl | exact absurd rfl (h1 _) | exact absurd rfl (h2 _)
  · rename_i l h1 h2 h3 h4
    injection e with e; subst e
    refine one _ _ hr ?_
    simp only [SV.rel] at hr
    cases l with
    | any => exact absurd rfl h2
    | undef => exact absurd rfl h3
    | tv t x => exact absurd rfl (h1 _ _)
    | raw v => exact absurd rfl (h4 _)
    | blit b => simp only [Leaf.rel] at hr; subst hr; rfl
    | ptr i off => simp only [Leaf.rel] at hr; subst hr; rfl
    | eptr t xs i off => simp only [Leaf.rel] at hr; obtain ⟨_, ad, rfl, _⟩ := hr; rfl
    | row r => simp only [Leaf.rel] at hr; exact hr.2
    | rptr r s i off => simp only [Leaf.rel] at hr; obtain ⟨g, len, cap, _, _, rfl⟩ := hr; rfl
    | rsub r s i => simp only [Leaf.rel] at hr; obtain ⟨g, len, cap, _, _, rfl⟩ := hr; rfl
    | clo f c => simp only [Leaf.rel] at hr; obtain ⟨vs, rfl, _⟩ := hr; rfl
    | mref i => simp only [Leaf.rel] at hr; subst hr; rfl
  · injection e with e; subst e
    obtain ⟨cs, rfl, h1, h2⟩ := hr
    exact ⟨cs, rfl, h1, h2⟩
  · cases e
theorem implode_all {N : Names} {h : PHeap} {t : Ty} {ls : List Leaf} {x : t.den} {cs : List Value} (e : implode t ls = some (x, [])) (hr : LeafRels N h ls cs) : rep h t x cs := by
  obtain ⟨c1, c2, rfl, h1, h2⟩ := implode_rel t ls x [] e cs hr
  have : c2 = [] := by
    have := LeafRels.length _ _ h2
    exact List.eq_nil_of_length_eq_zero this.symm
  subst this
  simpa using h1
theorem argVal_rel {N : Names} {h : PHeap} {t : Ty} {s : SV} {x : t.den} {v : Value} (e : argVal t s = some x) (hr : s.rel N h v) : vrep h t x v := by
  unfold argVal at e
  split at e
  · rename_i t' y
    split at e
    · rename_i ht
      subst ht
      injection e with e; subst e
      exact SV.tv_iff.1 hr
    · cases e
  · rename_i l _
    cases ha : t.isAgg with
    | true => rw [ha] at e; cases e
    | false =>
      rw [ha] at e
      simp only [cond_false] at e
      split at e
      · rename_i y hy
        injection e with e; subst e
        have h1 : rep h t y [v] := implode_all (cs := [v]) hy (LeafRels.cons hr (LeafRels.nil N h))
        exact ⟨[v], h1, by
          obtain ⟨g1, _⟩ := val_one t y [v] h1 ha
          injection g1⟩
      · cases e
  · rename_i ls
    cases ha : t.isAgg with
    | false => rw [ha] at e; cases e
    | true =>
      rw [ha] at e
      simp only [cond_true] at e
      split at e
      · rename_i y hy
        injection e with e; subst e
        obtain ⟨cs, rfl, h1, _⟩ := hr
        refine ⟨cs, implode_all hy h1, ?_⟩
        cases t with
        | unit => rfl
        | pair a b => rfl
        | _ => cases ha
      · cases e
  · cases e
theorem argsOf_rel {N : Names} {h : PHeap} : (t : Ty) → (ss : List SV) → (x : t.den) → argsOf t ss = some x → (vs : List Value) → ss.length = vs.length → (∀ (i : Nat) s v, ss[i]? = some s → vs[i]? = some v → s.rel N h v) → trep h t x vs
  | .unit, [], x, e, vs, hl, _ => by simp only [trep]; exact List.eq_nil_of_length_eq_zero hl.symm
  | .unit, _ :: _, x, e, vs, hl, _ => by cases e
  | .pair a b, [], x, e, vs, hl, _ => by cases e
  | .pair a b, s :: r, x, e, vs, hl, hr => by
    cases vs with
    | nil => simp at hl
    | cons v vs =>
      simp only [argsOf] at e
      cases h1 : argVal a s with
      | none => rw [h1] at e; cases e
      | some y =>
        rw [h1] at e
        simp only [] at e
        cases h2 : argsOf b r with
        | none => rw [h2] at e; cases e
        | some z =>
          rw [h2] at e
          injection e with e; subst e
          exact ⟨v, vs, rfl, argVal_rel h1 (hr 0 s v rfl rfl), argsOf_rel b r z h2 vs (by simpa using hl) fun i s v hs hv => hr (i + 1) s v (by simpa using hs) (by simpa using hv)⟩
  | .bool, ss, x, e, _, _, _ => by cases ss <;> cases e
  | .int _, ss, x, e, _, _, _ => by cases ss <;> cases e
  | .str, ss, x, e, _, _, _ => by cases ss <;> cases e
  | .sl _, ss, x, e, _, _, _ => by cases ss <;> cases e
  | .opt _, ss, x, e, _, _, _ => by cases ss <;> cases e
  | .mp _ _, ss, x, e, _, _, _ => by cases ss <;> cases e
  | .nd _ _ _ _, ss, x, e, _, _, _ => by cases ss <;> cases e
theorem asInt_rel {N : Names} {h : PHeap} {s : SV} {k : IntKind} {n : Int} {v : Value} (e : asInt s = some (k, n)) (hr : s.rel N h v) : v = .int k n := by
  unfold asInt at e
  split at e
  · injection e with e
    injection e with e1 e2
    subst e1 e2
    obtain ⟨cs, h1, rfl⟩ := SV.tv_iff.1 hr
    simp only [rep] at h1
    subst h1
    rfl
  · cases e
theorem asBool_rel {N : Names} {h : PHeap} {s : SV} {b : Bool} {v : Value} (e : asBool s = some b) (hr : s.rel N h v) : v = .bool b := by
  unfold asBool at e
  split at e
  · injection e with e; subst e
    obtain ⟨cs, h1, rfl⟩ := SV.tv_iff.1 hr
    simp only [rep] at h1
    subst h1
    rfl
  · injection e with e; subst e
    simp only [SV.rel, Leaf.rel] at hr
    exact hr
  · cases e
theorem asStr_rel {N : Names} {h : PHeap} {s : SV} {b : ByteArray} {v : Value} (e : asStr s = some b) (hr : s.rel N h v) : v = .string b := by
  unfold asStr at e
  split at e
  · injection e with e; subst e
    obtain ⟨cs, h1, rfl⟩ := SV.tv_iff.1 hr
    simp only [rep] at h1
    subst h1
    rfl
  · cases e
theorem mkInt_rel (N : Names) (h : PHeap) (k : IntKind) (n : Int) : (mkInt k n).rel N h (.int k n) := SV.tv_iff.2 ⟨[.int k n], rfl, rfl⟩
theorem mkBool_rel (N : Names) (h : PHeap) (b : Bool) : (mkBool b).rel N h (.bool b) := SV.tv_iff.2 ⟨[.bool b], rfl, rfl⟩
theorem mkStr_rel (N : Names) (h : PHeap) (s : ByteArray) : (SV.leaf (.tv .str s)).rel N h (.string s) := SV.tv_iff.2 ⟨[.string s], rfl, rfl⟩
theorem raw_rel (N : Names) (h : PHeap) (v : Value) : (SV.leaf (.raw v)).rel N h v := by simp only [SV.rel, Leaf.rel]
theorem evO_const_rel (N : Names) (h : PHeap) (v : Value) : (constSV v).rel N h v := by
  unfold constSV
  split
  · simp only [SV.rel, Leaf.rel]
  · exact mkInt_rel N h _ _
  · exact mkStr_rel N h _
  · exact raw_rel N h _
theorem evO_rel {b : Nat} {u : Nat → Value} {sl : Slots} {N : Names} {h : PHeap} {a : Act} (hs : SlotSat sl N h (vals b u a)) (x : Operand) : (evO b sl x).rel N h (a.eval x) := by
  cases x with
  | tmp t =>
    have := hs (b + t)
    rw [vals_at] at this
    exact this
  | const v => exact evO_const_rel N h v
  | global g => exact raw_rel N h _
  | func f => exact raw_rel N h _
end Go.Fr
namespace Go.Fr
open Go Go.RowKit
universe u
def ZeroCells (ls : List Leaf) (cs : List Value) : Prop := ∀ N h, LeafRels N h ls cs
def aggDesc : TypeDesc → Bool
  | .struct _ => true
  | .array .. => true
  | _ => false
def scalarDesc : TypeDesc → Bool
  | .int _ => true
  | .string => true
  | .bool => true
  | _ => false
def keyB (P : Program) (k : TypeId) : Bool :=
  match P.underlying k with
  | some (.struct gs) => match P.info? k with
    | some i => gs.toList.all fun g => match P.underlying g.type with
      | some d => scalarDesc d && decide (g.offset < i.size)
      | none => false
    | none => false
  | some d => scalarDesc d
  | none => false
def zeroMB (P : Program) (e : TypeId) : Bool :=
  match P.info? e, P.underlying e with
  | some i, some d => match i.zero with
    | some (.agg _) => aggDesc d
    | some _ => !(aggDesc d)
    | none => false
  | _, _ => false
structure TIok (P : Program) (t : TypeId) (ti : TI) : Prop where
  info : ∃ i, P.info? t = some i ∧ i.size = ti.size ∧ i.bytes = ti.bytes ∧ (ti.zero.length = ti.size → ∃ z, i.zero = some z ∧ ∃ cs : List Value, z.cells = cs.toArray ∧ ZeroCells ti.zero cs ∧ ∀ u ∈ cs, u.oneCell' = true)
  und : ∃ d, P.underlying t = some d ∧ aggDesc d = ti.isAgg ∧ match ti.k with
    | .bool => d = .bool
    | .int k => d = .int k
    | .str => d = .string
    | .struct fs => ∃ gs : Array Field, d = .struct gs ∧ gs.size = fs.length ∧ ∀ (n : Nat) f, fs[n]? = some f → ∃ g i e, gs[n]? = some g ∧ g.offset = f.1 ∧ P.info? g.type = some i ∧ i.size = f.2.1 ∧ P.underlying g.type = some e ∧ aggDesc e = f.2.2
    | .array n e es => d = .array n e ∧ ∃ i, P.info? e = some i ∧ i.size = es
    | .slice e => d = .slice e
    | .ptr e => d = .pointer e
    | .map k e => d = .map k e ∧ keyB P k = true ∧ zeroMB P e = true
    | .iface => d = .interface #[]
    | .other => True
  ty : ∀ T, ti.ty = some T → T.size = ti.size ∧ T.isAgg = ti.isAgg ∧ (T.plain = true → ∀ x y h cs ds w xo yo op, rep h T x cs → rep h T y ds →
    (eqGuard op t xo yo (T.val cs) (T.val ds)).run P w = .ok () w ∧ (Op.equal t (T.val cs) (T.val ds)).run P w = .ok (T.beq x y) w)
  zm : ∀ e, ti.k = .ptr e → zeroMB P t = true
def resRep (h : PHeap) (C : Contract) (y : C.res.den) (v : Value) : Prop :=
  match C.one with
  | true => vrep h C.res y v
  | false => ∃ vs : List Value, v = .tuple vs.toArray ∧ trep h C.res y vs
def ownRep (B : Nat) (w : World) (h : PHeap) (e : TypeId) : (T : Ty) → T.den → Value → Prop
  | .sl t, xs, v => (∃ cs, w.ownsRow B e t.size v xs.length cs ∧ RowCells h t xs cs) ∧ ∀ g, v.ownBlock = some g → h g = none
  | _, _, _ => False
def resOr (B : Nat) (w : World) (h : PHeap) (C : Contract) (y : C.res.den) (v : Value) : Prop :=
  match C.own with
  | none => resRep h C y v
  | some e => ownRep B w h e C.res y v
def GlobOk (G : Nat → Option ((t : Ty) × t.den)) (h : PHeap) : Prop := ∀ g T x, G g = some ⟨T, x⟩ → ∃ cs, rep h T x cs ∧ CellsAt h ⟨g, 0, none⟩ cs
theorem GlobOk.mono {G : Nat → Option ((t : Ty) × t.den)} {h h' : PHeap} (hl : PLe h h') (e : GlobOk G h) : GlobOk G h' := fun g T x hg => by
  obtain ⟨cs, q1, q2⟩ := e g T x hg
  exact ⟨cs, rep_mono hl T x cs q1, fun j u hu => hcell_mono hl (q2 j u hu)⟩
def tailVals (l : List FuncId) : List Value := l.map fun f => .func (.func f) #[] #[]
def CallSpec (P : Program) (G : Nat → Option ((t : Ty) × t.den)) (f : FuncId) (C : Contract) : Prop :=
  (∃ fn c, P.funcs[f]? = some fn ∧ fn.name ≠ "runtime.NumGoroutine" ∧ fn.body = some c) ∧
  ∀ x (h : PHeap) (w : World) (args : List Value), C.pre x → trep h C.arg x args → PIn h w → GlobOk G h →
    Calls P f (args ++ tailVals C.tail).toArray w fun e w' => ∃ v h', e = .returned v ∧ PLe h h' ∧ (∀ k, h' k ≠ none → h k ≠ none ∨ w.heap.size ≤ k) ∧ PIn h' w' ∧ resOr w.heap.size w' h' C (C.fn x) v ∧ Below w.heap.size w w'
def opsBd (n : Nat) : List Oper → Bool
  | [] => true
  | o :: r => (match o.dst with | some t => Nat.blt t n | none => true) && opsBd n r
def codeBd (n : Nat) : Code → Bool
  | .region _ ops draw => opsBd n ops.toList && (match draw with | true => okOps ops.toList 0 ops.toList | false => true)
  | .seq a b => codeBd n a && codeBd n b
  | .cond _ a b => codeBd n a && codeBd n b
  | .block _ b => codeBd n b
  | .loop b => codeBd n b
  | .scope b => codeBd n b
  | _ => true
structure InlOk (P : Program) (f : FuncId) (F : Inl) : Prop where
  fn : ∃ fn, P.funcs[f]? = some fn ∧ fn.name ≠ "runtime.NumGoroutine" ∧ fn.body = some F.body ∧ fn.ntmps = F.n ∧ fn.results.toList = F.res
  bd : codeBd F.n F.body = true
def RSpec (P : Program) (f : FuncId) (C : RContract) : Prop :=
  (∃ fn c, P.funcs[f]? = some fn ∧ fn.name ≠ "runtime.NumGoroutine" ∧ fn.body = some c) ∧
  ∀ (xs : List C.t.den) (h : PHeap) (w : World) (B : Nat) (v : Value) (cs : List Value), C.pre xs → PIn h w → B ≤ w.heap.size → w.ownsRow B C.e C.t.size v xs.length cs → RowCells h C.t xs cs → (∀ g, v.ownBlock = some g → h g = none) →
    Calls P f ([v] ++ tailVals C.tail).toArray w fun e w' => ∃ u v' ys cs', e = .returned u ∧ C.post xs ys ∧ w'.ownsRow B C.e C.t.size v' ys.length cs' ∧ RowCells h C.t ys cs' ∧ GrownBy w w' v.ownBlock ∧
      (∀ g, v'.ownBlock = some g → v.ownBlock = some g ∨ w.heap.size ≤ g) ∧ (match C.back with | true => u = v' | false => v' = v)
structure EnvOk (P : Program) (E : Env) : Prop where
  tt : ∀ t ti, E.tt t = some ti → TIok P t ti
  ct : ∀ f C, E.ct f = some C → CallSpec P E.gl f C
  inl : ∀ f F, E.inl f = some F → InlOk P f F
  rct : ∀ f C, E.rct f = some C → RSpec P f C
section
variable {B : Nat} {w0 w w' : World} {bs : Blks} {rs : Rows} {N : Names} {h h' : PHeap}
theorem PIn.lt {k : Nat} {o : Obj} (hp : PIn h w) (hk : h k = some o) : k < w.heap.size := by
  rcases Nat.lt_or_ge k w.heap.size with hl | hg
  · exact hl
  · have := hp k o hk
    rw [Array.getElem?_eq_none hg] at this
    cases this
theorem lt_of_heap {k : Nat} {o : Obj} (hk : w.heap[k]? = some o) : k < w.heap.size := (Array.getElem?_eq_some_iff.1 hk).1
theorem ownBlock_lt {r : Nat} {R : RowS} {g : Nat} (hM : MemSat B w0 bs rs N h w) (hR : getR rs r = some R) (hg : (N.V r).ownBlock = some g) : B ≤ g ∧ g < w.heap.size := by
  obtain ⟨cs, ho, _⟩ := hM.row r R hR
  exact ho.lt g hg
theorem MemSat.grow (hM : MemSat B w0 bs rs N h w) (hl : PLe h h') (hf : ∀ k, h' k ≠ none → h k ≠ none ∨ w.heap.size ≤ k) (hp : PIn h' w') (hb : Below w.heap.size w w') : MemSat B w0 bs rs N h' w' := by
  have hnone : ∀ k, k < w.heap.size → h k = none → h' k = none := fun k hk hn => by
    cases e : h' k with
    | none => rfl
    | some o =>
      rcases hf k (by rw [e]; simp) with g | g
      · exact absurd hn g
      · omega
  refine ⟨hM.below.trans (hb.mono hM.size), Nat.le_trans hM.size hb.size, hp, ?_, hM.inj, ?_, ?_, hM.rowb, hM.rowr⟩
  · intro i b hi
    obtain ⟨o, h1, h2, h4, h5⟩ := hM.blk i b hi
    have hlt := lt_of_heap h1
    exact ⟨o, (hb.block _ hlt).trans h1, h2.mono hl, h4, hnone _ hlt h5⟩
  · intro r R hR
    obtain ⟨cs, h1, h2⟩ := hM.row r R hR
    refine ⟨cs, ⟨h1.1, ?_⟩, RowCells_mono hl _ _ _ h2⟩
    rcases h1.2 with h0 | ⟨g, cap, cur, e1, e2, e3, e4⟩
    · exact .inl h0
    · exact .inr ⟨g, cap, cur, e1, e2, (hb.block _ (lt_of_heap e3)).trans e3, e4⟩
  · intro r R g hR hg
    exact hnone g (ownBlock_lt hM hR hg).2 (hM.rowh r R g hR hg)
theorem SlotSat.mono {sl : Slots} {v : Nat → Value} (hl : PLe h h') (hs : SlotSat sl N h v) : SlotSat sl N h' v := fun t => SV.rel_mono hl _ _ (hs t)
def hnew (h : PHeap) (g : Nat) (o : Obj) : PHeap := fun k => if k = g then some o else h k
theorem hnew_le {g : Nat} {o : Obj} (hn : h g = none) : PLe h (hnew h g o) := fun k p e => by
  unfold hnew
  rw [if_neg]
  · exact e
  · intro hk; subst hk; rw [hn] at e; cases e
theorem hnew_in {g : Nat} {o : Obj} (hp : PIn h w) (hg : w.heap[g]? = some o) : PIn (hnew h g o) w := fun k p e => by
  unfold hnew at e
  split at e
  · rename_i hk; subst hk; injection e with e; subst e; exact hg
  · exact hp k p e
end
section
variable {P : Program} {w : World}
theorem run_typeInfo_of {t : TypeId} {i : TypeInfo} (hi : P.info? t = some i) : (typeInfo t).run P w = .ok i w := by simp [typeInfo, hi]
theorem run_sizeOf_of {t : TypeId} {i : TypeInfo} (hi : P.info? t = some i) : (sizeOf t).run P w = .ok i.size w := by simp [sizeOf, typeInfo, hi]
theorem run_isAgg_of {t : TypeId} {d : TypeDesc} (hd : P.underlying t = some d) : (isAgg t).run P w = .ok (aggDesc d) w := by
  cases d <;> simp [isAgg, run_underlying hd, aggDesc]
theorem TIok.size_run {t : TypeId} {ti : TI} (hT : TIok P t ti) : (sizeOf t).run P w = .ok ti.size w := by
  obtain ⟨i, h1, h2, _⟩ := hT.info
  rw [run_sizeOf_of h1, h2]
theorem TIok.agg_run {t : TypeId} {ti : TI} (hT : TIok P t ti) : (isAgg t).run P w = .ok ti.isAgg w := by
  obtain ⟨d, h1, h2, _⟩ := hT.und
  rw [run_isAgg_of h1, h2]
theorem run_loadVar_of {t : TypeId} {ti : TI} (hT : TIok P t ti) (a : Addr) (cs : List Value) (hl : cs.length = ti.size) (hc : ∀ (j : Nat) u, cs[j]? = some u → w.cell? (a.add j) = some u) :
    (loadVar t a).run P w = if ti.isAgg then .ok (.agg cs.toArray) w else (load a).run P w := by
  unfold loadVar
  simp only [Sem.run_bind, hT.agg_run, Result.andThen_ok]
  cases ti.isAgg with
  | true =>
    simp only [if_true, Sem.run_bind, hT.size_run, Result.andThen_ok, ← hl, run_loadCells_list w a cs hc, Sem.run_pure]
  | false => simp
theorem add_add (a : Addr) (i j : Nat) : (a.add i).add j = a.add (i + j) := by
  unfold Addr.add
  by_cases hi : i = 0 <;> by_cases hj : j = 0 <;> simp [hi, hj, Nat.add_assoc]
theorem add_lit (g o n : Nat) : (⟨g, o, none⟩ : Addr).add n = ⟨g, o + n, none⟩ := by
  unfold Addr.add
  by_cases hn : n = 0 <;> simp [hn]
theorem run_load_cell {a : Addr} {u : Value} (hc : w.cell? a = some u) : (load a).run P w = .ok u w := by simp [hc]
theorem run_loadAt_of {t : TypeId} {ti : TI} (hT : TIok P t ti) (a : Addr) (cs : List Value) (hl : cs.length = ti.size) (hc : ∀ (j : Nat) u, cs[j]? = some u → w.cell? (a.add j) = some u)
    (h1 : ti.isAgg = false → ∃ u, cs[0]? = some u) :
    (Instr.loadAt t (.pointer (some a))).run P w = .ok (if ti.isAgg then .agg cs.toArray else cs.headD undef) w := by
  unfold Instr.loadAt Instr.sureAddr
  simp only [Sem.run_bind, Sem.run_pure, Result.andThen_ok]
  rw [run_loadVar_of hT a cs hl hc]
  cases ha : ti.isAgg with
  | true => simp
  | false =>
    obtain ⟨u, hu⟩ := h1 ha
    have hc0 := hc 0 u hu
    rw [show a.add 0 = a from rfl] at hc0
    simp only [Bool.false_eq_true, if_false]
    rw [run_load_cell hc0]
    cases cs with
    | nil => cases hu
    | cons x r => simp at hu; subst hu; rfl
theorem foldl_set (off : Nat) : ∀ (ds : List Value) (j : Nat) (cells : Array Value), off + j + ds.length ≤ cells.size →
    ((ds.zipIdx j).foldl (fun cs (x : Value × Nat) => cs.setIfInBounds (off + x.2) x.1) cells).toList = cells.toList.take (off + j) ++ ds ++ cells.toList.drop (off + j + ds.length)
  | [], j, cells, _ => by simp
  | d :: ds, j, cells, hl => by
    simp only [List.zipIdx_cons, List.foldl_cons]
    simp only [List.length_cons] at hl
    rw [foldl_set off ds (j + 1) _ (by simp; omega)]
    have hlt : off + j < cells.toList.length := by simp; omega
    rw [Array.toList_setIfInBounds]
    rw [show off + (j + 1) = (off + j) + 1 by omega]
    rw [List.take_succ_eq_append_getElem (by simp; omega)]
    rw [List.take_set_of_le (by omega)]
    simp only [List.getElem_set_self, List.append_assoc, List.cons_append, List.nil_append, List.length_cons]
    rw [List.drop_set_of_lt (by omega)]
    rw [show off + j + 1 + ds.length = off + j + (ds.length + 1) by omega]
end
end Go.Fr
namespace Go.Fr
open Go Go.RowKit
universe u
section
variable {P : Program} {E : Env} {B : Nat} {w0 w : World} {bs : Blks} {rs : Rows} {N : Names} {h : PHeap} {sl : Slots} {ρ : Operand → Value}
def Yields (P : Program) (s : Sem Value) (w : World) (N : Names) (h : PHeap) (r : SV) : Prop := ∃ v, s.run P w = .ok v w ∧ r.rel N h v
theorem sameKind_eq {a b : IntKind} (e : sameKind a b = true) : a = b := by cases a <;> cases b <;> first | rfl | cases e
theorem evIntBin_run {op : BinOp} {k : IntKind} {a b : Int} {r : SV} {p : Option Prop} (e : evIntBin op k a b = some (r, p)) (hp : ∀ q, p = some q → q) (t : TypeId) (xo yo : Operand) :
    Yields P (do eqGuard op t xo yo (.int k a) (.int k b); binOp op t (.int k a) (.int k b)) w N h r := by
  unfold evIntBin at e
  split at e <;> first | (cases e; done) | (injection e with e; injection e with e1 e2; subst e1 e2)
  · exact ⟨_, by simp [eqGuard, binOp, Op.intArith], mkInt_rel N h _ _⟩
  · exact ⟨_, by simp [eqGuard, binOp, Op.intArith], mkInt_rel N h _ _⟩
  · exact ⟨_, by simp [eqGuard, binOp, Op.intArith], mkInt_rel N h _ _⟩
  · have hb := hp _ rfl
    exact ⟨_, by simp [eqGuard, binOp, Op.intDiv, hb], mkInt_rel N h _ _⟩
  · have hb := hp _ rfl
    exact ⟨_, by simp [eqGuard, binOp, Op.intDiv, hb], mkInt_rel N h _ _⟩
  · exact ⟨_, by simp [eqGuard, binOp, Op.intCmp], mkBool_rel N h _⟩
  · exact ⟨_, by simp [eqGuard, binOp, Op.intCmp], mkBool_rel N h _⟩
  · exact ⟨_, by simp [eqGuard, binOp, Op.intCmp], mkBool_rel N h _⟩
  · exact ⟨_, by simp [eqGuard, binOp, Op.intCmp], mkBool_rel N h _⟩
  · exact ⟨_, by simp [eqGuard, binOp, Op.intCmp], mkBool_rel N h _⟩
  · exact ⟨_, by simp [eqGuard, binOp, Op.intCmp], mkBool_rel N h _⟩
theorem evStrBin_run {op : BinOp} {a b : ByteArray} {r : SV} {p : Option Prop} (e : evStrBin op a b = some (r, p)) (hp : ∀ q, p = some q → q) (t : TypeId) (xo yo : Operand) :
    Yields P (do eqGuard op t xo yo (.string a) (.string b); binOp op t (.string a) (.string b)) w N h r := by
  unfold evStrBin at e
  split at e <;> first | (cases e; done) | (injection e with e; injection e with e1 e2; subst e1 e2)
  · have hb := hp _ rfl
    refine ⟨_, ?_, mkStr_rel N h _⟩
    have : ¬ ((a.size + b.size : Nat) : Int) > IntKind.i64.max := by
      have : IntKind.i64.max = 9223372036854775807 := rfl
      omega
    simp only [eqGuard, binOp, Op.stringOp, Sem.run_bind]
    rw [if_neg this]
    rfl
  · exact ⟨_, by simp [eqGuard, binOp, Op.stringOp], mkBool_rel N h _⟩
  · exact ⟨_, by simp [eqGuard, binOp, Op.stringOp], mkBool_rel N h _⟩
theorem evBin_run (hE : EnvOk P E) {op : BinOp} {t : TypeId} {x y : SV} {r : SV} {p : Option Prop} (e : evBin E op t x y = some (r, p)) (hp : ∀ q, p = some q → q)
    {u v : Value} (hx : x.rel N h u) (hy : y.rel N h v) (xo yo : Operand) :
    Yields P (do eqGuard op t xo yo u v; binOp op t u v) w N h r := by
  unfold evBin at e
  split at e
  · rename_i k a ha
    split at e
    · rename_i k' b hb
      cases hs : sameKind k k' with
      | false => rw [hs] at e; cases e
      | true =>
        rw [hs] at e
        have := sameKind_eq hs
        subst this
        rw [asInt_rel ha hx, asInt_rel hb hy]
        exact evIntBin_run e hp t xo yo
    · cases e
  · rename_i hni
    split at e
    · rename_i a ha
      split at e
      · rename_i b hb
        rw [asStr_rel ha hx, asStr_rel hb hy]
        exact evStrBin_run e hp t xo yo
      · cases e
    · rename_i hns
      split at e
      · rename_i ti hti
        split at e
        · rename_i te hte
          obtain ⟨d, hd, _, hk⟩ := (hE.tt t ti hti).und
          rw [hte] at hk
          simp only at hk
          subst hk
          have eq : ∀ q : Option Addr, (Op.equal t (.pointer q) (.pointer none)).run P w = .ok q.isNone w := by
            intro q
            have hh : ∀ d : Nat, (Op.equalIn (d + 1) t (.pointer q) (.pointer none)).run P w = .ok q.isNone w := fun d => by
              cases q <;> simp [Op.equalIn, run_underlying hd]
            exact hh 9999
          unfold evNil at e
          split at e
          · simp only [SV.rel, Leaf.rel] at hy
            subst hy
            split at e
            · split at e
              · rename_i T y
                injection e with e; injection e with e1 e2; subst e1 e2
                obtain ⟨cs, g1, rfl⟩ := SV.tv_iff.1 hx
                rcases g1 with ⟨rfl, rfl⟩ | ⟨z, ad, ds, rfl, rfl, _⟩
                · exact ⟨.bool true, by simp [eqGuard, binOp, Ty.val, eq], mkBool_rel N h _⟩
                · exact ⟨.bool false, by simp [eqGuard, binOp, Ty.val, eq], mkBool_rel N h _⟩
              · injection e with e; injection e with e1 e2; subst e1 e2
                simp only [SV.rel, Leaf.rel] at hx
                subst hx
                exact ⟨.bool true, by simp [eqGuard, binOp, eq], by simp only [SV.rel, Leaf.rel]⟩
              · injection e with e; injection e with e1 e2; subst e1 e2
                simp only [SV.rel, Leaf.rel] at hx
                subst hx
                exact ⟨.bool false, by simp [eqGuard, binOp, eq], by simp only [SV.rel, Leaf.rel]⟩
              · cases e
            · split at e
              · rename_i T y
                injection e with e; injection e with e1 e2; subst e1 e2
                obtain ⟨cs, g1, rfl⟩ := SV.tv_iff.1 hx
                rcases g1 with ⟨rfl, rfl⟩ | ⟨z, ad, ds, rfl, rfl, _⟩
                · exact ⟨.bool false, by simp [eqGuard, binOp, Ty.val, eq], mkBool_rel N h _⟩
                · exact ⟨.bool true, by simp [eqGuard, binOp, Ty.val, eq], mkBool_rel N h _⟩
              · injection e with e; injection e with e1 e2; subst e1 e2
                simp only [SV.rel, Leaf.rel] at hx
                subst hx
                exact ⟨.bool false, by simp [eqGuard, binOp, eq], by simp only [SV.rel, Leaf.rel]⟩
              · injection e with e; injection e with e1 e2; subst e1 e2
                simp only [SV.rel, Leaf.rel] at hx
                subst hx
                exact ⟨.bool true, by simp [eqGuard, binOp, eq], by simp only [SV.rel, Leaf.rel]⟩
              · cases e
            · cases e
          · cases e
        · rename_i hte
          obtain ⟨d, hd, _, hk⟩ := (hE.tt t ti hti).und
          rw [hte] at hk
          simp only at hk
          subst hk
          have eq0 : (Op.equal t .nilIface .nilIface).run P w = .ok true w := by
            have hh : ∀ d : Nat, (Op.equalIn (d + 1) t .nilIface .nilIface).run P w = .ok true w := fun d => by
              simp [Op.equalIn, run_underlying hd]
            exact hh 9999
          have eg0 : (Op.eqGuardIn Op.maxDepth t .nilIface .nilIface).run P w = .ok false w := by
            have hh : ∀ d : Nat, (Op.eqGuardIn (d + 1) t .nilIface .nilIface).run P w = .ok false w := fun d => by
              simp [Op.eqGuardIn, run_underlying hd]
            exact hh 9999
          have eq1 : ∀ q v, (Op.equal t (.iface q v) .nilIface).run P w = .ok false w := fun q v => by
            have hh : ∀ d : Nat, (Op.equalIn (d + 1) t (.iface q v) .nilIface).run P w = .ok false w := fun d => by
              simp [Op.equalIn, run_underlying hd]
            exact hh 9999
          unfold evNilI at e
          split at e
          · simp only [SV.rel, Leaf.rel] at hy
            subst hy
            split at e
            · split at e
              · rename_i a
                injection e with e; injection e with e1 e2; subst e1 e2
                obtain ⟨cs, g1, rfl⟩ := SV.tv_iff.1 hx
                simp only [rep] at g1
                cases g1 with
                | nil => exact ⟨.bool true, by cases xo <;> cases yo <;> simp [eqGuard, binOp, Ty.val, eq0, eg0], mkBool_rel N h _⟩
                | leaf => exact ⟨.bool false, by simp [eqGuard, binOp, Ty.val, eq1], mkBool_rel N h _⟩
                | inner => exact ⟨.bool false, by simp [eqGuard, binOp, Ty.val, eq1], mkBool_rel N h _⟩
              · injection e with e; injection e with e1 e2; subst e1 e2
                simp only [SV.rel, Leaf.rel] at hx
                subst hx
                exact ⟨.bool true, by cases xo <;> cases yo <;> simp [eqGuard, binOp, eq0, eg0], by simp only [SV.rel, Leaf.rel]⟩
              · cases e
            · split at e
              · rename_i a
                injection e with e; injection e with e1 e2; subst e1 e2
                obtain ⟨cs, g1, rfl⟩ := SV.tv_iff.1 hx
                simp only [rep] at g1
                cases g1 with
                | nil => exact ⟨.bool false, by cases xo <;> cases yo <;> simp [eqGuard, binOp, Ty.val, eq0, eg0], mkBool_rel N h _⟩
                | leaf => exact ⟨.bool true, by simp [eqGuard, binOp, Ty.val, eq1], mkBool_rel N h _⟩
                | inner => exact ⟨.bool true, by simp [eqGuard, binOp, Ty.val, eq1], mkBool_rel N h _⟩
              · injection e with e; injection e with e1 e2; subst e1 e2
                simp only [SV.rel, Leaf.rel] at hx
                subst hx
                exact ⟨.bool false, by cases xo <;> cases yo <;> simp [eqGuard, binOp, eq0, eg0], by simp only [SV.rel, Leaf.rel]⟩
              · cases e
            · cases e
          · cases e
        split at e
        · rename_i T hT
          cases hpl : T.plain with
          | false => rw [hpl] at e; cases e
          | true =>
            rw [hpl] at e
            simp only [cond_true, argValK_eq] at e
            split at e
            · rename_i a ha
              split at e
              · rename_i b hb
                obtain ⟨cs, g1, rfl⟩ := argVal_rel ha hx
                obtain ⟨ds, g2, rfl⟩ := argVal_rel hb hy
                obtain ⟨_, _, hq⟩ := (hE.tt t ti hti).ty T hT
                -- neither integers nor strings
                have hkind : (∃ b, T.val cs = .bool b) ∨ (∃ c, T.val cs = .agg c) := by
                  cases T with
                  | bool => simp only [rep] at g1; subst g1; exact .inl ⟨_, rfl⟩
                  | unit => exact .inr ⟨_, rfl⟩
                  | pair _ _ => exact .inr ⟨_, rfl⟩
                  | sl _ => cases hpl
                  | opt _ => cases hpl
                  | mp _ _ => cases hpl
                  | nd _ _ _ _ => cases hpl
                  | int k =>
                    exfalso
                    unfold argVal at ha
                    split at ha
                    · rename_i t' z
                      split at ha
                      · rename_i ht; subst ht; simp [asInt] at hni
                      · cases ha
                    · rename_i l hl
                      simp only [Ty.isAgg, cond_false, implode] at ha
                      split at ha
                      · rename_i z hz
                        unfold popInt at hz
                        split at hz
                        · rename_i k' n rr hlist
                          injection hlist with h1 h2
                          exact hl _ _ h1
                        · cases hz
                      · cases ha
                    · cases ha
                    · cases ha
                  | str =>
                    exfalso
                    unfold argVal at ha
                    split at ha
                    · rename_i t' z
                      split at ha
                      · rename_i ht; subst ht; simp [asStr] at hns
                      · cases ha
                    · rename_i l hl
                      simp only [Ty.isAgg, cond_false, implode] at ha
                      split at ha
                      · rename_i z hz
                        unfold popStr at hz
                        split at hz
                        · rename_i n rr hlist
                          injection hlist with h1 h2
                          exact hl _ _ h1
                        · cases hz
                      · cases ha
                    · cases ha
                    · cases ha
                have hrun := hq hpl a b h cs ds w xo yo op g1 g2
                split at e
                · injection e with e; injection e with e1 e2; subst e1 e2
                  refine ⟨.bool (T.beq a b), ?_, mkBool_rel N h _⟩
                  rcases hkind with ⟨c, hc⟩ | ⟨c, hc⟩
                  · rw [hc] at hrun ⊢
                    simp only [Sem.run_bind, hrun.1, Result.andThen_ok, binOp, hrun.2, Sem.run_pure]
                  · rw [hc] at hrun ⊢
                    simp only [Sem.run_bind, hrun.1, Result.andThen_ok, binOp, hrun.2, Sem.run_pure]
                · injection e with e; injection e with e1 e2; subst e1 e2
                  refine ⟨.bool (!T.beq a b), ?_, mkBool_rel N h _⟩
                  rcases hkind with ⟨c, hc⟩ | ⟨c, hc⟩
                  · rw [hc] at hrun ⊢
                    simp only [Sem.run_bind, hrun.1, Result.andThen_ok, binOp, hrun.2, Sem.run_pure]
                  · rw [hc] at hrun ⊢
                    simp only [Sem.run_bind, hrun.1, Result.andThen_ok, binOp, hrun.2, Sem.run_pure]
                · cases e
              · cases e
            · cases e
        · cases e
      · cases e
theorem evUn_run {op : UnOp} {x : SV} {r : SV} {p : Option Prop} (e : evUn op x = some (r, p)) {u : Value} (hx : x.rel N h u) : Yields P (Op.unary op u) w N h r := by
  unfold evUn at e
  split at e
  · split at e
    · rename_i b hb
      injection e with e; injection e with e1 e2; subst e1 e2
      rw [asBool_rel hb hx]
      exact ⟨_, by simp [Op.unary], mkBool_rel N h _⟩
    · cases e
  · split at e
    · rename_i k n hb
      injection e with e; injection e with e1 e2; subst e1 e2
      rw [asInt_rel hb hx]
      exact ⟨_, by simp [Op.unary, Op.intArith], mkInt_rel N h _ _⟩
    · cases e
  · cases e
theorem partOf_load {t : TypeId} {ti : TI} (hT : TIok P t ti) {ls : List Leaf} {off : Nat} {s : SV} (e : partOf ti ls off = some s) {cs : List Value} (hr : LeafRels N h ls cs) (h1 : ∀ u ∈ cs, u.oneCell' = true)
    (a : Addr) (hc : ∀ (j : Nat) u, cs[j]? = some u → w.cell? (a.add j) = some u) : Yields P (Instr.loadAt t (.pointer (some (a.add off)))) w N h s := by
  unfold partOf at e
  cases hb : Nat.ble (off + ti.size) ls.length with
  | false => rw [hb] at e; cases e
  | true =>
    rw [hb] at e
    have hle : off + ti.size ≤ ls.length := Nat.le_of_ble_eq_true hb
    have hlen := LeafRels.length _ _ hr
    simp only [cond_true] at e
    have hcells : ∀ (j : Nat) u, ((cs.drop off).take ti.size)[j]? = some u → w.cell? ((a.add off).add j) = some u := by
      intro j u hu
      rw [add_add]
      rw [List.getElem?_take] at hu
      split at hu
      · rw [List.getElem?_drop] at hu
        exact hc _ _ hu
      · cases hu
    have hl2 : ((cs.drop off).take ti.size).length = ti.size := by simp; omega
    cases ha : ti.isAgg with
    | true =>
      rw [ha] at e
      simp only [cond_true] at e
      injection e with e; subst e
      refine ⟨_, run_loadAt_of hT (a.add off) _ hl2 hcells (fun hh => by rw [ha] at hh; cases hh), ?_⟩
      rw [ha]
      refine ⟨(cs.drop off).take ti.size, rfl, LeafRels.take _ _ _ (LeafRels.drop _ _ _ hr), fun u hu => h1 u (List.mem_of_mem_drop (List.mem_of_mem_take hu))⟩
    | false =>
      rw [ha] at e
      simp only [cond_false] at e
      split at e
      · rename_i l hl
        injection e with e; subst e
        obtain ⟨v, g1, g2⟩ := LeafRels.get _ _ hr off l hl
        have hrun : (Instr.loadAt t (.pointer (some (a.add off)))).run P w = .ok v w := by
          unfold Instr.loadAt Instr.sureAddr
          simp only [Sem.run_bind, Sem.run_pure, Result.andThen_ok]
          rw [run_loadVar_of hT (a.add off) _ hl2 hcells, ha]
          simp only [Bool.false_eq_true, if_false]
          exact run_load_cell (hc off v g1)
        exact ⟨v, hrun, g2⟩
      · cases e
theorem dataAt_load {t : TypeId} {ti : TI} (hT : TIok P t ti) {T : Ty} {x : T.den} {off : Nat} {s : SV} (e : dataAt ti T x off = some s) {cs : List Value} (hr : rep h T x cs)
    (a : Addr) (hc : ∀ (j : Nat) u, cs[j]? = some u → w.cell? (a.add j) = some u) : Yields P (Instr.loadAt t (.pointer (some (a.add off)))) w N h s := by
  unfold dataAt at e
  cases hb : (Nat.beq off 0 && Nat.beq ti.size T.size && (ti.isAgg == T.isAgg)) with
  | false =>
    rw [hb] at e
    exact partOf_load hT e (explode_rel T x cs hr) (rep_one T x cs hr) a hc
  | true =>
    rw [hb] at e
    simp only [Bool.and_eq_true, beq_iff_eq] at hb
    obtain ⟨⟨g1, g2⟩, g3⟩ := hb
    have g1' : off = 0 := Nat.eq_of_beq_eq_true g1
    have g2' : ti.size = T.size := Nat.eq_of_beq_eq_true g2
    subst g1'
    simp only [cond_true] at e
    injection e with e; subst e
    refine ⟨_, run_loadAt_of hT (a.add 0) cs (by rw [rep_len T x cs hr, g2']) (fun j u hu => by rw [add_add, Nat.zero_add]; exact hc j u hu) (fun hh => ?_), ?_⟩
    · obtain ⟨e1, _⟩ := val_one T x cs hr (by rw [← g3]; exact hh)
      exact ⟨_, by rw [e1]; rfl⟩
    · refine ⟨cs, hr, ?_⟩
      rw [g3]
      cases ha : T.isAgg with
      | true => cases T <;> first | rfl | cases ha
      | false => cases T <;> first | rfl | cases ha
theorem getD_of_lt {α : Type} {xs : List α} {i : Nat} {d : α} (hi : i < xs.length) : xs[i]? = some (xs.getD i d) := by simp [List.getD, List.getElem?_eq_getElem hi]
theorem evLoad_run (hE : EnvOk P E) (hM : MemSat B w0 bs rs N h w) (hG : GlobOk E.gl h) {t : TypeId} {a : SV} {r : SV} {p : Option Prop} (e : evLoad E bs rs t a = some (r, p)) {u : Value} (ha : a.rel N h u) :
    Yields P (Instr.loadAt t u) w N h r := by
  unfold evLoad at e
  split at e
  · rename_i ti hti
    have hT := hE.tt t ti hti
    split at e
    · rename_i i off
      split at e
      · rename_i bt bc hb
        split at e
        · rename_i s hs
          injection e with e; injection e with e1 e2; subst e1 e2
          obtain ⟨o, g1, g2, _⟩ := hM.blk i _ hb
          obtain ⟨cs, rfl, g2, g3⟩ := BlkSat.cells.1 g2
          simp only [SV.rel, Leaf.rel] at ha
          subst ha
          have := partOf_load (w := w) hT hs g2 g3 ⟨N.ρ i, 0, none⟩ (fun j u hu => by
            rw [add_lit]
            simp only [World.cell?, g1]
            simpa using hu)
          rw [add_lit, Nat.zero_add] at this
          exact this
        · cases e
      · cases e
    · rename_i g off
      split at e
      · rename_i T x hg
        split at e
        · rename_i s hs
          injection e with e; injection e with e1 e2; subst e1 e2
          simp only [SV.rel, Leaf.rel] at ha
          subst ha
          obtain ⟨cs, g1, g2⟩ := hG g T x hg
          have := dataAt_load (w := w) (N := N) hT hs g1 ⟨g, 0, none⟩ (fun j u hu => cell_of_hcell hM.pin (g2 j u hu))
          rw [add_lit, Nat.zero_add] at this
          exact this
        · cases e
      · cases e
    · rename_i T xs i off
      split at e
      · rename_i s hs
        injection e with e; injection e with e1 e2; subst e1 e2
        simp only [SV.rel, Leaf.rel] at ha
        obtain ⟨hi, ad, rfl, hl⟩ := ha
        obtain ⟨ds, g1, g2⟩ := hl i _ (getD_of_lt (d := T.dflt) hi)
        have := dataAt_load (w := w) (N := N) hT hs g1 (ad.add (i * T.size)) (fun j u hu => cell_of_hcell hM.pin (g2 j u hu))
        rw [add_add] at this
        exact this
      · cases e
    · rename_i rr sz i off
      split at e
      · rename_i R hR
        cases hz : Nat.beq sz R.t.size with
        | false => rw [hz] at e; cases e
        | true =>
          rw [hz] at e
          have hsz : sz = R.t.size := Nat.eq_of_beq_eq_true hz
          subst hsz
          simp only [cond_true] at e
          split at e
          · rename_i s hs
            injection e with e; injection e with e1 e2; subst e1 e2
            simp only [SV.rel, Leaf.rel] at ha
            obtain ⟨g, len, cap, hV, hi, rfl⟩ := ha
            obtain ⟨cs, ho, hrc⟩ := hM.row rr R hR
            have hlen : len = R.xs.length := by
              rcases ho.2 with ⟨e0, _⟩ | ⟨g', cap', cur, e0, _⟩
              · rw [hV] at e0; cases e0
              · rw [hV] at e0; injection e0
            subst hlen
            obtain ⟨ds, g1, g2⟩ := RowCells_at R.t R.xs cs hrc i _ (getD_of_lt (d := R.t.dflt) hi)
            have hcell := ho.cells (g := g) (by rw [hV]; rfl)
            have := dataAt_load (w := w) (N := N) hT hs g1 ⟨g, i * R.t.size, none⟩ (fun j u hu => by
              have := hcell _ _ (g2 j u hu)
              rw [add_lit] at this ⊢
              rw [Nat.zero_add] at this
              exact this)
            rw [add_lit] at this
            exact this
          · cases e
      · cases e
    · cases e
  · cases e
theorem evFieldAddr_run (hE : EnvOk P E) {s : TypeId} {x : SV} {f : Nat} {r : SV} {p : Option Prop} (e : evFieldAddr E s x f = some (r, p)) {u : Value} (hx : x.rel N h u) :
    Yields P (Instr.fieldAt s u f) w N h r := by
  unfold evFieldAddr at e
  split at e
  · rename_i ti hti
    have hT := hE.tt s ti hti
    obtain ⟨d, hd, _, hk⟩ := hT.und
    split at e
    · rename_i fs hfs
      rw [hfs] at hk
      obtain ⟨gs, rfl, hgl, hg⟩ := hk
      split at e
      · rename_i o n _ hf
        obtain ⟨g, i, dd, g1, g2, g3, g4, _⟩ := hg f _ hf
        simp only at g2 g4
        cases hn : Nat.beq n 0 with
        | true => rw [hn] at e; cases e
        | false =>
          rw [hn] at e
          have hn0 : ¬ i.size = 0 := fun hh => by rw [g4] at hh; subst hh; cases hn
          simp only [cond_false] at e
          have run : ∀ ad : Addr, (Instr.fieldAt s (.pointer (some ad)) f).run P w = .ok (.pointer (some (ad.add o))) w := by
            intro ad
            simp [Instr.fieldAt, run_underlying hd, g1, Instr.sureAddr, fieldPlace, run_sizeOf_of g3, hn0, g2]
          split at e
          · injection e with e; injection e with e1 e2; subst e1 e2
            simp only [SV.rel, Leaf.rel] at hx
            subst hx
            exact ⟨_, run _, by rw [add_lit]; rfl⟩
          · injection e with e; injection e with e1 e2; subst e1 e2
            obtain ⟨h1, ad, rfl, h2⟩ := hx
            exact ⟨_, run _, h1, ad, by rw [add_add, Nat.add_assoc], h2⟩
          · injection e with e; injection e with e1 e2; subst e1 e2
            obtain ⟨g, len, cap, h1, h2, rfl⟩ := hx
            exact ⟨_, run _, g, len, cap, h1, h2, by rw [add_lit, Nat.add_assoc]⟩
          · cases e
      · cases e
    · cases e
  · cases e
theorem mid_rel {ls : List Leaf} {cs : List Value} (hr : LeafRels N h ls cs) (o n : Nat) : LeafRels N h (mid ls o n) ((cs.drop o).take n) := LeafRels.take _ _ _ (LeafRels.drop _ _ _ hr)
theorem aggOf_rel {x : SV} {ls : List Leaf} (e : aggOf x = some ls) {v : Value} (hx : x.rel N h v) : ∃ cs : List Value, v = .agg cs.toArray ∧ LeafRels N h ls cs ∧ ∀ u ∈ cs, u.oneCell' = true := by
  unfold aggOf at e
  split at e
  · rename_i t x
    cases ha : t.isAgg with
    | false => rw [ha] at e; cases e
    | true =>
      rw [ha] at e
      simp only [cond_true] at e
      injection e with e; subst e
      obtain ⟨cs, g1, rfl⟩ := hx
      refine ⟨cs, ?_, explode_rel _ _ _ g1, rep_one _ _ _ g1⟩
      cases t <;> first | rfl | cases ha
  · injection e with e; subst e
    exact hx
  · cases e
theorem partOf_run {t : TypeId} {ti : TI} (hT : TIok P t ti) {ls : List Leaf} {off : Nat} {s : SV} (e : partOf ti ls off = some s) {cs : List Value} (hr : LeafRels N h ls cs) (h1 : ∀ u ∈ cs, u.oneCell' = true) :
    Yields P (part t cs.toArray off) w N h s := by
  unfold partOf at e
  cases hb : Nat.ble (off + ti.size) ls.length with
  | false => rw [hb] at e; cases e
  | true =>
    rw [hb] at e
    simp only [cond_true] at e
    unfold part
    simp only [Yields, Sem.run_bind, hT.agg_run, Result.andThen_ok]
    cases ha : ti.isAgg with
    | true =>
      rw [ha] at e
      simp only [cond_true] at e
      injection e with e; subst e
      refine ⟨.agg ((cs.drop off).take ti.size).toArray, ?_, (cs.drop off).take ti.size, rfl, mid_rel hr off ti.size, fun u hu => h1 u (List.mem_of_mem_drop (List.mem_of_mem_take hu))⟩
      simp only [if_true, Sem.run_bind, hT.size_run, Result.andThen_ok, Sem.run_pure]
      congr 2
      apply Array.ext'
      simp
    | false =>
      rw [ha] at e
      simp only [cond_false] at e
      split at e
      · rename_i l hl
        injection e with e; subst e
        obtain ⟨v, g1, g2⟩ := LeafRels.get _ _ hr off l hl
        exact ⟨v, by simp [g1], g2⟩
      · cases e
theorem evField_run (hE : EnvOk P E) {s : TypeId} {x : SV} {f : Nat} {r : SV} {p : Option Prop} (e : evField E s x f = some (r, p)) {u : Value} (hx : x.rel N h u) :
    Yields P (Instr.field s u f) w N h r := by
  unfold evField at e
  split at e
  · rename_i ti hti
    have hT := hE.tt s ti hti
    obtain ⟨d, hd, _, hk⟩ := hT.und
    split at e
    · rename_i fs hfs
      rw [hfs] at hk
      obtain ⟨gs, rfl, hgl, hg⟩ := hk
      split at e
      · rename_i o n gg hf
        obtain ⟨g, i, dd, g1, g2, g3, g4, g5, g6⟩ := hg f _ hf
        simp only at g2 g4 g6
        split at e
        · rename_i ls hls
          obtain ⟨cs, rfl, q1, q2⟩ := aggOf_rel hls hx
          have hlen := LeafRels.length _ _ q1
          cases hb : Nat.ble (o + n) ls.length with
          | false => rw [hb] at e; cases e
          | true =>
            rw [hb] at e
            simp only [cond_true] at e
            have run : (Instr.field s (.agg cs.toArray) f).run P w = (part g.type cs.toArray o).run P w := by
              simp [Instr.field, run_underlying hd, g1, asAgg, g2]
            rw [Yields, run]
            unfold part
            simp only [Sem.run_bind, run_isAgg_of g5, Result.andThen_ok, g6]
            cases gg with
            | true =>
              simp only [cond_true] at e
              injection e with e; injection e with e1 e2; subst e1 e2
              refine ⟨.agg ((cs.drop o).take n).toArray, ?_, (cs.drop o).take n, rfl, mid_rel q1 o n, fun u hu => q2 u (List.mem_of_mem_drop (List.mem_of_mem_take hu))⟩
              simp only [if_true, Sem.run_bind, run_sizeOf_of g3, g4, Result.andThen_ok, Sem.run_pure]
              congr 2
              apply Array.ext'
              simp
            | false =>
              simp only [cond_false] at e
              split at e
              · rename_i l hl
                injection e with e; injection e with e1 e2; subst e1 e2
                obtain ⟨v, k1, k2⟩ := LeafRels.get _ _ q1 o l hl
                exact ⟨v, by simp [k1], k2⟩
              · cases e
        · cases e
      · cases e
    · cases e
  · cases e
theorem evIndexAddr_run (hE : EnvOk P E) (hM : MemSat B w0 bs rs N h w) {t : TypeId} {x ix : SV} {r : SV} {p : Option Prop} (e : evIndexAddr E rs t x ix = some (r, p)) (hp : ∀ q, p = some q → q)
    {u v : Value} (hx : x.rel N h u) (hi : ix.rel N h v) : Yields P (Instr.indexAt t u v) w N h r := by
  unfold evIndexAddr at e
  split at e
  · cases e
  · rename_i k z hz
    rw [asInt_rel hz hi]
    split at e
    · cases e
    · rename_i ti hti
      have hT := hE.tt t ti hti
      obtain ⟨d, hd, _, hk⟩ := hT.und
      split at e
      · rename_i te hte
        rw [hte] at hk
        simp only at hk
        subst hk
        split at e
        · cases e
        · rename_i tei htei
          have hTe := hE.tt te tei htei
          have run : ∀ (A : Addr) (len cap : Nat), 0 ≤ z → z < (len : Int) → (Instr.indexAt t (.slice (some A) len cap) (.int k z)).run P w = .ok (.pointer (some (A.add (z.toNat * tei.size)))) w := by
            intro A len cap h1 h2
            simp [Instr.indexAt, run_underlying hd, asIntOf, h1, h2, hTe.size_run]
          split at e
          · rename_i T xs
            cases hs : Nat.beq tei.size T.size with
            | false => rw [hs] at e; cases e
            | true =>
              rw [hs] at e
              have hs' := Nat.eq_of_beq_eq_true hs
              simp only [cond_true] at e
              injection e with e; injection e with e1 e2; subst e1
              obtain ⟨h1, h2⟩ := hp _ e2.symm
              obtain ⟨cs, g1, rfl⟩ := hx
              obtain ⟨A, c, rfl, g2, g3, g4⟩ := g1
              cases A with
              | none =>
                have := g3 rfl
                subst this
                simp at h2
                omega
              | some ad =>
                refine ⟨_, run ad _ c h1 h2, by omega, ad, by rw [hs', Nat.add_zero], fun i y hy => g4 i y ad hy rfl⟩
          · rename_i rr
            split at e
            · rename_i R hR
              cases hs : Nat.beq tei.size R.t.size with
              | false => rw [hs] at e; cases e
              | true =>
                rw [hs] at e
                have hs' := Nat.eq_of_beq_eq_true hs
                simp only [cond_true] at e
                injection e with e; injection e with e1 e2; subst e1
                obtain ⟨h1, h2⟩ := hp _ e2.symm
                obtain ⟨rfl, _⟩ := hx
                obtain ⟨cs, ho, hrc⟩ := hM.row rr R hR
                rcases ho.2 with ⟨_, e0⟩ | ⟨g, cap, cur, e0, _⟩
                · rw [e0] at h2; simp at h2; omega
                · rw [e0]
                  refine ⟨_, run _ _ _ h1 h2, g, R.xs.length, cap, e0, by omega, ?_⟩
                  rw [add_lit, hs', Nat.zero_add, Nat.add_zero]
            · cases e
          · cases e
      · rename_i n te es hte
        rw [hte] at hk
        simp only at hk
        obtain ⟨rfl, i, hie, his⟩ := hk
        have run : ∀ A : Addr, 0 ≤ z → z < (n : Int) → (Instr.indexAt t (.pointer (some A)) (.int k z)).run P w = .ok (.pointer (some (A.add (z.toNat * es)))) w := by
          intro A h1 h2
          simp [Instr.indexAt, run_underlying hd, asIntOf, Instr.sureAddr, h1, h2, run_sizeOf_of hie, his]
        split at e
        · injection e with e; injection e with e1 e2; subst e1
          obtain ⟨h1, h2⟩ := hp _ e2.symm
          simp only [SV.rel, Leaf.rel] at hx
          subst hx
          exact ⟨_, run _ h1 h2, by rw [add_lit]; rfl⟩
        · injection e with e; injection e with e1 e2; subst e1
          obtain ⟨h1, h2⟩ := hp _ e2.symm
          simp only [SV.rel, Leaf.rel] at hx
          subst hx
          exact ⟨_, run _ h1 h2, by rw [add_lit]; rfl⟩
        · injection e with e; injection e with e1 e2; subst e1
          obtain ⟨h1, h2⟩ := hp _ e2.symm
          obtain ⟨q1, ad, rfl, q2⟩ := hx
          exact ⟨_, run _ h1 h2, q1, ad, by rw [add_add, Nat.add_assoc], q2⟩
        · injection e with e; injection e with e1 e2; subst e1
          obtain ⟨h1, h2⟩ := hp _ e2.symm
          obtain ⟨g, len, cap, q1, q2, rfl⟩ := hx
          exact ⟨_, run _ h1 h2, g, len, cap, q1, q2, by rw [add_lit, Nat.add_assoc]⟩
        · cases e
      · cases e
theorem evIndex_run (hE : EnvOk P E) {t : TypeId} {x ix : SV} {r : SV} {p : Option Prop} (e : evIndex E t x ix = some (r, p)) (hp : ∀ q, p = some q → q)
    {u v : Value} (hx : x.rel N h u) (hi : ix.rel N h v) : Yields P (Instr.index t u v) w N h r := by
  unfold evIndex at e
  split at e
  · cases e
  · rename_i k z hz
    rw [asInt_rel hz hi]
    split at e
    · cases e
    · rename_i ti hti
      have hT := hE.tt t ti hti
      obtain ⟨d, hd, _, hk⟩ := hT.und
      split at e
      · rename_i n te es hte
        rw [hte] at hk
        simp only at hk
        obtain ⟨rfl, i, hie, his⟩ := hk
        split at e
        · cases e
        · rename_i tei htei
          have hTe := hE.tt te tei htei
          split at e
          · rename_i ls hls
            obtain ⟨cs, rfl, q1, q2⟩ := aggOf_rel hls hx
            split at e
            · rename_i s hs
              injection e with e; injection e with e1 e2; subst e1
              obtain ⟨h1, h2⟩ := hp _ e2.symm
              obtain ⟨v, g1, g2⟩ := partOf_run (P := P) (w := w) hTe hs q1 q2
              refine ⟨v, ?_, g2⟩
              simp only [Instr.index, asIntOf, Sem.run_bind, Sem.run_pure, Result.andThen_ok, run_underlying hd]
              rw [if_pos ⟨h1, h2⟩]
              simp only [Sem.run_bind, hTe.size_run, Result.andThen_ok]
              exact g1
            · cases e
          · cases e
      · rename_i hte
        rw [hte] at hk
        simp only at hk
        subst hk
        split at e
        · rename_i s
          injection e with e; injection e with e1 e2; subst e1
          obtain ⟨h1, h2⟩ := hp _ e2.symm
          obtain ⟨cs, g1, rfl⟩ := hx
          simp only [rep] at g1
          subst g1
          refine ⟨_, ?_, mkInt_rel N h _ _⟩
          have hlt : z.toNat < ByteArray.size s := by omega
          have hb : (ByteArray.data s)[z.toNat]? = some ((ByteArray.data s)[z.toNat]'hlt) := Array.getElem?_eq_getElem hlt
          have hb' : (s : ByteArray)[z.toNat]? = some ((ByteArray.data s)[z.toNat]'hlt) := by
            rw [getElem?_pos (s : ByteArray) z.toNat hlt]
            rfl
          simp only [Instr.index, asIntOf, run_underlying hd, Ty.val, List.headD_cons, Sem.run_bind, Sem.run_pure, Result.andThen_ok, if_pos h1, hb', hb, Option.getD_some]
        · cases e
      · cases e
theorem asInt_opt {x : Option SV} {y : SV} {u : Option Value} (hx : x = some y) (hr : ∀ s v, x = some s → u = some v → s.rel N h v) (hn : x.isSome = u.isSome) : ∃ v, u = some v ∧ y.rel N h v := by
  subst hx
  cases u with
  | none => cases hn
  | some v => exact ⟨v, rfl, hr _ _ rfl rfl⟩
theorem list_cut {T : Ty} {xs : List T.den} {A : Option Addr} {c : Nat} (hA : A = none → xs = []) (hc : xs.length ≤ c)
    (hl : ∀ (i : Nat) x ad, xs[i]? = some x → A = some ad → ∃ ds, rep h T x ds ∧ CellsAt h (ad.add (i * T.size)) ds) (l n : Nat) (h1 : l ≤ n) (h2 : n ≤ xs.length) :
    rep h (.sl T) (List.drop l (List.take n xs)) [.slice (if c = l then A else A.map (·.add (l * T.size))) (n - l) (c - l)] := by
  refine ⟨(if c = l then A else A.map (·.add (l * T.size))), c - l, ?_, ?_, ?_, ?_⟩
  · have : (List.drop l (List.take n xs)).length = n - l := by simp; omega
    rw [this]
  · simp; omega
  · intro hn
    split at hn
    · rw [hA hn]; simp
    · cases A with
      | none => rw [hA rfl]; simp
      | some a => cases hn
  · intro i x ad hx had
    rw [List.getElem?_drop, List.getElem?_take] at hx
    split at hx
    · rename_i hlt
      split at had
      · omega
      · cases A with
        | none => cases had
        | some a =>
          injection had with had
          subst had
          obtain ⟨ds, g1, g2⟩ := hl (l + i) x a hx rfl
          refine ⟨ds, g1, ?_⟩
          rw [add_add, ← Nat.add_mul]
          exact g2
    · cases hx
theorem evSlice_run (hE : EnvOk P E) {t : TypeId} {x : SV} {lo hi : Option SV} {r : SV} {p : Option Prop} (e : evSlice E t x lo hi = some (r, p)) (hp : ∀ q, p = some q → q)
    {u : Value} {lov hiv : Option Value} (hx : x.rel N h u) (hlo : ∀ s v, lo = some s → lov = some v → s.rel N h v) (hhi : ∀ s v, hi = some s → hiv = some v → s.rel N h v)
    (hln : lo.isSome = lov.isSome) (hhn : hi.isSome = hiv.isSome) : Yields P (Instr.sliceAt t u lov hiv none) w N h r := by
  unfold evSlice at e
  split at e
  · cases e
  · rename_i ti hti
    have hT := hE.tt t ti hti
    obtain ⟨d, hd, _, hk⟩ := hT.und
    split at e
    · rename_i te hte
      rw [hte] at hk
      simp only at hk
      subst hk
      split at e
      · cases e
      · rename_i tei htei
        have hTe := hE.tt te tei htei
        split at e
        · rename_i T xs
          cases hs : Nat.beq tei.size T.size with
          | false => rw [hs] at e; cases e
          | true =>
            rw [hs] at e
            have hs' : tei.size = T.size := Nat.eq_of_beq_eq_true hs
            simp only [cond_true] at e
            obtain ⟨cs, g1, rfl⟩ := hx
            obtain ⟨A, c, rfl, g2, g3, g4⟩ := g1
            have fin : ∀ (l n : Nat), l ≤ n → n ≤ xs.length → ∀ s : Sem Value, s.run P w = .ok (.slice (if c = l then A else A.map (·.add (l * tei.size))) (n - l) (c - l)) w → Yields P s w N h (.leaf (.tv (.sl T) (List.drop l (List.take n xs)))) := by
              intro l n h1 h2 s hrun
              rw [hs'] at hrun
              exact ⟨_, hrun, _, list_cut g3 g2 g4 l n h1 h2, rfl⟩
            have g2' : (xs.length : Int) ≤ c := by omega
            split at e
            · injection e with e; injection e with e1 e2; subst e1
              obtain rfl : lov = none := by cases lov <;> first | rfl | cases hln
              obtain rfl : hiv = none := by cases hiv <;> first | rfl | cases hhn
              have := fin 0 xs.length (Nat.zero_le _) (Nat.le_refl _) (Instr.sliceAt t (Ty.val (.sl T) [.slice A xs.length c]) none none none) (by
                simp [Instr.sliceAt, Instr.slice, Instr.sliceBounds, run_underlying hd, hTe.size_run, Ty.val])
              simpa using this
            · rename_i l
              obtain ⟨lv, rfl, hl⟩ := asInt_opt rfl hlo hln
              obtain rfl : hiv = none := by cases hiv <;> first | rfl | cases hhn
              split at e
              · rename_i k l' hl'
                injection e with e; injection e with e1 e2; subst e1
                obtain ⟨h1, h2⟩ := hp _ e2.symm
                rw [asInt_rel hl' hl]
                have := fin l'.toNat xs.length (by omega) (Nat.le_refl _) (Instr.sliceAt t (Ty.val (.sl T) [.slice A xs.length c]) (some (.int k l')) none none) (by
                  simp [Instr.sliceAt, Instr.slice, Instr.sliceBounds, Instr.sliceBound, asIntOf, run_underlying hd, hTe.size_run, Ty.val, h1, h2])
                simpa using this
              · cases e
            · rename_i hh
              obtain ⟨hv, rfl, hl⟩ := asInt_opt rfl hhi hhn
              obtain rfl : lov = none := by cases lov <;> first | rfl | cases hln
              split at e
              · rename_i k l' hl'
                injection e with e; injection e with e1 e2; subst e1
                obtain ⟨h1, h2⟩ := hp _ e2.symm
                have h3 : l' ≤ (c : Int) := by omega
                rw [asInt_rel hl' hl]
                have := fin 0 l'.toNat (Nat.zero_le _) (by omega) (Instr.sliceAt t (Ty.val (.sl T) [.slice A xs.length c]) none (some (.int k l')) none) (by
                  simp [Instr.sliceAt, Instr.slice, Instr.sliceBounds, Instr.sliceBound, asIntOf, run_underlying hd, hTe.size_run, Ty.val, h1, h3])
                simpa using this
              · cases e
            · rename_i l hh
              obtain ⟨lv, rfl, hl⟩ := asInt_opt rfl hlo hln
              obtain ⟨hv, rfl, hl2⟩ := asInt_opt rfl hhi hhn
              split at e
              · rename_i k l' hl'
                split at e
                · rename_i k2 h' hh'
                  injection e with e; injection e with e1 e2; subst e1
                  obtain ⟨h1, h2, h3⟩ := hp _ e2.symm
                  rw [asInt_rel hl' hl, asInt_rel hh' hl2]
                  have h4 : h' ≤ (c : Int) := by omega
                  have h5 : 0 ≤ h' := by omega
                  have h6 : l' ≤ max h' 0 := by omega
                  have := fin l'.toNat h'.toNat (by omega) (by omega) (Instr.sliceAt t (Ty.val (.sl T) [.slice A xs.length c]) (some (.int k l')) (some (.int k2 h')) none) (by
                    simp [Instr.sliceAt, Instr.slice, Instr.sliceBounds, Instr.sliceBound, asIntOf, run_underlying hd, hTe.size_run, Ty.val, h1, h4, h5, h6])
                  simpa using this
                · cases e
              · cases e
          
        · have eqs : ∀ (s : SV) (v : Value) (q : Prop), s.rel N h v → zeroB (some s) = some q → q → ∃ kk, v = .int kk 0 := by
            intro s v q hr hz hq
            simp only [zeroB] at hz
            split at hz
            · rename_i kk n hn
              injection hz with hz
              subst hz
              rw [asInt_rel hn hr, hq]
              exact ⟨kk, rfl⟩
            · cases hz
          unfold evSliceNil at e
          split at e
          · rename_i pl hpl
            split at e
            · rename_i ph hph
              injection e with e; injection e with e1 e2; subst e1
              obtain ⟨p1, p2⟩ := hp _ e2.symm
              have hx0 := hx
              simp only [SV.rel, Leaf.rel] at hx0
              subst hx0
              refine ⟨.slice none 0 0, ?_, hx⟩
              have hlv : lov = none ∨ ∃ kk, lov = some (.int kk 0) := by
                cases lo with
                | none => cases lov <;> first | exact .inl rfl | cases hln
                | some s =>
                  cases lov with
                  | none => cases hln
                  | some v =>
                    obtain ⟨kk, rfl⟩ := eqs s v pl (hlo s v rfl rfl) hpl p1
                    exact .inr ⟨kk, rfl⟩
              have hhv : hiv = none ∨ ∃ kk, hiv = some (.int kk 0) := by
                cases hi with
                | none => cases hiv <;> first | exact .inl rfl | cases hhn
                | some s =>
                  cases hiv with
                  | none => cases hhn
                  | some v =>
                    obtain ⟨kk, rfl⟩ := eqs s v ph (hhi s v rfl rfl) hph p2
                    exact .inr ⟨kk, rfl⟩
              rcases hlv with rfl | ⟨k1, rfl⟩ <;> rcases hhv with rfl | ⟨k2, rfl⟩ <;>
                simp [Instr.sliceAt, Instr.slice, Instr.sliceBounds, Instr.sliceBound, asIntOf, run_underlying hd, hTe.size_run]
            · cases e
          · cases e
        · cases e
    · rename_i hte
      rw [hte] at hk
      simp only at hk
      subst hk
      split at e
      · rename_i s
        obtain ⟨cs, g1, rfl⟩ := hx
        simp only [rep] at g1
        subst g1
        split at e
        · injection e with e; injection e with e1 e2; subst e1
          obtain rfl : lov = none := by cases lov <;> first | rfl | cases hln
          obtain rfl : hiv = none := by cases hiv <;> first | rfl | cases hhn
          refine ⟨.string s, ?_, mkStr_rel N h _⟩
          simp [Instr.sliceAt, Instr.slice, Instr.sliceBounds, run_underlying hd, Ty.val]
        · rename_i l
          obtain ⟨lv, rfl, hl⟩ := asInt_opt rfl hlo hln
          obtain rfl : hiv = none := by cases hiv <;> first | rfl | cases hhn
          split at e
          · rename_i k l' hl'
            injection e with e; injection e with e1 e2; subst e1
            obtain ⟨h1, h2⟩ := hp _ e2.symm
            rw [asInt_rel hl' hl]
            refine ⟨_, ?_, mkStr_rel N h _⟩
            simp [Instr.sliceAt, Instr.slice, Instr.sliceBounds, Instr.sliceBound, asIntOf, run_underlying hd, Ty.val, h1, h2]
          · cases e
        · rename_i hh
          obtain ⟨hv, rfl, hl⟩ := asInt_opt rfl hhi hhn
          obtain rfl : lov = none := by cases lov <;> first | rfl | cases hln
          split at e
          · rename_i k l' hl'
            injection e with e; injection e with e1 e2; subst e1
            obtain ⟨h1, h2⟩ := hp _ e2.symm
            rw [asInt_rel hl' hl]
            refine ⟨_, ?_, mkStr_rel N h _⟩
            simp [Instr.sliceAt, Instr.slice, Instr.sliceBounds, Instr.sliceBound, asIntOf, run_underlying hd, Ty.val, h1, h2]
          · cases e
        · rename_i l hh
          obtain ⟨lv, rfl, hl⟩ := asInt_opt rfl hlo hln
          obtain ⟨hv, rfl, hl2⟩ := asInt_opt rfl hhi hhn
          split at e
          · rename_i k l' hl'
            split at e
            · rename_i k2 h' hh'
              injection e with e; injection e with e1 e2; subst e1
              obtain ⟨h1, h2, h3⟩ := hp _ e2.symm
              rw [asInt_rel hl' hl, asInt_rel hh' hl2]
              have h5 : 0 ≤ h' := by omega
              have h6 : l' ≤ max h' 0 := by omega
              refine ⟨_, ?_, mkStr_rel N h _⟩
              simp [Instr.sliceAt, Instr.slice, Instr.sliceBounds, Instr.sliceBound, asIntOf, run_underlying hd, Ty.val, h1, h3, h5, h6]
            · cases e
          · cases e
      · cases e
    · cases e
theorem add_zero_map (A : Option Addr) : A.map (fun x => x.add 0) = A := by cases A <;> simp [Addr.add]
theorem evSliceMax_run (hE : EnvOk P E) {t : TypeId} {x hi mx : SV} {r : SV} {p : Option Prop} (e : evSliceMax E t x hi mx = some (r, p)) (hp : ∀ q, p = some q → q)
    {u hv mv : Value} (hx : x.rel N h u) (hhi : hi.rel N h hv) (hmx : mx.rel N h mv) : Yields P (Instr.sliceAt t u none (some hv) (some mv)) w N h r := by
  unfold evSliceMax at e
  split at e
  · cases e
  rename_i ti hti
  obtain ⟨d, hd, _, hk⟩ := (hE.tt t ti hti).und
  split at e
  rotate_left
  · cases e
  rename_i te hte
  rw [hte] at hk
  simp only at hk
  subst hk
  split at e
  · cases e
  rename_i tei htei
  have hTe := hE.tt te tei htei
  split at e
  rotate_left
  · cases e
  rename_i T xs
  cases hs : Nat.beq tei.size T.size with
  | false => rw [hs] at e; cases e
  | true =>
    rw [hs] at e
    have hs' : tei.size = T.size := Nat.eq_of_beq_eq_true hs
    simp only [cond_true] at e
    obtain ⟨cs, g1, rfl⟩ := hx
    obtain ⟨A, c, rfl, g2, g3, g4⟩ := g1
    split at e
    rotate_left
    · cases e
    rename_i k h' hh'
    split at e
    rotate_left
    · cases e
    rename_i k2 m hm
    injection e with e; injection e with e1 e2; subst e1
    obtain ⟨h1, h2, h3⟩ := hp _ e2.symm
    rw [asInt_rel hh' hhi, asInt_rel hm hmx]
    obtain ⟨hn, rfl⟩ : ∃ q : Nat, h' = (q : Int) := ⟨h'.toNat, by omega⟩
    obtain ⟨mn, rfl⟩ : ∃ q : Nat, m = (q : Int) := ⟨m.toNat, by omega⟩
    have q1 : hn ≤ mn := by omega
    have q2 : mn ≤ xs.length := by omega
    refine ⟨.slice (if mn = 0 then A else A) hn mn, ?_, [.slice (if mn = 0 then A else A) hn mn], ?_, rfl⟩
    · have q3 : ¬ ((mn : Int) < 0) := by omega
      have q4 : ¬ ((mn : Int) > (c : Int)) := by omega
      have q5 : ¬ ((hn : Int) < 0) := by omega
      have q6 : ¬ ((hn : Int) > (mn : Int)) := by omega
      simp [Instr.sliceAt, Instr.slice, Instr.sliceBounds, Instr.sliceBound, asIntOf, run_underlying hd, hTe.size_run, Ty.val, show mn ≤ c by omega, q1, add_zero_map]
    · have hl : (List.take (hn : Int).toNat xs).length = hn := by
        rw [List.length_take]
        show min hn xs.length = hn
        omega
      refine ⟨A, mn, by rw [hl]; split <;> rfl, by rw [hl]; exact q1, fun hA => by rw [g3 hA]; simp, fun i x ad hx hA => ?_⟩
      rw [List.getElem?_take] at hx
      split at hx
      · exact g4 i x ad hx hA
      · cases hx
theorem evMkIf_run (hE : EnvOk P E) {xt : TypeId} {x : SV} {r : SV} {p : Option Prop} (e : evMkIf E xt x = some (r, p)) (hp : ∀ q, p = some q → q) {v : Value} (hx : x.rel N h v) : Yields P (Instr.makeInterface xt v) w N h r := by
  unfold evMkIf at e
  split at e
  rotate_left
  · cases e
  rename_i tl ti l i hifc
  split at e
  · cases e
  rename_i xi hxi
  obtain ⟨d, hd, _, hk⟩ := (hE.tt xt xi hxi).und
  split at e
  rotate_left
  · cases e
  rename_i pe hpe
  rw [hpe] at hk
  simp only at hk
  subst hk
  have hrun : ∀ v, (Instr.makeInterface xt v).run P w = .ok (.iface xt v) w := fun v => by
    simp [Instr.makeInterface, run_underlying hd]
  cases h1 : Nat.beq xt tl with
  | true =>
    rw [h1] at e
    have := Nat.eq_of_beq_eq_true h1
    subst this
    simp only [cond_true, argValK_eq] at e
    split at e
    · rename_i a ha
      injection e with e; injection e with e1 e2; subst e1
      have hs := hp _ e2.symm
      obtain ⟨cs, g1, rfl⟩ := argVal_rel ha hx
      rcases g1 with ⟨rfl, _⟩ | ⟨y, ad, ds, rfl, rfl, q1, q2⟩
      · cases hs
      · exact ⟨_, hrun _, SV.tv_iff.2 ⟨_, nd_leaf_rep q1 q2, rfl⟩⟩
    · cases e
  | false =>
    rw [h1] at e
    simp only [cond_false] at e
    cases h2 : Nat.beq xt ti with
    | false => rw [h2] at e; cases e
    | true =>
      rw [h2] at e
      have := Nat.eq_of_beq_eq_true h2
      subst this
      simp only [cond_true, argValK_eq] at e
      split at e
      · rename_i a ha
        injection e with e; injection e with e1 e2; subst e1
        have hs := hp _ e2.symm
        obtain ⟨cs, g1, rfl⟩ := argVal_rel ha hx
        rcases g1 with ⟨rfl, _⟩ | ⟨y, ad, ds, rfl, rfl, q1, q2⟩
        · cases hs
        · exact ⟨_, hrun _, SV.tv_iff.2 ⟨_, nd_inner_rep q1 q2, rfl⟩⟩
      · cases e
theorem evAssert_run (hE : EnvOk P E) {x : SV} {xt at_ : TypeId} {ok : Bool} {r : SV} {p : Option Prop} (e : evAssert E x xt at_ ok = some (r, p)) (hp : ∀ q, p = some q → q) {v : Value} (hx : x.rel N h v) : Yields P (Instr.typeAssert v xt at_ ok) w N h r := by
  unfold evAssert at e
  split at e
  · cases e
  rename_i xi hxi
  split at e
  rotate_left
  · cases e
  rename_i tl ti l i hty
  split at e
  · cases e
  rename_i ai hai
  have hTa := hE.tt at_ ai hai
  obtain ⟨d, hd, _, hk⟩ := hTa.und
  split at e
  rotate_left
  · cases e
  rename_i pe hpe
  rw [hpe] at hk
  simp only at hk
  subst hk
  split at e
  rotate_left
  · cases e
  rename_i hz0
  cases hb : (Nat.beq tl ti || !(Nat.beq ai.size 1)) with
  | true => rw [hb] at e; cases e
  | false =>
    rw [hb] at e
    simp only [cond_false, argValK_eq] at e
    rw [Bool.or_eq_false_iff] at hb
    have hne : tl ≠ ti := Nat.ne_of_beq_eq_false hb.1
    have hsz : ai.size = 1 := Nat.eq_of_beq_eq_true (by have := hb.2; revert this; cases Nat.beq ai.size 1 <;> simp)
    have hzero : (zeroValue at_).run P w = .ok (.pointer none) w := by
      obtain ⟨ii, hii, _, _, hzz⟩ := hTa.info
      obtain ⟨z, e1, cs, e2, e3, _⟩ := hzz (by rw [hz0, hsz]; rfl)
      have e3 := e3 ⟨fun _ => 0, fun _ => .nilFunc⟩ (fun _ => none)
      rw [hz0] at e3
      obtain ⟨c, rr, rfl, g1, g2⟩ := rels_cons e3
      rw [LeafRels.nil_iff] at g2
      subst g2
      simp only [Leaf.rel] at g1
      subst g1
      have hz1 : z = .pointer none := by
        have hzm := hTa.zm _ hpe
        unfold zeroMB at hzm
        rw [hii, hd] at hzm
        simp only [e1] at hzm
        cases z <;> simp [Value.cells] at e2 <;> first | (rw [e2]; done) | (simp [aggDesc] at hzm)
      simp [zeroValue, run_typeInfo_of hii, e1, hz1]
    split at e
    rotate_left
    · cases e
    rename_i a ha
    obtain ⟨cs, g1, rfl⟩ := argVal_rel ha hx
    have fails : ∀ v, v = Value.nilIface ∨ (∃ t q, v = .iface t q ∧ t ≠ at_) → (Instr.typeAssert v xt at_ true).run P w = .ok (.tuple #[.pointer none, .bool false]) w := fun v hv => by
      rcases hv with rfl | ⟨t, q, rfl, hq⟩
      · simp [Instr.typeAssert, run_underlying hd, hzero]
      · simp [Instr.typeAssert, run_underlying hd, hzero, hq]
    have holds : ∀ q ok, (Instr.typeAssert (.iface at_ q) xt at_ ok).run P w = .ok (if ok then .tuple #[q, .bool true] else q) w := fun q ok => by
      simp [Instr.typeAssert, run_underlying hd]
    have optN : ∀ T : Ty, vrep h (.opt T) none (.pointer none) := fun T => ⟨[.pointer none], .inl ⟨rfl, rfl⟩, rfl⟩
    have bo : ∀ q : Bool, vrep h .bool q (.bool q) := fun q => ⟨[.bool q], rfl, rfl⟩
    cases h1 : Nat.beq at_ tl with
    | true =>
      rw [h1] at e
      have := Nat.eq_of_beq_eq_true h1
      subst this
      simp only [cond_true] at e
      cases ok with
      | true =>
        simp only at e
        injection e with e; injection e with e1 e2; subst e1
        cases a with
        | nil =>
          have := nd_nil_inv g1
          subst this
          exact ⟨_, fails _ (.inl rfl), [_, _], rfl, _, [_], rfl, optN _, _, [], rfl, bo _, rfl⟩
        | leaf a =>
          obtain ⟨ad, ds, rfl, q1, q2⟩ := nd_leaf_inv g1
          exact ⟨_, holds _ true, [_, _], rfl, _, [_], rfl, ⟨_, .inr ⟨a, ad, ds, rfl, rfl, q1, q2⟩, rfl⟩, _, [], rfl, bo _, rfl⟩
        | inner ks bb =>
          obtain ⟨ad, ds, rfl, q1, q2⟩ := nd_inner_inv g1
          exact ⟨_, fails _ (.inr ⟨_, _, rfl, fun hh => hne hh.symm⟩), [_, _], rfl, _, [_], rfl, optN _, _, [], rfl, bo _, rfl⟩
      | false =>
        simp only at e
        injection e with e; injection e with e1 e2; subst e1
        have hs := hp _ e2.symm
        cases a with
        | nil => cases hs
        | leaf a =>
          obtain ⟨ad, ds, rfl, q1, q2⟩ := nd_leaf_inv g1
          exact ⟨_, holds _ false, SV.tv_iff.2 ⟨_, .inr ⟨a, ad, ds, rfl, rfl, q1, q2⟩, rfl⟩⟩
        | inner ks bb => cases hs
    | false =>
      rw [h1] at e
      have hn1 : at_ ≠ tl := Nat.ne_of_beq_eq_false h1
      simp only [cond_false] at e
      cases h2 : Nat.beq at_ ti with
      | false => rw [h2] at e; cases e
      | true =>
        rw [h2] at e
        have := Nat.eq_of_beq_eq_true h2
        subst this
        simp only [cond_true] at e
        cases ok with
        | true =>
          simp only at e
          injection e with e; injection e with e1 e2; subst e1
          cases a with
          | nil =>
            have := nd_nil_inv g1
            subst this
            exact ⟨_, fails _ (.inl rfl), [_, _], rfl, _, [_], rfl, optN _, _, [], rfl, bo _, rfl⟩
          | leaf a =>
            obtain ⟨ad, ds, rfl, q1, q2⟩ := nd_leaf_inv g1
            exact ⟨_, fails _ (.inr ⟨_, _, rfl, hne⟩), [_, _], rfl, _, [_], rfl, optN _, _, [], rfl, bo _, rfl⟩
          | inner ks bb =>
            obtain ⟨ad, ds, rfl, q1, q2⟩ := nd_inner_inv g1
            exact ⟨_, holds _ true, [_, _], rfl, _, [_], rfl, ⟨_, .inr ⟨(ks, bb), ad, ds, rfl, rfl, q1, q2⟩, rfl⟩, _, [], rfl, bo _, rfl⟩
        | false =>
          simp only at e
          injection e with e; injection e with e1 e2; subst e1
          have hs := hp _ e2.symm
          cases a with
          | nil => cases hs
          | leaf a => cases hs
          | inner ks bb =>
            obtain ⟨ad, ds, rfl, q1, q2⟩ := nd_inner_inv g1
            exact ⟨_, holds _ false, SV.tv_iff.2 ⟨_, .inr ⟨(ks, bb), ad, ds, rfl, rfl, q1, q2⟩, rfl⟩⟩
end
end Go.Fr
namespace Go.Fr
open Go Go.RowKit
universe u
section
variable {P : Program} {E : Env} {B : Nat} {w0 w : World} {bs : Blks} {rs : Rows} {N : Names} {h : PHeap} {b : Nat} {sl : Slots} {ρ : Operand → Value}
theorem splice_rel {ls new : List Leaf} {cs ds : List Value} (h1 : LeafRels N h ls cs) (h2 : LeafRels N h new ds) (off : Nat) :
    LeafRels N h (splice ls off new) (cs.take off ++ ds ++ cs.drop (off + ds.length)) := by
  unfold splice
  rw [LeafRels.length _ _ h2, List.append_assoc]
  exact LeafRels.append _ _ _ _ (LeafRels.take _ _ _ h1) (LeafRels.append _ _ _ _ h2 (LeafRels.drop _ _ _ h1))
theorem splice_one {cs ds : List Value} (h1 : ∀ u ∈ cs, u.oneCell' = true) (h2 : ∀ u ∈ ds, u.oneCell' = true) (off n : Nat) : ∀ u ∈ cs.take off ++ ds ++ cs.drop n, u.oneCell' = true := by
  intro u hu
  rcases List.mem_append.1 hu with hu | hu
  · rcases List.mem_append.1 hu with hu | hu
    · exact h1 u (List.mem_of_mem_take hu)
    · exact h2 u hu
  · exact h1 u (List.mem_of_mem_drop hu)
theorem fill_rel (place : Nat → Option (Nat × Nat)) : (ps : List (Nat × Operand)) → (ls ls' : List Leaf) → (cs : List Value) → buildCells b place sl ps ls = some ls' → LeafRels N h ls cs → (∀ u ∈ cs, u.oneCell' = true) →
    (∀ p ∈ ps, (evO b sl p.2).rel N h (ρ p.2)) → ∃ cs' : List Value, Instr.fill place cs.toArray (ps.map fun p => (p.1, ρ p.2)) = some cs'.toArray ∧ LeafRels N h ls' cs' ∧ ∀ u ∈ cs', u.oneCell' = true
  | [], ls, ls', cs, e, hr, h1, _ => by
    simp only [buildCells] at e
    injection e with e; subst e
    exact ⟨cs, rfl, hr, h1⟩
  | (i, x) :: ps, ls, ls', cs, e, hr, h1, ho => by
    simp only [buildCells] at e
    split at e
    · cases e
    · rename_i off n hpl
      split at e
      · cases e
      · rename_i ns hns
        cases hb : (Nat.beq ns.length n && Nat.ble (off + n) ls.length) with
        | false => rw [hb] at e; cases e
        | true =>
          rw [hb] at e
          simp only [cond_true] at e
          simp only [Bool.and_eq_true] at hb
          have hn : ns.length = n := Nat.eq_of_beq_eq_true hb.1
          have hle : off + n ≤ ls.length := Nat.le_of_ble_eq_true hb.2
          obtain ⟨ds, g1, g2, g3⟩ := cellsOf_rel hns (ho (i, x) (List.mem_cons_self ..))
          have hds := LeafRels.length _ _ g2
          have hcs := LeafRels.length _ _ hr
          obtain ⟨cs', q1, q2, q3⟩ := fill_rel place ps _ ls' (cs.take off ++ ds ++ cs.drop (off + ds.length)) e (splice_rel hr g2 off) (splice_one h1 g3 off _) fun p hp => ho p (List.mem_cons_of_mem _ hp)
          refine ⟨cs', ?_, q2, q3⟩
          simp only [List.map_cons, Instr.fill, hpl]
          simp only at g1
          rw [g1]
          rw [if_neg (by simp; omega)]
          rw [← q1]
          congr 1
          apply Array.ext'
          have := foldl_set off ds 0 cs.toArray (by simp; omega)
          simp only [Nat.add_zero] at this
          rw [← this, ← Array.foldl_toList]
          simp
theorem mapM_places (P : Program) : (gs : List Field) → (fs : List (Nat × Nat × Bool)) → gs.length = fs.length → (∀ (n : Nat) f, fs[n]? = some f → ∃ g i, gs[n]? = some g ∧ g.offset = f.1 ∧ P.info? g.type = some i ∧ i.size = f.2.1) →
    gs.mapM (fun f => (P.info? f.type).map fun i => (f.offset, i.size)) = some (fs.map fun f => (f.1, f.2.1))
  | [], [], _, _ => rfl
  | g :: gs, f :: fs, hl, hh => by
    obtain ⟨g', i, e1, e2, e3, e4⟩ := hh 0 f rfl
    simp at e1; subst e1
    have ih := mapM_places P gs fs (by simpa using hl) (fun n f hf => by simpa using hh (n + 1) f (by simpa using hf))
    simp [List.mapM_cons, e3, ih, e2, e4]
  | [], _ :: _, hl, _ => by simp at hl
  | _ :: _, [], hl, _ => by simp at hl
theorem evBuild_run (hE : EnvOk P E) {t : TypeId} {ps : Array (Nat × Operand)} {r : SV} {p : Option Prop} (e : evBuild E b sl t ps.toList = some (r, p)) (ho : ∀ q ∈ ps.toList, (evO b sl q.2).rel N h (ρ q.2)) :
    Yields P (Instr.build t (ps.map fun (i, x) => (i, ρ x))) w N h r := by
  unfold evBuild at e
  split at e
  · cases e
  · rename_i ti hti
    have hT := hE.tt t ti hti
    obtain ⟨d, hd, _, hk⟩ := hT.und
    obtain ⟨i, hi, hsz, _, hz⟩ := hT.info
    cases hb : Nat.beq ti.zero.length ti.size with
    | false => rw [hb] at e; cases e
    | true =>
      rw [hb] at e
      simp only [cond_true] at e
      obtain ⟨z, hz1, cs, hz2, hz3, hz4⟩ := hz (Nat.eq_of_beq_eq_true hb)
      have hparts : (ps.map fun (i, x) => (i, ρ x)).toList = ps.toList.map fun p => (p.1, ρ p.2) := by rw [Array.toList_map]
      split at e
      · rename_i fs hfs
        rw [hfs] at hk
        obtain ⟨gs, rfl, hgl, hg⟩ := hk
        split at e
        · rename_i ls' hls
          injection e with e; injection e with e1 e2; subst e1 e2
          obtain ⟨cs', q1, q2, q3⟩ := fill_rel (ρ := ρ) _ _ _ _ cs hls (hz3 N h) hz4 ho
          refine ⟨.agg cs'.toArray, run_build w t _ _ ?_, cs', rfl, q2, q3⟩
          have hm := mapM_places P gs.toList fs (by simpa using hgl) (fun n f hf => by
            obtain ⟨g, i, e, g1, g2, g3, g4, _⟩ := hg n f hf
            exact ⟨g, i, by simpa using g1, g2, g3, g4⟩)
          simp only [Program.built, hi, hd, hz1, hm, hparts, hz2]
          rw [← q1]
          congr 1
          funext n
          simp
        · cases e
      · rename_i n te es hfs
        rw [hfs] at hk
        simp only at hk
        obtain ⟨rfl, ie, hie, his⟩ := hk
        split at e
        · rename_i ls' hls
          injection e with e; injection e with e1 e2; subst e1 e2
          obtain ⟨cs', q1, q2, q3⟩ := fill_rel (ρ := ρ) _ _ _ _ cs hls (hz3 N h) hz4 ho
          refine ⟨.agg cs'.toArray, run_build w t _ _ ?_, cs', rfl, q2, q3⟩
          simp only [Program.built, hi, hd, hz1, hie, hparts, hz2, his]
          exact q1
        · cases e
      · cases e
theorem evLen_run (hE : EnvOk P E) (hM : MemSat B w0 bs rs N h w) {t : TypeId} {x : SV} {r : SV} {p : Option Prop} (e : evLen E rs t x = some (r, p)) {u : Value} (hx : x.rel N h u) (ts : Array TypeId) (ty : TypeId) (hts : ts[0]? = some t) :
    Yields P (Builtin.len_ ts ty #[u]) w N h r := by
  unfold evLen at e
  split at e
  · cases e
  · rename_i ti hti
    have hT := hE.tt t ti hti
    obtain ⟨d, hd, _, hk⟩ := hT.und
    split at e
    · rename_i te hte
      rw [hte] at hk
      simp only at hk
      subst hk
      split at e
      · injection e with e; injection e with e1 e2; subst e1 e2
        obtain ⟨cs, g1, rfl⟩ := hx
        obtain ⟨A, c, rfl, _⟩ := g1
        exact ⟨_, by simp [Builtin.len_, hts, run_underlying hd, Ty.val, goInt], mkInt_rel N h _ _⟩
      · rename_i rr
        split at e
        · rename_i R hR
          injection e with e; injection e with e1 e2; subst e1 e2
          obtain ⟨rfl, _⟩ := hx
          obtain ⟨cs, ho, _⟩ := hM.row rr R hR
          have : ∃ A c, N.V rr = .slice A R.xs.length c := by
            rcases ho.2 with ⟨e0, e1⟩ | ⟨g, cap, cur, e0, _⟩
            · exact ⟨none, 0, by rw [e0, e1]⟩
            · exact ⟨_, _, e0⟩
          obtain ⟨A, c, hV⟩ := this
          rw [hV]
          exact ⟨_, by simp [Builtin.len_, hts, run_underlying hd, goInt], mkInt_rel N h _ _⟩
        · cases e
      · injection e with e; injection e with e1 e2; subst e1 e2
        simp only [SV.rel, Leaf.rel] at hx
        subst hx
        exact ⟨_, by simp [Builtin.len_, hts, run_underlying hd, goInt], mkInt_rel N h _ _⟩
      · cases e
    · rename_i hte
      rw [hte] at hk
      simp only at hk
      subst hk
      split at e
      · injection e with e; injection e with e1 e2; subst e1 e2
        obtain ⟨cs, g1, rfl⟩ := hx
        simp only [rep] at g1
        subst g1
        exact ⟨_, by simp [Builtin.len_, hts, run_underlying hd, Ty.val, goInt], mkInt_rel N h _ _⟩
      · cases e
    · cases e
theorem tupGet_rel : (t : Ty) → (x : t.den) → (i : Nat) → (s : SV) → tupGet t x i = some s → (vs : List Value) → trep h t x vs → ∃ v, vs[i]? = some v ∧ s.rel N h v
  | .pair a b, x, 0, s, e, vs, hr => by
    simp only [tupGet] at e
    injection e with e; subst e
    obtain ⟨v, r, rfl, g1, _⟩ := hr
    exact ⟨v, rfl, g1⟩
  | .pair a b, x, n + 1, s, e, vs, hr => by
    simp only [tupGet] at e
    obtain ⟨v, r, rfl, _, g2⟩ := hr
    obtain ⟨u, k1, k2⟩ := tupGet_rel b x.2 n s e r g2
    exact ⟨u, by simpa using k1, k2⟩
  | .unit, _, _, _, e, _, _ => by cases e
  | .bool, _, _, _, e, _, _ => by cases e
  | .int _, _, _, _, e, _, _ => by cases e
  | .str, _, _, _, e, _, _ => by cases e
  | .sl _, _, _, _, e, _, _ => by cases e
  | .opt _, _, _, _, e, _, _ => by cases e
  | .mp _ _, _, _, _, e, _, _ => by cases e
  | .nd _ _ _ _, _, _, _, e, _, _ => by cases e
theorem bytes_fold (ns : List Int) (b : ByteArray) : (ns.foldl (fun r n => r.push (UInt8.ofNat n.toNat)) b).data.toList = b.data.toList ++ ns.map fun n => UInt8.ofNat n.toNat := by
  induction ns generalizing b with
  | nil => simp
  | cons n ns ih => simp only [List.foldl_cons, ih, List.map_cons]; simp [ByteArray.push]
theorem bytesOf_eq (ns : List Int) : ns.foldl (fun r n => r.push (UInt8.ofNat n.toNat)) ByteArray.empty = bytesOf ns := by
  have := bytes_fold ns ByteArray.empty
  have h0 : (ByteArray.empty).data.toList = [] := rfl
  rw [h0, List.nil_append] at this
  cases hb : ns.foldl (fun r n => r.push (UInt8.ofNat n.toNat)) ByteArray.empty with
  | mk data =>
    rw [hb] at this
    unfold bytesOf
    congr 1
    apply Array.ext'
    simpa using this
theorem evConvert_run (hE : EnvOk P E) (hM : MemSat B w0 bs rs N h w) {s d : TypeId} {x : SV} {r : SV} {p : Option Prop} (e : evConvert E s d x = some (r, p)) (hs : ∃ ti, E.tt s = some ti) {u : Value} (hx : x.rel N h u) : Yields P (convert s d u) w N h r := by
  obtain ⟨si, hsi⟩ := hs
  have hS := hE.tt s si hsi
  obtain ⟨ds, hds, _, hks⟩ := hS.und
  unfold evConvert at e
  split at e
  · cases e
  · rename_i ti hti
    have hT := hE.tt d ti hti
    obtain ⟨dd, hd, _, hk⟩ := hT.und
    split at e
    · rename_i k hkk
      rw [hkk] at hk
      simp only at hk
      subst hk
      split at e
      · rename_i k' n hn
        injection e with e; injection e with e1 e2; subst e1 e2
        rw [asInt_rel hn hx]
        exact ⟨_, by simp [convert, run_underlying hds, run_underlying hd, Conv.intToInt], mkInt_rel N h _ _⟩
      · cases e
    · rename_i hkk
      rw [hkk] at hk
      simp only at hk
      subst hk
      rw [hsi] at e
      simp only at e
      split at e
      · split at e
        · rename_i k' n hn
          injection e with e; injection e with e1 e2; subst e1 e2
          rw [asInt_rel hn hx]
          exact ⟨_, by simp [convert, run_underlying hds, run_underlying hd, Conv.intToString], mkStr_rel N h _⟩
        · cases e
      · rename_i hss
        rw [hss] at hks
        simp only at hks
        subst hks
        split at e
        · rename_i b hb
          injection e with e; injection e with e1 e2; subst e1 e2
          rw [asStr_rel hb hx]
          exact ⟨_, by simp [convert, run_underlying hds, run_underlying hd], mkStr_rel N h _⟩
        · cases e
      · rename_i te hss
        rw [hss] at hks
        simp only at hks
        subst hks
        split at e
        · rename_i ei hei
          obtain ⟨de, hde, _, hke⟩ := (hE.tt te ei hei).und
          split at e
          · rename_i hek
            rw [hek] at hke
            simp only at hke
            subst hke
            split at e
            · rename_i xs
              injection e with e; injection e with e1 e2; subst e1 e2
              obtain ⟨cs, g1, rfl⟩ := SV.tv_iff.1 hx
              obtain ⟨A, c, rfl, g2, g3, g4⟩ := g1
              refine ⟨.string (bytesOf xs), ?_, mkStr_rel N h _⟩
              show (convert s d (.slice A xs.length c)).run P w = _
              rw [run_convert_bytes_string w s d te A _ _ hds hde hd]
              cases A with
              | none =>
                have := g3 rfl
                subst this
                simp [Conv.bytesToString, bytesOf]
                rfl
              | some ad =>
                rw [run_bytesToString w ad xs.length c xs, bytesOf_eq]
                have hl : (xs.map (Value.int .u8)).length = xs.length := by simp
                rw [← hl]
                refine run_loadCells_list w ad _ fun j v hv => ?_
                rw [List.getElem?_map] at hv
                cases hj : xs[j]? with
                | none => rw [hj] at hv; cases hv
                | some x =>
                  rw [hj] at hv
                  injection hv with hv; subst hv
                  obtain ⟨ds, q1, q2⟩ := g4 j x ad hj rfl
                  simp only [rep] at q1
                  subst q1
                  have := cell_of_hcell hM.pin (q2 0 _ rfl)
                  rw [add_add] at this
                  simpa [Ty.size] using this
            · cases e
          · cases e
        · cases e
      · cases e
    · cases e
end
end Go.Fr
