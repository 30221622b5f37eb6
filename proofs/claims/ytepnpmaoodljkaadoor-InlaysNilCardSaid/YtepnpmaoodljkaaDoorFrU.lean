/-
  The table of types that a walk uses, held against the program's own. Conditions: none.
-/
import Derived.Test.YtepnpmaoodljkaaDoorFrT
namespace Go.Fr
open Go Go.RowKit
universe u

def zeroLeaf (l : Leaf) (v : Value) : Bool :=
  match l with
  | .blit b => (match v with | .bool c => b == c | _ => false)
  | .tv (.int k) n => (match v with | .int k' m => sameKind k k' && decide ((n : Int) = m) | _ => false)
  | .tv .str s => (match v with | .string s' => Nat.beq (ByteArray.size s) 0 && Nat.beq s'.size 0 | _ => false)
  | .raw (.pointer none) => (match v with | .pointer none => true | _ => false)
  | .raw (.slice none 0 0) => (match v with | .slice none 0 0 => true | _ => false)
  | .raw (.map none) => (match v with | .map none => true | _ => false)
  | .raw .nilFunc => (match v with | .nilFunc => true | _ => false)
  | .raw .nilIface => (match v with | .nilIface => true | _ => false)
  | _ => false
def zeroLeaves : List Leaf → List Value → Bool
  | [], [] => true
  | l :: ls, v :: vs => zeroLeaf l v && zeroLeaves ls vs
  | _, _ => false

theorem bytes_empty {s : ByteArray} (h : s.size = 0) : s = ByteArray.empty := by
  obtain ⟨⟨l⟩⟩ := s
  have : l = [] := List.eq_nil_of_length_eq_zero h
  subst this
  rfl

theorem zeroLeaf_rel {l : Leaf} {v : Value} (e : zeroLeaf l v = true) : (∀ N h, l.rel N h v) ∧ v.oneCell' = true := by
  unfold zeroLeaf at e
  split at e
  · split at e
    · have := eq_of_beq e
      subst this
      exact ⟨fun N h => by simp only [Leaf.rel], rfl⟩
    · cases e
  · split at e
    · simp only [Bool.and_eq_true, decide_eq_true_eq] at e
      have := sameKind_eq e.1
      subst this
      obtain ⟨_, e2⟩ := e
      subst e2
      exact ⟨fun N h => SV.leaf_iff.1 (mkInt_rel N h _ _), rfl⟩
    · cases e
  · split at e
    · simp only [Bool.and_eq_true] at e
      have h1 := bytes_empty (Nat.eq_of_beq_eq_true e.1)
      have h2 := bytes_empty (Nat.eq_of_beq_eq_true e.2)
      rw [h1, h2]
      exact ⟨fun N h => SV.leaf_iff.1 (mkStr_rel N h _), rfl⟩
    · cases e
  · split at e
    · exact ⟨fun N h => by simp only [Leaf.rel], rfl⟩
    · cases e
  · split at e
    · exact ⟨fun N h => by simp only [Leaf.rel], rfl⟩
    · cases e
  · split at e
    · exact ⟨fun N h => by simp only [Leaf.rel], rfl⟩
    · cases e
  · split at e
    · exact ⟨fun N h => by simp only [Leaf.rel], rfl⟩
    · cases e
  · split at e
    · exact ⟨fun N h => by simp only [Leaf.rel], rfl⟩
    · cases e
  · cases e
theorem zeroLeaves_rel : {ls : List Leaf} → {vs : List Value} → zeroLeaves ls vs = true → ZeroCells ls vs ∧ ∀ u ∈ vs, u.oneCell' = true
  | [], [], _ => ⟨fun _ _ => LeafRels.nil _ _, by simp⟩
  | l :: ls, v :: vs, e => by
    simp only [zeroLeaves, Bool.and_eq_true] at e
    obtain ⟨h1, h2⟩ := zeroLeaf_rel e.1
    obtain ⟨h3, h4⟩ := zeroLeaves_rel e.2
    refine ⟨fun N h => LeafRels.cons (h1 N h) (h3 N h), fun u hu => ?_⟩
    rcases List.mem_cons.1 hu with e | e
    · subst e; exact h2
    · exact h4 u e
  | [], _ :: _, e => by cases e
  | _ :: _, [], e => by cases e

def structOk (P : Program) : List (Nat × Nat × Bool) → List Field → Bool
  | [], [] => true
  | f :: fs, g :: gs => Nat.beq g.offset f.1 && (match P.info? g.type, P.underlying g.type with
      | some i, some e => Nat.beq i.size f.2.1 && (aggDesc e == f.2.2)
      | _, _ => false) && structOk P fs gs
  | _, _ => false
theorem structOk_get {P : Program} : (fs : List (Nat × Nat × Bool)) → (gs : List Field) → structOk P fs gs = true → gs.length = fs.length ∧ ∀ (n : Nat) f, fs[n]? = some f → ∃ g i e, gs[n]? = some g ∧ g.offset = f.1 ∧ P.info? g.type = some i ∧ i.size = f.2.1 ∧ P.underlying g.type = some e ∧ aggDesc e = f.2.2
  | [], [], _ => ⟨rfl, fun n f hf => by simp at hf⟩
  | f :: fs, g :: gs, h => by
    simp only [structOk, Bool.and_eq_true] at h
    obtain ⟨⟨h1, h2⟩, h3⟩ := h
    split at h2
    · rename_i i e hi he
      simp only [Bool.and_eq_true] at h2
      obtain ⟨l1, l2⟩ := structOk_get fs gs h3
      refine ⟨by simp [l1], fun n x hx => ?_⟩
      cases n with
      | zero =>
        simp at hx; subst hx
        exact ⟨g, i, e, rfl, Nat.eq_of_beq_eq_true h1, hi, Nat.eq_of_beq_eq_true h2.1, he, by simpa using h2.2⟩
      | succ n => 
        obtain ⟨g', i', e', q1, q2⟩ := l2 n x (by simpa using hx)
        exact ⟨g', i', e', by simpa using q1, q2⟩
    · cases h2
  | [], _ :: _, e => by cases e
  | _ :: _, [], e => by cases e

def kindOk (P : Program) (d : TypeDesc) (k : TK) : Bool :=
  match k with
  | .bool => (match d with | .bool => true | _ => false)
  | .int k => (match d with | .int k' => sameKind k' k | _ => false)
  | .str => (match d with | .string => true | _ => false)
  | .struct fs => (match d with | .struct gs => structOk P fs gs.toList | _ => false)
  | .array n e es => (match d with | .array n' e' => Nat.beq n n' && Nat.beq e e' && (match P.info? e with | some i => Nat.beq i.size es | none => false) | _ => false)
  | .slice e => (match d with | .slice e' => Nat.beq e e' | _ => false)
  | .ptr e => (match d with | .pointer e' => Nat.beq e e' | _ => false)
  | .map k e => (match d with | .map k' e' => Nat.beq k k' && Nat.beq e e' && keyB P k && zeroMB P e | _ => false)
  | .iface => (match d with | .interface ms => ms.isEmpty | _ => false)
  | .other => true

def checkTI (P : Program) (t : TypeId) (ti : TI) : Bool :=
  match P.info? t with
  | none => false
  | some i => match P.underlying t with
    | none => false
    | some d => Nat.beq i.size ti.size && Nat.beq i.bytes ti.bytes && (bif Nat.beq ti.zero.length ti.size then (match i.zero with | some z => zeroLeaves ti.zero z.cells.toList | none => false) else true) &&
      (aggDesc d == ti.isAgg) && kindOk P d ti.k && (match ti.k with | .ptr _ => zeroMB P t | _ => true) && (match ti.ty with
        | none => true
        | some T => Nat.beq T.size ti.size && (T.isAgg == ti.isAgg) && (bif T.plain then eqTy P 100 t T && (bif T.isAgg then !(P.eqGuardType P.depth t) else true) else true))

theorem kindOk_struct {P : Program} {d : TypeDesc} {fs : List (Nat × Nat × Bool)} (h : kindOk P d (.struct fs) = true) :
    ∃ gs, d = .struct gs ∧ structOk P fs gs.toList = true := by
  cases d <;> first | (cases h; done) | exact ⟨_, rfl, h⟩

theorem checkTI_ok {P : Program} {t : TypeId} {ti : TI} (h : checkTI P t ti = true) : TIok P t ti := by
  unfold checkTI at h
  split at h
  · cases h
  · rename_i i hi
    split at h
    · cases h
    · rename_i d hd
      simp only [Bool.and_eq_true] at h
      obtain ⟨⟨⟨⟨⟨⟨h1, h2⟩, h3⟩, h4⟩, h5⟩, h5z⟩, h6⟩ := h
      have h4 : aggDesc d = ti.isAgg := by simpa using h4
      refine ⟨⟨i, hi, Nat.eq_of_beq_eq_true h1, Nat.eq_of_beq_eq_true h2, fun hz => ?_⟩, ⟨d, hd, h4, ?_⟩, ?_, fun e he => by rw [he] at h5z; exact h5z⟩
      · rw [hz, Nat.beq_refl] at h3
        simp only [cond_true] at h3
        split at h3
        · rename_i z hzz
          obtain ⟨g1, g2⟩ := zeroLeaves_rel h3
          exact ⟨z, hzz, z.cells.toList, by simp, g1, g2⟩
        · cases h3
      · have h5' := h5
        unfold kindOk at h5
        split at h5
        · rename_i hk
          rw [hk]
          split at h5
          · rfl
          · cases h5
        · rename_i k hk
          rw [hk]
          split at h5
          · simp only; rw [sameKind_eq h5]
          · cases h5
        · rename_i hk
          rw [hk]
          split at h5
          · rfl
          · cases h5
        · rename_i fs hk
          rw [hk]
          rw [hk] at h5'
          obtain ⟨gs, rfl, h5⟩ := kindOk_struct h5'
          obtain ⟨g1, g2⟩ := structOk_get fs gs.toList h5
          refine ⟨gs, rfl, by simpa using g1, fun n f hf => ?_⟩
          obtain ⟨g, j, e, q1, q2⟩ := g2 n f hf
          exact ⟨g, j, e, by simpa using q1, q2⟩
        · rename_i n e es hk
          rw [hk]
          split at h5
          · simp only [Bool.and_eq_true] at h5
            obtain ⟨⟨p1, p2⟩, p3⟩ := h5
            split at p3
            · rename_i j hj
              refine ⟨by rw [Nat.eq_of_beq_eq_true p1, Nat.eq_of_beq_eq_true p2], j, hj, Nat.eq_of_beq_eq_true p3⟩
            · cases p3
          · cases h5
        · rename_i e hk
          rw [hk]
          split at h5
          · simp only; rw [Nat.eq_of_beq_eq_true h5]
          · cases h5
        · rename_i e hk
          rw [hk]
          split at h5
          · simp only; rw [Nat.eq_of_beq_eq_true h5]
          · cases h5
        · rename_i k e hk
          rw [hk]
          split at h5
          · simp only [Bool.and_eq_true] at h5
            obtain ⟨⟨⟨p1, p2⟩, p3⟩, p4⟩ := h5
            exact ⟨by rw [Nat.eq_of_beq_eq_true p1, Nat.eq_of_beq_eq_true p2], p3, p4⟩
          · cases h5
        · rename_i hk
          rw [hk]
          split at h5
          · simp only
            rw [Array.isEmpty_iff.1 h5]
          · cases h5
        · rename_i hk
          rw [hk]
          trivial
      · intro T hT
        rw [hT] at h6
        simp only [Bool.and_eq_true] at h6
        obtain ⟨⟨q1, q2⟩, q3⟩ := h6
        have q2 : T.isAgg = ti.isAgg := by simpa using q2
        refine ⟨Nat.eq_of_beq_eq_true q1, q2, fun hp => ?_⟩
        rw [hp] at q3
        simp only [cond_true, Bool.and_eq_true] at q3
        intro x y h cs ds w xo yo op hx hy
        have heq : (Op.equal t (T.val cs) (T.val ds)).run P w = .ok (T.beq x y) w := eqTy_run 100 10000 (by decide) t T q3.1 x y cs ds w hx hy
        refine ⟨?_, heq⟩
        cases ha : T.isAgg with
        | true =>
          rw [ha] at q3
          simp only [cond_true, Bool.not_eq_true'] at q3
          rw [agg_of_agg ha, agg_of_agg ha]
          exact run_eqGuard_agg w op t xo yo _ _ q3.2
        | false =>
          cases T with
          | bool => simp only [rep] at hx hy; subst hx hy; cases op <;> simp [eqGuard, Ty.val]
          | int k => simp only [rep] at hx hy; subst hx hy; cases op <;> simp [eqGuard, Ty.val]
          | str => simp only [rep] at hx hy; subst hx hy; cases op <;> simp [eqGuard, Ty.val]
          | sl t => cases hp
          | opt t => cases hp
          | mp _ _ => cases hp
          | nd _ _ _ _ => cases hp
          | unit => cases ha
          | pair a b => cases ha

/-- A table, row by row. -/
def tabGet : List (TypeId × TI) → TypeId → Option TI
  | [], _ => none
  | (k, i) :: r, t => bif Nat.beq k t then some i else tabGet r t
def tabOk (P : Program) : List (TypeId × TI) → Bool
  | [] => true
  | (k, i) :: r => checkTI P k i && tabOk P r
theorem tabOk_get {P : Program} : (l : List (TypeId × TI)) → tabOk P l = true → ∀ t ti, tabGet l t = some ti → TIok P t ti
  | [], _, t, ti, h => by cases h
  | (k, i) :: r, e, t, ti, h => by
    simp only [tabOk, Bool.and_eq_true] at e
    simp only [tabGet] at h
    cases hb : Nat.beq k t with
    | true =>
      rw [hb] at h
      simp only [cond_true] at h
      injection h with h
      subst h
      rw [← Nat.eq_of_beq_eq_true hb]
      exact checkTI_ok e.1
    | false =>
      rw [hb] at h
      exact tabOk_get r e.2 t ti h
end Go.Fr
