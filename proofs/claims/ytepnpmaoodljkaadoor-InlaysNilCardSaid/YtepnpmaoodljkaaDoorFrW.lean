/-
  A function's contract out of its verification condition; a law's row. Conditions: none.
-/
import Derived.Test.YtepnpmaoodljkaaDoorFrV
import Derived.Handed
namespace Go.Fr
open Go Go.RowKit Go.ChangeShapes Go.WideShapes Go.ChangeAt

def ctGet : List (FuncId × Contract) → FuncId → Option Contract
  | [], _ => none
  | (k, i) :: r, t => bif Nat.beq k t then some i else ctGet r t
def CtOk (P : Program) (G : Nat → Option ((t : Ty) × t.den)) (l : List (FuncId × Contract)) : Prop := ∀ f C, ctGet l f = some C → CallSpec P G f C
theorem ct_nil {P : Program} {G : Nat → Option ((t : Ty) × t.den)} : CtOk P G [] := fun f C h => by cases h
theorem ct_cons {P : Program} {G : Nat → Option ((t : Ty) × t.den)} {f : FuncId} {C : Contract} {l : List (FuncId × Contract)} (h : CallSpec P G f C) (r : CtOk P G l) : CtOk P G ((f, C) :: l) := by
  intro g D hg
  simp only [ctGet] at hg
  cases hb : Nat.beq f g with
  | true =>
    rw [hb] at hg
    have := Nat.eq_of_beq_eq_true hb
    subst this
    cases hg
    exact h
  | false =>
    rw [hb] at hg
    exact r g D hg

def bodyOf (f : Func) : Code := match f.body with | some c => c | none => .skip
def inlOf (f : Func) : Inl := ⟨bodyOf f, f.ntmps, f.results.toList⟩
def inlGet : List (FuncId × Func) → FuncId → Option Inl
  | [], _ => none
  | (k, i) :: r, t => bif Nat.beq k t then some (inlOf i) else inlGet r t
def IlOk (P : Program) (l : List (FuncId × Func)) : Prop := ∀ f F, inlGet l f = some F → InlOk P f F
theorem il_nil {P : Program} : IlOk P [] := fun f F h => by cases h
def inlB (fn : Func) : Bool := fn.body.isSome && fn.name != "runtime.NumGoroutine" && codeBd fn.ntmps (bodyOf fn)
theorem il_cons {P : Program} {f : FuncId} {fn : Func} {l : List (FuncId × Func)} (hf : P.funcs[f]? = some fn) (hk : inlB fn = true) (r : IlOk P l) : IlOk P ((f, fn) :: l) := by
  intro g F hg
  simp only [inlGet] at hg
  cases hb : Nat.beq f g with
  | true =>
    rw [hb] at hg
    have := Nat.eq_of_beq_eq_true hb
    subst this
    cases hg
    unfold inlB at hk
    simp only [Bool.and_eq_true] at hk
    refine ⟨⟨fn, hf, by simpa using hk.1.2, ?_, rfl, rfl⟩, hk.2⟩
    unfold inlOf bodyOf
    cases hbd : fn.body with
    | none => rw [hbd] at hk; simp at hk
    | some c => rfl
  | false =>
    rw [hb] at hg
    exact r g F hg

def hintGet : List (Nat × Nat × Hint) → Nat → Nat → Option Hint
  | [], _, _ => none
  | (b, r, h) :: l, b', r' => bif Nat.beq b b' && Nat.beq r r' then some h else hintGet l b' r'
/-- The tree's type to which a pointer's type belongs, by the table. -/
def ifcOf : List (TypeId × TI) → TypeId → Option Ty
  | [], _ => none
  | (_, i) :: r, t => match i.ty with
    | some (.nd tl ti l j) => bif Nat.beq tl t || Nat.beq ti t then some (.nd tl ti l j) else ifcOf r t
    | _ => ifcOf r t
def env (tab : List (TypeId × TI)) (l : List (FuncId × Contract)) (il : List (FuncId × Func)) (gl : Nat → Option ((t : Ty) × t.den)) (hs : List (Nat × Nat × Hint)) (nm : List Nat) : Env := ⟨tabGet tab, ctGet l, inlGet il, gl, hintGet hs, anyNat nm, fun _ => none, ifcOf tab⟩

def rctGet : List (FuncId × RContract) → FuncId → Option RContract
  | [], _ => none
  | (k, i) :: r, t => bif Nat.beq k t then some i else rctGet r t
def RctOk (P : Program) (l : List (FuncId × RContract)) : Prop := ∀ f C, rctGet l f = some C → RSpec P f C
theorem rct_nil {P : Program} : RctOk P [] := fun f C h => by cases h
theorem rct_cons {P : Program} {f : FuncId} {C : RContract} {l : List (FuncId × RContract)} (h : RSpec P f C) (r : RctOk P l) : RctOk P ((f, C) :: l) := by
  intro g D hg
  simp only [rctGet] at hg
  cases hb : Nat.beq f g with
  | true =>
    rw [hb] at hg
    have := Nat.eq_of_beq_eq_true hb
    subst this
    cases hg
    exact h
  | false =>
    rw [hb] at hg
    exact r g D hg
def envR (tab : List (TypeId × TI)) (l : List (FuncId × Contract)) (il : List (FuncId × Func)) (gl : Nat → Option ((t : Ty) × t.den)) (hs : List (Nat × Nat × Hint)) (nm : List Nat) (rl : List (FuncId × RContract)) : Env := ⟨tabGet tab, ctGet l, inlGet il, gl, hintGet hs, anyNat nm, rctGet rl, ifcOf tab⟩

def fnOk (fn : Func) (C : Contract) : Bool :=
  (match fn.body with | some c => codeBd fn.ntmps c | none => false) && fn.name != "runtime.NumGoroutine" && Nat.ble (C.arg.chain + C.tail.length) fn.ntmps && (C.one == Nat.beq fn.results.size 1) && (match C.own with | none => true | some _ => false)

theorem fn_spec {P : Program} {tab : List (TypeId × TI)} {l : List (FuncId × Contract)} {il : List (FuncId × Func)} {gl : Nat → Option ((t : Ty) × t.den)} {hs : List (Nat × Nat × Hint)} {nm : List Nat} {f : FuncId} {fn : Func} {C : Contract} (ht : tabOk P tab = true) (hm : P.follows .mixedOrders = true) (hc : CtOk P gl l) (hi : IlOk P il)
    (hf : P.funcs[f]? = some fn) (hk : fnOk fn C = true) (hv : fnVC (env tab l il gl hs nm) fn (bodyOf fn) C) : CallSpec P gl f C := by
  unfold fnOk at hk
  simp only [Bool.and_eq_true] at hk
  obtain ⟨⟨⟨⟨k1, k2⟩, k3⟩, k4⟩, k5⟩ := hk
  have k5 : C.own = none := by
    cases ho : C.own with
    | none => rfl
    | some _ => rw [ho] at k5; cases k5
  cases hb : fn.body with
  | none => rw [hb] at k1; cases k1
  | some c =>
    rw [hb] at k1
    have hbc : bodyOf fn = c := by unfold bodyOf; rw [hb]
    rw [hbc] at hv
    refine fn_sound (E := env tab l il gl hs nm) ⟨fun t ti h => tabOk_get tab ht t ti h, hc, hi, fun f C h => by cases h⟩ hm hf (by simpa using k2) hb k1 (Nat.le_of_ble_eq_true k3) ?_ k5 hv
    have k4 : C.one = Nat.beq fn.results.size 1 := by simpa using k4
    rw [k4]
    apply propext
    exact ⟨fun h => by rw [h]; rfl, Nat.eq_of_beq_eq_true⟩

theorem fn_specR {P : Program} {tab : List (TypeId × TI)} {l : List (FuncId × Contract)} {il : List (FuncId × Func)} {gl : Nat → Option ((t : Ty) × t.den)} {hs : List (Nat × Nat × Hint)} {nm : List Nat} {rl : List (FuncId × RContract)} {f : FuncId} {fn : Func} {C : Contract} (ht : tabOk P tab = true) (hm : P.follows .mixedOrders = true) (hc : CtOk P gl l) (hi : IlOk P il) (hr : RctOk P rl)
    (hf : P.funcs[f]? = some fn) (hk : fnOk fn C = true) (hv : fnVC (envR tab l il gl hs nm rl) fn (bodyOf fn) C) : CallSpec P gl f C := by
  unfold fnOk at hk
  simp only [Bool.and_eq_true] at hk
  obtain ⟨⟨⟨⟨k1, k2⟩, k3⟩, k4⟩, k5⟩ := hk
  have k5 : C.own = none := by
    cases ho : C.own with
    | none => rfl
    | some _ => rw [ho] at k5; cases k5
  cases hb : fn.body with
  | none => rw [hb] at k1; cases k1
  | some c =>
    rw [hb] at k1
    have hbc : bodyOf fn = c := by unfold bodyOf; rw [hb]
    rw [hbc] at hv
    refine fn_sound (E := envR tab l il gl hs nm rl) ⟨fun t ti h => tabOk_get tab ht t ti h, hc, hi, hr⟩ hm hf (by simpa using k2) hb k1 (Nat.le_of_ble_eq_true k3) ?_ k5 hv
    have k4 : C.one = Nat.beq fn.results.size 1 := by simpa using k4
    rw [k4]
    apply propext
    exact ⟨fun h => by rw [h]; rfl, Nat.eq_of_beq_eq_true⟩

/-! ### Functions that call themselves: by a measure of what they are handed -/
@[reducible] def Contract.cut (C : Contract) (μ : C.arg.den → Nat) (n : Nat) : Contract := { arg := C.arg, res := C.res, one := C.one, pre := fun x => C.pre x ∧ μ x < n, fn := C.fn, tail := C.tail, own := C.own }
theorem cut_all {P : Program} {G : Nat → Option ((t : Ty) × t.den)} {f : FuncId} {C : Contract} {μ : C.arg.den → Nat} (h : ∀ n, CallSpec P G f (C.cut μ n)) : CallSpec P G f C :=
  ⟨(h 0).1, fun x h' w args hp => (h (μ x + 1)).2 x h' w args ⟨hp, Nat.lt_succ_self _⟩⟩
theorem cut_zero {P : Program} {G : Nat → Option ((t : Ty) × t.den)} {f : FuncId} {C : Contract} {μ : C.arg.den → Nat} {fn : Func} (hf : P.funcs[f]? = some fn) (hk : fnOk fn C = true) : CallSpec P G f (C.cut μ 0) := by
  unfold fnOk at hk
  simp only [Bool.and_eq_true] at hk
  obtain ⟨⟨⟨⟨k1, k2⟩, k3⟩, k4⟩, k5⟩ := hk
  cases hb : fn.body with
  | none => rw [hb] at k1; cases k1
  | some c => exact ⟨⟨fn, c, hf, by simpa using k2, hb⟩, fun x h' w args hp => absurd hp.2 (Nat.not_lt_zero _)⟩

theorem law_lifted {C : Checked} {os : Os} {H : Type} {enc : TypeId × Value → H} {f : FuncId} {fn : Func} {A : Ty} {tb : TypeId} {s : ChangeSpec} {pre : A.den → Prop} {conds : List PathCond}
    (own : ownKnob C.prog.godebug = none) (started : os.Started) (noInit : C.prog.inits.idxOf? f = none) (hfn : C.prog.funcs[f]? = some fn)
    (witness : ∃ (w : World) (tape : Tape) (i : Input), w.os = os ∧ (w.forCall tape i).Shaped C.prog ∧ i.vars = [] ∧ Input.okWide C.prog (w.forCall tape i) .any w.heap.size f i ∧
      s.pre6 enc C.prog fn conds false (w.forCall tape i).memory i.args ∧ (({} : Assume)).holds C.prog (lone (Frame.enter C.prog f i.args .normal) [] (w.forCall tape i)))
    (hok : lawOk C.prog fn A tb = true) (hl : laidOutB C.prog = true) (hr : fn.resultTypes = #[tb]) (hs : s.vars = []) (hf : ∀ ds : List (DataW H), ds.length = fn.params.toList.length → s.fn H ds = { results := [.lit (.bool true)], args := ds })
    (hK : CallSpec C.prog noGl f (lawC A pre)) (hpre : ∀ y : A.den, wf A y → pre y) :
    ReturnsInHanded {} C os f .any (s.pre6 enc C.prog fn conds false) (s.post enc C.prog fn false true false false) := by
  refine returnsInHanded_of_change (C := C) own started noInit hfn witness ?_
  intro W base args ds gs before hval hW _ _
  exact law_post (β := fun _ => 0) (gl := noGl) (fun g T x hg => by cases hg) hok hl hr hs hf hK hval hW (fun y hy _ _ => hpre y hy)

/-- The same, where the data's sizes are needed: no slice has more elements, no text more bytes than a machine's memory. -/
theorem law_lifted_sized {C : Checked} {os : Os} {H : Type} {enc : TypeId × Value → H} {f : FuncId} {fn : Func} {A : Ty} {tb : TypeId} {s : ChangeSpec} {pre : A.den → Prop} {conds : List PathCond}
    (own : ownKnob C.prog.godebug = none) (started : os.Started) (noInit : C.prog.inits.idxOf? f = none) (hfn : C.prog.funcs[f]? = some fn)
    (witness : ∃ (w : World) (tape : Tape) (i : Input), w.os = os ∧ (w.forCall tape i).Shaped C.prog ∧ i.vars = [] ∧ Input.okWide C.prog (w.forCall tape i) .any w.heap.size f i ∧
      s.pre6 enc C.prog fn conds false (w.forCall tape i).memory i.args ∧ (({} : Assume)).holds C.prog (lone (Frame.enter C.prog f i.args .normal) [] (w.forCall tape i)))
    (hok : lawOk C.prog fn A tb = true) (hl : laidOutB C.prog = true) (hr : fn.resultTypes = #[tb]) (hs : s.vars = []) (hf : ∀ ds : List (DataW H), ds.length = fn.params.toList.length → s.fn H ds = { results := [.lit (.bool true)], args := ds })
    (hK : CallSpec C.prog noGl f (lawC A pre)) (hpre : ∀ y : A.den, wf A y → wfm 140737488355328 A y → pre y) :
    ReturnsInHanded {} C os f .any (s.pre6 enc C.prog fn conds false) (s.post enc C.prog fn false true false false) := by
  refine returnsInHanded_of_change_sized (C := C) own started noInit hfn witness ?_
  intro W base args ds gs before hval hW _ hz _
  refine law_post (β := fun _ => 0) (gl := noGl) (fun g T x hg => by cases hg) hok hl hr hs hf hK hval hW (fun y hy _ hm => hpre y hy (hm _ fun q hq => ?_))
  have h1 := List.all_eq_true.1 hz q ?_
  · have h2 := reachBytes_lt
    have h1 : q ≤ reachBytes := by simpa using h1
    omega
  · have hm : ∀ (ts us : List TypeId) (as bs : List (DataW H)), q ∈ DataW.weightsEach C.prog ts as → q ∈ DataW.weightsEach C.prog (ts ++ us) (as ++ bs) ∨ as.length < ts.length := by
      intro ts
      induction ts with
      | nil => intro us as bs h; simp [DataW.weightsEach] at h
      | cons t ts ih =>
        intro us as bs h
        cases as with
        | nil => exact .inr (by simp)
        | cons d as =>
          simp only [DataW.weightsEach, List.mem_append] at h
          simp only [List.cons_append, DataW.weightsEach, List.mem_append, List.length_cons]
          rcases h with h | h
          · exact .inl (.inl h)
          · rcases ih us as bs h with h | h
            · exact .inl (.inr h)
            · exact .inr (by omega)
    rcases hm fn.params.toList (s.plain.varTypes C.prog) ds gs hq with h | h
    · exact h
    · obtain ⟨p, q', hA, _⟩ := hW
      have := (Go.trodAll_length hA).2
      omega

/-- The same over a condition on the world: what package variables hold. -/
theorem law_lifted_laid {C : Checked} {os : Os} {H : Type} {enc : TypeId × Value → H} {f : FuncId} {fn : Func} {A : Ty} {tb : TypeId} {s : ChangeSpec} {pre : A.den → Prop} {conds : List PathCond} {gl : Nat → Option ((t : Ty) × t.den)} {X : World → Prop}
    (hX : ∀ (w w' : World), w.heap = w'.heap → X w → X w') (own : ownKnob C.prog.godebug = none) (started : os.Started) (noInit : C.prog.inits.idxOf? f = none) (hfn : C.prog.funcs[f]? = some fn)
    (witness : ∃ (w : World) (tape : Tape) (i : Input), w.os = os ∧ (w.forCall tape i).Shaped C.prog ∧ i.vars = [] ∧ Input.okWide C.prog (w.forCall tape i) .any w.heap.size f i ∧
      ((s.pre enc C.prog fn conds false (w.forCall tape i).memory i.args ∧ X (w.forCall tape i).memory) ∧ sizedMet enc C.prog fn (OpenSpec.ofChange s) false (w.forCall tape i).memory i.args) ∧ (({} : Assume)).holds C.prog (lone (Frame.enter C.prog f i.args .normal) [] (w.forCall tape i)))
    (hok : lawOk C.prog fn A tb = true) (hl : laidOutB C.prog = true) (hr : fn.resultTypes = #[tb]) (hs : s.vars = []) (hf : ∀ ds : List (DataW H), ds.length = fn.params.toList.length → s.fn H ds = { results := [.lit (.bool true)], args := ds })
    (hG : ∀ W : World, X W → GlobOk gl (heapOf W)) (hK : CallSpec C.prog gl f (lawC A pre)) (hpre : ∀ y : A.den, wf A y → pre y) :
    ReturnsInHanded {} C os f .any (fun w args => (s.pre enc C.prog fn conds false w args ∧ X w) ∧ sizedMet enc C.prog fn (OpenSpec.ofChange s) false w args) (s.post enc C.prog fn false true false false) := by
  refine returnsInHanded_of_change_and (C := C) (X := fun w _ => X w) (fun w w' _ hh h => hX w w' hh h) own started noInit hfn witness ?_
  intro W base args ds gs before hval hW _ _ hXW _
  exact law_post (β := fun _ => 0) (gl := gl) (hG W hXW) hok hl hr hs hf hK hval hW (fun y hy _ _ => hpre y hy)

/-! ### Numbers -/
theorem wrap_id {n : Int} (h0 : -9223372036854775808 ≤ n) (h1 : n ≤ 9223372036854775807) : IntKind.i64.wrap n = n := by
  have e : IntKind.i64.wrap n = if n % 18446744073709551616 ≥ 9223372036854775808 then n % 18446744073709551616 - 18446744073709551616 else n % 18446744073709551616 := by
    unfold IntKind.wrap
    have hb : IntKind.i64.bits = 64 := rfl
    have hs : IntKind.i64.signed = true := rfl
    rw [hb, hs]
    simp
  rw [e]
  split <;> omega
theorem wrap_succ {i : Nat} (h : i + 1 ≤ 9223372036854775807) : IntKind.i64.wrap ((i : Int) + 1) = ((i + 1 : Nat) : Int) := by
  rw [wrap_id (by omega) (by omega)]
  omega
theorem getD_of {α : Type} {l : List α} {i : Nat} (d : α) (h : i < l.length) : l.getD i d = l[i] := by simp [List.getD, h]
theorem all_take_succ {α : Type} {f : α → Bool} {l : List α} {i : Nat} (h : i < l.length) : (l.take (i + 1)).all f = ((l.take i).all f && f l[i]) := by
  rw [List.take_succ_eq_append_getElem h, List.all_append]
  simp
theorem foldl_take_succ {α β : Type} {f : β → α → β} {b : β} {l : List α} {i : Nat} (h : i < l.length) : (l.take (i + 1)).foldl f b = f ((l.take i).foldl f b) l[i] := by
  rw [List.take_succ_eq_append_getElem h, List.foldl_append]
  rfl
end Go.Fr
