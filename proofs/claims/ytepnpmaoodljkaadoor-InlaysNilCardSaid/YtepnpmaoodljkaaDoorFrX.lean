/-
  Functions that hand back slices of their own; functions that are handed a row. Conditions: none.
-/
import Derived.Test.YtepnpmaoodljkaaDoorFrW
namespace Go.Fr
open Go Go.RowKit
universe u

/-- What is handed back is a row of the call's own. -/
def retRow (E : Env) (b : Nat) (rs : List ResultVar) (T : Ty) (e : TypeId) (σ : St) (k : List T.den → Prop) : Prop :=
  match rs with
  | r :: [] => match resSV E b σ r with
    | some s => match s with
      | .leaf (.row q) => match getR σ.rows q with
        | some R => bif Nat.beq R.e e then popSlK T [.tv (.sl R.t) R.xs] False fun xs _ => k xs else False
        | none => False
      | .leaf (.raw (.slice none 0 0)) => k []
      | _ => False
    | none => False
  | _ => False
def retOwn (E : Env) (b : Nat) (rs : List ResultVar) (C : Contract) (x : C.arg.den) (σ : St) : Prop :=
  match C.own with
  | some e => ownK C.res (C.fn x) fun T want => retRow E b rs T e σ fun ys => ys = want
  | none => False
def fnVCO (E : Env) (fn : Func) (c : Code) (C : Contract) : Prop :=
  ∀ x, C.pre x → vc E (vcN E deep) bot (bot + fn.ntmps) c ⟨entrySlots C.arg x C.tail bot, [], []⟩ fun e σ => match e with
    | .normal => retOwn E bot fn.results.toList C x σ
    | .ret => retOwn E bot fn.results.toList C x σ
    | .exit _ => False
def fnVCR (E : Env) (fn : Func) (c : Code) (C : RContract) : Prop :=
  ∀ xs, C.pre xs → vc E (vcN E deep) bot (bot + fn.ntmps) c ⟨(0, .leaf (.row 999999999)) :: tailSlots C.tail 1, [], [(999999999, ⟨C.t, C.e, xs⟩)]⟩ fun e σ => match e with
    | .normal => retRow E bot fn.results.toList C.t C.e σ fun ys => C.post xs ys
    | .ret => retRow E bot fn.results.toList C.t C.e σ fun ys => C.post xs ys
    | .exit _ => False

section
variable {P : Program} {E : Env} {B : Nat} {w0 w : World} {h0 h : PHeap} {b : Nat} {u : Nat → Value} {n : Nat} {N : Names} {a : Act}

theorem ownK_back : {T : Ty} → {x : T.den} → {k : (t : Ty) → List t.den → Prop} → ownK T x k → ∃ (t : Ty) (xs : List t.den), k t xs ∧ ∀ {B : Nat} {w : World} {h : PHeap} {e : TypeId} {v : Value},
    ((∃ cs, w.ownsRow B e t.size v xs.length cs ∧ RowCells h t xs cs) ∧ ∀ g, v.ownBlock = some g → h g = none) → ownRep B w h e T x v
  | .sl t, xs, _, e => ⟨t, xs, e, fun h => h⟩
  | .bool, _, _, e => e.elim
  | .int _, _, _, e => e.elim
  | .str, _, _, e => e.elim
  | .unit, _, _, e => e.elim
  | .opt _, _, _, e => e.elim
  | .mp _ _, _, _, e => e.elim
  | .nd _ _ _ _, _, _, e => e.elim
  | .pair _ _, _, _, e => e.elim

/-- Data without addresses. -/
def Ty.flat : Ty → Bool
  | .sl _ => false
  | .opt _ => false
  | .mp _ _ => false
  | .nd _ _ _ _ => false
  | .pair a b => a.flat && b.flat
  | _ => true
theorem rep_flat {h h' : PHeap} : (t : Ty) → t.flat = true → (x : t.den) → (cs : List Value) → rep h t x cs → rep h' t x cs
  | .bool, _, _, _, e => e
  | .int _, _, _, _, e => e
  | .str, _, _, _, e => e
  | .unit, _, _, _, e => e
  | .sl _, hf, _, _, _ => by cases hf
  | .opt _, hf, _, _, _ => by cases hf
  | .mp _ _, hf, _, _, _ => by cases hf
  | .nd _ _ _ _, hf, _, _, _ => by cases hf
  | .pair a b, hf, x, _, ⟨c1, c2, e, h1, h2⟩ => by
    simp only [Ty.flat, Bool.and_eq_true] at hf
    exact ⟨c1, c2, e, rep_flat a hf.1 _ _ h1, rep_flat b hf.2 _ _ h2⟩
theorem RowCells_flat {h h' : PHeap} (t : Ty) (hf : t.flat = true) : (xs : List t.den) → (cs : List Value) → RowCells h t xs cs → RowCells h' t xs cs
  | [], _, e => e
  | x :: xs, _, ⟨d, r, e, h1, h2⟩ => ⟨d, r, e, rep_flat t hf x d h1, RowCells_flat t hf xs r h2⟩

theorem retRow_sound (hE : EnvOk P E) {σ : St} (hS : Sat B w0 h0 b u n σ N h a w) {rs : List ResultVar} {T : Ty} {e : TypeId} {k : List T.den → Prop} (he : retRow E b rs T e σ k) :
    ∃ v ys cs, rs.length = 1 ∧ (rs.mapM (resVal a.tmps)).run P w = .ok [v] w ∧ k ys ∧ w.ownsRow B e T.size v ys.length cs ∧ RowCells h T ys cs ∧ ∀ g, v.ownBlock = some g → h g = none := by
  unfold retRow at he
  split at he
  rotate_left
  · exact he.elim
  rename_i r
  split at he
  rotate_left
  · exact he.elim
  rename_i s hs
  obtain ⟨v, g1, g2⟩ := resSV_run hE hS hs
  have hrun : ([r].mapM (resVal a.tmps)).run P w = .ok [v] w := by
    simp only [List.mapM_cons, List.mapM_nil, Sem.run_bind, Sem.run_map, g1, Result.andThen_ok, Sem.run_pure]
  split at he
  · rename_i q
    split at he
    rotate_left
    · exact he.elim
    rename_i R hR
    cases hb : Nat.beq R.e e with
    | false => rw [hb] at he; exact he.elim
    | true =>
      have hee := Nat.eq_of_beq_eq_true hb
      rw [hb] at he
      simp only [cond_true, popSlK_eq, popSl] at he
      split at he
      rotate_left
      · exact he.elim
      rename_i xs rr hxs
      split at hxs
      rotate_left
      · cases hxs
      rename_i ht
      obtain ⟨T', te, ys0⟩ := R
      simp only at ht hee
      subst ht hee
      injection hxs with hxs
      injection hxs with hxs _
      subst hxs
      obtain ⟨cs, hown, hrc⟩ := hS.mem.row q _ hR
      simp only [SV.rel, Leaf.rel] at g2
      obtain ⟨rfl, _⟩ := g2
      exact ⟨_, ys0, cs, rfl, hrun, he, hown, hrc, fun g hg => hS.mem.rowh q _ g hR hg⟩
  · simp only [SV.rel, Leaf.rel] at g2
    subst g2
    exact ⟨_, [], [], rfl, hrun, he, World.ownsRow_nil w B _ _, rfl, fun g hg => by cases hg⟩
  · exact he.elim

theorem entry_sat {C : Contract} {fn : Func} {x : C.arg.den} {args : List Value} (hargs : trep h C.arg x args) (hpin : PIn h w) (hpn : C.arg.chain + C.tail.length ≤ fn.ntmps) :
    Sat w.heap.size w h bot (fun _ => undef) fn.ntmps ⟨entrySlots C.arg x C.tail bot, [], []⟩ ⟨fun k => k, fun _ => .nilFunc⟩ h { tmps := (args ++ tailVals C.tail).toArray ++ Array.replicate (fn.ntmps - (args ++ tailVals C.tail).toArray.size) undef, defers := [] } w := by
  have hlen := trep_len C.arg x args hargs
  have htl : (tailVals C.tail).length = C.tail.length := by simp [tailVals]
  refine ⟨⟨Below.refl _ _, Nat.le_refl _, hpin, fun i b hh => (by cases hh), fun i j b c hh => (by cases hh), fun r R hh => (by cases hh), fun r R g hh => (by cases hh), fun r R g i b hh => (by cases hh), fun r s R S g hh => (by cases hh)⟩, PLe.refl h, fun k hk => .inl hk, ?_, ?_, rfl⟩
  · intro t
    have hv0 : ∀ a : Act, vals bot (fun _ => undef) a t = a.tmps.getD t undef := fun a => by
      unfold vals bot
      rw [if_neg (by omega), Nat.sub_zero]
    rw [hv0]
    refine params_sat C.arg x C.tail args hargs bot _ (fun j v hj => ?_) t
    have hlt : j < (args ++ tailVals C.tail).length := (List.getElem?_eq_some_iff.1 hj).1
    unfold bot
    rw [Nat.zero_add, Array.getD_eq_getD_getElem?, Array.getElem?_append_left (by simpa using hlt)]
    simp [hj]
  · simp
    omega

theorem fn_own_sound (hE : EnvOk P E) (hm : P.follows .mixedOrders = true) {f : FuncId} {fn : Func} {c : Code} {C : Contract} (hf : P.funcs[f]? = some fn) (hname : fn.name ≠ "runtime.NumGoroutine") (hb : fn.body = some c)
    (hbd : codeBd fn.ntmps c = true) (hpn : C.arg.chain + C.tail.length ≤ fn.ntmps) (hv : fnVCO E fn c C) : CallSpec P E.gl f C := by
  refine ⟨⟨fn, c, hf, hname, hb⟩, ?_⟩
  intro x h w args hpre hargs hpin hG
  refine calls_of_wp hf hb ?_
  refine vc_sound hE hm (vcN_sound hE hm deep) hG c hbd _ _ _ _ h _ w (hv x hpre) (entry_sat hargs hpin hpn) ?_
  have fin : ∀ σ N h' a' w', retOwn E bot fn.results.toList C x σ → Sat w.heap.size w h bot (fun _ => undef) fn.ntmps σ N h' a' w' → a'.defers = [] ∧ ∃ v, (results fn a'.tmps).run P w' = .ok v w' ∧
      ∃ u h2, Ending.returned v = .returned u ∧ PLe h h2 ∧ (∀ k, h2 k ≠ none → h k ≠ none ∨ w.heap.size ≤ k) ∧ PIn h2 w' ∧ resOr w.heap.size w' h2 C (C.fn x) u ∧ Below w.heap.size w w' := by
    intro σ N h' a' w' e hS'
    refine ⟨hS'.defers, ?_⟩
    unfold retOwn at e
    split at e
    rotate_left
    · exact e.elim
    rename_i te hown
    obtain ⟨T, want, e, hrep⟩ := ownK_back e
    obtain ⟨v, ys, cs, hl, hrun, rfl, q1, q2, q3⟩ := retRow_sound hE hS' e
    have hres : (results fn a'.tmps).run P w' = .ok v w' := by
      rw [results_eq, Array.mapM_eq_mapM_toList]
      simp only [Sem.run_bind, Sem.run_map, hrun, Result.andThen_ok, Sem.run_pure]
      rfl
    refine ⟨v, hres, v, h', rfl, hS'.grow, hS'.dom, hS'.mem.pin, ?_, hS'.mem.below⟩
    unfold resOr
    rw [hown]
    exact hrep ⟨⟨cs, q1, q2⟩, q3⟩
  intro ex σ N h' a' w' he hS'
  cases ex with
  | normal => exact fin σ N h' a' w' he hS'
  | exit i => exact he.elim
  | ret => exact fin σ N h' a' w' he hS'

theorem fn_row_sound (hE : EnvOk P E) (hgl : E.gl = noGl) (hm : P.follows .mixedOrders = true) {f : FuncId} {fn : Func} {c : Code} {C : RContract} (hf : P.funcs[f]? = some fn) (hname : fn.name ≠ "runtime.NumGoroutine") (hb : fn.body = some c)
    (hbd : codeBd fn.ntmps c = true) (hpn : 1 + C.tail.length ≤ fn.ntmps) (hback : C.back = true) (hflat : C.t.flat = true) (hv : fnVCR E fn c C) : RSpec P f C := by
  refine ⟨⟨fn, c, hf, hname, hb⟩, ?_⟩
  intro xs h w B v cs hpre hpin hB hown hrc hfr
  refine calls_of_wp hf hb ?_
  -- all that lies there, but the row's own block
  obtain ⟨hh, hhd⟩ : ∃ hh : PHeap, hh = fun k => if v.ownBlock = some k then none else w.heap[k]? := ⟨_, rfl⟩
  have hle : PLe h hh := fun k o hk => by
    rw [hhd]
    simp only
    rw [if_neg (fun e => by rw [hfr k e] at hk; cases hk)]
    exact hpin k o hk
  have hpin' : PIn hh w := fun k o hk => by
    rw [hhd] at hk
    simp only at hk
    split at hk
    · cases hk
    · exact hk
  have htl : (tailVals C.tail).length = C.tail.length := by simp [tailVals]
  have hone : v.oneCell' = true := by
    rcases hown.2 with ⟨e0, _⟩ | ⟨g, cap, cur, e0, _⟩ <;> rw [e0] <;> rfl
  have hG : GlobOk E.gl hh := fun g T x hg => by rw [hgl] at hg; cases hg
  have hS : Sat 0 w hh bot (fun _ => undef) fn.ntmps ⟨(0, .leaf (.row 999999999)) :: tailSlots C.tail 1, [], [(999999999, ⟨C.t, C.e, xs⟩)]⟩ ⟨fun k => k, fun _ => v⟩ hh { tmps := ([v] ++ tailVals C.tail).toArray ++ Array.replicate (fn.ntmps - ([v] ++ tailVals C.tail).toArray.size) undef, defers := [] } w := by
    have hget : ∀ r R, getR [(999999999, (⟨C.t, C.e, xs⟩ : RowS))] r = some R → r = 999999999 ∧ R = ⟨C.t, C.e, xs⟩ := by
      intro r R hR
      rw [getR_cons] at hR
      split at hR
      · rename_i e
        injection hR with hR
        exact ⟨e.symm, hR.symm⟩
      · cases hR
    refine ⟨⟨Below.refl _ _, Nat.zero_le _, hpin', fun i b hh => (by cases hh), fun i j b c hh => (by cases hh), ?_, ?_, fun r R g i b _ _ hh => (by cases hh), ?_⟩, PLe.refl hh, fun k hk => .inl hk, ?_, ?_, rfl⟩
    · intro r R hR
      obtain ⟨rfl, rfl⟩ := hget r R hR
      exact ⟨cs, ownsRow_base hown (Nat.zero_le _), RowCells_mono hle _ _ _ hrc⟩
    · intro r R g hR hg
      rw [hhd]
      simp only at hg ⊢
      rw [if_pos hg]
    · intro r s R S g hR hS _ _
      rw [(hget r R hR).1, (hget s S hS).1]
    · intro t
      have hv0 : ∀ a : Act, vals bot (fun _ => undef) a t = a.tmps.getD t undef := fun a => by
        unfold vals bot
        rw [if_neg (by omega), Nat.sub_zero]
      rw [hv0]
      rw [getS_cons]
      split
      · rename_i e
        subst e
        simp only [SV.rel, Leaf.rel]
        rw [Array.getD_eq_getD_getElem?, Array.getElem?_append_left (by simp)]
        simp [hone]
      · refine tails_sat C.tail 1 _ (fun j u hj => ?_) t
        have hlt : j < (tailVals C.tail).length := (List.getElem?_eq_some_iff.1 hj).1
        rw [Array.getD_eq_getD_getElem?, Array.getElem?_append_left (by simp; omega)]
        simp [Nat.add_comm 1 j, hj]
    · simp
      omega
  refine vc_sound hE hm (vcN_sound hE hm deep) hG c hbd _ _ _ _ hh _ w (hv xs hpre) hS ?_
  have fin : ∀ σ N h' a' w', retRow E bot fn.results.toList C.t C.e σ (fun ys => C.post xs ys) → Sat 0 w hh bot (fun _ => undef) fn.ntmps σ N h' a' w' → a'.defers = [] ∧ ∃ r, (results fn a'.tmps).run P w' = .ok r w' ∧
      ∃ u v' ys cs', Ending.returned r = .returned u ∧ C.post xs ys ∧ w'.ownsRow B C.e C.t.size v' ys.length cs' ∧ RowCells h C.t ys cs' ∧ GrownBy w w' v.ownBlock ∧
        (∀ g, v'.ownBlock = some g → v.ownBlock = some g ∨ w.heap.size ≤ g) ∧ (match C.back with | true => u = v' | false => v' = v) := by
    intro σ N h' a' w' e hS'
    refine ⟨hS'.defers, ?_⟩
    obtain ⟨v', ys, cs', hl, hrun, hpost, q1, q2, q3⟩ := retRow_sound hE hS' e
    have hres : (results fn a'.tmps).run P w' = .ok v' w' := by
      rw [results_eq, Array.mapM_eq_mapM_toList]
      simp only [Sem.run_bind, Sem.run_map, hrun, Result.andThen_ok, Sem.run_pure]
      rfl
    have hwhere : ∀ g, v'.ownBlock = some g → v.ownBlock = some g ∨ w.heap.size ≤ g := by
      intro g hg
      rcases Nat.lt_or_ge g w.heap.size with hl | hl
      · by_cases hvg : v.ownBlock = some g
        · exact .inl hvg
        · have h1 : hh g = w.heap[g]? := by rw [hhd]; simp only; rw [if_neg hvg]
          have h2 : w.heap[g]? = some w.heap[g] := Array.getElem?_eq_getElem hl
          have h3 := hS'.grow g _ (h1.trans h2)
          rw [q3 g hg] at h3
          cases h3
      · exact .inr hl
    have hgrown : GrownBy w w' v.ownBlock := ⟨hS'.mem.below.os, hS'.mem.below.tape, hS'.mem.below.output, hS'.mem.below.size, (fun k hk hne => by
      have h1 : hh k = w.heap[k]? := by rw [hhd]; simp only; rw [if_neg (fun e => hne e.symm)]
      have h2 : w.heap[k]? = some w.heap[k] := Array.getElem?_eq_getElem hk
      rw [h2]
      exact hS'.mem.pin k _ (hS'.grow k _ (h1.trans h2))), hS'.mem.below.drawn⟩
    refine ⟨v', hres, v', v', ys, cs', rfl, hpost, ⟨q1.1, ?_⟩, RowCells_flat C.t hflat ys cs' q2, hgrown, hwhere, by rw [hback]⟩
    rcases q1.2 with h0 | ⟨g, cap, cur, e1, _, e2⟩
    · exact .inl h0
    · refine .inr ⟨g, cap, cur, e1, ?_, e2⟩
      rcases hwhere g (by rw [e1]; rfl) with hg | hg
      · exact (hown.lt g hg).1
      · omega
  intro ex σ N h' a' w' he hS'
  cases ex with
  | normal => exact fin σ N h' a' w' he hS'
  | exit i => exact he.elim
  | ret => exact fin σ N h' a' w' he hS'

def fnOkO (fn : Func) (C : Contract) : Bool :=
  (match fn.body with | some c => codeBd fn.ntmps c | none => false) && fn.name != "runtime.NumGoroutine" && Nat.ble (C.arg.chain + C.tail.length) fn.ntmps
def fnOkR (fn : Func) (C : RContract) : Bool :=
  (match fn.body with | some c => codeBd fn.ntmps c | none => false) && fn.name != "runtime.NumGoroutine" && Nat.ble (1 + C.tail.length) fn.ntmps && C.back && C.t.flat
theorem env_ok {P : Program} {tab : List (TypeId × TI)} {l : List (FuncId × Contract)} {il : List (FuncId × Func)} {gl : Nat → Option ((t : Ty) × t.den)} {hs : List (Nat × Nat × Hint)} {nm : List Nat} {rl : List (FuncId × RContract)} (ht : tabOk P tab = true) (hc : CtOk P gl l) (hi : IlOk P il) (hr : RctOk P rl) :
    EnvOk P (envR tab l il gl hs nm rl) := ⟨fun t ti h => tabOk_get tab ht t ti h, hc, hi, hr⟩
theorem fn_specO {P : Program} {tab : List (TypeId × TI)} {l : List (FuncId × Contract)} {il : List (FuncId × Func)} {gl : Nat → Option ((t : Ty) × t.den)} {hs : List (Nat × Nat × Hint)} {nm : List Nat} {rl : List (FuncId × RContract)} {f : FuncId} {fn : Func} {C : Contract} (ht : tabOk P tab = true) (hm : P.follows .mixedOrders = true) (hc : CtOk P gl l) (hi : IlOk P il) (hr : RctOk P rl)
    (hf : P.funcs[f]? = some fn) (hk : fnOkO fn C = true) (hv : fnVCO (envR tab l il gl hs nm rl) fn (bodyOf fn) C) : CallSpec P gl f C := by
  unfold fnOkO at hk
  simp only [Bool.and_eq_true] at hk
  obtain ⟨⟨k1, k2⟩, k3⟩ := hk
  cases hb : fn.body with
  | none => rw [hb] at k1; cases k1
  | some c =>
    rw [hb] at k1
    have hbc : bodyOf fn = c := by unfold bodyOf; rw [hb]
    rw [hbc] at hv
    exact fn_own_sound (E := envR tab l il gl hs nm rl) (env_ok ht hc hi hr) hm hf (by simpa using k2) hb k1 (Nat.le_of_ble_eq_true k3) hv
theorem fn_specRow {P : Program} {tab : List (TypeId × TI)} {l : List (FuncId × Contract)} {il : List (FuncId × Func)} {hs : List (Nat × Nat × Hint)} {nm : List Nat} {rl : List (FuncId × RContract)} {f : FuncId} {fn : Func} {C : RContract} (ht : tabOk P tab = true) (hm : P.follows .mixedOrders = true) (hc : CtOk P noGl l) (hi : IlOk P il) (hr : RctOk P rl)
    (hf : P.funcs[f]? = some fn) (hk : fnOkR fn C = true) (hv : fnVCR (envR tab l il noGl hs nm rl) fn (bodyOf fn) C) : RSpec P f C := by
  unfold fnOkR at hk
  simp only [Bool.and_eq_true] at hk
  obtain ⟨⟨⟨⟨k1, k2⟩, k3⟩, k4⟩, k5⟩ := hk
  cases hb : fn.body with
  | none => rw [hb] at k1; cases k1
  | some c =>
    rw [hb] at k1
    have hbc : bodyOf fn = c := by unfold bodyOf; rw [hb]
    rw [hbc] at hv
    exact fn_row_sound (E := envR tab l il noGl hs nm rl) (env_ok ht hc hi hr) rfl hm hf (by simpa using k2) hb k1 (Nat.le_of_ble_eq_true k3) k4 k5 hv
end
/-- An order of two data. -/
def cOrd (T : Ty) (cf : T.den → T.den → Int) : Contract := { arg := .pair T (.pair T .unit), res := .int .i64, one := true, pre := fun _ => True, fn := fun x => cf x.1 x.2.1 }
/-- Sorted by an order. -/
def sortBy {α : Type} (cf : α → α → Int) (l : List α) : List α := l.mergeSort fun x y => !decide (cf y x < 0)
end Go.Fr
