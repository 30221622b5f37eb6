/-
  A function by its contract. Conditions: none.
-/
import Derived.Test.YtepnpmaoodljkaaDoorFrP
namespace Go.Fr
open Go Go.RowKit
universe u

def Ty.chain : Ty → Nat
  | .pair _ b => b.chain + 1
  | _ => 0

section
variable {P : Program} {E : Env} {B : Nat} {w0 w : World} {h0 h : PHeap} {b : Nat} {u : Nat → Value} {n : Nat} {N : Names} {a : Act}

theorem trep_len : (t : Ty) → (x : t.den) → (vs : List Value) → trep h t x vs → vs.length = t.chain
  | .unit, _, _, e => by simp only [trep] at e; subst e; rfl
  | .pair a b, x, _, ⟨v, r, e, _, h2⟩ => by subst e; simp [Ty.chain, trep_len b x.2 r h2]
  | .bool, _, _, e => e.elim
  | .int _, _, _, e => e.elim
  | .str, _, _, e => e.elim
  | .sl _, _, _, e => e.elim
  | .opt _, _, _, e => e.elim
  | .mp _ _, _, _, e => e.elim
  | .nd _ _ _ _, _, _, e => e.elim

theorem tails_sat : (tl : List FuncId) → (i : Nat) → ∀ (tmps : Array Value), (∀ (j : Nat) v, (tailVals tl)[j]? = some v → tmps.getD (i + j) undef = v) → ∀ k, (getS (tailSlots tl i) k).rel N h (tmps.getD k undef)
  | [], _, _, _, _ => SV.leaf_iff.2 (by simp only [Leaf.rel])
  | f :: r, i, tmps, hv, k => by
    simp only [tailSlots]
    rw [getS_cons]
    split
    · rename_i hk
      subst hk
      have := hv 0 _ rfl
      rw [Nat.add_zero] at this
      rw [this]
      exact SV.leaf_iff.2 (by simp only [Leaf.rel])
    · exact tails_sat r (i + 1) tmps (fun j u hu => by
        have := hv (j + 1) u (by simpa [tailVals] using hu)
        rw [← this]
        congr 1
        omega) k
theorem params_sat : (t : Ty) → (x : t.den) → (tl : List FuncId) → (vs : List Value) → trep h t x vs → (i : Nat) → ∀ (tmps : Array Value), (∀ (j : Nat) v, (vs ++ tailVals tl)[j]? = some v → tmps.getD (i + j) undef = v) → ∀ k, (getS (entrySlots t x tl i) k).rel N h (tmps.getD k undef)
  | .pair a b, x, tl, _, ⟨v, r, e, h1, h2⟩, i, tmps, hv, k => by
    subst e
    simp only [entrySlots]
    rw [getS_cons]
    split
    · rename_i hk
      subst hk
      have := hv 0 v rfl
      rw [Nat.add_zero] at this
      rw [this]
      exact SV.tv_iff.2 h1
    · exact params_sat b x.2 tl r h2 (i + 1) tmps (fun j u hu => by
        have := hv (j + 1) u (by simpa using hu)
        rw [← this]
        congr 1
        omega) k
  | .unit, _, tl, vs, e, i, tmps, hv, k => by
    simp only [trep] at e
    subst e
    exact tails_sat tl i tmps (fun j v hj => hv j v (by simpa using hj)) k
  | .bool, _, _, _, e, _, _, _, _ => e.elim
  | .int _, _, _, _, e, _, _, _, _ => e.elim
  | .str, _, _, _, e, _, _, _, _ => e.elim
  | .sl _, _, _, _, e, _, _, _, _ => e.elim
  | .opt _, _, _, _, e, _, _, _, _ => e.elim
  | .mp _ _, _, _, _, e, _, _, _, _ => e.elim
  | .nd _ _ _ _, _, _, _, e, _, _, _, _ => e.elim

theorem rmR_len : (rs : Rows) → ∀ r, (rmR rs r).length ≤ rs.length
  | [], _ => Nat.le_refl _
  | (k, R) :: rs, r => by
    unfold rmR
    cases Nat.beq k r with
    | true => exact Nat.le_succ_of_le (rmR_len rs r)
    | false => exact Nat.succ_le_succ (rmR_len rs r)

/-- All rows are frozen. -/
theorem thaw_all {σ : St} (hS : Sat B w0 h0 b u n σ N h a w) : ∃ h', PLe h h' ∧ (∀ k, h' k ≠ none → h0 k ≠ none ∨ B ≤ k) ∧ PIn h' w ∧ ∀ r R, getR σ.rows r = some R → vrep h' (.sl R.t) R.xs (N.V r) := by
  have key : ∀ (m : Nat) (σ : St) (h : PHeap), σ.rows.length = m → Sat B w0 h0 b u n σ N h a w → ∃ h', PLe h h' ∧ (∀ k, h' k ≠ none → h0 k ≠ none ∨ B ≤ k) ∧ PIn h' w ∧ ∀ r R, getR σ.rows r = some R → vrep h' (.sl R.t) R.xs (N.V r) := by
    intro m
    induction m using Nat.strongRecOn with
    | _ m ih =>
      intro σ h hm hS
      obtain ⟨sl, bs, rs⟩ := σ
      cases rs with
      | nil => exact ⟨h, PLe.refl h, hS.dom, hS.mem.pin, fun r R hr => by cases hr⟩
      | cons p rest =>
        obtain ⟨r0, R0⟩ := p
        obtain ⟨h1, hS1, hl1, hv1⟩ := freeze_sound hS r0
        have hrows : (freeze ⟨sl, bs, (r0, R0) :: rest⟩ r0).rows = rmR rest r0 := by
          simp only [freeze, getR, rmR, Nat.beq_refl, cond_true]
        obtain ⟨h2, hl2, hd2, hp2, hv2⟩ := ih (rmR rest r0).length (by
          have := rmR_len rest r0
          simp only [List.length_cons] at hm
          omega) _ h1 (by rw [hrows]) hS1
        refine ⟨h2, hl1.trans hl2, hd2, hp2, fun r R hr => ?_⟩
        by_cases e : r0 = r
        · subst e
          exact vrep_mono hl2 (hv1 R hr)
        · refine hv2 r R ?_
          rw [hrows, rmR_get, if_neg e]
          rw [getR_cons, if_neg e] at hr
          exact hr
  exact key _ σ h rfl hS

theorem thaw_keeps {h' : PHeap} {rs : Rows} (hv : ∀ r R, getR rs r = some R → vrep h' (.sl R.t) R.xs (N.V r)) : Keeps N h h' (thawS rs) := by
  intro i l hl v hvi
  unfold thawS at hl
  split at hl
  · rename_i R hR
    injection hl with hl; subst hl
    simp only [Leaf.rel]
    rw [hvi.1]
    exact hv i R hR
  · injection hl with hl; subst hl
    simp only [Leaf.rel]

def resVal (tmps : Array Value) : ResultVar → Sem Value
  | .tmp t => pure (tmps.getD t undef)
  | .cell a t => do loadVar t (← asAddr (tmps.getD a undef))
theorem results_eq (fn : Func) (tmps : Array Value) : results fn tmps = (do
    let vs ← fn.results.mapM (resVal tmps)
    pure (if h : vs.size = 1 then vs[0] else .tuple vs)) := by
  unfold results
  congr 1

theorem resSV_run (hE : EnvOk P E) {σ : St} (hS : Sat B w0 h0 b u n σ N h a w) {r : ResultVar} {s : SV} (e : resSV E b σ r = some s) :
    ∃ v, (resVal a.tmps r).run P w = .ok v w ∧ s.rel N h v := by
  cases r with
  | tmp t =>
    simp only [resSV] at e
    injection e with e; subst e
    have := hS.slots (b + t)
    rw [vals_at] at this
    exact ⟨_, rfl, this⟩
  | cell q t =>
    simp only [resSV] at e
    split at e
    · rename_i ti hti
      have hT := hE.tt t ti hti
      split at e
      · rename_i i off hi
        split at e
        · rename_i bt bc hbl
          have hb := hS.slots (b + q)
          rw [vals_at, hi] at hb
          simp only [SV.rel, Leaf.rel] at hb
          obtain ⟨o0, q1, q2, _⟩ := hS.mem.blk i _ hbl
          obtain ⟨cs, rfl, q2, q3⟩ := BlkSat.cells.1 q2
          have := partOf_load (P := P) (w := w) hT e q2 q3 ⟨N.ρ i, 0, none⟩ (fun j u hu => by
            rw [add_lit]
            simp only [World.cell?, q1]
            simpa using hu)
          rw [add_lit, Nat.zero_add] at this
          obtain ⟨v, g1, g2⟩ := this
          refine ⟨v, ?_, g2⟩
          simp only [resVal, hb, Sem.run_bind, asAddr, Sem.run_pure, Result.andThen_ok]
          simpa [Instr.loadAt, Instr.sureAddr] using g1
        · cases e
      · cases e
    · cases e

theorem resSVs_run (hE : EnvOk P E) {σ : St} (hS : Sat B w0 h0 b u n σ N h a w) {h' : PHeap} (hl : PLe h h') (hv : ∀ r R, getR σ.rows r = some R → vrep h' (.sl R.t) R.xs (N.V r)) : (rs : List ResultVar) → (ss : List SV) → resSVs E b σ rs = some ss →
    ∃ vs : List Value, (rs.mapM (resVal a.tmps)).run P w = .ok vs w ∧ ss.length = vs.length ∧ ∀ (i : Nat) s v, ss[i]? = some s → vs[i]? = some v → s.rel N h' v
  | [], ss, e => by
    simp only [resSVs] at e
    injection e with e; subst e
    exact ⟨[], rfl, rfl, fun i s v hs => by simp at hs⟩
  | r :: rs, ss, e => by
    simp only [resSVs] at e
    split at e
    · rename_i s hs
      split at e
      · rename_i ss' hss
        injection e with e; subst e
        obtain ⟨v, g1, g2⟩ := resSV_run hE hS hs
        obtain ⟨vs, q1, q2, q3⟩ := resSVs_run hE hS hl hv rs ss' hss
        refine ⟨v :: vs, ?_, by simp [q2], fun i s' v' hs' hv' => ?_⟩
        · rw [List.mapM_cons]
          simp only [Sem.run_bind, g1, Result.andThen_ok, q1, Sem.run_pure]
        · cases i with
          | zero =>
            simp at hs' hv'
            subst hs' hv'
            exact SV.rel_sub (thaw_keeps hv) hl s g2
          | succ i => exact q3 i s' v' (by simpa using hs') (by simpa using hv')
      · cases e
    · cases e

/-- The maps of the call's own lie in the heap. -/
noncomputable def hmaps (N : Names) (bs : Blks) (w : World) (h : PHeap) : PHeap := fun g =>
  open Classical in if (∃ i b, getB bs i = some b ∧ b.it = some .map ∧ N.ρ i = g) then w.heap[g]? else h g
theorem hmaps_le {bs : Blks} (hp : PIn h w) : PLe h (hmaps N bs w h) := fun k o e => by
  unfold hmaps
  split
  · exact hp k o e
  · exact e
theorem hmaps_in {bs : Blks} (hp : PIn h w) : PIn (hmaps N bs w h) w := fun k o e => by
  unfold hmaps at e
  split at e
  · exact e
  · exact hp k o e
theorem thawM_rel {bs : Blks} {h1 : PHeap} (hp : PIn h1 w) (hb : ∀ i b, getB bs i = some b → ∃ o, w.heap[N.ρ i]? = some o ∧ BlkSat N h1 b o ∧ B ≤ N.ρ i) : (ls : List Leaf) → (vs : List Value) → LeafRels N h1 ls vs → LeafRels N (hmaps N bs w h1) (thawM bs ls) vs
  | [], _, e => by rw [LeafRels] at e; subst e; exact LeafRels.nil _ _
  | l :: ls, _, e => by
    rw [LeafRels] at e
    obtain ⟨v, r, rfl, g1, g2⟩ := e
    refine LeafRels.cons ?_ (thawM_rel hp hb ls r g2)
    split
    · rename_i q
      split
      · rename_i bt K V xs hq
        obtain ⟨o, q1, q2, _⟩ := hb q _ hq
        obtain ⟨K', V', xs', es, cl, c1, rfl, q3⟩ := BlkSat.map.1 q2
        injection c1 with c1
        injection c1 with c1 c2
        injection c1 with c1
        injection c1 with c1 c3
        injection c3 with c3
        subst c1 c3
        have c2 := eq_of_heq c2
        subst c2
        simp only [Leaf.rel] at g1
        subst g1
        refine tv_rel.2 ⟨[.map (some (N.ρ q))], mp_rep.2 (.inr ⟨_, es, cl, rfl, ?_, MapRep.mono (hmaps_le hp) _ _ q3⟩), rfl⟩
        unfold hmaps
        rw [if_pos ⟨q, _, hq, rfl, rfl⟩]
        exact q1
      · simp only [Leaf.rel]
    · exact Leaf.rel_mono (hmaps_le hp) _ _ g1

/-- A block that is pointed to is data. -/
theorem thawP_sound (hE : EnvOk P E) {bs : Blks} {h1 : PHeap} (hp : PIn h1 w) (hd : ∀ k, h1 k ≠ none → h0 k ≠ none ∨ B ≤ k)
    (hb : ∀ i b, getB bs i = some b → ∃ o, w.heap[N.ρ i]? = some o ∧ BlkSat N h1 b o ∧ B ≤ N.ρ i) {s : SV} {v : Value} (hr : s.rel N h1 v) {k : SV → Prop} (e : thawP E bs s k) :
    ∃ s' h2, k s' ∧ PLe h1 h2 ∧ PIn h2 w ∧ (∀ k, h2 k ≠ none → h0 k ≠ none ∨ B ≤ k) ∧ s'.rel N h2 v := by
  have stay : k s → ∃ s' h2, k s' ∧ PLe h1 h2 ∧ PIn h2 w ∧ (∀ k, h2 k ≠ none → h0 k ≠ none ∨ B ≤ k) ∧ s'.rel N h2 v := fun e => ⟨s, h1, e, PLe.refl h1, hp, hd, hr⟩
  unfold thawP at e
  split at e
  rotate_left
  · exact stay e
  rename_i i
  split at e
  rotate_left
  · exact stay e
  rename_i t cs hbi
  split at e
  rotate_left
  · exact stay e
  rename_i ti hti
  split at e
  rotate_left
  · exact stay e
  rename_i T hT
  rw [implodeK_eq] at e
  split at e
  rotate_left
  · exact stay e
  rename_i x r hx
  split at e
  rotate_left
  · exact stay e
  obtain ⟨o, q1, q2, q3⟩ := hb i _ hbi
  obtain ⟨vs, rfl, q2, q4⟩ := BlkSat.cells.1 q2
  have q2 := thawM_rel hp hb _ _ q2
  have hle0 : PLe h1 (hmaps N bs w h1) := hmaps_le hp
  have hd0 : ∀ k, hmaps N bs w h1 k ≠ none → h0 k ≠ none ∨ B ≤ k := fun k hk => by
    unfold hmaps at hk
    split at hk
    · rename_i he
      obtain ⟨i, b, p1, p2, p3⟩ := he
      obtain ⟨o, _, _, p4⟩ := hb i b p1
      exact .inr (by omega)
    · exact hd k hk
  have hp0 : PIn (hmaps N bs w h1) w := hmaps_in hp
  revert hle0 hd0 hp0 q2
  generalize hmaps N bs w h1 = h1'
  intro q2 hle0 hd0 hp0
  have hrep : rep h1' T x vs := implode_all hx q2
  have hle : PLe h1' (hnew h1' (N.ρ i) (.cells vs.toArray t (0, 0))) := fun k p hk => by
    unfold hnew
    split
    · rename_i he
      subst he
      have := hp0 _ p hk
      rw [q1] at this
      exact this
    · exact hk
  refine ⟨_, _, e, hle0.trans hle, hnew_in hp0 q1, fun k hk => ?_, ?_⟩
  · unfold hnew at hk
    split at hk
    · rename_i he
      subst he
      exact .inr q3
    · exact hd0 k hk
  · simp only [SV.rel, Leaf.rel] at hr
    subst hr
    refine SV.tv_iff.2 ⟨[.pointer (some ⟨N.ρ i, 0, none⟩)], .inr ⟨x, _, vs, rfl, rfl, rep_mono hle T x vs hrep, fun j u hu => ?_⟩, rfl⟩
    rw [add_lit, Nat.zero_add]
    unfold hcell hnew
    simp only [if_true]
    simpa using hu
theorem thawPs_sound (hE : EnvOk P E) {bs : Blks} : (ss : List SV) → (vs : List Value) → {h1 : PHeap} → PIn h1 w → (∀ k, h1 k ≠ none → h0 k ≠ none ∨ B ≤ k) →
    (∀ i b, getB bs i = some b → ∃ o, w.heap[N.ρ i]? = some o ∧ BlkSat N h1 b o ∧ B ≤ N.ρ i) → ss.length = vs.length → (∀ (i : Nat) s v, ss[i]? = some s → vs[i]? = some v → s.rel N h1 v) → {k : List SV → Prop} → thawPs E bs ss k →
    ∃ ss' h2, k ss' ∧ PLe h1 h2 ∧ PIn h2 w ∧ (∀ k, h2 k ≠ none → h0 k ≠ none ∨ B ≤ k) ∧ ss'.length = vs.length ∧ ∀ (i : Nat) s v, ss'[i]? = some s → vs[i]? = some v → s.rel N h2 v
  | [], vs, h1, hp, hd, _, hl, hr, k, e => ⟨[], h1, e, PLe.refl h1, hp, hd, hl, hr⟩
  | s :: r, vs, h1, hp, hd, hb, hl, hr, k, e => by
    match vs, hl with
    | v :: vs, hl =>
      simp only [thawPs] at e
      obtain ⟨s', h2, e, g1, g2, g3, g4⟩ := thawP_sound hE hp hd hb (hr 0 s v rfl rfl) e
      obtain ⟨ss', h3, e, p1, p2, p3, p4, p5⟩ := thawPs_sound hE r vs g2 g3 (fun i b hi => by
        obtain ⟨o, q1, q2, q3⟩ := hb i b hi
        exact ⟨o, q1, q2.mono g1, q3⟩) (by simpa using hl) (fun i s v hs hv => SV.rel_mono g1 _ _ (hr (i + 1) s v (by simpa using hs) (by simpa using hv))) e
      refine ⟨_, h3, e, g1.trans p1, p2, p3, by simp [p4], fun i s v' hs hv => ?_⟩
      cases i with
      | zero =>
        simp at hs hv
        subst hs hv
        exact SV.rel_mono p1 _ _ g4
      | succ i => exact p5 i s v' (by simpa using hs) (by simpa using hv)

/-! ### A call that is walked -/
theorem cutS_get (top : Nat) : (sl : Slots) → ∀ t, getS (cutS top sl) t = if top ≤ t then .leaf .any else getS sl t
  | [], t => by
    show SV.leaf Leaf.any = if top ≤ t then SV.leaf Leaf.any else SV.leaf Leaf.any
    split <;> rfl
  | (k, s) :: r, t => by
    unfold cutS
    cases hb : Nat.ble top k with
    | true =>
      have := Nat.le_of_ble_eq_true hb
      rw [cond_true, cutS_get top r, getS_cons]
      by_cases ht : top ≤ t
      · rw [if_pos ht, if_pos ht]
      · rw [if_neg ht, if_neg ht, if_neg (by omega)]
    | false =>
      have hk : ¬ top ≤ k := fun hh => by rw [Nat.ble_eq_true_of_le hh] at hb; cases hb
      rw [cond_false, getS_cons, getS_cons, cutS_get top r]
      by_cases hkt : k = t
      · subst hkt
        rw [if_pos rfl, if_neg hk, if_pos rfl]
      · rw [if_neg hkt, if_neg hkt]
theorem argSlots_get : (args : List SV) → (i : Nat) → (sl : Slots) → ∀ t, (t < i ∨ i + args.length ≤ t → getS (argSlots args i sl) t = getS sl t) ∧ (∀ s, i ≤ t → args[t - i]? = some s → getS (argSlots args i sl) t = s)
  | [], i, sl, t => ⟨fun _ => rfl, fun s _ h => by simp at h⟩
  | x :: r, i, sl, t => by
    obtain ⟨h1, h2⟩ := argSlots_get r (i + 1) sl t
    unfold argSlots
    rw [getS_cons]
    refine ⟨fun h => ?_, fun s hi hs => ?_⟩
    · simp only [List.length_cons] at h
      rw [if_neg (by omega)]
      exact h1 (by omega)
    · by_cases e : i = t
      · subst e
        rw [if_pos rfl]
        simpa using hs
      · rw [if_neg e]
        refine h2 s (by omega) ?_
        rw [show t - i = (t - (i + 1)) + 1 by omega] at hs
        simpa using hs

theorem vcN_sound (hE : EnvOk P E) (hm : P.follows .mixedOrders = true) : (d : Nat) → InlSound P E (vcN E d)
  | 0 => fun _ _ _ _ _ e => e.elim
  | d + 1 => by
    intro f top args σ k e B w0 h0 N h w v vs hG hS hlen hrel
    unfold vcN at e
    simp only at e
    split at e
    · exact e.elim
    · rename_i F hF
      obtain ⟨⟨fn, hf, hname, hb, hnt, hres⟩, hbd⟩ := hE.inl f F hF
      split at e
      · exact e.elim
      · rename_i hle
        have hle := Nat.le_of_ble_eq_true hle
        obtain ⟨sl, bs, rs⟩ := σ
        simp only [fSlots_eq] at e
        generalize top + 10000 * (f + 1) = top at e
        refine ⟨⟨fn, F.body, hf, hname, hb⟩, ?_⟩
        refine calls_of_wp hf hb ?_
        have hS' : Sat B w0 h0 top v F.n ⟨argSlots args top (cutS top sl), bs, rs⟩ N h { tmps := vs.toArray ++ Array.replicate (fn.ntmps - vs.toArray.size) undef, defers := [] } w := by
          refine ⟨hS.mem, hS.grow, hS.dom, ?_, by simp; omega, rfl⟩
          intro t
          obtain ⟨g1, g2⟩ := argSlots_get args top (cutS top sl) t
          unfold vals
          by_cases ht : t < top
          · rw [if_pos ht, g1 (.inl ht), cutS_get, if_neg (by omega)]
            exact hS.slots t
          · rw [if_neg ht]
            by_cases ha : t - top < args.length
            · rw [g2 _ (by omega) (List.getElem?_eq_getElem ha)]
              have hav : t - top < vs.length := by omega
              refine hrel (t - top) _ _ (List.getElem?_eq_getElem ha) ?_
              rw [Array.getD_eq_getD_getElem?, Array.getElem?_append_left (by simpa using hav)]
              simp [hav]
            · rw [g1 (.inr (by omega)), cutS_get, if_pos (by omega)]
              exact SV.leaf_iff.2 (by simp only [Leaf.rel])
        refine vc_sound hE hm (vcN_sound hE hm d) hG F.body hbd _ _ _ N h _ w e hS' ?_
        have fin : ∀ (σ : St) N' h' a' w', inlRet E top F.res σ k → Sat B w0 h0 top v F.n σ N' h' a' w' →
            a'.defers = [] ∧ ∃ r, (results fn a'.tmps).run P w' = .ok r w' ∧ ∃ r2 s σ' N' h', Ending.returned r = .returned r2 ∧ k s σ' ∧ s.rel N' h' r2 ∧ SatV B w0 h0 σ' N' h' v w' := by
          intro σ N' h' a' w' he hSa
          refine ⟨hSa.defers, ?_⟩
          unfold inlRet at he
          split at he
          · rename_i s hs
            obtain ⟨sl2, bs2, rs2⟩ := σ
            simp only [fSV_eq, fSlots_eq] at he
            have hV : SatV B w0 h0 ⟨cutS top sl2, bs2, rs2⟩ N' h' v w' := by
              refine ⟨hSa.mem, hSa.grow, hSa.dom, fun t => ?_⟩
              rw [cutS_get]
              by_cases ht : top ≤ t
              · rw [if_pos ht]
                exact SV.leaf_iff.2 (by simp only [Leaf.rel])
              · rw [if_neg ht]
                have := hSa.slots t
                unfold vals at this
                rwa [if_pos (by omega)] at this
            have hr : ∃ r, (results fn a'.tmps).run P w' = .ok r w' ∧ s.rel N' h' r := by
              rw [results_eq, Array.mapM_eq_mapM_toList]
              unfold resInl at hs
              split at hs
              · rename_i hres0
                injection hs with hs; subst hs
                rw [hres, hres0]
                exact ⟨_, by simp [List.mapM_nil]; rfl, SV.leaf_iff.2 (by simp only [Leaf.rel])⟩
              · rename_i r rs' hres0
                split at hs
                · obtain ⟨x, g1, g2⟩ := resSV_run hE hSa hs
                  rw [hres, hres0]
                  refine ⟨x, ?_, g2⟩
                  simp only [List.mapM_cons, List.mapM_nil, Sem.run_bind, Sem.run_map, g1, Result.andThen_ok, Sem.run_pure]
                  rfl
                · cases hs
            obtain ⟨r, hr1, hr2⟩ := hr
            exact ⟨r, hr1, r, s, _, N', h', rfl, he, hr2, hV⟩
          · exact he.elim
        intro ex σ' N' h' a' w' he hSa
        cases ex with
        | normal => exact fin σ' N' h' a' w' he hSa
        | exit i => exact he.elim
        | ret => exact fin σ' N' h' a' w' he hSa

theorem fn_sound (hE : EnvOk P E) (hm : P.follows .mixedOrders = true) {f : FuncId} {fn : Func} {c : Code} {C : Contract} (hf : P.funcs[f]? = some fn) (hname : fn.name ≠ "runtime.NumGoroutine") (hb : fn.body = some c)
    (hbd : codeBd fn.ntmps c = true) (hpn : C.arg.chain + C.tail.length ≤ fn.ntmps) (hrn : (fn.results.size = 1) = (C.one = true)) (hon : C.own = none) (hv : fnVC E fn c C) : CallSpec P E.gl f C := by
  refine ⟨⟨fn, c, hf, hname, hb⟩, ?_⟩
  intro x h w args hpre hargs hpin hG
  refine calls_of_wp hf hb ?_
  have hlen := trep_len C.arg x args hargs
  have htl : (tailVals C.tail).length = C.tail.length := by simp [tailVals]
  have hS : Sat w.heap.size w h bot (fun _ => undef) fn.ntmps ⟨entrySlots C.arg x C.tail bot, [], []⟩ ⟨fun k => k, fun _ => .nilFunc⟩ h { tmps := (args ++ tailVals C.tail).toArray ++ Array.replicate (fn.ntmps - (args ++ tailVals C.tail).toArray.size) undef, defers := [] } w := by
    refine ⟨⟨Below.refl _ _, Nat.le_refl _, hpin, fun i b hh => (by cases hh), fun i j b c hh => (by cases hh), fun r R hh => (by cases hh), fun r R g hh => (by cases hh), fun r R g i b hh => (by cases hh), fun r s R S g hh => (by cases hh)⟩, PLe.refl h, fun k hk => .inl hk, ?_, ?_, rfl⟩
    · intro t
      have hv0 : ∀ a : Act, vals bot (fun _ => undef) a t = a.tmps.getD t undef := fun a => by
        unfold vals bot
        rw [if_neg (by omega), Nat.sub_zero]
      rw [hv0]
      refine params_sat C.arg x C.tail args hargs bot _ (fun j v hj => ?_) t
      have hlt : j < (args ++ tailVals C.tail).length := (List.getElem?_eq_some_iff.1 hj).1
      unfold bot
      rw [Nat.zero_add, Array.getD_eq_getD_getElem?, Array.getElem?_append_left (by simpa using hlt)]
      simp [hj]
    · simp
      omega
  refine vc_sound hE hm (vcN_sound hE hm deep) hG c hbd _ _ _ _ h _ w (hv x hpre) hS ?_
  have fin : ∀ σ N h' a' w', retVC E bot fn.results.toList C.one C.res σ (C.fn x) → Sat w.heap.size w h bot (fun _ => undef) fn.ntmps σ N h' a' w' → a'.defers = [] ∧ ∃ v, (results fn a'.tmps).run P w' = .ok v w' ∧
      ∃ u h2, Ending.returned v = .returned u ∧ PLe h h2 ∧ (∀ k, h2 k ≠ none → h k ≠ none ∨ w.heap.size ≤ k) ∧ PIn h2 w' ∧ resOr w.heap.size w' h2 C (C.fn x) u ∧ Below w.heap.size w w' := by
    intro σ N h' a' w' e hS'
    refine ⟨hS'.defers, ?_⟩
    obtain ⟨h2, hl2, hd2, hp2, hv2⟩ := thaw_all hS'
    unfold retVC at e
    split at e
    · rename_i ss hss
      obtain ⟨vs, q1, q2, q3⟩ := resSVs_run hE hS' hl2 hv2 _ ss hss
      have hlen2 := q2
      obtain ⟨ss, h3, e, hl3, hp3, hd3, q2, q3⟩ := thawPs_sound hE (h0 := h) (B := w.heap.size) ss vs hp2 hd2 (fun i bb hi => by
        rw [mapBlks_get] at hi
        cases hh : getB σ.blks i with
        | none => rw [hh] at hi; cases hi
        | some b' =>
          rw [hh] at hi
          injection hi with hi
          subst hi
          obtain ⟨o, r1, r2, r3, _⟩ := hS'.mem.blk i b' hh
          exact ⟨o, r1, r2.mapped (thaw_keeps hv2) hl2, r3⟩) q2 q3 e
      have hl2 := hl2.trans hl3
      have hd2 := hd3
      have hp2 := hp3
      have hres : (results fn a'.tmps).run P w' = .ok (if _ : vs.toArray.size = 1 then vs.toArray[0] else .tuple vs.toArray) w' := by
        rw [results_eq, Array.mapM_eq_mapM_toList]
        simp only [Sem.run_bind, Sem.run_map, q1, Result.andThen_ok, Sem.run_pure]
      have hsz : fn.results.toList.length = vs.length := by
        have : ∀ (rs : List ResultVar) (ss : List SV), resSVs E bot σ rs = some ss → rs.length = ss.length := by
          intro rs
          induction rs with
          | nil => intro ss h; simp only [resSVs] at h; injection h with h; subst h; rfl
          | cons r rs ih =>
            intro ss h
            simp only [resSVs] at h
            split at h
            · split at h
              · rename_i ss' hss'
                injection h with h; subst h
                simp [ih ss' hss']
              · cases h
            · cases h
        rw [this _ _ hss, hlen2]
      split at e
      · rename_i hone
        split at e
        · rename_i s
          rw [argValK_eq] at e
          split at e
          · rename_i y hy
            subst e
            obtain ⟨v, rfl⟩ : ∃ v, vs = [v] := by
              cases vs with
              | nil => simp at q2
              | cons v r => cases r with
                | nil => exact ⟨v, rfl⟩
                | cons _ _ => simp at q2
            · refine ⟨v, by rw [hres]; rfl, v, h3, rfl, hS'.grow.trans hl2, hd2, hp2, ?_, hS'.mem.below⟩
              unfold resOr
              rw [hon]
              unfold resRep
              rw [hone]
              exact argVal_rel hy (q3 0 s v rfl rfl)
          · exact e.elim
        · exact e.elim
      · rename_i hone
        rw [argsK_eq] at e
        split at e
        · rename_i y hy
          have hne : ¬ vs.toArray.size = 1 := by
            intro h1
            have : fn.results.size = 1 := by
              rw [← Array.length_toList, hsz]
              simpa using h1
            rw [hrn, hone] at this
            cases this
          refine ⟨.tuple vs.toArray, by rw [hres, dif_neg hne], .tuple vs.toArray, h3, rfl, hS'.grow.trans hl2, hd2, hp2, ?_, hS'.mem.below⟩
          unfold resOr
          rw [hon]
          unfold resRep
          rw [hone]
          refine ⟨vs, rfl, ?_⟩
          rw [← e]
          exact argsOf_rel C.res ss y hy vs q2 q3
        · exact e.elim
    · exact e.elim
  intro ex σ N h' a' w' he hS'
  cases ex with
  | normal => exact fin σ N h' a' w' he hS'
  | exit i => exact he.elim
  | ret => exact fin σ N h' a' w' he hS'
end
end Go.Fr
