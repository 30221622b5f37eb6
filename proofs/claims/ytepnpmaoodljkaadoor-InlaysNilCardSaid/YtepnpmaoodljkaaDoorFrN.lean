/-
  One operation; freezing; a region in the order of its text. Conditions: none.
-/
import Derived.Test.YtepnpmaoodljkaaDoorFrM
namespace Go.Fr
open Go Go.RowKit
universe u

section
variable {P : Program} {E : Env} {B : Nat} {w0 w : World} {N : Names} {h0 h : PHeap} {b : Nat} {u : Nat → Value} {a : Act} {n : Nat}

theorem Sat.after {σ : St} (hS : Sat B w0 h0 b u n σ N h a w) {h' : PHeap} {w' : World} (h1 : PLe h h') (h2 : ∀ k, h' k ≠ none → h k ≠ none ∨ w.heap.size ≤ k) (hM : MemSat B w0 σ.blks σ.rows N h' w') : Sat B w0 h0 b u n σ N h' a w' :=
  ⟨hM, hS.grow.trans h1, fun k hk => by
    rcases h2 k hk with g | g
    · exact hS.dom k g
    · exact .inr (Nat.le_trans hS.mem.size g), hS.slots.mono h1, hS.size, hS.defers⟩

/-- A call that is walked: what it yields, and the state behind it. -/
def InlSound (P : Program) (E : Env) (J : Inliner) : Prop :=
  ∀ (f : FuncId) (top : Nat) (args : List SV) (σ : St) (k : SV → St → Prop), J f top args σ k → ∀ (B : Nat) (w0 : World) (h0 : PHeap) (N : Names) (h : PHeap) (w : World) (v : Nat → Value) (vs : List Value), GlobOk E.gl h0 → SatV B w0 h0 σ N h v w →
    args.length = vs.length → (∀ (i : Nat) s x, args[i]? = some s → vs[i]? = some x → s.rel N h x) →
    (∃ fn cd, P.funcs[f]? = some fn ∧ fn.name ≠ "runtime.NumGoroutine" ∧ fn.body = some cd) ∧
    Calls P f vs.toArray w fun e w' => ∃ r s σ' N' h', e = .returned r ∧ k s σ' ∧ s.rel N' h' r ∧ SatV B w0 h0 σ' N' h' v w'

theorem frz_keeps {r : Nat} {t : Ty} {xs : List t.den} {h' : PHeap} (hv : vrep h' (.sl t) xs (N.V r)) : Keeps N h h' (frz r t xs) := by
  intro i l hl v hvi
  unfold frz at hl
  cases hb : Nat.beq i r with
  | true =>
    have := Nat.eq_of_beq_eq_true hb
    subst this
    rw [hb] at hl
    injection hl with hl; subst hl
    simp only [Leaf.rel]
    rw [hvi.1]
    exact hv
  | false => rw [hb] at hl; cases hl

theorem freeze_sound {σ : St} (hS : Sat B w0 h0 b u n σ N h a w) (r : Nat) : ∃ h', Sat B w0 h0 b u n (freeze σ r) N h' a w ∧ PLe h h' ∧ ∀ R, getR σ.rows r = some R → vrep h' (.sl R.t) R.xs (N.V r) := by
  unfold freeze
  split
  · rename_i R hR
    obtain ⟨cs, ho, hc⟩ := hS.mem.row r R hR
    have hrm := hS.mem.rmRow r
    rcases ho.2 with ⟨e0, e1⟩ | ⟨g, cap, cur, e0, e1, e2, e3, e4, e5, e6⟩
    · -- nil: no block
      have hx : R.xs = [] := List.eq_nil_of_length_eq_zero e1
      have hv : vrep h (.sl R.t) R.xs (N.V r) := ⟨[.slice none 0 0], ⟨none, 0, by rw [hx]; rfl, by rw [hx]; exact Nat.le_refl _, fun _ => hx, fun i x ad hh _ => by rw [hx] at hh; simp at hh⟩, e0⟩
      have hk : Keeps N h h (frz r R.t R.xs) := frz_keeps hv
      exact ⟨h, ⟨hrm.mapBlks hk, hS.grow, hS.dom, hS.slots.mapped hk (PLe.refl h), hS.size, hS.defers⟩, PLe.refl h, fun R1 hR1 => by rw [hR] at hR1; injection hR1 with hR1; subst hR1; exact hv⟩
    · have hgn : h g = none := hS.mem.rowh r R g hR (by rw [e0]; rfl)
      have hle := hnew_le (o := .cells cur R.e (0, 0)) hgn
      have hv : vrep (hnew h g (.cells cur R.e (0, 0))) (.sl R.t) R.xs (N.V r) := by
        refine ⟨[.slice (some ⟨g, 0, none⟩) R.xs.length cap], ⟨some ⟨g, 0, none⟩, cap, rfl, e3, (fun hh => by cases hh), ?_⟩, e0⟩
        intro i x ad hx had
        injection had with had
        subst had
        obtain ⟨ds, p1, p2⟩ := RowCells_at R.t R.xs cs hc i x hx
        refine ⟨ds, rep_mono hle _ _ _ p1, fun j u hu => ?_⟩
        have := p2 j u hu
        rw [← e6, List.getElem?_take] at this
        split at this
        · rw [add_add, add_lit, Nat.zero_add]
          simp only [hcell, hnew, if_true, Option.isSome_none, Bool.false_eq_true, if_false]
          simpa using this
        · cases this
      have hk : Keeps N h (hnew h g (.cells cur R.e (0, 0))) (frz r R.t R.xs) := frz_keeps hv
      have hpin : PIn (hnew h g (.cells cur R.e (0, 0))) w := hnew_in hS.mem.pin e2
      -- the memory, with that block among what stays
      have hM : MemSat B w0 σ.blks (rmR σ.rows r) N (hnew h g (.cells cur R.e (0, 0))) w := by
        have hne : ∀ k, k ≠ g → h k = none → hnew h g (.cells cur R.e (0, 0)) k = none := fun k hk hn => by unfold hnew; rw [if_neg hk]; exact hn
        refine ⟨hrm.below, hrm.size, hpin, ?_, hrm.inj, ?_, ?_, hrm.rowb, hrm.rowr⟩
        · intro i b hi
          obtain ⟨o, q1, q2, q4, q5⟩ := hrm.blk i b hi
          exact ⟨o, q1, q2.mono hle, q4, hne _ (hS.mem.rowb r R g i b hR (by rw [e0]; rfl) hi) q5⟩
        · intro q S hq
          obtain ⟨ds, q1, q2⟩ := hrm.row q S hq
          exact ⟨ds, q1, RowCells_mono hle _ _ _ q2⟩
        · intro q S k hq hqk
          refine hne k (fun hh => ?_) (hrm.rowh q S k hq hqk)
          rw [hh] at hqk
          rw [rmR_get] at hq
          split at hq
          · cases hq
          · rename_i hrq
            exact hrq (hS.mem.rowr r q R S g hR hq (by rw [e0]; rfl) hqk)
      refine ⟨_, ⟨?_, hS.grow.trans hle, ?_, hS.slots.mapped hk hle, hS.size, hS.defers⟩, hle, fun R1 hR1 => by rw [hR] at hR1; injection hR1 with hR1; subst hR1; exact hv⟩
      · -- the blocks' cells
        have hget : ∀ i b, getB (mapBlks (frz r R.t R.xs) σ.blks) i = some b → ∃ c, getB σ.blks i = some c ∧ b = ⟨c.ty, subs (frz r R.t R.xs) c.cells, c.it⟩ := by
          intro i b hb
          rw [mapBlks_get] at hb
          cases hc : getB σ.blks i with
          | none => rw [hc] at hb; cases hb
          | some c => rw [hc] at hb; injection hb with hb; exact ⟨c, rfl, hb.symm⟩
        refine ⟨hM.below, hM.size, hM.pin, ?_, ?_, hM.row, hM.rowh, ?_, hM.rowr⟩
        · intro i b hb
          obtain ⟨c, hcc, rfl⟩ := hget i b hb
          obtain ⟨o, q1, q2, q4, q5⟩ := hS.mem.blk i c hcc
          obtain ⟨_, _, _, _, q6⟩ := hM.blk i c hcc
          exact ⟨o, q1, q2.mapped hk hle, q4, q6⟩
        · intro i j b c hb hc he
          obtain ⟨b', hb', _⟩ := hget i b hb
          obtain ⟨c', hc', _⟩ := hget j c hc
          exact hM.inj i j b' c' hb' hc' he
        · intro q S k i b hq hk hb
          obtain ⟨b', hb', _⟩ := hget i b hb
          exact hM.rowb q S k i b' hq hk hb'
      · intro k hk
        unfold hnew at hk
        split at hk
        · rename_i hkg; subst hkg; exact .inr e1
        · exact hS.dom k hk
  · rename_i hn
    exact ⟨h, hS, PLe.refl h, fun R hR => by rw [hn] at hR; cases hR⟩

theorem freezeRows_sound : (rs : List Nat) → {σ : St} → {h : PHeap} → Sat B w0 h0 b u n σ N h a w → ∃ h', Sat B w0 h0 b u n (freezeRows rs σ) N h' a w
  | [], _, h, hS => ⟨h, hS⟩
  | r :: rs, _, _, hS => by
    obtain ⟨h1, hS1, _⟩ := freeze_sound hS r
    exact freezeRows_sound rs hS1
theorem freezeAt_sound : (ts : List Nat) → {σ : St} → {h : PHeap} → Sat B w0 h0 b u n σ N h a w → ∃ h', Sat B w0 h0 b u n (freezeAt ts σ) N h' a w
  | [], _, h, hS => ⟨h, hS⟩
  | t :: ts, _, _, hS => by
    obtain ⟨h1, hS1⟩ := freezeRows_sound _ hS
    exact freezeAt_sound ts hS1

theorem freezeBehind_sound : (ts : List Nat) → {σ : St} → {h : PHeap} → Sat B w0 h0 b u n σ N h a w → ∃ h', Sat B w0 h0 b u n (freezeBehind ts σ) N h' a w
  | [], _, h, hS => ⟨h, hS⟩
  | t :: ts, _, _, hS => by
    obtain ⟨h1, hS1⟩ := freezeRows_sound _ hS
    exact freezeBehind_sound ts hS1

/-- Rows that are handed to a callee which reads data are frozen. -/
theorem fzK_sound {o : Oper} {σ : St} (hS : Sat B w0 h0 b u n σ N h a w) {k : St → Prop} (e : fzK E b o σ k) : ∃ σ' h', k σ' ∧ Sat B w0 h0 b u n σ' N h' a w := by
  unfold fzK at e
  split at e
  · split at e
    · split at e
      · split at e
        · exact ⟨_, _, e, hS⟩
        · rename_i r rs _
          rw [fSt_eq] at e
          obtain ⟨h1, hS1⟩ := freezeRows_sound (r :: rs) hS
          exact ⟨_, _, e, hS1⟩
      · exact ⟨_, _, e, hS⟩
    · exact ⟨_, _, e, hS⟩
  · exact ⟨_, _, e, hS⟩

theorem exec1_sound (hE : EnvOk P E) {J : Inliner} (hJ : InlSound P E J) (hG : GlobOk E.gl h0) {top : Nat} {σ : St} (hS : Sat B w0 h0 b u n σ N h a w) {o : Oper} (hd : ∀ t, o.dst = some t → t < n) {k : St → Prop} {K : Act → World → Prop} {Q : Exit → Act → World → Prop}
    (e : exec1 E J b top o σ k) (hK : ∀ σ' N' h' a' w', k σ' → Sat B w0 h0 b u n σ' N' h' a' w' → K a' w') : o.wp P a w K Q := by
  unfold exec1 at e
  obtain ⟨σ, h, e, hS⟩ := fzK_sound hS e
  obtain ⟨sl, bs, rs⟩ := σ
  have ho : ∀ x ∈ o.op.operands.toList, (evO b sl x).rel N h (a.eval x) := fun x _ => evO_rel hS.slots x
  simp only at e
  split at e
  · rename_i d t len ps hob
    obtain ⟨parts, kk, hop, hdst, rfl, rfl⟩ := ownBuild_some hob
    have ho' : ∀ q ∈ parts.toList, (evO b sl q.2).rel N h (a.eval q.2) := fun q hq => ho q.2 (by
      rw [hop]
      simp only [Op.operands]
      exact List.mem_map.2 ⟨q, hq, rfl⟩)
    obtain ⟨v', w', σ', N', hrun, hk', hS'⟩ := buildRow_sound hE hS (hd kk hdst) e ho'
    unfold Oper.wp execOp
    rw [hop]
    simp only [Sem.run_bind, hrun, Result.andThen_ok, Sem.run_pure]
    show K (a.put o.dst v') w'
    rw [hdst]
    exact hK _ _ _ _ _ hk' hS'
  split at e
  · rename_i r p hr
    obtain ⟨hp, e⟩ := oblige_some e
    have e := nameK_at e
    rw [putK_eq] at e
    refine pure_sound hE hS.mem (hG.mono hS.grow) hr hp ho fun v h' w' h1 h2 _ hM hv => ?_
    exact hK _ _ _ _ _ e ((hS.after h1 h2 hM).put hd hv)
  · split at e
    · rename_i i t cs it hst
      split at e
      · rename_i hdst
        rw [fLs_eq, setBK_eq] at e
        refine store_sound hE hst ho hS.mem fun w' hM => ?_
        rw [hdst]
        exact hK _ N h a w' e ⟨hM, hS.grow, hS.dom, hS.slots, hS.size, hS.defers⟩
      · exact e.elim
    · split at e
      · rename_i r t te xs hst
        split at e
        · rename_i hdst
          rw [setRK_eq] at e
          refine rowStore_sound hE hst ho hS.mem fun w' hM => ?_
          rw [hdst]
          exact hK _ N h a w' e ⟨hM, hS.grow, hS.dom, hS.slots, hS.size, hS.defers⟩
        · exact e.elim
      · split at e
        · rename_i f args hin
          -- the call
          unfold inlEv at hin
          split at hin
          · rename_i c hc
            split at hin
            · rename_i fv hfv
              split at hin
              · rename_i f' caps hfn
                split at hin
                · injection hin with hin; injection hin with e1 e2; subst e1 e2
                  have hoc : ∀ x ∈ c.operands.toList, (evO b sl x).rel N h (a.eval x) := fun x hx => ho x (by rw [hc]; simpa only [Op.operands] using hx)
                  have hoa : ∀ x ∈ c.args.toList, (evO b sl x).rel N h (a.eval x) := fun x hx => hoc x (by simp only [Call.operands]; simp; exact .inr (by simpa using hx))
                  obtain ⟨vs, hv, hcaps⟩ := asFn_rel hfn (hoc fv (by simp only [Call.operands, hfv]; simp))
                  obtain ⟨l1, l2⟩ := callArgs_rel hoa hcaps
                  obtain ⟨⟨fn, cd, g1, g2, g3⟩, hcall⟩ := hJ _ _ _ _ _ e B w0 h0 N h w (vals b u a) _ hG hS.v l1 l2
                  unfold Oper.wp
                  rw [call_enter hc hfv hv g1 g2 g3]
                  refine hcall.mono ?_
                  rintro e w' ⟨r, s, ⟨sl', bs', rs'⟩, N', h', rfl, hk, hr, hS'⟩
                  simp only [putK_eq] at hk
                  exact hK _ _ _ _ _ hk (Sat.put ⟨hS'.mem, hS'.grow, hS'.dom, hS'.slots, hS.size, hS.defers⟩ hd hr)
                · cases hin
              · cases hin
            · cases hin
          · cases hin
        · split at e
          · rename_i C s hrc
            exact rowCall_sound hE hS hd hrc e hK
          · exact seq_sound hE hG hS hd e hK

/-- A region in the order of its text. -/
theorem execOps_sound (hE : EnvOk P E) {J : Inliner} (hJ : InlSound P E J) (hG : GlobOk E.gl h0) {top : Nat} (ops : Array Oper) {Q : Exit → Act → World → Prop} {k : St → Prop}
    (hd : ∀ o ∈ ops.toList, ∀ t, o.dst = some t → t < n) (hQ : ∀ σ' N' h' a' w', k σ' → Sat B w0 h0 b u n σ' N' h' a' w' → Q .normal a' w') :
    ∀ (l : List Oper) (i : Nat) (σ : St) (N : Names) (h : PHeap) (a : Act) (w : World), ops.toList.drop i = l → execOps E J b top ops.toList l σ k → Sat B w0 h0 b u n σ N h a w → wpOps P ops Q (List.range' i l.length) a w := by
  intro l
  induction l with
  | nil =>
    intro i σ N h a w _ e hS
    exact hQ σ N h a w e hS
  | cons o l ih =>
    intro i σ N h a w hl e hS
    have hi : ops.toList[i]? = some o := by
      have : (ops.toList.drop i)[0]? = some o := by rw [hl]; rfl
      rwa [List.getElem?_drop, Nat.add_zero] at this
    have hoi : ops[i]? = some o := by rw [← hi]; simp
    have hdo := hd o (List.mem_of_getElem? hi)
    have hl' : ops.toList.drop (i + 1) = l := by
      rw [← List.drop_drop, hl]
      rfl
    simp only [List.length_cons, List.range'_succ]
    rw [wpOps_cons]
    have run : ∀ (σ : St) (N : Names) (h : PHeap) (a : Act) (w : World), Sat B w0 h0 b u n σ N h a w → Region.wanted o (yielded ops a.tmps) = true → exec1 E J b top o σ (fun σ' => execOps E J b top ops.toList l σ' k) →
        wpOp P ops Q i (wpOps P ops Q (List.range' (i + 1) l.length)) a w := by
      intro σ N h a w hS hw e
      unfold wpOp
      rw [hoi]
      simp only [hw, if_true]
      exact .inl (exec1_sound hE hJ hG hS hdo e fun σ' N' h' a' w' hk hS' => ih (i + 1) σ' N' h' a' w' hl' hk hS')
    have skip : ∀ (σ : St) (N : Names) (h : PHeap) (a : Act) (w : World), Sat B w0 h0 b u n σ N h a w → Region.wanted o (yielded ops a.tmps) = false → setK σ (dstAt b o.dst) (.leaf .undef) (fun σ' => execOps E J b top ops.toList l σ' k) →
        wpOp P ops Q i (wpOps P ops Q (List.range' (i + 1) l.length)) a w := by
      intro σ N h a w hS hw e
      rw [setK_eq] at e
      unfold wpOp
      rw [hoi]
      simp only [hw, Bool.false_eq_true, if_false]
      exact ih (i + 1) _ N h _ w hl' e (hS.put hdo (SV.leaf_iff.2 (by simp only [Leaf.rel])))
    unfold execOps at e
    split at e
    · rename_i hg
      exact run σ N h a w hS (by simp [Region.wanted, hg]) e
    · rename_i j wt hg
      split at e
      · exact e.elim
      · rename_i t ht
        have hyield : yielded ops a.tmps j = match a.tmps.getD t undef with | .bool b => some b | _ => none := by
          unfold dstOf at ht
          split at ht
          · rename_i oj hoj
            have : ops[j]? = some oj := by rw [← hoj]; simp
            have htn : t < a.tmps.size := by rw [hS.size]; exact hd oj (List.mem_of_getElem? hoj) t ht
            have e1 : ((ops[j]?).bind (·.dst)).bind (a.tmps[·]?) = some (a.tmps.getD t undef) := by
              rw [this]
              simp only [Option.bind_some, ht]
              rw [Array.getElem?_eq_getElem htn, Array.getD_eq_getD_getElem?, Array.getElem?_eq_getElem htn]
              rfl
            unfold yielded
            rw [e1]
            cases a.tmps.getD t undef <;> rfl
          · cases ht
        have hwant : ∀ b, a.tmps.getD t undef = .bool b → Region.wanted o (yielded ops a.tmps) = (b == wt) := by
          intro b hb
          simp [Region.wanted, hg, hyield, hb]
        have hslot := hS.slots (b + t)
        rw [vals_at] at hslot
        have gd : ∀ (c : Bool) (σ : St) (N : Names) (h : PHeap), Sat B w0 h0 b u n σ N h a w → a.tmps.getD t undef = .bool c → guarded wt c (exec1 E J b top o σ fun σ' => execOps E J b top ops.toList l σ' k) (setK σ (dstAt b o.dst) (.leaf .undef) fun σ' => execOps E J b top ops.toList l σ' k) →
            wpOp P ops Q i (wpOps P ops Q (List.range' (i + 1) l.length)) a w := by
          intro c σ N h hS hb e
          have hw := hwant c hb
          cases c <;> cases wt <;> simp only [guarded] at e
          · exact run σ N h a w hS (by rw [hw]; rfl) e
          · exact skip σ N h a w hS (by rw [hw]; rfl) e
          · exact skip σ N h a w hS (by rw [hw]; rfl) e
          · exact run σ N h a w hS (by rw [hw]; rfl) e
        split at e
        · rename_i c hb
          rw [hb] at hslot
          simp only [SV.rel, Leaf.rel] at hslot
          exact gd c σ N h hS hslot e
        · rename_i c hb
          rw [hb] at hslot
          have hval : a.tmps.getD t undef = .bool c := by
            obtain ⟨cs, q1, q2⟩ := SV.tv_iff.1 hslot
            simp only [rep] at q1
            subst q1
            exact q2
          have known : ∀ c' : Bool, c = c' → Sat B w0 h0 b u n (σ.put (some (b + t)) (.leaf (.blit c'))) N h a w := by
            intro c' hc
            subst hc
            refine ⟨hS.mem, hS.grow, hS.dom, fun t' => ?_, hS.size, hS.defers⟩
            show (getS ((b + t, SV.leaf (Leaf.blit c)) :: σ.slots) t').rel N h (vals b u a t')
            rw [getS_cons]
            split
            · rename_i e; subst e; rw [vals_at]; exact SV.leaf_iff.2 (by simp only [Leaf.rel]; exact hval)
            · exact hS.slots t'
          cases c with
          | true =>
            have e := e.1 rfl
            rw [setK_eq] at e
            exact gd true _ N h (known true rfl) hval e
          | false =>
            have e := e.2 rfl
            rw [setK_eq] at e
            exact gd false _ N h (known false rfl) hval e
        · rename_i hu
          rw [hu] at hslot
          have hw : Region.wanted o (yielded ops a.tmps) = false := by
            have : a.tmps.getD t undef = undef := by simpa only [SV.rel, Leaf.rel] using hslot
            have hn : yielded ops a.tmps j = none := by rw [hyield, this]; rfl
            unfold Region.wanted
            rw [hg]
            simp only
            rw [hn]
            rfl
          exact skip σ N h a w hS hw e
        · exact e.elim

theorem freezeK_sound {nm : Nat → Bool} {b' : Nat} {ops : List Oper} {σ : St} (hS : Sat B w0 h0 b u n σ N h a w) {k : St → Prop} (e : freezeK nm b' ops σ k) : ∃ σ' h', k σ' ∧ Sat B w0 h0 b u n σ' N h' a w := by
  unfold freezeK at e
  split at e
  · exact ⟨_, _, e, hS⟩
  · rw [fSt_eq] at e
    obtain ⟨h1, hS1⟩ := freezeAt_sound (addAll b' (toFreeze nm b' ops)) hS
    obtain ⟨h2, hS2⟩ := freezeBehind_sound (addAll b' ((toFreeze nm b' ops).flatMap (loadsTo ops ops))) hS1
    exact ⟨_, _, e, hS2⟩
end
end Go.Fr
