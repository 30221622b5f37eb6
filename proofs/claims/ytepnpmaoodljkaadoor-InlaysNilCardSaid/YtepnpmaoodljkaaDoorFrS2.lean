/-
  A region that draws its order, gone through in each order that may come up; what looks at slots alone is taken first. Conditions: none.
-/
import Derived.Test.YtepnpmaoodljkaaDoorFrS
namespace Go.Fr
open Go Go.RowKit
universe u

section
variable {P : Program} {E : Env} {B : Nat} {w0 w : World} {N : Names} {h0 h : PHeap} {b : Nat} {u : Nat → Value} {a : Act} {n : Nat}

theorem evFieldAddr_any (hE : EnvOk P E) {s : TypeId} {x : SV} {f : Nat} {r : SV} {p : Option Prop} (e : evFieldAddr E s x f = some (r, p)) {u : Value} (hx : x.rel N h u) :
    ∃ v, (∀ w, (Instr.fieldAt s u f).run P w = .ok v w) ∧ r.rel N h v := by
  unfold evFieldAddr at e
  split at e
  · rename_i ti hti
    have hT := hE.tt s ti hti
    obtain ⟨d, hd, _, hk⟩ := hT.und
    split at e
    · rename_i fs hfs
      rw [hfs] at hk
      obtain ⟨gs, rfl, hgl, hg⟩ := hk
      split at e
      · rename_i o n _ hf
        obtain ⟨g, i, dd, g1, g2, g3, g4, _⟩ := hg f _ hf
        simp only at g2 g4
        cases hn : Nat.beq n 0 with
        | true => rw [hn] at e; cases e
        | false =>
          rw [hn] at e
          have hn0 : ¬ i.size = 0 := fun hh => by rw [g4] at hh; subst hh; cases hn
          simp only [cond_false] at e
          have run : ∀ (ad : Addr) (w : World), (Instr.fieldAt s (.pointer (some ad)) f).run P w = .ok (.pointer (some (ad.add o))) w := by
            intro ad w
            simp [Instr.fieldAt, run_underlying hd, g1, Instr.sureAddr, fieldPlace, run_sizeOf_of g3, hn0, g2]
          split at e
          · injection e with e; injection e with e1 e2; subst e1 e2
            simp only [SV.rel, Leaf.rel] at hx
            subst hx
            exact ⟨_, run _, by rw [add_lit]; rfl⟩
          · injection e with e; injection e with e1 e2; subst e1 e2
            obtain ⟨h1, ad, rfl, h2⟩ := hx
            exact ⟨_, run _, h1, ad, by rw [add_add, Nat.add_assoc], h2⟩
          · injection e with e; injection e with e1 e2; subst e1 e2
            obtain ⟨g, len, cap, h1, h2, rfl⟩ := hx
            exact ⟨_, run _, g, len, cap, h1, h2, by rw [add_lit, Nat.add_assoc]⟩
          · cases e
      · cases e
    · cases e
  · cases e

/-- What looks at slots alone yields the same in whatever world. -/
theorem eager_val (hE : EnvOk P E) {sl : Slots} {bs : Blks} {rs : Rows} {o : Oper} {r : SV} {p : Option Prop} (e : pureEv E b sl bs rs o.op = some (r, p)) (hp : ∀ q, p = some q → q) (ho : ∀ x, (evO b sl x).rel N h (a.eval x)) (hk : eagerOp o.op = true) :
    ∃ v, (∀ w, (execOp a.eval o).run P w = .ok (.value v) w) ∧ r.rel N h v := by
  obtain ⟨dst, op, type, pos, after, guard⟩ := o
  cases op <;> try (cases hk; done)
  case move x =>
    injection e with e; injection e with e1 e2; subst e1 e2
    exact ⟨_, fun w => by simp [execOp], ho x⟩
  case assign x =>
    injection e with e; injection e with e1 e2; subst e1 e2
    exact ⟨_, fun w => by simp [execOp], ho x⟩
  case fieldAddr s x f =>
    simp only [pureEv] at e
    obtain ⟨v, g1, g2⟩ := evFieldAddr_any hE e (ho x)
    exact ⟨v, fun w => by simp [execOp, g1 w], g2⟩
  case extract x i =>
    simp only [pureEv] at e
    have hx := ho x
    split at e
    · rename_i t y hty
      split at e
      · rename_i s hs
        injection e with e; injection e with e1 e2; subst e1 e2
        rw [hty] at hx
        obtain ⟨vs, h1, h2⟩ := hx
        obtain ⟨v, g1, g2⟩ := tupGet_rel (N := N) t y i s hs vs h2
        exact ⟨v, fun w => by simp [execOp, h1, Instr.extract, g1], g2⟩
      · cases e
    · cases e
  case nilCheck x =>
    simp only [pureEv] at e
    have hx := ho x
    have fin : ∀ ad : Addr, a.eval x = .pointer (some ad) → r.rel N h (.pointer (some ad)) → ∃ v, (∀ w, (execOp a.eval ⟨dst, .nilCheck x, type, pos, after, guard⟩).run P w = .ok (.value v) w) ∧ r.rel N h v := fun ad hv hr =>
      ⟨_, fun w => by simp only [execOp, hv, Sem.run_pure], hr⟩
    unfold evNilCheck at e
    split at e
    · rename_i T y hy
      injection e with e; injection e with e1 e2; subst e1
      have hs := hp _ e2.symm
      rw [hy] at hx
      obtain ⟨cs, g1, g2⟩ := SV.tv_iff.1 hx
      rcases g1 with ⟨rfl, _⟩ | ⟨z, ad, ds, rfl, rfl, g3, g4⟩
      · cases hs
      · refine fin ad g2 ?_
        simp only [SV.rel, Leaf.rel]
        refine ⟨by simp [optL], ad, by simp [Addr.add], fun i x hx => ?_⟩
        cases i with
        | zero =>
          simp [optL] at hx
          subst hx
          exact ⟨ds, g3, by simpa [Addr.add] using g4⟩
        | succ i => simp [optL] at hx
    · rename_i i o hy
      injection e with e; injection e with e1 e2; subst e1 e2
      rw [hy] at hx
      have hx' := hx
      simp only [SV.rel, Leaf.rel] at hx'
      exact fin _ hx' (by rw [← hx']; exact hx)
    · rename_i T xs i o hy
      injection e with e; injection e with e1 e2; subst e1 e2
      rw [hy] at hx
      have hx' := hx
      simp only [SV.rel, Leaf.rel] at hx'
      obtain ⟨_, ad, hv, _⟩ := hx'
      exact fin _ hv (by rw [← hv]; exact hx)
    · rename_i rr s i o hy
      injection e with e; injection e with e1 e2; subst e1 e2
      rw [hy] at hx
      have hx' := hx
      simp only [SV.rel, Leaf.rel] at hx'
      obtain ⟨g, len, cap, _, _, hv⟩ := hx'
      exact fin _ hv (by rw [← hv]; exact hx)
    · cases e

/-- An operation that looks at slots alone, carried out. -/
theorem exec1_eager (hE : EnvOk P E) {J : Inliner} {top : Nat} {σ : St} (hS : Sat B w0 h0 b u n σ N h a w) {o : Oper} (hd : ∀ t, o.dst = some t → t < n) (hk : eagerOp o.op = true) {k : St → Prop} (e : exec1 E J b top o σ k) :
    ∃ v σ', (∀ w, (execOp a.eval o).run P w = .ok (.value v) w) ∧ k σ' ∧ Sat B w0 h0 b u n σ' N h (a.put o.dst v) w := by
  have ho : ∀ x, (evO b σ.slots x).rel N h (a.eval x) := evO_rel hS.slots
  have main : ∀ r p, pureEv E b σ.slots σ.blks σ.rows o.op = some (r, p) → (oblige p (nameK (nmAt E.nm (dstAt b o.dst)) r fun r' => putK σ.slots σ.blks σ.rows (dstAt b o.dst) r' k)) → ∃ v σ', (∀ w, (execOp a.eval o).run P w = .ok (.value v) w) ∧ k σ' ∧ Sat B w0 h0 b u n σ' N h (a.put o.dst v) w := by
    intro r p hr e
    obtain ⟨hp, e⟩ := oblige_some e
    have e := nameK_at e
    rw [putK_eq] at e
    obtain ⟨v, g1, g2⟩ := eager_val hE hr hp ho hk
    exact ⟨v, _, g1, e, hS.put hd g2⟩
  obtain ⟨sl, bs, rs⟩ := σ
  obtain ⟨dst, op, type, pos, after, guard⟩ := o
  unfold exec1 fzK at e
  cases op <;> try (cases hk; done)
  all_goals
    simp only [ownBuild] at e
    split at e
    · rename_i r p hr
      exact main r p hr e
    · rename_i hr
      simp only [storeEv, rowStoreEv, inlEv, rowCall, seqEv, seqEv0, mapOrClear, mapEv, clearK] at e
      split at e <;> exact e.elim

/-! ### One operation, with its guard -/
theorem stepG_cases {J : Inliner} {top : Nat} (ops : Array Oper) {k : St → Prop} (hd : ∀ o ∈ ops.toList, ∀ t, o.dst = some t → t < n) {o : Oper} {σ : St} {N : Names} {h : PHeap} {a : Act} {w : World} (e : stepG E J b top ops.toList o σ k) (hS : Sat B w0 h0 b u n σ N h a w) :
    ((Region.wanted o (yielded ops a.tmps) = true ∧ ∃ σ1, Sat B w0 h0 b u n σ1 N h a w ∧ exec1 E J b top o σ1 k) ∨ (Region.wanted o (yielded ops a.tmps) = false ∧ ∃ σ1, Sat B w0 h0 b u n σ1 N h a w ∧ k (σ1.put (dstAt b o.dst) (.leaf .undef)))) := by
    have run : ∀ (σ : St) (N : Names) (h : PHeap) (a : Act) (w : World), Sat B w0 h0 b u n σ N h a w → Region.wanted o (yielded ops a.tmps) = true → exec1 E J b top o σ k →
        ((Region.wanted o (yielded ops a.tmps) = true ∧ ∃ σ1, Sat B w0 h0 b u n σ1 N h a w ∧ exec1 E J b top o σ1 k) ∨ (Region.wanted o (yielded ops a.tmps) = false ∧ ∃ σ1, Sat B w0 h0 b u n σ1 N h a w ∧ k (σ1.put (dstAt b o.dst) (.leaf .undef)))) := by
      intro σ N h a w hS hw e
      exact .inl ⟨hw, σ, hS, e⟩
    have skip : ∀ (σ : St) (N : Names) (h : PHeap) (a : Act) (w : World), Sat B w0 h0 b u n σ N h a w → Region.wanted o (yielded ops a.tmps) = false → setK σ (dstAt b o.dst) (.leaf .undef) k →
        ((Region.wanted o (yielded ops a.tmps) = true ∧ ∃ σ1, Sat B w0 h0 b u n σ1 N h a w ∧ exec1 E J b top o σ1 k) ∨ (Region.wanted o (yielded ops a.tmps) = false ∧ ∃ σ1, Sat B w0 h0 b u n σ1 N h a w ∧ k (σ1.put (dstAt b o.dst) (.leaf .undef)))) := by
      intro σ N h a w hS hw e
      rw [setK_eq] at e
      exact .inr ⟨hw, σ, hS, e⟩
    unfold stepG at e
    split at e
    · rename_i hg
      exact run σ N h a w hS (by simp [Region.wanted, hg]) e
    · rename_i j wt hg
      split at e
      · exact e.elim
      · rename_i t ht
        have hyield : yielded ops a.tmps j = match a.tmps.getD t undef with | .bool b => some b | _ => none := by
          unfold dstOf at ht
          split at ht
          · rename_i oj hoj
            have : ops[j]? = some oj := by rw [← hoj]; simp
            have htn : t < a.tmps.size := by rw [hS.size]; exact hd oj (List.mem_of_getElem? hoj) t ht
            have e1 : ((ops[j]?).bind (·.dst)).bind (a.tmps[·]?) = some (a.tmps.getD t undef) := by
              rw [this]
              simp only [Option.bind_some, ht]
              rw [Array.getElem?_eq_getElem htn, Array.getD_eq_getD_getElem?, Array.getElem?_eq_getElem htn]
              rfl
            unfold yielded
            rw [e1]
            cases a.tmps.getD t undef <;> rfl
          · cases ht
        have hwant : ∀ b, a.tmps.getD t undef = .bool b → Region.wanted o (yielded ops a.tmps) = (b == wt) := by
          intro b hb
          simp [Region.wanted, hg, hyield, hb]
        have hslot := hS.slots (b + t)
        rw [vals_at] at hslot
        have gd : ∀ (c : Bool) (σ : St) (N : Names) (h : PHeap), Sat B w0 h0 b u n σ N h a w → a.tmps.getD t undef = .bool c → guarded wt c (exec1 E J b top o σ k) (setK σ (dstAt b o.dst) (.leaf .undef) k) →
            ((Region.wanted o (yielded ops a.tmps) = true ∧ ∃ σ1, Sat B w0 h0 b u n σ1 N h a w ∧ exec1 E J b top o σ1 k) ∨ (Region.wanted o (yielded ops a.tmps) = false ∧ ∃ σ1, Sat B w0 h0 b u n σ1 N h a w ∧ k (σ1.put (dstAt b o.dst) (.leaf .undef)))) := by
          intro c σ N h hS hb e
          have hw := hwant c hb
          cases c <;> cases wt <;> simp only [guarded] at e
          · exact run σ N h a w hS (by rw [hw]; rfl) e
          · exact skip σ N h a w hS (by rw [hw]; rfl) e
          · exact skip σ N h a w hS (by rw [hw]; rfl) e
          · exact run σ N h a w hS (by rw [hw]; rfl) e
        split at e
        · rename_i c hb
          rw [hb] at hslot
          simp only [SV.rel, Leaf.rel] at hslot
          exact gd c σ N h hS hslot e
        · rename_i c hb
          rw [hb] at hslot
          have hval : a.tmps.getD t undef = .bool c := by
            obtain ⟨cs, q1, q2⟩ := SV.tv_iff.1 hslot
            simp only [rep] at q1
            subst q1
            exact q2
          have known : ∀ c' : Bool, c = c' → Sat B w0 h0 b u n (σ.put (some (b + t)) (.leaf (.blit c'))) N h a w := by
            intro c' hc
            subst hc
            refine ⟨hS.mem, hS.grow, hS.dom, fun t' => ?_, hS.size, hS.defers⟩
            show (getS ((b + t, SV.leaf (Leaf.blit c)) :: σ.slots) t').rel N h (vals b u a t')
            rw [getS_cons]
            split
            · rename_i e; subst e; rw [vals_at]; exact SV.leaf_iff.2 (by simp only [Leaf.rel]; exact hval)
            · exact hS.slots t'
          cases c with
          | true =>
            have e := e.1 rfl
            rw [setK_eq] at e
            exact gd true _ N h (known true rfl) hval e
          | false =>
            have e := e.2 rfl
            rw [setK_eq] at e
            exact gd false _ N h (known false rfl) hval e
        · rename_i hu
          rw [hu] at hslot
          have hw : Region.wanted o (yielded ops a.tmps) = false := by
            have : a.tmps.getD t undef = undef := by simpa only [SV.rel, Leaf.rel] using hslot
            have hn : yielded ops a.tmps j = none := by rw [hyield, this]; rfl
            unfold Region.wanted
            rw [hg]
            simp only
            rw [hn]
            rfl
          exact skip σ N h a w hS hw e
        · exact e.elim

theorem stepG_sound (hE : EnvOk P E) {J : Inliner} (hJ : InlSound P E J) (hG : GlobOk E.gl h0) {top : Nat} (ops : Array Oper) {Q : Exit → Act → World → Prop} {k : St → Prop} {K : Act → World → Prop}
    (hd : ∀ o ∈ ops.toList, ∀ t, o.dst = some t → t < n) {i : Nat} {o : Oper} (hi : ops.toList[i]? = some o) {σ : St} {N : Names} {h : PHeap} {a : Act} {w : World} (e : stepG E J b top ops.toList o σ k) (hS : Sat B w0 h0 b u n σ N h a w)
    (hK : ∀ σ' N' h' a' w', k σ' → Sat B w0 h0 b u n σ' N' h' a' w' → K a' w') : wpOp P ops Q i K a w := by
  have hoi : ops[i]? = some o := by rw [← hi]; simp
  have hdo := hd o (List.mem_of_getElem? hi)
  unfold wpOp
  rw [hoi]
  simp only
  rcases stepG_cases ops hd e hS with ⟨hw, σ1, hS1, e1⟩ | ⟨hw, σ1, hS1, e1⟩
  · simp only [hw, if_true]
    exact .inl (exec1_sound hE hJ hG hS1 hdo e1 fun σ' N' h' a' w' hk hS' => hK σ' N' h' a' w' hk hS')
  · simp only [hw, Bool.false_eq_true, if_false]
    exact hK _ N h _ w e1 (hS1.put hdo (SV.leaf_iff.2 (by simp only [Leaf.rel])))
theorem stepG_eager (hE : EnvOk P E) {J : Inliner} {top : Nat} (ops : Array Oper) {k : St → Prop}
    (hd : ∀ o ∈ ops.toList, ∀ t, o.dst = some t → t < n) {i : Nat} {o : Oper} (hi : ops.toList[i]? = some o) (hk : eagerOp o.op = true) {σ : St} {N : Names} {h : PHeap} {a : Act} {w : World} (e : stepG E J b top ops.toList o σ k) (hS : Sat B w0 h0 b u n σ N h a w) :
    ∃ v σ', Go.Yields P ops o v a ∧ k σ' ∧ Sat B w0 h0 b u n σ' N h (a.put o.dst v) w := by
  have hdo := hd o (List.mem_of_getElem? hi)
  rcases stepG_cases ops hd e hS with ⟨hw, σ1, hS1, e1⟩ | ⟨hw, σ1, hS1, e1⟩
  · obtain ⟨v, σ', g1, g2, g3⟩ := exec1_eager hE hS1 hdo hk e1
    exact ⟨v, σ', .inl ⟨hw, g1⟩, g2, g3⟩
  · exact ⟨undef, _, .inr ⟨hw, rfl⟩, e1, hS1.put hdo (SV.leaf_iff.2 (by simp only [Leaf.rel]))⟩

/-! ### What may come up -/
theorem lget_eq : (l : List Bool) → (i : Nat) → lget l i = (l[i]?).getD false
  | [], _ => by simp [lget]
  | x :: _, 0 => by simp [lget]
  | _ :: r, i + 1 => by simpa [lget] using lget_eq r i
theorem noSel_all : {l : List Oper} → noSel l = true → ∀ o ∈ l, (match o.op with | .select _ _ => false | _ => true) = true
  | [], _, o, ho => by cases ho
  | x :: r, e, o, ho => by
    simp only [noSel, Bool.and_eq_true] at e
    rcases List.mem_cons.1 ho with h | h
    · subst h; exact e.1
    · exact noSel_all e.2 o h
theorem isReadyL_iff {listed : List Bool} : {es : List Edge} → (isReadyL listed es = true ↔ ∀ e ∈ es, Region.binds .any e = true → listed.toArray.getD e.on false = true)
  | [] => by simp [isReadyL]
  | e :: r => by
    simp only [isReadyL, Bool.and_eq_true, List.mem_cons, forall_eq_or_imp]
    rw [isReadyL_iff (es := r)]
    refine and_congr_left fun _ => ?_
    have hl : listed.toArray.getD e.on false = lget listed e.on := by
      rw [lget_eq]
      simp [Array.getD_eq_getD_getElem?]
    rw [hl]
    unfold Region.binds
    cases hg : e.ground <;> first | exact ⟨fun h _ => h, fun h => h rfl⟩ | exact ⟨fun _ h => absurd (show (Region.Mode.any == Region.Mode.text) = true from h) (by decide), fun _ => rfl⟩ | exact ⟨fun _ h => absurd (show (Region.Mode.any == Region.Mode.gc) = true from h) (by decide), fun _ => rfl⟩
theorem readyL_iff {all : List Oper} {listed : List Bool} (hl : listed.length = all.length) {j : Nat} : j ∈ readyL listed 0 all listed ↔ j ∈ Region.ready .any all.toArray listed.toArray := by
  have key : ∀ (l : List Oper) (fs : List Bool) (i : Nat), fs.length = l.length → ∀ j, j ∈ readyL listed i l fs ↔ ∃ k o, j = i + k ∧ l[k]? = some o ∧ fs[k]? = some false ∧ isReadyL listed o.after.toList = true := by
    intro l
    induction l with
    | nil => intro fs i hf j; cases fs <;> simp [readyL]
    | cons o l ih =>
      intro fs i hf j
      cases fs with
      | nil => simp at hf
      | cons f fs =>
        have ih' := ih fs (i + 1) (by simpa using hf) j
        have tail : (∃ k x, j = i + 1 + k ∧ l[k]? = some x ∧ fs[k]? = some false ∧ isReadyL listed x.after.toList = true) → ∃ k x, j = i + k ∧ (o :: l)[k]? = some x ∧ (f :: fs)[k]? = some false ∧ isReadyL listed x.after.toList = true :=
          fun ⟨k, x, h1, h2, h3, h4⟩ => ⟨k + 1, x, by omega, by simpa using h2, by simpa using h3, h4⟩
        have back : ∀ k x, j = i + k → (o :: l)[k]? = some x → (f :: fs)[k]? = some false → isReadyL listed x.after.toList = true → (k = 0 ∧ f = false ∧ isReadyL listed o.after.toList = true) ∨ ∃ k x, j = i + 1 + k ∧ l[k]? = some x ∧ fs[k]? = some false ∧ isReadyL listed x.after.toList = true := by
          intro k x h1 h2 h3 h4
          cases k with
          | zero => simp at h2 h3; subst h2 h3; exact .inl ⟨rfl, rfl, h4⟩
          | succ k => exact .inr ⟨k, x, by omega, by simpa using h2, by simpa using h3, h4⟩
        unfold readyL
        cases f with
        | true =>
          simp only [cond_true]
          rw [ih']
          constructor
          · exact tail
          · rintro ⟨k, x, h1, h2, h3, h4⟩
            rcases back k x h1 h2 h3 h4 with ⟨_, h, _⟩ | h
            · cases h
            · exact h
        | false =>
          simp only [cond_false]
          cases hr : isReadyL listed o.after.toList with
          | true =>
            simp only [cond_true, List.mem_cons]
            rw [ih']
            constructor
            · rintro (rfl | h)
              · exact ⟨0, o, rfl, rfl, rfl, hr⟩
              · exact tail h
            · rintro ⟨k, x, h1, h2, h3, h4⟩
              rcases back k x h1 h2 h3 h4 with ⟨h, _⟩ | h
              · subst h; exact .inl h1
              · exact .inr h
          | false =>
            simp only [cond_false]
            rw [ih']
            constructor
            · exact tail
            · rintro ⟨k, x, h1, h2, h3, h4⟩
              rcases back k x h1 h2 h3 h4 with ⟨_, _, h⟩ | h
              · rw [hr] at h; cases h
              · exact h
  rw [key all listed 0 hl j, mem_ready]
  constructor
  · rintro ⟨k, o, rfl, h2, h3, h4⟩
    refine ⟨?_, o, by simpa using h2, fun e he hb => (isReadyL_iff.1 h4) e (by simpa using he) hb⟩
    simp only [Nat.zero_add]
    rw [Array.getD_eq_getD_getElem?]
    simp [h3]
  · rintro ⟨h0, o, ho, h4⟩
    have ho' : all[j]? = some o := by simpa using ho
    have hj : j < listed.length := by rw [hl]; exact (List.getElem?_eq_some_iff.1 ho').1
    refine ⟨j, o, by omega, ho', ?_, isReadyL_iff.2 fun e he hb => h4 e (by simpa using he) hb⟩
    rw [Array.getD_eq_getD_getElem?] at h0
    rw [List.getElem?_eq_getElem hj]
    simp [hj] at h0
    rw [h0]

theorem looks_of_looksAt {ops : Array Oper} {o : Oper} {d : Nat} (h : d ∈ o.looksAt ops) : d ∈ looks ops.toList o := by
  unfold Oper.looksAt at h
  unfold looks
  rcases List.mem_append.1 h with h | h
  · obtain ⟨x, hx, e⟩ := List.mem_filterMap.1 h
    refine List.mem_append_left _ (List.mem_flatMap.2 ⟨x, hx, ?_⟩)
    cases x <;> simp at e
    subst e
    simp [tmpOf]
  · refine List.mem_append_right _ ?_
    split at h
    · rename_i g wt hg
      rw [hg]
      simp only [Option.mem_toList] at h
      cases hx : ops[g]? with
      | none => rw [hx] at h; cases h
      | some x =>
        rw [hx] at h
        have hx' : ops.toList[g]? = some x := by rw [Array.getElem?_toList]; exact hx
        have : dstOf ops.toList g = some d := by
          unfold dstOf
          rw [hx']
          simpa using h
        simp only [this]
        exact List.mem_singleton.2 rfl
    · cases h

theorem conjL_all {f : Nat → Prop} : {l : List Nat} → conjL f l → ∀ i ∈ l, f i
  | [], _, i, hi => by cases hi
  | [x], e, i, hi => by
    rw [List.mem_singleton.1 hi]
    exact e
  | x :: y :: r, e, i, hi => by
    rcases List.mem_cons.1 hi with h | h
    · subst h; exact e.1
    · exact conjL_all e.2 i h
theorem firstEager_some {all : List Oper} : {l : List Nat} → {j : Nat} → firstEager all l = some j → j ∈ l ∧ ∃ o, all[j]? = some o ∧ eagerOp o.op = true
  | [], j, e => by cases e
  | i :: r, j, e => by
    unfold firstEager at e
    split at e
    · rename_i o ho
      cases hb : eagerOp o.op with
      | true =>
        rw [hb] at e
        injection e with e
        subst e
        exact ⟨List.mem_cons_self .., o, ho, hb⟩
      | false =>
        rw [hb] at e
        obtain ⟨h1, h2⟩ := firstEager_some e
        exact ⟨List.mem_cons_of_mem _ h1, h2⟩
    · obtain ⟨h1, h2⟩ := firstEager_some e
      exact ⟨List.mem_cons_of_mem _ h1, h2⟩
theorem lset_eq : (l : List Bool) → (i : Nat) → (lset l i).toArray = l.toArray.setIfInBounds i true := by
  intro l i
  have : lset l i = l.set i true := by
    induction l generalizing i with
    | nil => rfl
    | cons x r ih => cases i with
      | zero => rfl
      | succ i => simp [lset, ih]
  rw [this]
  simp
theorem lset_len : (l : List Bool) → (i : Nat) → (lset l i).length = l.length
  | [], _ => rfl
  | _ :: _, 0 => rfl
  | _ :: r, i + 1 => by simp [lset, lset_len r i]

theorem execA_run (hE : EnvOk P E) {J : Inliner} (hJ : InlSound P E J) (hG : GlobOk E.gl h0) {top : Nat} (ops : Array Oper) (hok : ∀ (j : Nat) o, ops.toList[j]? = some o → OkAt ops.toList j o) (hsel : ∀ (j : Nat) (o : Oper) cs b, ops[j]? = some o → o.op ≠ .select cs b)
    {Q : Exit → Act → World → Prop} (hp : ∀ c a w, ¬ Q (.panic c) a w) {k : St → Prop}
    (hd : ∀ o ∈ ops.toList, ∀ t, o.dst = some t → t < n) (hQ : ∀ σ' N' h' a' w', k σ' → Sat B w0 h0 b u n σ' N' h' a' w' → Q .normal a' w') :
    ∀ (m : Nat) (listed : List Bool) (σ : St) (N : Names) (h : PHeap) (a : Act) (w : World), listed.length = ops.toList.length → execA E J b top ops.toList m listed σ k → Sat B w0 h0 b u n σ N h a w → wpAny P .any ops Q m listed.toArray a w := by
  intro m
  induction m with
  | zero =>
    intro listed σ N h a w hl e hS
    simp only [execA] at e
    split at e
    · rename_i hr
      refine ⟨?_, hQ σ N h a w e hS⟩
      cases hrr : Region.ready .any ops listed.toArray with
      | nil => rfl
      | cons i r =>
        have : i ∈ readyL listed 0 ops.toList listed := (readyL_iff hl).2 (by rw [Array.toArray_toList, hrr]; exact List.mem_cons_self ..)
        rw [hr] at this
        cases this
    · exact e.elim
  | succ m ih =>
    intro listed σ N h a w hl e hS
    simp only [execA] at e
    split at e
    · rename_i hr
      refine wpAny_done ?_ (hQ σ N h a w e hS) _
      cases hrr : Region.ready .any ops listed.toArray with
      | nil => rfl
      | cons i r =>
        have : i ∈ readyL listed 0 ops.toList listed := (readyL_iff hl).2 (by rw [Array.toArray_toList, hrr]; exact List.mem_cons_self ..)
        rw [hr] at this
        cases this
    · rename_i i0 r0 hr
      split at e
      · rename_i j hj
        obtain ⟨h1, o, ho, hk⟩ := firstEager_some hj
        rw [ho] at e
        simp only at e
        obtain ⟨v, σ', g1, g2, g3⟩ := stepG_eager hE ops hd ho hk e hS
        have hoj : ops[j]? = some o := by rw [← ho]; simp
        have hjr : j ∈ Region.ready .any ops listed.toArray := by
          have := (readyL_iff hl).1 (by rw [hr]; exact h1)
          rwa [Array.toArray_toList] at this
        have hw := ih (lset listed j) σ' N h (a.put o.dst v) w (by rw [lset_len, hl]) g2 g3
        rw [lset_eq] at hw
        refine wpAny_first hoj hsel (fun c a w hh => absurd hh (hp c _ w)) m listed.toArray a w ?_ hjr g1 hw
        -- it stands apart from all that may come up ahead of it
        intro i oi hoi hij hun hno
        have hoi' : ops.toList[i]? = some oi := by rw [Array.getElem?_toList]; exact hoi
        have hnot : ¬ afterOf ops.toList i j = true := by
          intro hh
          unfold afterOf at hh
          rw [hoi'] at hh
          obtain ⟨x, hx, q1, q2⟩ := onList_get.1 hh
          exact hno x (by simpa using hx) q2 q1
        have hnot2 : ¬ afterOf ops.toList j i = true := by
          intro hh
          unfold afterOf at hh
          rw [ho] at hh
          obtain ⟨x, hx, q1, q2⟩ := onList_get.1 hh
          obtain ⟨_, o', ho', hall⟩ := mem_ready.1 hjr
          rw [hoj] at ho'
          injection ho' with ho'
          subst ho'
          have := hall x (by simpa using hx) q2
          rw [q1] at this
          rw [Array.getD_eq_getD_getElem?] at this hun
          cases hx : listed.toArray[i]? with
          | none => rw [hx] at this; cases this
          | some f => rw [hx] at this hun; simp at this hun; rw [this] at hun; cases hun
        have okj := hok j o ho
        have oki := hok i oi hoi'
        unfold Oper.apart
        simp only [Bool.and_eq_true]
        refine ⟨?_, ?_⟩
        · split
          · rename_i d hdst
            simp only [Bool.and_eq_true, Bool.not_eq_true', bne_iff_ne, ne_eq]
            refine ⟨?_, fun hh => hij (okj.once d hdst i oi hoi' hh)⟩
            cases hc : (oi.looksAt ops).contains d with
            | false => rfl
            | true =>
              have := oki.reads d (looks_of_looksAt (List.contains_iff_mem.1 hc)) j o ho hdst
              rcases Nat.lt_or_gt_of_ne hij with q | q
              · exact absurd (this.2 q) hnot2
              · exact absurd (this.1 q) hnot
          · rfl
        · split
          · rename_i d hdst
            simp only [Bool.not_eq_true']
            cases hc : (o.looksAt ops).contains d with
            | false => rfl
            | true =>
              have := okj.reads d (looks_of_looksAt (List.contains_iff_mem.1 hc)) i oi hoi' hdst
              rcases Nat.lt_or_gt_of_ne hij with q | q
              · exact absurd (this.1 q) hnot2
              · exact absurd (this.2 q) hnot
          · rfl
      · refine ⟨fun h0 => ?_, fun i hi => ?_⟩
        · have : i0 ∈ Region.ready .any ops listed.toArray := by
            have := (readyL_iff hl).1 (by rw [hr]; exact List.mem_cons_self ..)
            rwa [Array.toArray_toList] at this
          rw [h0] at this
          cases this
        · have hi' : i ∈ readyL listed 0 ops.toList listed := (readyL_iff hl).2 (by rw [Array.toArray_toList]; exact hi)
          rw [hr] at hi'
          have e := conjL_all e i hi'
          split at e
          · rename_i o ho
            refine stepG_sound hE hJ hG ops hd ho e hS fun σ' N' h' a' w' hk hS' => ?_
            have := ih (lset listed i) σ' N' h' a' w' (by rw [lset_len, hl]) hk hS'
            rwa [lset_eq] at this
          · exact e.elim

theorem execA_sound (hE : EnvOk P E) {J : Inliner} (hJ : InlSound P E J) (hG : GlobOk E.gl h0) (hm : P.follows .mixedOrders = true) {top : Nat} (ops : Array Oper) (id : Nat) (hok : okOps ops.toList 0 ops.toList = true) {Q : Exit → Act → World → Prop} {k : St → Prop}
    (hd : ∀ o ∈ ops.toList, ∀ t, o.dst = some t → t < n) (hQ : ∀ σ' N' h' a' w', k σ' → Sat B w0 h0 b u n σ' N' h' a' w' → Q .normal a' w')
    {σ : St} {h : PHeap} {a : Act} {w : World} (e : execAll E J b top ops.toList σ k) (hS : Sat B w0 h0 b u n σ N h a w) : (Code.region id ops true).wp P Q a w := by
  unfold execAll at e
  cases hs : noSel ops.toList with
  | false => rw [hs] at e; exact e.elim
  | true =>
    rw [hs] at e
    simp only at e
    refine Code.wp_mono (Q := fun e a w => (∀ c, e ≠ .panic c) ∧ Q e a w) (fun _ _ _ hh => hh.2) ?_
    refine wp_region_any hm ?_
    have hmem : MemSat B w0 σ.blks σ.rows N h { w with drawn := w.drawn + 1 } := by
      have := hS.mem
      exact ⟨⟨this.below.os, this.below.tape, this.below.output, this.below.size, this.below.block, Nat.le_succ_of_le this.below.drawn⟩, this.size, this.pin, this.blk, this.inj, this.row, this.rowh, this.rowb, this.rowr⟩
    have := execA_run (B := B) (w0 := w0) (h0 := h0) (u := u) (n := n) hE hJ hG ops (fun j o ho => by have := okOps_get ops.toList 0 hok j o ho; rwa [Nat.zero_add] at this) (fun j o cs b ho heq => ?_)
      (Q := fun e a w => (∀ c, e ≠ .panic c) ∧ Q e a w) (fun c a w hh => hh.1 c rfl) hd (fun σ' N' h' a' w' hk hS' => ⟨fun c hc => (by cases hc), hQ σ' N' h' a' w' hk hS'⟩) ops.toList.length (List.replicate ops.toList.length false) σ N h a { w with drawn := w.drawn + 1 } (by simp) e ⟨hmem, hS.grow, hS.dom, hS.slots, hS.size, hS.defers⟩
    · simpa using this
    · have ho' : o ∈ ops.toList := List.mem_of_getElem? (by rw [Array.getElem?_toList]; exact ho)
      have := noSel_all hs o ho'
      rw [heq] at this
      cases this
end
end Go.Fr
