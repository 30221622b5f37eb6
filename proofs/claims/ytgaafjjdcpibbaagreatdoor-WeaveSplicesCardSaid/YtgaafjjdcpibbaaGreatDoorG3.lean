/-
  Texts on which the proofs of the seat's statements stand: a symbolic walk, its soundness, the functions' conditions and their proofs (3). Conditions: none.
-/
import Derived.Test.YtgaafjjdcpibbaaGreatDoorG2
import Derived.Scope
import Derived.ProofKit
import Derived.OpenShut
import Derived.ShutString
import Derived.ChangeOld
import Derived.Below
import Derived.Carry
import Derived.SizedLaws
import Derived.ChangeCalls
import Derived.Handed
import Derived.Test.YtgaafjjdcpibbaaGreatDoorProg
namespace Go.Fr
open Go Go.RowKit
universe u
section
variable {P : Program} {E : Env} {B : Nat} {w0 w : World} {N : Names} {h0 h : PHeap} {b : Nat} {u : Nat → Value} {a : Act} {n : Nat}
theorem evFieldAddr_any (hE : EnvOk P E) {s : TypeId} {x : SV} {f : Nat} {r : SV} {p : Option Prop} (e : evFieldAddr E s x f = some (r, p)) {u : Value} (hx : x.rel N h u) :
    ∃ v, (∀ w, (Instr.fieldAt s u f).run P w = .ok v w) ∧ r.rel N h v := by
  unfold evFieldAddr at e
  split at e
  · rename_i ti hti
    have hT := hE.tt s ti hti
    obtain ⟨d, hd, _, hk⟩ := hT.und
    split at e
    · rename_i fs hfs
      rw [hfs] at hk
      obtain ⟨gs, rfl, hgl, hg⟩ := hk
      split at e
      · rename_i o n _ hf
        obtain ⟨g, i, dd, g1, g2, g3, g4, _⟩ := hg f _ hf
        simp only at g2 g4
        cases hn : Nat.beq n 0 with
        | true => rw [hn] at e; cases e
        | false =>
          rw [hn] at e
          have hn0 : ¬ i.size = 0 := fun hh => by rw [g4] at hh; subst hh; cases hn
          simp only [cond_false] at e
          have run : ∀ (ad : Addr) (w : World), (Instr.fieldAt s (.pointer (some ad)) f).run P w = .ok (.pointer (some (ad.add o))) w := by
            intro ad w
            simp [Instr.fieldAt, run_underlying hd, g1, Instr.sureAddr, fieldPlace, run_sizeOf_of g3, hn0, g2]
          split at e
          · injection e with e; injection e with e1 e2; subst e1 e2
            simp only [SV.rel, Leaf.rel] at hx
            subst hx
            exact ⟨_, run _, by rw [add_lit]; rfl⟩
          · injection e with e; injection e with e1 e2; subst e1 e2
            obtain ⟨h1, ad, rfl, h2⟩ := hx
            exact ⟨_, run _, h1, ad, by rw [add_add, Nat.add_assoc], h2⟩
          · injection e with e; injection e with e1 e2; subst e1 e2
            obtain ⟨g, len, cap, h1, h2, rfl⟩ := hx
            exact ⟨_, run _, g, len, cap, h1, h2, by rw [add_lit, Nat.add_assoc]⟩
          · cases e
      · cases e
    · cases e
  · cases e
theorem eager_val (hE : EnvOk P E) {sl : Slots} {bs : Blks} {rs : Rows} {o : Oper} {r : SV} {p : Option Prop} (e : pureEv E b sl bs rs o.op = some (r, p)) (hp : ∀ q, p = some q → q) (ho : ∀ x, (evO b sl x).rel N h (a.eval x)) (hk : eagerOp o.op = true) :
    ∃ v, (∀ w, (execOp a.eval o).run P w = .ok (.value v) w) ∧ r.rel N h v := by
  obtain ⟨dst, op, type, pos, after, guard⟩ := o
  cases op <;> try (cases hk; done)
  case move x =>
    injection e with e; injection e with e1 e2; subst e1 e2
    exact ⟨_, fun w => by simp [execOp], ho x⟩
  case assign x =>
    injection e with e; injection e with e1 e2; subst e1 e2
    exact ⟨_, fun w => by simp [execOp], ho x⟩
  case fieldAddr s x f =>
    simp only [pureEv] at e
    obtain ⟨v, g1, g2⟩ := evFieldAddr_any hE e (ho x)
    exact ⟨v, fun w => by simp [execOp, g1 w], g2⟩
  case extract x i =>
    simp only [pureEv] at e
    have hx := ho x
    split at e
    · rename_i t y hty
      split at e
      · rename_i s hs
        injection e with e; injection e with e1 e2; subst e1 e2
        rw [hty] at hx
        obtain ⟨vs, h1, h2⟩ := hx
        obtain ⟨v, g1, g2⟩ := tupGet_rel (N := N) t y i s hs vs h2
        exact ⟨v, fun w => by simp [execOp, h1, Instr.extract, g1], g2⟩
      · cases e
    · cases e
  case nilCheck x =>
    simp only [pureEv] at e
    have hx := ho x
    have fin : ∀ ad : Addr, a.eval x = .pointer (some ad) → r.rel N h (.pointer (some ad)) → ∃ v, (∀ w, (execOp a.eval ⟨dst, .nilCheck x, type, pos, after, guard⟩).run P w = .ok (.value v) w) ∧ r.rel N h v := fun ad hv hr =>
      ⟨_, fun w => by simp only [execOp, hv, Sem.run_pure], hr⟩
    unfold evNilCheck at e
    split at e
    · rename_i T y hy
      injection e with e; injection e with e1 e2; subst e1
      have hs := hp _ e2.symm
      rw [hy] at hx
      obtain ⟨cs, g1, g2⟩ := SV.tv_iff.1 hx
      rcases g1 with ⟨rfl, _⟩ | ⟨z, ad, ds, rfl, rfl, g3, g4⟩
      · cases hs
      · refine fin ad g2 ?_
        simp only [SV.rel, Leaf.rel]
        refine ⟨by simp [optL], ad, by simp [Addr.add], fun i x hx => ?_⟩
        cases i with
        | zero =>
          simp [optL] at hx
          subst hx
          exact ⟨ds, g3, by simpa [Addr.add] using g4⟩
        | succ i => simp [optL] at hx
    · rename_i i o hy
      injection e with e; injection e with e1 e2; subst e1 e2
      rw [hy] at hx
      have hx' := hx
      simp only [SV.rel, Leaf.rel] at hx'
      exact fin _ hx' (by rw [← hx']; exact hx)
    · rename_i T xs i o hy
      injection e with e; injection e with e1 e2; subst e1 e2
      rw [hy] at hx
      have hx' := hx
      simp only [SV.rel, Leaf.rel] at hx'
      obtain ⟨_, ad, hv, _⟩ := hx'
      exact fin _ hv (by rw [← hv]; exact hx)
    · rename_i rr s i o hy
      injection e with e; injection e with e1 e2; subst e1 e2
      rw [hy] at hx
      have hx' := hx
      simp only [SV.rel, Leaf.rel] at hx'
      obtain ⟨g, len, cap, _, _, hv⟩ := hx'
      exact fin _ hv (by rw [← hv]; exact hx)
    · cases e
theorem exec1_eager (hE : EnvOk P E) {J : Inliner} {top : Nat} {σ : St} (hS : Sat B w0 h0 b u n σ N h a w) {o : Oper} (hd : ∀ t, o.dst = some t → t < n) (hk : eagerOp o.op = true) {k : St → Prop} (e : exec1 E J b top o σ k) :
    ∃ v σ', (∀ w, (execOp a.eval o).run P w = .ok (.value v) w) ∧ k σ' ∧ Sat B w0 h0 b u n σ' N h (a.put o.dst v) w := by
  have ho : ∀ x, (evO b σ.slots x).rel N h (a.eval x) := evO_rel hS.slots
  have main : ∀ r p, pureEv E b σ.slots σ.blks σ.rows o.op = some (r, p) → (oblige p (nameK (nmAt E.nm (dstAt b o.dst)) r fun r' => putK σ.slots σ.blks σ.rows (dstAt b o.dst) r' k)) → ∃ v σ', (∀ w, (execOp a.eval o).run P w = .ok (.value v) w) ∧ k σ' ∧ Sat B w0 h0 b u n σ' N h (a.put o.dst v) w := by
    intro r p hr e
    obtain ⟨hp, e⟩ := oblige_some e
    have e := nameK_at e
    rw [putK_eq] at e
    obtain ⟨v, g1, g2⟩ := eager_val hE hr hp ho hk
    exact ⟨v, _, g1, e, hS.put hd g2⟩
  obtain ⟨sl, bs, rs⟩ := σ
  obtain ⟨dst, op, type, pos, after, guard⟩ := o
  unfold exec1 fzK at e
  cases op <;> try (cases hk; done)
  all_goals
    simp only [ownBuild] at e
    split at e
    · rename_i r p hr
      exact main r p hr e
    · rename_i hr
      simp only [storeEv, rowStoreEv, inlEv, rowCall, seqEv, seqEv0, mapOrClear, mapEv, clearK] at e
      split at e <;> exact e.elim
theorem stepG_cases {J : Inliner} {top : Nat} (ops : Array Oper) {k : St → Prop} (hd : ∀ o ∈ ops.toList, ∀ t, o.dst = some t → t < n) {o : Oper} {σ : St} {N : Names} {h : PHeap} {a : Act} {w : World} (e : stepG E J b top ops.toList o σ k) (hS : Sat B w0 h0 b u n σ N h a w) :
    ((Region.wanted o (yielded ops a.tmps) = true ∧ ∃ σ1, Sat B w0 h0 b u n σ1 N h a w ∧ exec1 E J b top o σ1 k) ∨ (Region.wanted o (yielded ops a.tmps) = false ∧ ∃ σ1, Sat B w0 h0 b u n σ1 N h a w ∧ k (σ1.put (dstAt b o.dst) (.leaf .undef)))) := by
    have run : ∀ (σ : St) (N : Names) (h : PHeap) (a : Act) (w : World), Sat B w0 h0 b u n σ N h a w → Region.wanted o (yielded ops a.tmps) = true → exec1 E J b top o σ k →
        ((Region.wanted o (yielded ops a.tmps) = true ∧ ∃ σ1, Sat B w0 h0 b u n σ1 N h a w ∧ exec1 E J b top o σ1 k) ∨ (Region.wanted o (yielded ops a.tmps) = false ∧ ∃ σ1, Sat B w0 h0 b u n σ1 N h a w ∧ k (σ1.put (dstAt b o.dst) (.leaf .undef)))) := by
      intro σ N h a w hS hw e
      exact .inl ⟨hw, σ, hS, e⟩
    have skip : ∀ (σ : St) (N : Names) (h : PHeap) (a : Act) (w : World), Sat B w0 h0 b u n σ N h a w → Region.wanted o (yielded ops a.tmps) = false → setK σ (dstAt b o.dst) (.leaf .undef) k →
        ((Region.wanted o (yielded ops a.tmps) = true ∧ ∃ σ1, Sat B w0 h0 b u n σ1 N h a w ∧ exec1 E J b top o σ1 k) ∨ (Region.wanted o (yielded ops a.tmps) = false ∧ ∃ σ1, Sat B w0 h0 b u n σ1 N h a w ∧ k (σ1.put (dstAt b o.dst) (.leaf .undef)))) := by
      intro σ N h a w hS hw e
      rw [setK_eq] at e
      exact .inr ⟨hw, σ, hS, e⟩
    unfold stepG at e
    split at e
    · rename_i hg
      exact run σ N h a w hS (by simp [Region.wanted, hg]) e
    · rename_i j wt hg
      split at e
      · exact e.elim
      · rename_i t ht
        have hyield : yielded ops a.tmps j = match a.tmps.getD t undef with | .bool b => some b | _ => none := by
          unfold dstOf at ht
          split at ht
          · rename_i oj hoj
            have : ops[j]? = some oj := by rw [← hoj]; simp
            have htn : t < a.tmps.size := by rw [hS.size]; exact hd oj (List.mem_of_getElem? hoj) t ht
            have e1 : ((ops[j]?).bind (·.dst)).bind (a.tmps[·]?) = some (a.tmps.getD t undef) := by
              rw [this]
              simp only [Option.bind_some, ht]
              rw [Array.getElem?_eq_getElem htn, Array.getD_eq_getD_getElem?, Array.getElem?_eq_getElem htn]
              rfl
            unfold yielded
            rw [e1]
            cases a.tmps.getD t undef <;> rfl
          · cases ht
        have hwant : ∀ b, a.tmps.getD t undef = .bool b → Region.wanted o (yielded ops a.tmps) = (b == wt) := by
          intro b hb
          simp [Region.wanted, hg, hyield, hb]
        have hslot := hS.slots (b + t)
        rw [vals_at] at hslot
        have gd : ∀ (c : Bool) (σ : St) (N : Names) (h : PHeap), Sat B w0 h0 b u n σ N h a w → a.tmps.getD t undef = .bool c → guarded wt c (exec1 E J b top o σ k) (setK σ (dstAt b o.dst) (.leaf .undef) k) →
            ((Region.wanted o (yielded ops a.tmps) = true ∧ ∃ σ1, Sat B w0 h0 b u n σ1 N h a w ∧ exec1 E J b top o σ1 k) ∨ (Region.wanted o (yielded ops a.tmps) = false ∧ ∃ σ1, Sat B w0 h0 b u n σ1 N h a w ∧ k (σ1.put (dstAt b o.dst) (.leaf .undef)))) := by
          intro c σ N h hS hb e
          have hw := hwant c hb
          cases c <;> cases wt <;> simp only [guarded] at e
          · exact run σ N h a w hS (by rw [hw]; rfl) e
          · exact skip σ N h a w hS (by rw [hw]; rfl) e
          · exact skip σ N h a w hS (by rw [hw]; rfl) e
          · exact run σ N h a w hS (by rw [hw]; rfl) e
        split at e
        · rename_i c hb
          rw [hb] at hslot
          simp only [SV.rel, Leaf.rel] at hslot
          exact gd c σ N h hS hslot e
        · rename_i c hb
          rw [hb] at hslot
          have hval : a.tmps.getD t undef = .bool c := by
            obtain ⟨cs, q1, q2⟩ := SV.tv_iff.1 hslot
            simp only [rep] at q1
            subst q1
            exact q2
          have known : ∀ c' : Bool, c = c' → Sat B w0 h0 b u n (σ.put (some (b + t)) (.leaf (.blit c'))) N h a w := by
            intro c' hc
            subst hc
            refine ⟨hS.mem, hS.grow, hS.dom, fun t' => ?_, hS.size, hS.defers⟩
            show (getS ((b + t, SV.leaf (Leaf.blit c)) :: σ.slots) t').rel N h (vals b u a t')
            rw [getS_cons]
            split
            · rename_i e; subst e; rw [vals_at]; exact SV.leaf_iff.2 (by simp only [Leaf.rel]; exact hval)
            · exact hS.slots t'
          cases c with
          | true =>
            have e := e.1 rfl
            rw [setK_eq] at e
            exact gd true _ N h (known true rfl) hval e
          | false =>
            have e := e.2 rfl
            rw [setK_eq] at e
            exact gd false _ N h (known false rfl) hval e
        · rename_i hu
          rw [hu] at hslot
          have hw : Region.wanted o (yielded ops a.tmps) = false := by
            have : a.tmps.getD t undef = undef := by simpa only [SV.rel, Leaf.rel] using hslot
            have hn : yielded ops a.tmps j = none := by rw [hyield, this]; rfl
            unfold Region.wanted
            rw [hg]
            simp only
            rw [hn]
            rfl
          exact skip σ N h a w hS hw e
        · exact e.elim
theorem stepG_sound (hE : EnvOk P E) {J : Inliner} (hJ : InlSound P E J) (hG : GlobOk E.gl h0) {top : Nat} (ops : Array Oper) {Q : Exit → Act → World → Prop} {k : St → Prop} {K : Act → World → Prop}
    (hd : ∀ o ∈ ops.toList, ∀ t, o.dst = some t → t < n) {i : Nat} {o : Oper} (hi : ops.toList[i]? = some o) {σ : St} {N : Names} {h : PHeap} {a : Act} {w : World} (e : stepG E J b top ops.toList o σ k) (hS : Sat B w0 h0 b u n σ N h a w)
    (hK : ∀ σ' N' h' a' w', k σ' → Sat B w0 h0 b u n σ' N' h' a' w' → K a' w') : wpOp P ops Q i K a w := by
  have hoi : ops[i]? = some o := by rw [← hi]; simp
  have hdo := hd o (List.mem_of_getElem? hi)
  unfold wpOp
  rw [hoi]
  simp only
  rcases stepG_cases ops hd e hS with ⟨hw, σ1, hS1, e1⟩ | ⟨hw, σ1, hS1, e1⟩
  · simp only [hw, if_true]
    exact .inl (exec1_sound hE hJ hG hS1 hdo e1 fun σ' N' h' a' w' hk hS' => hK σ' N' h' a' w' hk hS')
  · simp only [hw, Bool.false_eq_true, if_false]
    exact hK _ N h _ w e1 (hS1.put hdo (SV.leaf_iff.2 (by simp only [Leaf.rel])))
theorem stepG_eager (hE : EnvOk P E) {J : Inliner} {top : Nat} (ops : Array Oper) {k : St → Prop}
    (hd : ∀ o ∈ ops.toList, ∀ t, o.dst = some t → t < n) {i : Nat} {o : Oper} (hi : ops.toList[i]? = some o) (hk : eagerOp o.op = true) {σ : St} {N : Names} {h : PHeap} {a : Act} {w : World} (e : stepG E J b top ops.toList o σ k) (hS : Sat B w0 h0 b u n σ N h a w) :
    ∃ v σ', Go.Yields P ops o v a ∧ k σ' ∧ Sat B w0 h0 b u n σ' N h (a.put o.dst v) w := by
  have hdo := hd o (List.mem_of_getElem? hi)
  rcases stepG_cases ops hd e hS with ⟨hw, σ1, hS1, e1⟩ | ⟨hw, σ1, hS1, e1⟩
  · obtain ⟨v, σ', g1, g2, g3⟩ := exec1_eager hE hS1 hdo hk e1
    exact ⟨v, σ', .inl ⟨hw, g1⟩, g2, g3⟩
  · exact ⟨undef, _, .inr ⟨hw, rfl⟩, e1, hS1.put hdo (SV.leaf_iff.2 (by simp only [Leaf.rel]))⟩
theorem lget_eq : (l : List Bool) → (i : Nat) → lget l i = (l[i]?).getD false
  | [], _ => by simp [lget]
  | x :: _, 0 => by simp [lget]
  | _ :: r, i + 1 => by simpa [lget] using lget_eq r i
theorem noSel_all : {l : List Oper} → noSel l = true → ∀ o ∈ l, (match o.op with | .select _ _ => false | _ => true) = true
  | [], _, o, ho => by cases ho
  | x :: r, e, o, ho => by
    simp only [noSel, Bool.and_eq_true] at e
    rcases List.mem_cons.1 ho with h | h
    · subst h; exact e.1
    · exact noSel_all e.2 o h
theorem isReadyL_iff {listed : List Bool} : {es : List Edge} → (isReadyL listed es = true ↔ ∀ e ∈ es, Region.binds .any e = true → listed.toArray.getD e.on false = true)
  | [] => by simp [isReadyL]
  | e :: r => by
    simp only [isReadyL, Bool.and_eq_true, List.mem_cons, forall_eq_or_imp]
    rw [isReadyL_iff (es := r)]
    refine and_congr_left fun _ => ?_
    have hl : listed.toArray.getD e.on false = lget listed e.on := by
      rw [lget_eq]
      simp [Array.getD_eq_getD_getElem?]
    rw [hl]
    unfold Region.binds
    cases hg : e.ground <;> first | exact ⟨fun h _ => h, fun h => h rfl⟩ | exact ⟨fun _ h => absurd (show (Region.Mode.any == Region.Mode.text) = true from h) (by decide), fun _ => rfl⟩ | exact ⟨fun _ h => absurd (show (Region.Mode.any == Region.Mode.gc) = true from h) (by decide), fun _ => rfl⟩
theorem readyL_iff {all : List Oper} {listed : List Bool} (hl : listed.length = all.length) {j : Nat} : j ∈ readyL listed 0 all listed ↔ j ∈ Region.ready .any all.toArray listed.toArray := by
  have key : ∀ (l : List Oper) (fs : List Bool) (i : Nat), fs.length = l.length → ∀ j, j ∈ readyL listed i l fs ↔ ∃ k o, j = i + k ∧ l[k]? = some o ∧ fs[k]? = some false ∧ isReadyL listed o.after.toList = true := by
    intro l
    induction l with
    | nil => intro fs i hf j; cases fs <;> simp [readyL]
    | cons o l ih =>
      intro fs i hf j
      cases fs with
      | nil => simp at hf
      | cons f fs =>
        have ih' := ih fs (i + 1) (by simpa using hf) j
        have tail : (∃ k x, j = i + 1 + k ∧ l[k]? = some x ∧ fs[k]? = some false ∧ isReadyL listed x.after.toList = true) → ∃ k x, j = i + k ∧ (o :: l)[k]? = some x ∧ (f :: fs)[k]? = some false ∧ isReadyL listed x.after.toList = true :=
          fun ⟨k, x, h1, h2, h3, h4⟩ => ⟨k + 1, x, by omega, by simpa using h2, by simpa using h3, h4⟩
        have back : ∀ k x, j = i + k → (o :: l)[k]? = some x → (f :: fs)[k]? = some false → isReadyL listed x.after.toList = true → (k = 0 ∧ f = false ∧ isReadyL listed o.after.toList = true) ∨ ∃ k x, j = i + 1 + k ∧ l[k]? = some x ∧ fs[k]? = some false ∧ isReadyL listed x.after.toList = true := by
          intro k x h1 h2 h3 h4
          cases k with
          | zero => simp at h2 h3; subst h2 h3; exact .inl ⟨rfl, rfl, h4⟩
          | succ k => exact .inr ⟨k, x, by omega, by simpa using h2, by simpa using h3, h4⟩
        unfold readyL
        cases f with
        | true =>
          simp only [cond_true]
          rw [ih']
          constructor
          · exact tail
          · rintro ⟨k, x, h1, h2, h3, h4⟩
            rcases back k x h1 h2 h3 h4 with ⟨_, h, _⟩ | h
            · cases h
            · exact h
        | false =>
          simp only [cond_false]
          cases hr : isReadyL listed o.after.toList with
          | true =>
            simp only [cond_true, List.mem_cons]
            rw [ih']
            constructor
            · rintro (rfl | h)
              · exact ⟨0, o, rfl, rfl, rfl, hr⟩
              · exact tail h
            · rintro ⟨k, x, h1, h2, h3, h4⟩
              rcases back k x h1 h2 h3 h4 with ⟨h, _⟩ | h
              · subst h; exact .inl h1
              · exact .inr h
          | false =>
            simp only [cond_false]
            rw [ih']
            constructor
            · exact tail
            · rintro ⟨k, x, h1, h2, h3, h4⟩
              rcases back k x h1 h2 h3 h4 with ⟨_, _, h⟩ | h
              · rw [hr] at h; cases h
              · exact h
  rw [key all listed 0 hl j, mem_ready]
  constructor
  · rintro ⟨k, o, rfl, h2, h3, h4⟩
    refine ⟨?_, o, by simpa using h2, fun e he hb => (isReadyL_iff.1 h4) e (by simpa using he) hb⟩
    simp only [Nat.zero_add]
    rw [Array.getD_eq_getD_getElem?]
    simp [h3]
  · rintro ⟨h0, o, ho, h4⟩
    have ho' : all[j]? = some o := by simpa using ho
    have hj : j < listed.length := by rw [hl]; exact (List.getElem?_eq_some_iff.1 ho').1
    refine ⟨j, o, by omega, ho', ?_, isReadyL_iff.2 fun e he hb => h4 e (by simpa using he) hb⟩
    rw [Array.getD_eq_getD_getElem?] at h0
    rw [List.getElem?_eq_getElem hj]
    simp [hj] at h0
    rw [h0]
theorem looks_of_looksAt {ops : Array Oper} {o : Oper} {d : Nat} (h : d ∈ o.looksAt ops) : d ∈ looks ops.toList o := by
  unfold Oper.looksAt at h
  unfold looks
  rcases List.mem_append.1 h with h | h
  · obtain ⟨x, hx, e⟩ := List.mem_filterMap.1 h
    refine List.mem_append_left _ (List.mem_flatMap.2 ⟨x, hx, ?_⟩)
    cases x <;> simp at e
    subst e
    simp [tmpOf]
  · refine List.mem_append_right _ ?_
    split at h
    · rename_i g wt hg
      rw [hg]
      simp only [Option.mem_toList] at h
      cases hx : ops[g]? with
      | none => rw [hx] at h; cases h
      | some x =>
        rw [hx] at h
        have hx' : ops.toList[g]? = some x := by rw [Array.getElem?_toList]; exact hx
        have : dstOf ops.toList g = some d := by
          unfold dstOf
          rw [hx']
          simpa using h
        simp only [this]
        exact List.mem_singleton.2 rfl
    · cases h
theorem conjL_all {f : Nat → Prop} : {l : List Nat} → conjL f l → ∀ i ∈ l, f i
  | [], _, i, hi => by cases hi
  | [x], e, i, hi => by
    rw [List.mem_singleton.1 hi]
    exact e
  | x :: y :: r, e, i, hi => by
    rcases List.mem_cons.1 hi with h | h
    · subst h; exact e.1
    · exact conjL_all e.2 i h
theorem firstEager_some {all : List Oper} : {l : List Nat} → {j : Nat} → firstEager all l = some j → j ∈ l ∧ ∃ o, all[j]? = some o ∧ eagerOp o.op = true
  | [], j, e => by cases e
  | i :: r, j, e => by
    unfold firstEager at e
    split at e
    · rename_i o ho
      cases hb : eagerOp o.op with
      | true =>
        rw [hb] at e
        injection e with e
        subst e
        exact ⟨List.mem_cons_self .., o, ho, hb⟩
      | false =>
        rw [hb] at e
        obtain ⟨h1, h2⟩ := firstEager_some e
        exact ⟨List.mem_cons_of_mem _ h1, h2⟩
    · obtain ⟨h1, h2⟩ := firstEager_some e
      exact ⟨List.mem_cons_of_mem _ h1, h2⟩
theorem lset_eq : (l : List Bool) → (i : Nat) → (lset l i).toArray = l.toArray.setIfInBounds i true := by
  intro l i
  have : lset l i = l.set i true := by
    induction l generalizing i with
    | nil => rfl
    | cons x r ih => cases i with
      | zero => rfl
      | succ i => simp [lset, ih]
  rw [this]
  simp
theorem lset_len : (l : List Bool) → (i : Nat) → (lset l i).length = l.length
  | [], _ => rfl
  | _ :: _, 0 => rfl
  | _ :: r, i + 1 => by simp [lset, lset_len r i]
theorem execA_run (hE : EnvOk P E) {J : Inliner} (hJ : InlSound P E J) (hG : GlobOk E.gl h0) {top : Nat} (ops : Array Oper) (hok : ∀ (j : Nat) o, ops.toList[j]? = some o → OkAt ops.toList j o) (hsel : ∀ (j : Nat) (o : Oper) cs b, ops[j]? = some o → o.op ≠ .select cs b)
    {Q : Exit → Act → World → Prop} (hp : ∀ c a w, ¬ Q (.panic c) a w) {k : St → Prop}
    (hd : ∀ o ∈ ops.toList, ∀ t, o.dst = some t → t < n) (hQ : ∀ σ' N' h' a' w', k σ' → Sat B w0 h0 b u n σ' N' h' a' w' → Q .normal a' w') :
    ∀ (m : Nat) (listed : List Bool) (σ : St) (N : Names) (h : PHeap) (a : Act) (w : World), listed.length = ops.toList.length → execA E J b top ops.toList m listed σ k → Sat B w0 h0 b u n σ N h a w → wpAny P .any ops Q m listed.toArray a w := by
  intro m
  induction m with
  | zero =>
    intro listed σ N h a w hl e hS
    simp only [execA] at e
    split at e
    · rename_i hr
      refine ⟨?_, hQ σ N h a w e hS⟩
      cases hrr : Region.ready .any ops listed.toArray with
      | nil => rfl
      | cons i r =>
        have : i ∈ readyL listed 0 ops.toList listed := (readyL_iff hl).2 (by rw [Array.toArray_toList, hrr]; exact List.mem_cons_self ..)
        rw [hr] at this
        cases this
    · exact e.elim
  | succ m ih =>
    intro listed σ N h a w hl e hS
    simp only [execA] at e
    split at e
    · rename_i hr
      refine wpAny_done ?_ (hQ σ N h a w e hS) _
      cases hrr : Region.ready .any ops listed.toArray with
      | nil => rfl
      | cons i r =>
        have : i ∈ readyL listed 0 ops.toList listed := (readyL_iff hl).2 (by rw [Array.toArray_toList, hrr]; exact List.mem_cons_self ..)
        rw [hr] at this
        cases this
    · rename_i i0 r0 hr
      split at e
      · rename_i j hj
        obtain ⟨h1, o, ho, hk⟩ := firstEager_some hj
        rw [ho] at e
        simp only at e
        obtain ⟨v, σ', g1, g2, g3⟩ := stepG_eager hE ops hd ho hk e hS
        have hoj : ops[j]? = some o := by rw [← ho]; simp
        have hjr : j ∈ Region.ready .any ops listed.toArray := by
          have := (readyL_iff hl).1 (by rw [hr]; exact h1)
          rwa [Array.toArray_toList] at this
        have hw := ih (lset listed j) σ' N h (a.put o.dst v) w (by rw [lset_len, hl]) g2 g3
        rw [lset_eq] at hw
        refine wpAny_first hoj hsel (fun c a w hh => absurd hh (hp c _ w)) m listed.toArray a w ?_ hjr g1 hw
        -- it stands apart from all that may come up ahead of it
        intro i oi hoi hij hun hno
        have hoi' : ops.toList[i]? = some oi := by rw [Array.getElem?_toList]; exact hoi
        have hnot : ¬ afterOf ops.toList i j = true := by
          intro hh
          unfold afterOf at hh
          rw [hoi'] at hh
          obtain ⟨x, hx, q1, q2⟩ := onList_get.1 hh
          exact hno x (by simpa using hx) q2 q1
        have hnot2 : ¬ afterOf ops.toList j i = true := by
          intro hh
          unfold afterOf at hh
          rw [ho] at hh
          obtain ⟨x, hx, q1, q2⟩ := onList_get.1 hh
          obtain ⟨_, o', ho', hall⟩ := mem_ready.1 hjr
          rw [hoj] at ho'
          injection ho' with ho'
          subst ho'
          have := hall x (by simpa using hx) q2
          rw [q1] at this
          rw [Array.getD_eq_getD_getElem?] at this hun
          cases hx : listed.toArray[i]? with
          | none => rw [hx] at this; cases this
          | some f => rw [hx] at this hun; simp at this hun; rw [this] at hun; cases hun
        have okj := hok j o ho
        have oki := hok i oi hoi'
        unfold Oper.apart
        simp only [Bool.and_eq_true]
        refine ⟨?_, ?_⟩
        · split
          · rename_i d hdst
            simp only [Bool.and_eq_true, Bool.not_eq_true', bne_iff_ne, ne_eq]
            refine ⟨?_, fun hh => hij (okj.once d hdst i oi hoi' hh)⟩
            cases hc : (oi.looksAt ops).contains d with
            | false => rfl
            | true =>
              have := oki.reads d (looks_of_looksAt (List.contains_iff_mem.1 hc)) j o ho hdst
              rcases Nat.lt_or_gt_of_ne hij with q | q
              · exact absurd (this.2 q) hnot2
              · exact absurd (this.1 q) hnot
          · rfl
        · split
          · rename_i d hdst
            simp only [Bool.not_eq_true']
            cases hc : (o.looksAt ops).contains d with
            | false => rfl
            | true =>
              have := okj.reads d (looks_of_looksAt (List.contains_iff_mem.1 hc)) i oi hoi' hdst
              rcases Nat.lt_or_gt_of_ne hij with q | q
              · exact absurd (this.1 q) hnot2
              · exact absurd (this.2 q) hnot
          · rfl
      · refine ⟨fun h0 => ?_, fun i hi => ?_⟩
        · have : i0 ∈ Region.ready .any ops listed.toArray := by
            have := (readyL_iff hl).1 (by rw [hr]; exact List.mem_cons_self ..)
            rwa [Array.toArray_toList] at this
          rw [h0] at this
          cases this
        · have hi' : i ∈ readyL listed 0 ops.toList listed := (readyL_iff hl).2 (by rw [Array.toArray_toList]; exact hi)
          rw [hr] at hi'
          have e := conjL_all e i hi'
          split at e
          · rename_i o ho
            refine stepG_sound hE hJ hG ops hd ho e hS fun σ' N' h' a' w' hk hS' => ?_
            have := ih (lset listed i) σ' N' h' a' w' (by rw [lset_len, hl]) hk hS'
            rwa [lset_eq] at this
          · exact e.elim
theorem execA_sound (hE : EnvOk P E) {J : Inliner} (hJ : InlSound P E J) (hG : GlobOk E.gl h0) (hm : P.follows .mixedOrders = true) {top : Nat} (ops : Array Oper) (id : Nat) (hok : okOps ops.toList 0 ops.toList = true) {Q : Exit → Act → World → Prop} {k : St → Prop}
    (hd : ∀ o ∈ ops.toList, ∀ t, o.dst = some t → t < n) (hQ : ∀ σ' N' h' a' w', k σ' → Sat B w0 h0 b u n σ' N' h' a' w' → Q .normal a' w')
    {σ : St} {h : PHeap} {a : Act} {w : World} (e : execAll E J b top ops.toList σ k) (hS : Sat B w0 h0 b u n σ N h a w) : (Code.region id ops true).wp P Q a w := by
  unfold execAll at e
  cases hs : noSel ops.toList with
  | false => rw [hs] at e; exact e.elim
  | true =>
    rw [hs] at e
    simp only at e
    refine Code.wp_mono (Q := fun e a w => (∀ c, e ≠ .panic c) ∧ Q e a w) (fun _ _ _ hh => hh.2) ?_
    refine wp_region_any hm ?_
    have hmem : MemSat B w0 σ.blks σ.rows N h { w with drawn := w.drawn + 1 } := by
      have := hS.mem
      exact ⟨⟨this.below.os, this.below.tape, this.below.output, this.below.size, this.below.block, Nat.le_succ_of_le this.below.drawn⟩, this.size, this.pin, this.blk, this.inj, this.row, this.rowh, this.rowb, this.rowr⟩
    have := execA_run (B := B) (w0 := w0) (h0 := h0) (u := u) (n := n) hE hJ hG ops (fun j o ho => by have := okOps_get ops.toList 0 hok j o ho; rwa [Nat.zero_add] at this) (fun j o cs b ho heq => ?_)
      (Q := fun e a w => (∀ c, e ≠ .panic c) ∧ Q e a w) (fun c a w hh => hh.1 c rfl) hd (fun σ' N' h' a' w' hk hS' => ⟨fun c hc => (by cases hc), hQ σ' N' h' a' w' hk hS'⟩) ops.toList.length (List.replicate ops.toList.length false) σ N h a { w with drawn := w.drawn + 1 } (by simp) e ⟨hmem, hS.grow, hS.dom, hS.slots, hS.size, hS.defers⟩
    · simpa using this
    · have ho' : o ∈ ops.toList := List.mem_of_getElem? (by rw [Array.getElem?_toList]; exact ho)
      have := noSel_all hs o ho'
      rw [heq] at this
      cases this
end
end Go.Fr
namespace Go.Fr
open Go Go.RowKit
universe u
theorem opsBd_get {n : Nat} : {l : List Oper} → opsBd n l = true → ∀ o ∈ l, ∀ t, o.dst = some t → t < n
  | [], _, o, ho, _, _ => by cases ho
  | x :: r, e, o, ho, t, ht => by
    simp only [opsBd, Bool.and_eq_true] at e
    rcases List.mem_cons.1 ho with h | h
    · subst h
      rw [ht] at e
      exact Nat.le_of_ble_eq_true e.1
    · exact opsBd_get e.2 o h t ht
theorem wp_loop_rel {P : Program} {Q : Exit → Act → World → Prop} {X : Type} {c : Code} (I : X → Act → World → Prop) (μ : X → Nat) {x0 : X} {a : Act} {w : World} (hi : I x0 a w)
    (round : ∀ x a w, I x a w → c.wp P (Exit.then (fun a' w' => ∃ y, I y a' w' ∧ μ y < μ x) Q) a w) : (Code.loop c).wp P Q a w := by
  intro b k cs
  have key : ∀ m x a w, μ x = m → I x a w → ∃ e a' w', Q e a' w' ∧ Arrives P (lone (b.at a (.code c :: .inLoop c :: k)) cs w) b k cs e a' w' := by
    intro m
    induction m using Nat.strongRecOn with
    | _ m ih =>
      intro x a w hm hI
      obtain ⟨e, a₁, w₁, hq, harr⟩ := round x a w hI b (.inLoop c :: k) cs
      cases e with
      | normal =>
        obtain ⟨y, hI₁, hlt⟩ := hq
        obtain ⟨e₂, a₂, w₂, hq₂, harr₂⟩ := ih (μ y) (hm ▸ hlt) y a₁ w₁ rfl hI₁
        exact ⟨e₂, a₂, w₂, hq₂, .of_steps (Steps.trans harr (.one step_inLoop)) harr₂⟩
      | exit id => exact ⟨_, a₁, w₁, hq, .pass (x := .inLoop c) rfl (fun _ _ => .inl (by simp)) harr⟩
      | goto l => exact ⟨_, a₁, w₁, hq, .pass (x := .inLoop c) rfl (fun _ _ => .inl (by simp)) harr⟩
      | ret => exact ⟨_, a₁, w₁, hq, .pass (x := .inLoop c) rfl (fun _ _ => .inl (by simp)) harr⟩
      | panic ch => exact ⟨_, a₁, w₁, hq, .pass (x := .inLoop c) rfl (fun _ _ => .inl (by simp)) harr⟩
      | outgrown => exact ⟨_, a₁, w₁, hq, .pass (x := .inLoop c) rfl (fun _ _ => .inl (by simp)) harr⟩
  obtain ⟨e, a', w', hq, harr⟩ := key _ x0 a w rfl hi
  exact ⟨e, a', w', hq, .of_steps (.one step_loop) harr⟩
def Ex.to : Ex → Exit
  | .normal => .normal
  | .exit i => .exit i
  | .ret => .ret
section
variable {P : Program} {E : Env} {B : Nat} {w0 : World} {h0 : PHeap} {b : Nat} {u : Nat → Value} {n : Nat}
def Posts (B : Nat) (w0 : World) (h0 : PHeap) (b : Nat) (u : Nat → Value) (n : Nat) (Q : Ex → St → Prop) (Q' : Exit → Act → World → Prop) : Prop :=
  ∀ e σ N h a w, Q e σ → Sat B w0 h0 b u n σ N h a w → Q' e.to a w
theorem vc_sound (hE : EnvOk P E) (hm : P.follows .mixedOrders = true) {J : Inliner} (hJ : InlSound P E J) (hG : GlobOk E.gl h0) {top : Nat} : (c : Code) → codeBd n c = true → ∀ (σ : St) (Q : Ex → St → Prop) (Q' : Exit → Act → World → Prop) (N : Names) (h : PHeap) (a : Act) (w : World),
    vc E J b top c σ Q → Sat B w0 h0 b u n σ N h a w → Posts B w0 h0 b u n Q Q' → c.wp P Q' a w
  | .skip, _, σ, Q, Q', N, h, a, w, e, hS, hQ => wp_skip (hQ .normal σ N h a w e hS)
  | .ret, _, σ, Q, Q', N, h, a, w, e, hS, hQ => wp_ret (hQ .ret σ N h a w e hS)
  | .exit id, _, σ, Q, Q', N, h, a, w, e, hS, hQ => wp_exit (hQ (.exit id) σ N h a w e hS)
  | .seq x y, hb, σ, Q, Q', N, h, a, w, e, hS, hQ => by
    simp only [codeBd, Bool.and_eq_true] at hb
    simp only [vc] at e
    refine wp_seq (vc_sound hE hm hJ hG x hb.1 σ _ _ N h a w e hS ?_)
    intro ex σ' N' h' a' w' he hS'
    cases ex with
    | normal => exact vc_sound hE hm hJ hG y hb.2 σ' Q Q' N' h' a' w' he hS' hQ
    | exit i => exact hQ (.exit i) σ' N' h' a' w' he hS'
    | ret => exact hQ .ret σ' N' h' a' w' he hS'
  | .cond c x y, hb, σ, Q, Q', N, h, a, w, e, hS, hQ => by
    simp only [codeBd, Bool.and_eq_true] at hb
    simp only [vc] at e
    have hc := evO_rel hS.slots c
    split at e
    · rename_i t hbb
      rw [hbb] at hc
      have hc : a.eval c = .bool t := by simpa only [SV.rel, Leaf.rel] using hc
      cases t with
      | true => exact wp_cond_true hc (vc_sound hE hm hJ hG x hb.1 σ Q Q' N h a w e hS hQ)
      | false => exact wp_cond_false hc (vc_sound hE hm hJ hG y hb.2 σ Q Q' N h a w e hS hQ)
    · rename_i t hbb
      rw [hbb] at hc
      have hc : a.eval c = .bool t := by
        obtain ⟨cs, q1, q2⟩ := SV.tv_iff.1 hc
        simp only [rep] at q1
        subst q1
        exact q2
      exact wp_cond_split hc (fun ht => vc_sound hE hm hJ hG x hb.1 σ Q Q' N h a w (e.1 ht) hS hQ) (fun hf => vc_sound hE hm hJ hG y hb.2 σ Q Q' N h a w (e.2 hf) hS hQ)
    · exact e.elim
  | .block id x, hb, σ, Q, Q', N, h, a, w, e, hS, hQ => by
    simp only [codeBd] at hb
    simp only [vc] at e
    refine wp_block (vc_sound hE hm hJ hG x hb σ _ _ N h a w e hS ?_)
    intro ex σ' N' h' a' w' he hS'
    cases ex with
    | normal => exact hQ .normal σ' N' h' a' w' he hS'
    | exit i =>
      simp only at he
      split at he
      · rename_i hi
        have := Nat.eq_of_beq_eq_true hi
        subst this
        simp only [Ex.to, Exit.inBlock, if_true]
        exact hQ .normal σ' N' h' a' w' he hS'
      · rename_i hi
        have := Nat.ne_of_beq_eq_false hi
        simp only [Ex.to, Exit.inBlock, if_neg this]
        exact hQ (.exit i) σ' N' h' a' w' he hS'
    | ret => exact hQ .ret σ' N' h' a' w' he hS'
  | .loop x, hb, σ, Q, Q', N, h, a, w, e, hS, hQ => by
    simp only [codeBd] at hb
    simp only [vc] at e
    split at e
    · exact e.elim
    rename_i hh _
    split at e
    · rename_i m _
      refine wp_loop_rel (X := Nat) (fun m a w => ∃ σ N h, rounds (fun σ Q => vc E J b top x σ Q) m σ Q ∧ Sat B w0 h0 b u n σ N h a w) id (x0 := m + 1) ⟨σ, N, h, e, hS⟩ ?_
      rintro m a1 w1 ⟨σ1, N1, h1, e1, hS1⟩
      cases m with
      | zero => exact e1.elim
      | succ m =>
        refine vc_sound hE hm hJ hG x hb σ1 _ _ N1 h1 a1 w1 e1 hS1 ?_
        intro ex σ' N' h' a' w' he hS'
        cases ex with
        | normal => exact ⟨m, ⟨σ', N', h', he, hS'⟩, Nat.lt_succ_self m⟩
        | exit i => exact hQ (.exit i) σ' N' h' a' w' he hS'
        | ret => exact hQ .ret σ' N' h' a' w' he hS'
    · obtain ⟨x0, hent, Z, μ, hj, hround⟩ := exV_get hh.vars e
      obtain ⟨N0, hS0⟩ := entH_sat hS hent
      refine wp_loop_rel (fun x a w => Z x ∧ ∃ N h, Sat B w0 h0 b u n (atHead hh σ x) N h a w) μ (x0 := x0) ⟨hj, N0, h, hS0⟩ ?_
      rintro z a1 w1 ⟨hjx, N1, h1, hS1⟩
      have hr := allV_all hh.vars hround z hjx
      rw [fSt_eq] at hr
      refine vc_sound hE hm hJ hG x hb (atHead hh σ z) _ _ N1 h1 a1 w1 hr hS1 ?_
      intro ex σ' N' h' a' w' he hS'
      cases ex with
      | normal =>
        obtain ⟨y, hey, hjy, hlt⟩ := exV_get hh.vars he
        obtain ⟨N2, hS2⟩ := entH_sat hS' hey
        exact ⟨y, ⟨hjy, N2, h', hS2⟩, hlt⟩
      | exit i => exact hQ (.exit i) σ' N' h' a' w' he hS'
      | ret => exact hQ .ret σ' N' h' a' w' he hS'
  | .region id ops draw, hb, σ, Q, Q', N, h, a, w, e, hS, hQ => by
    simp only [codeBd] at hb
    simp only [vc] at e
    cases draw with
    | false =>
      simp only at e
      simp only [Bool.and_eq_true] at hb
      obtain ⟨σ1, h1, e1, hS1⟩ := freezeK_sound hS e
      have := execOps_sound (b := b) (u := u) (n := n) hE hJ hG ops (Q := Q') (k := Q .normal) (opsBd_get hb.1) (fun σ' N' h' a' w' hk hS' => hQ .normal σ' N' h' a' w' hk hS') ops.toList 0 σ1 N h1 a w rfl e1 hS1
      refine wp_region ?_
      rw [List.range_eq_range', ← Array.length_toList]
      exact this
    | true =>
      simp only at e
      simp only [Bool.and_eq_true] at hb
      split at e
      rotate_left
      · obtain ⟨σ1, h1, e1, hS1⟩ := freezeK_sound hS e
        exact execA_sound hE hJ hG hm ops id hb.2 (opsBd_get hb.1) (fun σ' N' h' a' w' hk hS' => hQ .normal σ' N' h' a' w' hk hS') e1 hS1
      obtain ⟨σ1, h1, e1, hS1⟩ := freezeK_sound hS e
      exact execM_sound hE hG hm ops id hb.2 (opsBd_get hb.1) (fun σ' N' h' a' w' hk hS' => hQ .normal σ' N' h' a' w' hk hS') e1 hS1
  | .rangeFunc .., _, _, _, _, _, _, _, _, e, _, _ => e.elim
  | .scope x, hb, σ, Q, Q', N, h, a, w, e, hS, hQ => by
    simp only [codeBd] at hb
    simp only [vc] at e
    refine wp_scope_straight (vc_sound hE hm hJ hG x hb σ Q _ N h a w e hS ?_)
    intro ex σ' N' h' a' w' he hS'
    cases ex with
    | normal => exact hQ .normal σ' N' h' a' w' he hS'
    | exit i => exact hQ (.exit i) σ' N' h' a' w' he hS'
    | ret => exact hQ .ret σ' N' h' a' w' he hS'
  | .label _, _, σ, Q, Q', N, h, a, w, e, hS, hQ => wp_label (hQ .normal σ N h a w e hS)
  | .goto _, _, _, _, _, _, _, _, _, e, _, _ => e.elim
  | .refuse _, _, _, _, _, _, _, _, _, e, _, _ => e.elim
end
end Go.Fr
namespace Go.Fr
open Go Go.RowKit
universe u
def Ty.chain : Ty → Nat
  | .pair _ b => b.chain + 1
  | _ => 0
section
variable {P : Program} {E : Env} {B : Nat} {w0 w : World} {h0 h : PHeap} {b : Nat} {u : Nat → Value} {n : Nat} {N : Names} {a : Act}
theorem trep_len : (t : Ty) → (x : t.den) → (vs : List Value) → trep h t x vs → vs.length = t.chain
  | .unit, _, _, e => by simp only [trep] at e; subst e; rfl
  | .pair a b, x, _, ⟨v, r, e, _, h2⟩ => by subst e; simp [Ty.chain, trep_len b x.2 r h2]
  | .bool, _, _, e => e.elim
  | .int _, _, _, e => e.elim
  | .str, _, _, e => e.elim
  | .sl _, _, _, e => e.elim
  | .opt _, _, _, e => e.elim
  | .mp _ _, _, _, e => e.elim
  | .nd _ _ _ _, _, _, e => e.elim
theorem tails_sat : (tl : List FuncId) → (i : Nat) → ∀ (tmps : Array Value), (∀ (j : Nat) v, (tailVals tl)[j]? = some v → tmps.getD (i + j) undef = v) → ∀ k, (getS (tailSlots tl i) k).rel N h (tmps.getD k undef)
  | [], _, _, _, _ => SV.leaf_iff.2 (by simp only [Leaf.rel])
  | f :: r, i, tmps, hv, k => by
    simp only [tailSlots]
    rw [getS_cons]
    split
    · rename_i hk
      subst hk
      have := hv 0 _ rfl
      rw [Nat.add_zero] at this
      rw [this]
      exact SV.leaf_iff.2 (by simp only [Leaf.rel])
    · exact tails_sat r (i + 1) tmps (fun j u hu => by
        have := hv (j + 1) u (by simpa [tailVals] using hu)
        rw [← this]
        congr 1
        omega) k
theorem params_sat : (t : Ty) → (x : t.den) → (tl : List FuncId) → (vs : List Value) → trep h t x vs → (i : Nat) → ∀ (tmps : Array Value), (∀ (j : Nat) v, (vs ++ tailVals tl)[j]? = some v → tmps.getD (i + j) undef = v) → ∀ k, (getS (entrySlots t x tl i) k).rel N h (tmps.getD k undef)
  | .pair a b, x, tl, _, ⟨v, r, e, h1, h2⟩, i, tmps, hv, k => by
    subst e
    simp only [entrySlots]
    rw [getS_cons]
    split
    · rename_i hk
      subst hk
      have := hv 0 v rfl
      rw [Nat.add_zero] at this
      rw [this]
      exact SV.tv_iff.2 h1
    · exact params_sat b x.2 tl r h2 (i + 1) tmps (fun j u hu => by
        have := hv (j + 1) u (by simpa using hu)
        rw [← this]
        congr 1
        omega) k
  | .unit, _, tl, vs, e, i, tmps, hv, k => by
    simp only [trep] at e
    subst e
    exact tails_sat tl i tmps (fun j v hj => hv j v (by simpa using hj)) k
  | .bool, _, _, _, e, _, _, _, _ => e.elim
  | .int _, _, _, _, e, _, _, _, _ => e.elim
  | .str, _, _, _, e, _, _, _, _ => e.elim
  | .sl _, _, _, _, e, _, _, _, _ => e.elim
  | .opt _, _, _, _, e, _, _, _, _ => e.elim
  | .mp _ _, _, _, _, e, _, _, _, _ => e.elim
  | .nd _ _ _ _, _, _, _, e, _, _, _, _ => e.elim
theorem rmR_len : (rs : Rows) → ∀ r, (rmR rs r).length ≤ rs.length
  | [], _ => Nat.le_refl _
  | (k, R) :: rs, r => by
    unfold rmR
    cases Nat.beq k r with
    | true => exact Nat.le_succ_of_le (rmR_len rs r)
    | false => exact Nat.succ_le_succ (rmR_len rs r)
theorem thaw_all {σ : St} (hS : Sat B w0 h0 b u n σ N h a w) : ∃ h', PLe h h' ∧ (∀ k, h' k ≠ none → h0 k ≠ none ∨ B ≤ k) ∧ PIn h' w ∧ ∀ r R, getR σ.rows r = some R → vrep h' (.sl R.t) R.xs (N.V r) := by
  have key : ∀ (m : Nat) (σ : St) (h : PHeap), σ.rows.length = m → Sat B w0 h0 b u n σ N h a w → ∃ h', PLe h h' ∧ (∀ k, h' k ≠ none → h0 k ≠ none ∨ B ≤ k) ∧ PIn h' w ∧ ∀ r R, getR σ.rows r = some R → vrep h' (.sl R.t) R.xs (N.V r) := by
    intro m
    induction m using Nat.strongRecOn with
    | _ m ih =>
      intro σ h hm hS
      obtain ⟨sl, bs, rs⟩ := σ
      cases rs with
      | nil => exact ⟨h, PLe.refl h, hS.dom, hS.mem.pin, fun r R hr => by cases hr⟩
      | cons p rest =>
        obtain ⟨r0, R0⟩ := p
        obtain ⟨h1, hS1, hl1, hv1⟩ := freeze_sound hS r0
        have hrows : (freeze ⟨sl, bs, (r0, R0) :: rest⟩ r0).rows = rmR rest r0 := by
          simp only [freeze, getR, rmR, Nat.beq_refl, cond_true]
        obtain ⟨h2, hl2, hd2, hp2, hv2⟩ := ih (rmR rest r0).length (by
          have := rmR_len rest r0
          simp only [List.length_cons] at hm
          omega) _ h1 (by rw [hrows]) hS1
        refine ⟨h2, hl1.trans hl2, hd2, hp2, fun r R hr => ?_⟩
        by_cases e : r0 = r
        · subst e
          exact vrep_mono hl2 (hv1 R hr)
        · refine hv2 r R ?_
          rw [hrows, rmR_get, if_neg e]
          rw [getR_cons, if_neg e] at hr
          exact hr
  exact key _ σ h rfl hS
theorem thaw_keeps {h' : PHeap} {rs : Rows} (hv : ∀ r R, getR rs r = some R → vrep h' (.sl R.t) R.xs (N.V r)) : Keeps N h h' (thawS rs) := by
  intro i l hl v hvi
  unfold thawS at hl
  split at hl
  · rename_i R hR
    injection hl with hl; subst hl
    simp only [Leaf.rel]
    rw [hvi.1]
    exact hv i R hR
  · injection hl with hl; subst hl
    simp only [Leaf.rel]
def resVal (tmps : Array Value) : ResultVar → Sem Value
  | .tmp t => pure (tmps.getD t undef)
  | .cell a t => do loadVar t (← asAddr (tmps.getD a undef))
theorem results_eq (fn : Func) (tmps : Array Value) : results fn tmps = (do
    let vs ← fn.results.mapM (resVal tmps)
    pure (if h : vs.size = 1 then vs[0] else .tuple vs)) := by
  unfold results
  congr 1
theorem resSV_run (hE : EnvOk P E) {σ : St} (hS : Sat B w0 h0 b u n σ N h a w) {r : ResultVar} {s : SV} (e : resSV E b σ r = some s) :
    ∃ v, (resVal a.tmps r).run P w = .ok v w ∧ s.rel N h v := by
  cases r with
  | tmp t =>
    simp only [resSV] at e
    injection e with e; subst e
    have := hS.slots (b + t)
    rw [vals_at] at this
    exact ⟨_, rfl, this⟩
  | cell q t =>
    simp only [resSV] at e
    split at e
    · rename_i ti hti
      have hT := hE.tt t ti hti
      split at e
      · rename_i i off hi
        split at e
        · rename_i bt bc hbl
          have hb := hS.slots (b + q)
          rw [vals_at, hi] at hb
          simp only [SV.rel, Leaf.rel] at hb
          obtain ⟨o0, q1, q2, _⟩ := hS.mem.blk i _ hbl
          obtain ⟨cs, rfl, q2, q3⟩ := BlkSat.cells.1 q2
          have := partOf_load (P := P) (w := w) hT e q2 q3 ⟨N.ρ i, 0, none⟩ (fun j u hu => by
            rw [add_lit]
            simp only [World.cell?, q1]
            simpa using hu)
          rw [add_lit, Nat.zero_add] at this
          obtain ⟨v, g1, g2⟩ := this
          refine ⟨v, ?_, g2⟩
          simp only [resVal, hb, Sem.run_bind, asAddr, Sem.run_pure, Result.andThen_ok]
          simpa [Instr.loadAt, Instr.sureAddr] using g1
        · cases e
      · cases e
    · cases e
theorem resSVs_run (hE : EnvOk P E) {σ : St} (hS : Sat B w0 h0 b u n σ N h a w) {h' : PHeap} (hl : PLe h h') (hv : ∀ r R, getR σ.rows r = some R → vrep h' (.sl R.t) R.xs (N.V r)) : (rs : List ResultVar) → (ss : List SV) → resSVs E b σ rs = some ss →
    ∃ vs : List Value, (rs.mapM (resVal a.tmps)).run P w = .ok vs w ∧ ss.length = vs.length ∧ ∀ (i : Nat) s v, ss[i]? = some s → vs[i]? = some v → s.rel N h' v
  | [], ss, e => by
    simp only [resSVs] at e
    injection e with e; subst e
    exact ⟨[], rfl, rfl, fun i s v hs => by simp at hs⟩
  | r :: rs, ss, e => by
    simp only [resSVs] at e
    split at e
    · rename_i s hs
      split at e
      · rename_i ss' hss
        injection e with e; subst e
        obtain ⟨v, g1, g2⟩ := resSV_run hE hS hs
        obtain ⟨vs, q1, q2, q3⟩ := resSVs_run hE hS hl hv rs ss' hss
        refine ⟨v :: vs, ?_, by simp [q2], fun i s' v' hs' hv' => ?_⟩
        · rw [List.mapM_cons]
          simp only [Sem.run_bind, g1, Result.andThen_ok, q1, Sem.run_pure]
        · cases i with
          | zero =>
            simp at hs' hv'
            subst hs' hv'
            exact SV.rel_sub (thaw_keeps hv) hl s g2
          | succ i => exact q3 i s' v' (by simpa using hs') (by simpa using hv')
      · cases e
    · cases e
noncomputable def hmaps (N : Names) (bs : Blks) (w : World) (h : PHeap) : PHeap := fun g =>
  open Classical in if (∃ i b, getB bs i = some b ∧ b.it = some .map ∧ N.ρ i = g) then w.heap[g]? else h g
theorem hmaps_le {bs : Blks} (hp : PIn h w) : PLe h (hmaps N bs w h) := fun k o e => by
  unfold hmaps
  split
  · exact hp k o e
  · exact e
theorem hmaps_in {bs : Blks} (hp : PIn h w) : PIn (hmaps N bs w h) w := fun k o e => by
  unfold hmaps at e
  split at e
  · exact e
  · exact hp k o e
theorem thawM_rel {bs : Blks} {h1 : PHeap} (hp : PIn h1 w) (hb : ∀ i b, getB bs i = some b → ∃ o, w.heap[N.ρ i]? = some o ∧ BlkSat N h1 b o ∧ B ≤ N.ρ i) : (ls : List Leaf) → (vs : List Value) → LeafRels N h1 ls vs → LeafRels N (hmaps N bs w h1) (thawM bs ls) vs
  | [], _, e => by rw [LeafRels] at e; subst e; exact LeafRels.nil _ _
  | l :: ls, _, e => by
    rw [LeafRels] at e
    obtain ⟨v, r, rfl, g1, g2⟩ := e
    refine LeafRels.cons ?_ (thawM_rel hp hb ls r g2)
    split
    · rename_i q
      split
      · rename_i bt K V xs hq
        obtain ⟨o, q1, q2, _⟩ := hb q _ hq
        obtain ⟨K', V', xs', es, cl, c1, rfl, q3⟩ := BlkSat.map.1 q2
        injection c1 with c1
        injection c1 with c1 c2
        injection c1 with c1
        injection c1 with c1 c3
        injection c3 with c3
        subst c1 c3
        have c2 := eq_of_heq c2
        subst c2
        simp only [Leaf.rel] at g1
        subst g1
        refine tv_rel.2 ⟨[.map (some (N.ρ q))], mp_rep.2 (.inr ⟨_, es, cl, rfl, ?_, MapRep.mono (hmaps_le hp) _ _ q3⟩), rfl⟩
        unfold hmaps
        rw [if_pos ⟨q, _, hq, rfl, rfl⟩]
        exact q1
      · simp only [Leaf.rel]
    · exact Leaf.rel_mono (hmaps_le hp) _ _ g1
theorem thawP_sound (hE : EnvOk P E) {bs : Blks} {h1 : PHeap} (hp : PIn h1 w) (hd : ∀ k, h1 k ≠ none → h0 k ≠ none ∨ B ≤ k)
    (hb : ∀ i b, getB bs i = some b → ∃ o, w.heap[N.ρ i]? = some o ∧ BlkSat N h1 b o ∧ B ≤ N.ρ i) {s : SV} {v : Value} (hr : s.rel N h1 v) {k : SV → Prop} (e : thawP E bs s k) :
    ∃ s' h2, k s' ∧ PLe h1 h2 ∧ PIn h2 w ∧ (∀ k, h2 k ≠ none → h0 k ≠ none ∨ B ≤ k) ∧ s'.rel N h2 v := by
  have stay : k s → ∃ s' h2, k s' ∧ PLe h1 h2 ∧ PIn h2 w ∧ (∀ k, h2 k ≠ none → h0 k ≠ none ∨ B ≤ k) ∧ s'.rel N h2 v := fun e => ⟨s, h1, e, PLe.refl h1, hp, hd, hr⟩
  unfold thawP at e
  split at e
  rotate_left
  · exact stay e
  rename_i i
  split at e
  rotate_left
  · exact stay e
  rename_i t cs hbi
  split at e
  rotate_left
  · exact stay e
  rename_i ti hti
  split at e
  rotate_left
  · exact stay e
  rename_i T hT
  rw [implodeK_eq] at e
  split at e
  rotate_left
  · exact stay e
  rename_i x r hx
  split at e
  rotate_left
  · exact stay e
  obtain ⟨o, q1, q2, q3⟩ := hb i _ hbi
  obtain ⟨vs, rfl, q2, q4⟩ := BlkSat.cells.1 q2
  have q2 := thawM_rel hp hb _ _ q2
  have hle0 : PLe h1 (hmaps N bs w h1) := hmaps_le hp
  have hd0 : ∀ k, hmaps N bs w h1 k ≠ none → h0 k ≠ none ∨ B ≤ k := fun k hk => by
    unfold hmaps at hk
    split at hk
    · rename_i he
      obtain ⟨i, b, p1, p2, p3⟩ := he
      obtain ⟨o, _, _, p4⟩ := hb i b p1
      exact .inr (by omega)
    · exact hd k hk
  have hp0 : PIn (hmaps N bs w h1) w := hmaps_in hp
  revert hle0 hd0 hp0 q2
  generalize hmaps N bs w h1 = h1'
  intro q2 hle0 hd0 hp0
  have hrep : rep h1' T x vs := implode_all hx q2
  have hle : PLe h1' (hnew h1' (N.ρ i) (.cells vs.toArray t (0, 0))) := fun k p hk => by
    unfold hnew
    split
    · rename_i he
      subst he
      have := hp0 _ p hk
      rw [q1] at this
      exact this
    · exact hk
  refine ⟨_, _, e, hle0.trans hle, hnew_in hp0 q1, fun k hk => ?_, ?_⟩
  · unfold hnew at hk
    split at hk
    · rename_i he
      subst he
      exact .inr q3
    · exact hd0 k hk
  · simp only [SV.rel, Leaf.rel] at hr
    subst hr
    refine SV.tv_iff.2 ⟨[.pointer (some ⟨N.ρ i, 0, none⟩)], .inr ⟨x, _, vs, rfl, rfl, rep_mono hle T x vs hrep, fun j u hu => ?_⟩, rfl⟩
    rw [add_lit, Nat.zero_add]
    unfold hcell hnew
    simp only [if_true]
    simpa using hu
theorem thawPs_sound (hE : EnvOk P E) {bs : Blks} : (ss : List SV) → (vs : List Value) → {h1 : PHeap} → PIn h1 w → (∀ k, h1 k ≠ none → h0 k ≠ none ∨ B ≤ k) →
    (∀ i b, getB bs i = some b → ∃ o, w.heap[N.ρ i]? = some o ∧ BlkSat N h1 b o ∧ B ≤ N.ρ i) → ss.length = vs.length → (∀ (i : Nat) s v, ss[i]? = some s → vs[i]? = some v → s.rel N h1 v) → {k : List SV → Prop} → thawPs E bs ss k →
    ∃ ss' h2, k ss' ∧ PLe h1 h2 ∧ PIn h2 w ∧ (∀ k, h2 k ≠ none → h0 k ≠ none ∨ B ≤ k) ∧ ss'.length = vs.length ∧ ∀ (i : Nat) s v, ss'[i]? = some s → vs[i]? = some v → s.rel N h2 v
  | [], vs, h1, hp, hd, _, hl, hr, k, e => ⟨[], h1, e, PLe.refl h1, hp, hd, hl, hr⟩
  | s :: r, vs, h1, hp, hd, hb, hl, hr, k, e => by
    match vs, hl with
    | v :: vs, hl =>
      simp only [thawPs] at e
      obtain ⟨s', h2, e, g1, g2, g3, g4⟩ := thawP_sound hE hp hd hb (hr 0 s v rfl rfl) e
      obtain ⟨ss', h3, e, p1, p2, p3, p4, p5⟩ := thawPs_sound hE r vs g2 g3 (fun i b hi => by
        obtain ⟨o, q1, q2, q3⟩ := hb i b hi
        exact ⟨o, q1, q2.mono g1, q3⟩) (by simpa using hl) (fun i s v hs hv => SV.rel_mono g1 _ _ (hr (i + 1) s v (by simpa using hs) (by simpa using hv))) e
      refine ⟨_, h3, e, g1.trans p1, p2, p3, by simp [p4], fun i s v' hs hv => ?_⟩
      cases i with
      | zero =>
        simp at hs hv
        subst hs hv
        exact SV.rel_mono p1 _ _ g4
      | succ i => exact p5 i s v' (by simpa using hs) (by simpa using hv)
theorem cutS_get (top : Nat) : (sl : Slots) → ∀ t, getS (cutS top sl) t = if top ≤ t then .leaf .any else getS sl t
  | [], t => by
    show SV.leaf Leaf.any = if top ≤ t then SV.leaf Leaf.any else SV.leaf Leaf.any
    split <;> rfl
  | (k, s) :: r, t => by
    unfold cutS
    cases hb : Nat.ble top k with
    | true =>
      have := Nat.le_of_ble_eq_true hb
      rw [cond_true, cutS_get top r, getS_cons]
      by_cases ht : top ≤ t
      · rw [if_pos ht, if_pos ht]
      · rw [if_neg ht, if_neg ht, if_neg (by omega)]
    | false =>
      have hk : ¬ top ≤ k := fun hh => by rw [Nat.ble_eq_true_of_le hh] at hb; cases hb
      rw [cond_false, getS_cons, getS_cons, cutS_get top r]
      by_cases hkt : k = t
      · subst hkt
        rw [if_pos rfl, if_neg hk, if_pos rfl]
      · rw [if_neg hkt, if_neg hkt]
theorem argSlots_get : (args : List SV) → (i : Nat) → (sl : Slots) → ∀ t, (t < i ∨ i + args.length ≤ t → getS (argSlots args i sl) t = getS sl t) ∧ (∀ s, i ≤ t → args[t - i]? = some s → getS (argSlots args i sl) t = s)
  | [], i, sl, t => ⟨fun _ => rfl, fun s _ h => by simp at h⟩
  | x :: r, i, sl, t => by
    obtain ⟨h1, h2⟩ := argSlots_get r (i + 1) sl t
    unfold argSlots
    rw [getS_cons]
    refine ⟨fun h => ?_, fun s hi hs => ?_⟩
    · simp only [List.length_cons] at h
      rw [if_neg (by omega)]
      exact h1 (by omega)
    · by_cases e : i = t
      · subst e
        rw [if_pos rfl]
        simpa using hs
      · rw [if_neg e]
        refine h2 s (by omega) ?_
        rw [show t - i = (t - (i + 1)) + 1 by omega] at hs
        simpa using hs
theorem vcN_sound (hE : EnvOk P E) (hm : P.follows .mixedOrders = true) : (d : Nat) → InlSound P E (vcN E d)
  | 0 => fun _ _ _ _ _ e => e.elim
  | d + 1 => by
    intro f top args σ k e B w0 h0 N h w v vs hG hS hlen hrel
    unfold vcN at e
    simp only at e
    split at e
    · exact e.elim
    · rename_i F hF
      obtain ⟨⟨fn, hf, hname, hb, hnt, hres⟩, hbd⟩ := hE.inl f F hF
      split at e
      · exact e.elim
      · rename_i hle
        have hle := Nat.le_of_ble_eq_true hle
        obtain ⟨sl, bs, rs⟩ := σ
        simp only [fSlots_eq] at e
        generalize top + 10000 * (f + 1) = top at e
        refine ⟨⟨fn, F.body, hf, hname, hb⟩, ?_⟩
        refine calls_of_wp hf hb ?_
        have hS' : Sat B w0 h0 top v F.n ⟨argSlots args top (cutS top sl), bs, rs⟩ N h { tmps := vs.toArray ++ Array.replicate (fn.ntmps - vs.toArray.size) undef, defers := [] } w := by
          refine ⟨hS.mem, hS.grow, hS.dom, ?_, by simp; omega, rfl⟩
          intro t
          obtain ⟨g1, g2⟩ := argSlots_get args top (cutS top sl) t
          unfold vals
          by_cases ht : t < top
          · rw [if_pos ht, g1 (.inl ht), cutS_get, if_neg (by omega)]
            exact hS.slots t
          · rw [if_neg ht]
            by_cases ha : t - top < args.length
            · rw [g2 _ (by omega) (List.getElem?_eq_getElem ha)]
              have hav : t - top < vs.length := by omega
              refine hrel (t - top) _ _ (List.getElem?_eq_getElem ha) ?_
              rw [Array.getD_eq_getD_getElem?, Array.getElem?_append_left (by simpa using hav)]
              simp [hav]
            · rw [g1 (.inr (by omega)), cutS_get, if_pos (by omega)]
              exact SV.leaf_iff.2 (by simp only [Leaf.rel])
        refine vc_sound hE hm (vcN_sound hE hm d) hG F.body hbd _ _ _ N h _ w e hS' ?_
        have fin : ∀ (σ : St) N' h' a' w', inlRet E top F.res σ k → Sat B w0 h0 top v F.n σ N' h' a' w' →
            a'.defers = [] ∧ ∃ r, (results fn a'.tmps).run P w' = .ok r w' ∧ ∃ r2 s σ' N' h', Ending.returned r = .returned r2 ∧ k s σ' ∧ s.rel N' h' r2 ∧ SatV B w0 h0 σ' N' h' v w' := by
          intro σ N' h' a' w' he hSa
          refine ⟨hSa.defers, ?_⟩
          unfold inlRet at he
          split at he
          · rename_i s hs
            obtain ⟨sl2, bs2, rs2⟩ := σ
            simp only [fSV_eq, fSlots_eq] at he
            have hV : SatV B w0 h0 ⟨cutS top sl2, bs2, rs2⟩ N' h' v w' := by
              refine ⟨hSa.mem, hSa.grow, hSa.dom, fun t => ?_⟩
              rw [cutS_get]
              by_cases ht : top ≤ t
              · rw [if_pos ht]
                exact SV.leaf_iff.2 (by simp only [Leaf.rel])
              · rw [if_neg ht]
                have := hSa.slots t
                unfold vals at this
                rwa [if_pos (by omega)] at this
            have hr : ∃ r, (results fn a'.tmps).run P w' = .ok r w' ∧ s.rel N' h' r := by
              rw [results_eq, Array.mapM_eq_mapM_toList]
              unfold resInl at hs
              split at hs
              · rename_i hres0
                injection hs with hs; subst hs
                rw [hres, hres0]
                exact ⟨_, by simp [List.mapM_nil]; rfl, SV.leaf_iff.2 (by simp only [Leaf.rel])⟩
              · rename_i r rs' hres0
                split at hs
                · obtain ⟨x, g1, g2⟩ := resSV_run hE hSa hs
                  rw [hres, hres0]
                  refine ⟨x, ?_, g2⟩
                  simp only [List.mapM_cons, List.mapM_nil, Sem.run_bind, Sem.run_map, g1, Result.andThen_ok, Sem.run_pure]
                  rfl
                · cases hs
            obtain ⟨r, hr1, hr2⟩ := hr
            exact ⟨r, hr1, r, s, _, N', h', rfl, he, hr2, hV⟩
          · exact he.elim
        intro ex σ' N' h' a' w' he hSa
        cases ex with
        | normal => exact fin σ' N' h' a' w' he hSa
        | exit i => exact he.elim
        | ret => exact fin σ' N' h' a' w' he hSa
theorem fn_sound (hE : EnvOk P E) (hm : P.follows .mixedOrders = true) {f : FuncId} {fn : Func} {c : Code} {C : Contract} (hf : P.funcs[f]? = some fn) (hname : fn.name ≠ "runtime.NumGoroutine") (hb : fn.body = some c)
    (hbd : codeBd fn.ntmps c = true) (hpn : C.arg.chain + C.tail.length ≤ fn.ntmps) (hrn : (fn.results.size = 1) = (C.one = true)) (hon : C.own = none) (hv : fnVC E fn c C) : CallSpec P E.gl f C := by
  refine ⟨⟨fn, c, hf, hname, hb⟩, ?_⟩
  intro x h w args hpre hargs hpin hG
  refine calls_of_wp hf hb ?_
  have hlen := trep_len C.arg x args hargs
  have htl : (tailVals C.tail).length = C.tail.length := by simp [tailVals]
  have hS : Sat w.heap.size w h bot (fun _ => undef) fn.ntmps ⟨entrySlots C.arg x C.tail bot, [], []⟩ ⟨fun k => k, fun _ => .nilFunc⟩ h { tmps := (args ++ tailVals C.tail).toArray ++ Array.replicate (fn.ntmps - (args ++ tailVals C.tail).toArray.size) undef, defers := [] } w := by
    refine ⟨⟨Below.refl _ _, Nat.le_refl _, hpin, fun i b hh => (by cases hh), fun i j b c hh => (by cases hh), fun r R hh => (by cases hh), fun r R g hh => (by cases hh), fun r R g i b hh => (by cases hh), fun r s R S g hh => (by cases hh)⟩, PLe.refl h, fun k hk => .inl hk, ?_, ?_, rfl⟩
    · intro t
      have hv0 : ∀ a : Act, vals bot (fun _ => undef) a t = a.tmps.getD t undef := fun a => by
        unfold vals bot
        rw [if_neg (by omega), Nat.sub_zero]
      rw [hv0]
      refine params_sat C.arg x C.tail args hargs bot _ (fun j v hj => ?_) t
      have hlt : j < (args ++ tailVals C.tail).length := (List.getElem?_eq_some_iff.1 hj).1
      unfold bot
      rw [Nat.zero_add, Array.getD_eq_getD_getElem?, Array.getElem?_append_left (by simpa using hlt)]
      simp [hj]
    · simp
      omega
  refine vc_sound hE hm (vcN_sound hE hm deep) hG c hbd _ _ _ _ h _ w (hv x hpre) hS ?_
  have fin : ∀ σ N h' a' w', retVC E bot fn.results.toList C.one C.res σ (C.fn x) → Sat w.heap.size w h bot (fun _ => undef) fn.ntmps σ N h' a' w' → a'.defers = [] ∧ ∃ v, (results fn a'.tmps).run P w' = .ok v w' ∧
      ∃ u h2, Ending.returned v = .returned u ∧ PLe h h2 ∧ (∀ k, h2 k ≠ none → h k ≠ none ∨ w.heap.size ≤ k) ∧ PIn h2 w' ∧ resOr w.heap.size w' h2 C (C.fn x) u ∧ Below w.heap.size w w' := by
    intro σ N h' a' w' e hS'
    refine ⟨hS'.defers, ?_⟩
    obtain ⟨h2, hl2, hd2, hp2, hv2⟩ := thaw_all hS'
    unfold retVC at e
    split at e
    · rename_i ss hss
      obtain ⟨vs, q1, q2, q3⟩ := resSVs_run hE hS' hl2 hv2 _ ss hss
      have hlen2 := q2
      obtain ⟨ss, h3, e, hl3, hp3, hd3, q2, q3⟩ := thawPs_sound hE (h0 := h) (B := w.heap.size) ss vs hp2 hd2 (fun i bb hi => by
        rw [mapBlks_get] at hi
        cases hh : getB σ.blks i with
        | none => rw [hh] at hi; cases hi
        | some b' =>
          rw [hh] at hi
          injection hi with hi
          subst hi
          obtain ⟨o, r1, r2, r3, _⟩ := hS'.mem.blk i b' hh
          exact ⟨o, r1, r2.mapped (thaw_keeps hv2) hl2, r3⟩) q2 q3 e
      have hl2 := hl2.trans hl3
      have hd2 := hd3
      have hp2 := hp3
      have hres : (results fn a'.tmps).run P w' = .ok (if _ : vs.toArray.size = 1 then vs.toArray[0] else .tuple vs.toArray) w' := by
        rw [results_eq, Array.mapM_eq_mapM_toList]
        simp only [Sem.run_bind, Sem.run_map, q1, Result.andThen_ok, Sem.run_pure]
      have hsz : fn.results.toList.length = vs.length := by
        have : ∀ (rs : List ResultVar) (ss : List SV), resSVs E bot σ rs = some ss → rs.length = ss.length := by
          intro rs
          induction rs with
          | nil => intro ss h; simp only [resSVs] at h; injection h with h; subst h; rfl
          | cons r rs ih =>
            intro ss h
            simp only [resSVs] at h
            split at h
            · split at h
              · rename_i ss' hss'
                injection h with h; subst h
                simp [ih ss' hss']
              · cases h
            · cases h
        rw [this _ _ hss, hlen2]
      split at e
      · rename_i hone
        split at e
        · rename_i s
          rw [argValK_eq] at e
          split at e
          · rename_i y hy
            subst e
            obtain ⟨v, rfl⟩ : ∃ v, vs = [v] := by
              cases vs with
              | nil => simp at q2
              | cons v r => cases r with
                | nil => exact ⟨v, rfl⟩
                | cons _ _ => simp at q2
            · refine ⟨v, by rw [hres]; rfl, v, h3, rfl, hS'.grow.trans hl2, hd2, hp2, ?_, hS'.mem.below⟩
              unfold resOr
              rw [hon]
              unfold resRep
              rw [hone]
              exact argVal_rel hy (q3 0 s v rfl rfl)
          · exact e.elim
        · exact e.elim
      · rename_i hone
        rw [argsK_eq] at e
        split at e
        · rename_i y hy
          have hne : ¬ vs.toArray.size = 1 := by
            intro h1
            have : fn.results.size = 1 := by
              rw [← Array.length_toList, hsz]
              simpa using h1
            rw [hrn, hone] at this
            cases this
          refine ⟨.tuple vs.toArray, by rw [hres, dif_neg hne], .tuple vs.toArray, h3, rfl, hS'.grow.trans hl2, hd2, hp2, ?_, hS'.mem.below⟩
          unfold resOr
          rw [hon]
          unfold resRep
          rw [hone]
          refine ⟨vs, rfl, ?_⟩
          rw [← e]
          exact argsOf_rel C.res ss y hy vs q2 q3
        · exact e.elim
    · exact e.elim
  intro ex σ N h' a' w' he hS'
  cases ex with
  | normal => exact fin σ N h' a' w' he hS'
  | exit i => exact he.elim
  | ret => exact fin σ N h' a' w' he hS'
end
end Go.Fr
namespace Go.Fr
open Go Go.RowKit
universe u
def fieldsTy (P : Program) (rec : TypeId → Ty → Bool) : List Field → Ty → Nat → Bool
  | [], .unit, _ => true
  | f :: fs, .pair a b, off => f.name != "_" && Nat.beq f.offset off && (match P.info? f.type, P.underlying f.type with
      | some i, some d => Nat.beq i.size a.size && (aggDesc d == a.isAgg)
      | _, _ => false) && rec f.type a && fieldsTy P rec fs b (off + a.size)
  | _, _, _ => false
def arrTy (P : Program) (rec : TypeId → Ty → Bool) (e : TypeId) : Nat → Ty → Bool
  | 0, .unit => true
  | n + 1, .pair a b => (match P.info? e, P.underlying e with
      | some i, some d => Nat.beq i.size a.size && (aggDesc d == a.isAgg)
      | _, _ => false) && rec e a && arrTy P rec e n b
  | _, _ => false
def eqTy (P : Program) : Nat → TypeId → Ty → Bool
  | 0, _, _ => false
  | d + 1, t, T => match P.underlying t with
    | some .bool => (match T with | .bool => true | _ => false)
    | some (.int k) => (match T with | .int k' => sameKind k k' | _ => false)
    | some .string => (match T with | .str => true | _ => false)
    | some (.struct fs) => !P.stoodInHeld t && fieldsTy P (eqTy P d) fs.toList T 0
    | some (.array n e) => Nat.ble 1 n && arrTy P (eqTy P d) e n T
    | _ => false
section
variable {P : Program} {w : World} {h : PHeap}
theorem run_part_mid {t : TypeId} {i : TypeInfo} {d : TypeDesc} {a : Ty} (hi : P.info? t = some i) (hd : P.underlying t = some d) (hs : i.size = a.size) (hg : aggDesc d = a.isAgg) {x : a.den} {pre c1 rest : List Value} (hr : rep h a x c1) :
    (part t (pre ++ (c1 ++ rest)).toArray pre.length).run P w = .ok (a.val c1) w := by
  have hl := rep_len a x c1 hr
  unfold part
  simp only [Sem.run_bind, run_isAgg_of hd, Result.andThen_ok, hg]
  cases ha : a.isAgg with
  | true =>
    simp only [if_true, Sem.run_bind, run_sizeOf_of hi, hs, Result.andThen_ok, Sem.run_pure]
    have : (pre ++ (c1 ++ rest)).toArray.extract pre.length (pre.length + a.size) = c1.toArray := by
      apply Array.ext'
      simp [← hl]
    rw [this]
    cases a <;> first | rfl | cases ha
  | false =>
    obtain ⟨e1, _⟩ := val_one a x c1 hr ha
    have : (pre ++ (c1 ++ rest))[pre.length]? = some (a.val c1) := by
      rw [List.getElem?_append_right (Nat.le_refl _), Nat.sub_self]
      have h0 : c1[0]? = some (a.val c1) := by
        conv => lhs; rw [e1]
        rfl
      rw [List.getElem?_append_left (List.getElem?_eq_some_iff.1 h0).1]
      exact h0
    simp [this]
theorem agg_of_agg {t : Ty} {cs : List Value} (ha : t.isAgg = true) : t.val cs = .agg cs.toArray := by cases t <;> first | rfl | cases ha
theorem eqFields_run {rec : TypeId → Ty → Bool} {D : Nat} (hrec : ∀ t T, rec t T = true → ∀ (x y : T.den) cs ds (w : World), rep h T x cs → rep h T y ds → (Op.equalIn D t (T.val cs) (T.val ds)).run P w = .ok (T.beq x y) w) :
    (fs : List Field) → (T : Ty) → (off : Nat) → fieldsTy P rec fs T off = true → ∀ (x y : T.den) (pre pre' cs ds : List Value), pre.length = off → pre'.length = off → rep h T x cs → rep h T y ds →
      (Op.eqFields D (pre ++ cs).toArray (pre' ++ ds).toArray fs).run P w = .ok (T.beq x y) w
  | [], .unit, off, _, x, y, pre, pre', cs, ds, _, _, _, _ => rfl
  | f :: fs, .pair a b, off, e, x, y, pre, pre', cs, ds, hp, hp', hx, hy => by
    simp only [fieldsTy, Bool.and_eq_true] at e
    obtain ⟨⟨⟨⟨e1, e2⟩, e3⟩, e4⟩, e5⟩ := e
    split at e3
    · rename_i i d hi hd
      simp only [Bool.and_eq_true] at e3
      have s1 : i.size = a.size := Nat.eq_of_beq_eq_true e3.1
      have s2 : aggDesc d = a.isAgg := by simpa using e3.2
      have s3 : f.offset = off := Nat.eq_of_beq_eq_true e2
      obtain ⟨c1, c2, rfl, q1, q2⟩ := hx
      obtain ⟨d1, d2, rfl, r1, r2⟩ := hy
      have p1 := run_part_mid (P := P) (w := w) (pre := pre) (rest := c2) hi hd s1 s2 q1
      have p2 := run_part_mid (P := P) (w := w) (pre := pre') (rest := d2) hi hd s1 s2 r1
      rw [hp, ← s3] at p1
      rw [hp', ← s3] at p2
      have p3 := hrec f.type a e4 x.1 y.1 c1 d1 w q1 r1
      have hname : f.name ≠ "_" := by simpa using e1
      simp only [Op.eqFields, if_pos hname, Sem.run_bind, p1, p2, p3, Result.andThen_ok]
      have ih := eqFields_run hrec fs b (off + a.size) e5 x.2 y.2 (pre ++ c1) (pre' ++ d1) c2 d2 (by rw [List.length_append, hp, rep_len a _ _ q1]) (by rw [List.length_append, hp', rep_len a _ _ r1]) q2 r2
      rw [List.append_assoc, List.append_assoc] at ih
      cases hb : a.beq x.1 y.1 with
      | true => simp only [Bool.not_true, Bool.false_eq_true, if_false, Ty.beq, hb, Bool.true_and]; exact ih
      | false => simp only [Bool.not_false, if_true, Ty.beq, hb, Bool.false_and]; rfl
    · cases e3
  | [], .pair _ _, _, e, _, _, _, _, _, _, _, _, _, _ => by cases e
  | [], .bool, _, e, _, _, _, _, _, _, _, _, _, _ => by cases e
  | [], .int _, _, e, _, _, _, _, _, _, _, _, _, _ => by cases e
  | [], .str, _, e, _, _, _, _, _, _, _, _, _, _ => by cases e
  | [], .sl _, _, e, _, _, _, _, _, _, _, _, _, _ => by cases e
  | _ :: _, .unit, _, e, _, _, _, _, _, _, _, _, _, _ => by cases e
  | _ :: _, .bool, _, e, _, _, _, _, _, _, _, _, _, _ => by cases e
  | _ :: _, .int _, _, e, _, _, _, _, _, _, _, _, _, _ => by cases e
  | _ :: _, .str, _, e, _, _, _, _, _, _, _, _, _, _ => by cases e
  | _ :: _, .sl _, _, e, _, _, _, _, _, _, _, _, _, _ => by cases e
def eqArr (D : Nat) (e : TypeId) (n : Nat) (xs ys : Array Value) : List Nat → Sem Bool
  | [] => pure true
  | i :: is => do
    let a ← part e xs (i * n)
    let b ← part e ys (i * n)
    let r ← Op.equalIn D e a b
    if (!r) = true then pure false else eqArr D e n xs ys is
theorem run_equalIn_arr {D n s : Nat} {t e : TypeId} {xs ys : Array Value} {i : TypeInfo} (ht : P.underlying t = some (.array n e)) (hi : P.info? e = some i) (hs : i.size = s) :
    (Op.equalIn (D + 1) t (.agg xs) (.agg ys)).run P w = (eqArr D e s xs ys (List.range' 0 n)).run P w := by
  simp only [Op.equalIn, Sem.run_bind, run_underlying ht, Result.andThen_ok, run_sizeOf_of hi, hs]
  rw [Std.Legacy.Range.forIn_eq_forIn_range']
  simp only [Std.Legacy.Range.size, Nat.sub_zero, Nat.add_sub_cancel, Nat.div_one]
  generalize List.range' 0 n = l
  induction l generalizing w with
  | nil => simp [eqArr]
  | cons j l ih =>
    simp only [List.forIn_cons, eqArr, Sem.run_bind]
    generalize (part e xs (j * s)).run P w = r1
    cases r1 with
    | ok a w1 =>
      simp only [Result.andThen_ok]
      generalize (part e ys (j * s)).run P w1 = r2
      cases r2 with
      | ok b w2 =>
        simp only [Result.andThen_ok]
        generalize (Op.equalIn D e a b).run P w2 = r3
        cases r3 with
        | ok r w3 =>
          cases r
          · simp only [Result.andThen_ok, Bool.not_false, if_true, Sem.run_pure]
          · simp only [Result.andThen_ok, Bool.not_true, Bool.false_eq_true, if_false, Sem.run_pure]
            exact ih
        | halt x w3 => simp [Result.andThen]
      | halt x w2 => simp [Result.andThen]
    | halt x w1 => simp [Result.andThen]
theorem eqArr_run {rec : TypeId → Ty → Bool} {D : Nat} (hrec : ∀ t T, rec t T = true → ∀ (x y : T.den) cs ds (w : World), rep h T x cs → rep h T y ds → (Op.equalIn D t (T.val cs) (T.val ds)).run P w = .ok (T.beq x y) w) {e : TypeId} {s : Nat} {i : TypeInfo} (hi : P.info? e = some i) (hs : i.size = s) :
    (m : Nat) → (T : Ty) → (k : Nat) → arrTy P rec e m T = true → ∀ (x y : T.den) (pre pre' cs ds : List Value), pre.length = k * s → pre'.length = k * s → rep h T x cs → rep h T y ds →
      (eqArr D e s (pre ++ cs).toArray (pre' ++ ds).toArray (List.range' k m)).run P w = .ok (T.beq x y) w
  | 0, .unit, k, _, x, y, pre, pre', cs, ds, _, _, _, _ => rfl
  | m + 1, .pair a b, k, e0, x, y, pre, pre', cs, ds, hp, hp', hx, hy => by
    simp only [arrTy, Bool.and_eq_true] at e0
    obtain ⟨⟨e1, e2⟩, e3⟩ := e0
    split at e1
    · rename_i i' d hi' hd
      rw [hi] at hi'
      injection hi' with hi'
      subst hi'
      simp only [Bool.and_eq_true] at e1
      have s1 : i.size = a.size := Nat.eq_of_beq_eq_true e1.1
      have s2 : aggDesc d = a.isAgg := by simpa using e1.2
      obtain ⟨c1, c2, rfl, q1, q2⟩ := hx
      obtain ⟨d1, d2, rfl, r1, r2⟩ := hy
      have p1 := run_part_mid (P := P) (w := w) (pre := pre) (rest := c2) hi hd s1 s2 q1
      have p2 := run_part_mid (P := P) (w := w) (pre := pre') (rest := d2) hi hd s1 s2 r1
      rw [hp] at p1
      rw [hp'] at p2
      have p3 := hrec e a e2 x.1 y.1 c1 d1 w q1 r1
      simp only [List.range'_succ, eqArr, Sem.run_bind, p1, p2, p3, Result.andThen_ok]
      have ih := eqArr_run hrec hi hs m b (k + 1) e3 x.2 y.2 (pre ++ c1) (pre' ++ d1) c2 d2 (by rw [List.length_append, hp, rep_len a _ _ q1, Nat.add_mul]; omega) (by rw [List.length_append, hp', rep_len a _ _ r1, Nat.add_mul]; omega) q2 r2
      rw [List.append_assoc, List.append_assoc] at ih
      cases hb : a.beq x.1 y.1 with
      | true => simp only [Bool.not_true, Bool.false_eq_true, if_false, Ty.beq, hb, Bool.true_and]; exact ih
      | false => simp only [Bool.not_false, if_true, Ty.beq, hb, Bool.false_and]; rfl
    · cases e1
  | 0, .pair _ _, _, e, _, _, _, _, _, _, _, _, _, _ => by cases e
  | 0, .bool, _, e, _, _, _, _, _, _, _, _, _, _ => by cases e
  | 0, .int _, _, e, _, _, _, _, _, _, _, _, _, _ => by cases e
  | 0, .str, _, e, _, _, _, _, _, _, _, _, _, _ => by cases e
  | 0, .sl _, _, e, _, _, _, _, _, _, _, _, _, _ => by cases e
  | _ + 1, .unit, _, e, _, _, _, _, _, _, _, _, _, _ => by cases e
  | _ + 1, .bool, _, e, _, _, _, _, _, _, _, _, _, _ => by cases e
  | _ + 1, .int _, _, e, _, _, _, _, _, _, _, _, _, _ => by cases e
  | _ + 1, .str, _, e, _, _, _, _, _, _, _, _, _, _ => by cases e
  | _ + 1, .sl _, _, e, _, _, _, _, _, _, _, _, _, _ => by cases e
theorem eqTy_run : (d : Nat) → ∀ (D : Nat), d ≤ D → ∀ (t : TypeId) (T : Ty), eqTy P d t T = true → ∀ (x y : T.den) cs ds (w : World), rep h T x cs → rep h T y ds → (Op.equalIn D t (T.val cs) (T.val ds)).run P w = .ok (T.beq x y) w
  | 0, _, _, _, _, e, _, _, _, _, _, _, _ => by cases e
  | d + 1, 0, hd, _, _, _, _, _, _, _, _, _, _ => by omega
  | d + 1, D + 1, hd, t, T, e, x, y, cs, ds, w, hx, hy => by
    simp only [eqTy] at e
    have hrec : ∀ t T, eqTy P d t T = true → ∀ (x y : T.den) cs ds (w : World), rep h T x cs → rep h T y ds → (Op.equalIn D t (T.val cs) (T.val ds)).run P w = .ok (T.beq x y) w :=
      fun t T e x y cs ds w hx hy => eqTy_run d D (by omega) t T e x y cs ds w hx hy
    split at e
    · rename_i hu
      cases T <;> first | (cases e; done) | skip
      simp only [rep] at hx hy
      subst hx hy
      exact run_equalIn_bool' w D t x y hu
    · rename_i k hu
      cases T <;> first | (cases e; done) | skip
      rename_i k'
      have := sameKind_eq e
      subst this
      simp only [rep] at hx hy
      subst hx hy
      exact run_equalIn_int w D t k k x y hu
    · rename_i hu
      cases T <;> first | (cases e; done) | skip
      simp only [rep] at hx hy
      subst hx hy
      have := run_equalIn_string w D t x y hu
      rw [← beq_toListBytes] at this
      exact this
    · rename_i fs hu
      simp only [Bool.and_eq_true, Bool.not_eq_true'] at e
      have hagg : T.isAgg = true := by
        obtain ⟨_, e2⟩ := e
        generalize fs.toList = l at e2
        cases l <;> cases T <;> first | rfl | cases e2
      rw [agg_of_agg hagg, agg_of_agg hagg]
      have hf : P.fieldsOf t = fs := by simp [Program.fieldsOf, hu]
      rw [run_equalIn_struct w D t _ _ (by rw [hf]; exact hu) e.1, hf]
      exact eqFields_run hrec fs.toList T 0 e.2 x y [] [] cs ds rfl rfl hx hy
    · rename_i n el hu
      simp only [Bool.and_eq_true] at e
      obtain ⟨e0, e⟩ := e
      have hagg : T.isAgg = true := by
        cases n <;> cases T <;> first | rfl | cases e
      rw [agg_of_agg hagg, agg_of_agg hagg]
      cases n with
      | zero => cases e0
      | succ n =>
        cases T <;> first | (cases e; done) | skip
        have e' := e
        simp only [arrTy, Bool.and_eq_true] at e
        obtain ⟨⟨e1, _⟩, _⟩ := e
        split at e1
        · rename_i i dd hi hdd
          rw [run_equalIn_arr hu hi rfl]
          exact eqArr_run hrec hi rfl (n + 1) _ 0 e' x y [] [] cs ds (by simp) (by simp) hx hy
        · cases e1
    · cases e
end
end Go.Fr
namespace Go.Fr
open Go Go.RowKit
universe u
def zeroLeaf (l : Leaf) (v : Value) : Bool :=
  match l with
  | .blit b => (match v with | .bool c => b == c | _ => false)
  | .tv (.int k) n => (match v with | .int k' m => sameKind k k' && decide ((n : Int) = m) | _ => false)
  | .tv .str s => (match v with | .string s' => Nat.beq (ByteArray.size s) 0 && Nat.beq s'.size 0 | _ => false)
  | .raw (.pointer none) => (match v with | .pointer none => true | _ => false)
  | .raw (.slice none 0 0) => (match v with | .slice none 0 0 => true | _ => false)
  | .raw (.map none) => (match v with | .map none => true | _ => false)
  | .raw .nilFunc => (match v with | .nilFunc => true | _ => false)
  | .raw .nilIface => (match v with | .nilIface => true | _ => false)
  | _ => false
def zeroLeaves : List Leaf → List Value → Bool
  | [], [] => true
  | l :: ls, v :: vs => zeroLeaf l v && zeroLeaves ls vs
  | _, _ => false
theorem bytes_empty {s : ByteArray} (h : s.size = 0) : s = ByteArray.empty := by
  obtain ⟨⟨l⟩⟩ := s
  have : l = [] := List.eq_nil_of_length_eq_zero h
  subst this
  rfl
theorem zeroLeaf_rel {l : Leaf} {v : Value} (e : zeroLeaf l v = true) : (∀ N h, l.rel N h v) ∧ v.oneCell' = true := by
  unfold zeroLeaf at e
  split at e
  · split at e
    · have := eq_of_beq e
      subst this
      exact ⟨fun N h => by simp only [Leaf.rel], rfl⟩
    · cases e
  · split at e
    · simp only [Bool.and_eq_true, decide_eq_true_eq] at e
      have := sameKind_eq e.1
      subst this
      obtain ⟨_, e2⟩ := e
      subst e2
      exact ⟨fun N h => SV.leaf_iff.1 (mkInt_rel N h _ _), rfl⟩
    · cases e
  · split at e
    · simp only [Bool.and_eq_true] at e
      have h1 := bytes_empty (Nat.eq_of_beq_eq_true e.1)
      have h2 := bytes_empty (Nat.eq_of_beq_eq_true e.2)
      rw [h1, h2]
      exact ⟨fun N h => SV.leaf_iff.1 (mkStr_rel N h _), rfl⟩
    · cases e
  · split at e
    · exact ⟨fun N h => by simp only [Leaf.rel], rfl⟩
    · cases e
  · split at e
    · exact ⟨fun N h => by simp only [Leaf.rel], rfl⟩
    · cases e
  · split at e
    · exact ⟨fun N h => by simp only [Leaf.rel], rfl⟩
    · cases e
  · split at e
    · exact ⟨fun N h => by simp only [Leaf.rel], rfl⟩
    · cases e
  · split at e
    · exact ⟨fun N h => by simp only [Leaf.rel], rfl⟩
    · cases e
  · cases e
theorem zeroLeaves_rel : {ls : List Leaf} → {vs : List Value} → zeroLeaves ls vs = true → ZeroCells ls vs ∧ ∀ u ∈ vs, u.oneCell' = true
  | [], [], _ => ⟨fun _ _ => LeafRels.nil _ _, by simp⟩
  | l :: ls, v :: vs, e => by
    simp only [zeroLeaves, Bool.and_eq_true] at e
    obtain ⟨h1, h2⟩ := zeroLeaf_rel e.1
    obtain ⟨h3, h4⟩ := zeroLeaves_rel e.2
    refine ⟨fun N h => LeafRels.cons (h1 N h) (h3 N h), fun u hu => ?_⟩
    rcases List.mem_cons.1 hu with e | e
    · subst e; exact h2
    · exact h4 u e
  | [], _ :: _, e => by cases e
  | _ :: _, [], e => by cases e
def structOk (P : Program) : List (Nat × Nat × Bool) → List Field → Bool
  | [], [] => true
  | f :: fs, g :: gs => Nat.beq g.offset f.1 && (match P.info? g.type, P.underlying g.type with
      | some i, some e => Nat.beq i.size f.2.1 && (aggDesc e == f.2.2)
      | _, _ => false) && structOk P fs gs
  | _, _ => false
theorem structOk_get {P : Program} : (fs : List (Nat × Nat × Bool)) → (gs : List Field) → structOk P fs gs = true → gs.length = fs.length ∧ ∀ (n : Nat) f, fs[n]? = some f → ∃ g i e, gs[n]? = some g ∧ g.offset = f.1 ∧ P.info? g.type = some i ∧ i.size = f.2.1 ∧ P.underlying g.type = some e ∧ aggDesc e = f.2.2
  | [], [], _ => ⟨rfl, fun n f hf => by simp at hf⟩
  | f :: fs, g :: gs, h => by
    simp only [structOk, Bool.and_eq_true] at h
    obtain ⟨⟨h1, h2⟩, h3⟩ := h
    split at h2
    · rename_i i e hi he
      simp only [Bool.and_eq_true] at h2
      obtain ⟨l1, l2⟩ := structOk_get fs gs h3
      refine ⟨by simp [l1], fun n x hx => ?_⟩
      cases n with
      | zero =>
        simp at hx; subst hx
        exact ⟨g, i, e, rfl, Nat.eq_of_beq_eq_true h1, hi, Nat.eq_of_beq_eq_true h2.1, he, by simpa using h2.2⟩
      | succ n => 
        obtain ⟨g', i', e', q1, q2⟩ := l2 n x (by simpa using hx)
        exact ⟨g', i', e', by simpa using q1, q2⟩
    · cases h2
  | [], _ :: _, e => by cases e
  | _ :: _, [], e => by cases e
def kindOk (P : Program) (d : TypeDesc) (k : TK) : Bool :=
  match k with
  | .bool => (match d with | .bool => true | _ => false)
  | .int k => (match d with | .int k' => sameKind k' k | _ => false)
  | .str => (match d with | .string => true | _ => false)
  | .struct fs => (match d with | .struct gs => structOk P fs gs.toList | _ => false)
  | .array n e es => (match d with | .array n' e' => Nat.beq n n' && Nat.beq e e' && (match P.info? e with | some i => Nat.beq i.size es | none => false) | _ => false)
  | .slice e => (match d with | .slice e' => Nat.beq e e' | _ => false)
  | .ptr e => (match d with | .pointer e' => Nat.beq e e' | _ => false)
  | .map k e => (match d with | .map k' e' => Nat.beq k k' && Nat.beq e e' && keyB P k && zeroMB P e | _ => false)
  | .iface => (match d with | .interface ms => ms.isEmpty | _ => false)
  | .other => true
def checkTI (P : Program) (t : TypeId) (ti : TI) : Bool :=
  match P.info? t with
  | none => false
  | some i => match P.underlying t with
    | none => false
    | some d => Nat.beq i.size ti.size && Nat.beq i.bytes ti.bytes && (bif Nat.beq ti.zero.length ti.size then (match i.zero with | some z => zeroLeaves ti.zero z.cells.toList | none => false) else true) &&
      (aggDesc d == ti.isAgg) && kindOk P d ti.k && (match ti.k with | .ptr _ => zeroMB P t | _ => true) && (match ti.ty with
        | none => true
        | some T => Nat.beq T.size ti.size && (T.isAgg == ti.isAgg) && (bif T.plain then eqTy P 100 t T && (bif T.isAgg then !(P.eqGuardType P.depth t) else true) else true))
theorem kindOk_struct {P : Program} {d : TypeDesc} {fs : List (Nat × Nat × Bool)} (h : kindOk P d (.struct fs) = true) :
    ∃ gs, d = .struct gs ∧ structOk P fs gs.toList = true := by
  cases d <;> first | (cases h; done) | exact ⟨_, rfl, h⟩
theorem checkTI_ok {P : Program} {t : TypeId} {ti : TI} (h : checkTI P t ti = true) : TIok P t ti := by
  unfold checkTI at h
  split at h
  · cases h
  · rename_i i hi
    split at h
    · cases h
    · rename_i d hd
      simp only [Bool.and_eq_true] at h
      obtain ⟨⟨⟨⟨⟨⟨h1, h2⟩, h3⟩, h4⟩, h5⟩, h5z⟩, h6⟩ := h
      have h4 : aggDesc d = ti.isAgg := by simpa using h4
      refine ⟨⟨i, hi, Nat.eq_of_beq_eq_true h1, Nat.eq_of_beq_eq_true h2, fun hz => ?_⟩, ⟨d, hd, h4, ?_⟩, ?_, fun e he => by rw [he] at h5z; exact h5z⟩
      · rw [hz, Nat.beq_refl] at h3
        simp only [cond_true] at h3
        split at h3
        · rename_i z hzz
          obtain ⟨g1, g2⟩ := zeroLeaves_rel h3
          exact ⟨z, hzz, z.cells.toList, by simp, g1, g2⟩
        · cases h3
      · have h5' := h5
        unfold kindOk at h5
        split at h5
        · rename_i hk
          rw [hk]
          split at h5
          · rfl
          · cases h5
        · rename_i k hk
          rw [hk]
          split at h5
          · simp only; rw [sameKind_eq h5]
          · cases h5
        · rename_i hk
          rw [hk]
          split at h5
          · rfl
          · cases h5
        · rename_i fs hk
          rw [hk]
          rw [hk] at h5'
          obtain ⟨gs, rfl, h5⟩ := kindOk_struct h5'
          obtain ⟨g1, g2⟩ := structOk_get fs gs.toList h5
          refine ⟨gs, rfl, by simpa using g1, fun n f hf => ?_⟩
          obtain ⟨g, j, e, q1, q2⟩ := g2 n f hf
          exact ⟨g, j, e, by simpa using q1, q2⟩
        · rename_i n e es hk
          rw [hk]
          split at h5
          · simp only [Bool.and_eq_true] at h5
            obtain ⟨⟨p1, p2⟩, p3⟩ := h5
            split at p3
            · rename_i j hj
              refine ⟨by rw [Nat.eq_of_beq_eq_true p1, Nat.eq_of_beq_eq_true p2], j, hj, Nat.eq_of_beq_eq_true p3⟩
            · cases p3
          · cases h5
        · rename_i e hk
          rw [hk]
          split at h5
          · simp only; rw [Nat.eq_of_beq_eq_true h5]
          · cases h5
        · rename_i e hk
          rw [hk]
          split at h5
          · simp only; rw [Nat.eq_of_beq_eq_true h5]
          · cases h5
        · rename_i k e hk
          rw [hk]
          split at h5
          · simp only [Bool.and_eq_true] at h5
            obtain ⟨⟨⟨p1, p2⟩, p3⟩, p4⟩ := h5
            exact ⟨by rw [Nat.eq_of_beq_eq_true p1, Nat.eq_of_beq_eq_true p2], p3, p4⟩
          · cases h5
        · rename_i hk
          rw [hk]
          split at h5
          · simp only
            rw [Array.isEmpty_iff.1 h5]
          · cases h5
        · rename_i hk
          rw [hk]
          trivial
      · intro T hT
        rw [hT] at h6
        simp only [Bool.and_eq_true] at h6
        obtain ⟨⟨q1, q2⟩, q3⟩ := h6
        have q2 : T.isAgg = ti.isAgg := by simpa using q2
        refine ⟨Nat.eq_of_beq_eq_true q1, q2, fun hp => ?_⟩
        rw [hp] at q3
        simp only [cond_true, Bool.and_eq_true] at q3
        intro x y h cs ds w xo yo op hx hy
        have heq : (Op.equal t (T.val cs) (T.val ds)).run P w = .ok (T.beq x y) w := eqTy_run 100 10000 (by decide) t T q3.1 x y cs ds w hx hy
        refine ⟨?_, heq⟩
        cases ha : T.isAgg with
        | true =>
          rw [ha] at q3
          simp only [cond_true, Bool.not_eq_true'] at q3
          rw [agg_of_agg ha, agg_of_agg ha]
          exact run_eqGuard_agg w op t xo yo _ _ q3.2
        | false =>
          cases T with
          | bool => simp only [rep] at hx hy; subst hx hy; cases op <;> simp [eqGuard, Ty.val]
          | int k => simp only [rep] at hx hy; subst hx hy; cases op <;> simp [eqGuard, Ty.val]
          | str => simp only [rep] at hx hy; subst hx hy; cases op <;> simp [eqGuard, Ty.val]
          | sl t => cases hp
          | opt t => cases hp
          | mp _ _ => cases hp
          | nd _ _ _ _ => cases hp
          | unit => cases ha
          | pair a b => cases ha
def tabGet : List (TypeId × TI) → TypeId → Option TI
  | [], _ => none
  | (k, i) :: r, t => bif Nat.beq k t then some i else tabGet r t
def tabOk (P : Program) : List (TypeId × TI) → Bool
  | [] => true
  | (k, i) :: r => checkTI P k i && tabOk P r
theorem tabOk_get {P : Program} : (l : List (TypeId × TI)) → tabOk P l = true → ∀ t ti, tabGet l t = some ti → TIok P t ti
  | [], _, t, ti, h => by cases h
  | (k, i) :: r, e, t, ti, h => by
    simp only [tabOk, Bool.and_eq_true] at e
    simp only [tabGet] at h
    cases hb : Nat.beq k t with
    | true =>
      rw [hb] at h
      simp only [cond_true] at h
      injection h with h
      subst h
      rw [← Nat.eq_of_beq_eq_true hb]
      exact checkTI_ok e.1
    | false =>
      rw [hb] at h
      exact tabOk_get r e.2 t ti h
end Go.Fr
namespace Go.Fr
open Go Go.RowKit Go.ChangeShapes Go.WideShapes Go.ChangeAt
def isTy (P : Program) : Nat → TypeId → Ty → Bool
  | 0, _, _ => false
  | d + 1, t, T => match P.underlying t with
    | some .bool => (match T with | .bool => true | _ => false)
    | some (.int k) => (match T with | .int k' => sameKind k k' | _ => false)
    | some .string => (match T with | .str => true | _ => false)
    | some (.slice e) => (match T with | .sl T' => Nat.beq (P.cellsOf e) T'.size && isTy P d e T' && Nat.ble 1 (P.bytesOf e) | _ => false)
    | some (.struct fs) => T.isAgg && Nat.beq (P.cellsOf t) T.size && fieldsTy P (isTy P d) fs.toList T 0
    | some (.array n e) => T.isAgg && Nat.beq (P.cellsOf t) T.size && arrTy P (isTy P d) e n T
    | _ => false
def isTys (P : Program) : List TypeId → Ty → Bool
  | [], .unit => true
  | t :: ts, .pair a b => isTy P 40 t a && isTys P ts b
  | _, _ => false
def wf : (T : Ty) → T.den → Prop
  | .bool, _ => True
  | .int k, n => (Lit.int k n).wf = true
  | .str, s => s.size ≤ maxLen
  | .unit, _ => True
  | .sl t, xs => xs.length ≤ maxLen ∧ ∀ x ∈ xs, wf t x
  | .opt t, x => ∀ y, x = some y → wf t y
  | .mp _ _, _ => False
  | .nd _ _ _ _, _ => False
  | .pair a b, x => wf a x.1 ∧ wf b x.2
def wfm (m : Nat) : (T : Ty) → T.den → Prop
  | .bool, _ => True
  | .int _, _ => True
  | .str, s => s.size ≤ m
  | .unit, _ => True
  | .sl t, xs => xs.length ≤ m ∧ ∀ x ∈ xs, wfm m t x
  | .opt t, x => ∀ y, x = some y → wfm m t y
  | .mp _ _, _ => False
  | .nd _ _ _ _, _ => False
  | .pair a b, x => wfm m a x.1 ∧ wfm m b x.2
def bulk : (T : Ty) → T.den → Nat
  | .bool, _ => 1
  | .int _, _ => 1
  | .str, s => s.size + 1
  | .unit, _ => 0
  | .sl t, xs => (xs.map (bulk t)).sum + 1
  | .opt t, x => match x with | some y => bulk t y + 1 | none => 1
  | .mp _ _, _ => 0
  | .nd _ _ _ _, _ => 0
  | .pair a b, x => bulk a x.1 + bulk b x.2
structure IsBulk {H : Type} (β : DataW H → Nat) : Prop where
  one : ∀ d, 1 ≤ β d
  str : ∀ s, s.length + 1 ≤ β (.lit (.string s))
  slice : ∀ a b, (a.map β).sum + 1 ≤ β (.slice a b)
  agg : ∀ a, (a.map β).sum ≤ β (.agg a)
theorem list_of_each {α : Type} {Q : Nat → α → Prop} : (n : Nat) → (∀ i, i < n → ∃ y, Q i y) → ∃ xs : List α, xs.length = n ∧ ∀ (i : Nat) x, xs[i]? = some x → Q i x
  | 0, _ => ⟨[], rfl, fun i x h => by simp at h⟩
  | n + 1, h => by
    obtain ⟨xs, hl, hx⟩ := list_of_each n (fun i hi => h i (by omega))
    obtain ⟨y, hy⟩ := h n (by omega)
    refine ⟨xs ++ [y], by simp [hl], fun i x hi => ?_⟩
    rcases Nat.lt_or_ge i n with hlt | hge
    · rw [List.getElem?_append_left (by omega)] at hi
      exact hx i x hi
    · rw [List.getElem?_append_right (by omega)] at hi
      have : i - xs.length = 0 := by
        rcases Nat.eq_zero_or_pos (i - xs.length) with h0 | h0
        · exact h0
        · rw [List.getElem?_eq_none (by simp; omega)] at hi
          cases hi
      rw [this] at hi
      simp only [List.getElem?_cons_zero, Option.some.injEq] at hi
      have : i = n := by omega
      subst this hi
      exact hy
theorem sum_le_of_each {α : Type} {f : α → Nat} {β : Type} {g : β → Nat} : (xs : List α) → (ys : List β) → (∀ (i : Nat) x y, xs[i]? = some x → ys[i]? = some y → f x ≤ g y) → xs.length ≤ ys.length → (xs.map f).sum ≤ (ys.map g).sum
  | [], ys, _, _ => by simp
  | x :: xs, [], _, h => by simp at h
  | x :: xs, y :: ys, h, hl => by
    have h0 := h 0 x y rfl rfl
    have h1 := sum_le_of_each xs ys (fun i a b ha hb => h (i + 1) a b (by simpa using ha) (by simpa using hb)) (by simpa using hl)
    simp only [List.map_cons, List.sum_cons]
    omega
section
variable {H : Type} {enc : TypeId × Value → H} {P : Program} {w : World} {β : DataW H → Nat}
def heapOf (w : World) : PHeap := fun k => w.heap[k]?
theorem hcell_heapOf {a : Addr} : hcell (heapOf w) a = w.cell? a := by
  unfold hcell heapOf World.cell?
  rfl
theorem cellsAt_of_cells? {a : Addr} {n : Nat} {cs : List Value} (h : w.cells? 0 a n = some cs) : CellsAt (heapOf w) a cs := by
  intro j u hu
  rw [hcell_heapOf]
  obtain ⟨_, hl, hc⟩ := World.cells?_some h
  have hj : j < cs.length := (List.getElem?_eq_some_iff.1 hu).1
  rw [hc j (by omega), hu]
def Opens (P : Program) (w : World) (β : DataW H → Nat) (t : TypeId) (T : Ty) (cs : List Value) (d : DataW H) : Prop :=
  ∃ y : T.den, rep (heapOf w) T y cs ∧ wf T y ∧ (IsBulk β → bulk T y ≤ β d) ∧ ∀ m, (∀ q ∈ d.weights P t, q ≤ m) → wfm m T y
theorem open_fields {d n : Nat} {cs : List Value} (IH : ∀ t T fuel cs x, isTy P d t T = true → DataW.trod enc P w 0 (fun _ => true) true fuel t cs = some x → Opens P w β t T cs x.1) :
    (fs : List Field) → (T : Ty) → (off : Nat) → fieldsTy P (isTy P d) fs T off = true → (xs : List (DataW H × List MemPlace)) →
    (∀ (i : Nat) f, fs[i]? = some f → DataW.trod enc P w 0 (fun _ => true) true n f.type ((cs.drop f.offset).take (P.cellsOf f.type)) = xs[i]?) → xs.length = fs.length →
    ∃ y : T.den, rep (heapOf w) T y ((cs.drop off).take T.size) ∧ wf T y ∧ (IsBulk β → bulk T y ≤ ((xs.map (·.1)).map β).sum) ∧ ∀ m, (∀ q ∈ DataW.weightsEach P (fs.map (·.type)) (xs.map (·.1)), q ≤ m) → wfm m T y
  | [], .unit, off, _, xs, _, _ => ⟨(), by simp [rep, Ty.size], trivial, fun _ => Nat.zero_le _, fun _ _ => trivial⟩
  | [], .bool, _, e, _, _, _ => by cases e
  | [], .int _, _, e, _, _, _ => by cases e
  | [], .str, _, e, _, _, _ => by cases e
  | [], .sl _, _, e, _, _, _ => by cases e
  | [], .pair _ _, _, e, _, _, _ => by cases e
  | _ :: _, .unit, _, e, _, _, _ => by cases e
  | _ :: _, .bool, _, e, _, _, _ => by cases e
  | _ :: _, .int _, _, e, _, _, _ => by cases e
  | _ :: _, .str, _, e, _, _, _ => by cases e
  | _ :: _, .sl _, _, e, _, _, _ => by cases e
  | f :: fs, .pair a b, off, e, xs, hx, hl => by
    match xs, hl with
    | [], hl => simp at hl
    | x :: xs, hl =>
    simp only [fieldsTy, Bool.and_eq_true] at e
    obtain ⟨⟨⟨⟨_, e1⟩, e2⟩, e3⟩, e4⟩ := e
    have e1 := Nat.eq_of_beq_eq_true e1
    have hsz : P.cellsOf f.type = a.size := by
      unfold Program.cellsOf
      cases hi : P.info? f.type with
      | none => rw [hi] at e2; simp at e2
      | some i =>
        cases hu : P.underlying f.type with
        | none => rw [hi, hu] at e2; simp at e2
        | some dd =>
          rw [hi, hu] at e2
          simp only [Bool.and_eq_true] at e2
          simpa using Nat.eq_of_beq_eq_true e2.1
    have h0 := hx 0 f rfl
    simp only [List.getElem?_cons_zero] at h0
    obtain ⟨y1, p1, p2, p3, p4⟩ := IH f.type a n _ x e3 h0
    obtain ⟨y2, q1, q2, q3, q4⟩ := open_fields IH fs b (off + a.size) e4 xs (fun i g hg => hx (i + 1) g (by simpa using hg)) (by simpa using hl)
    refine ⟨(y1, y2), ⟨_, _, ?_, p1, q1⟩, ⟨p2, q2⟩, fun hb => ?_, fun m hm => ⟨p4 m fun q hq => hm q ?_, q4 m fun q hq => hm q ?_⟩⟩
    rotate_right 2
    · simp only [List.map_cons, DataW.weightsEach, List.mem_append]; exact .inl hq
    · simp only [List.map_cons, DataW.weightsEach, List.mem_append]; exact .inr hq
    · rw [e1, hsz]
      simp only [Ty.size]
      rw [List.take_add, List.drop_drop]
    · have := p3 hb
      have := q3 hb
      simp only [bulk, List.map_cons, List.sum_cons]
      omega
theorem open_arr {d n : Nat} {cs : List Value} {e : TypeId} (IH : ∀ t T fuel cs x, isTy P d t T = true → DataW.trod enc P w 0 (fun _ => true) true fuel t cs = some x → Opens P w β t T cs x.1) :
    (m : Nat) → (T : Ty) → (off : Nat) → arrTy P (isTy P d) e m T = true → (xs : List (DataW H × List MemPlace)) →
    (∀ (i : Nat), i < m → DataW.trod enc P w 0 (fun _ => true) true n e ((cs.drop (off + i * P.cellsOf e)).take (P.cellsOf e)) = xs[i]?) → xs.length = m →
    ∃ y : T.den, rep (heapOf w) T y ((cs.drop off).take T.size) ∧ wf T y ∧ (IsBulk β → bulk T y ≤ ((xs.map (·.1)).map β).sum) ∧ ∀ q0, (∀ q ∈ DataW.weightsAll P e (xs.map (·.1)), q ≤ q0) → wfm q0 T y
  | 0, .unit, off, _, xs, _, _ => ⟨(), by simp [rep, Ty.size], trivial, fun _ => Nat.zero_le _, fun _ _ => trivial⟩
  | 0, .bool, _, e, _, _, _ => by cases e
  | 0, .int _, _, e, _, _, _ => by cases e
  | 0, .str, _, e, _, _, _ => by cases e
  | 0, .sl _, _, e, _, _, _ => by cases e
  | 0, .pair _ _, _, e, _, _, _ => by cases e
  | _ + 1, .unit, _, e, _, _, _ => by cases e
  | _ + 1, .bool, _, e, _, _, _ => by cases e
  | _ + 1, .int _, _, e, _, _, _ => by cases e
  | _ + 1, .str, _, e, _, _, _ => by cases e
  | _ + 1, .sl _, _, e, _, _, _ => by cases e
  | m + 1, .pair a b, off, he, xs, hx, hl => by
    match xs, hl with
    | [], hl => simp at hl
    | x :: xs, hl =>
    simp only [arrTy, Bool.and_eq_true] at he
    obtain ⟨⟨e2, e3⟩, e4⟩ := he
    have hsz : P.cellsOf e = a.size := by
      unfold Program.cellsOf
      cases hi : P.info? e with
      | none => rw [hi] at e2; simp at e2
      | some i =>
        cases hu : P.underlying e with
        | none => rw [hi, hu] at e2; simp at e2
        | some dd =>
          rw [hi, hu] at e2
          simp only [Bool.and_eq_true] at e2
          simpa using Nat.eq_of_beq_eq_true e2.1
    have h0 := hx 0 (by omega)
    simp only [List.getElem?_cons_zero, Nat.zero_mul, Nat.add_zero] at h0
    obtain ⟨y1, p1, p2, p3, p4⟩ := IH e a n _ x e3 h0
    obtain ⟨y2, q1, q2, q3, q4⟩ := open_arr IH m b (off + a.size) e4 xs (fun i hi => by
      have := hx (i + 1) (by omega)
      simp only [List.getElem?_cons_succ] at this
      rw [← this, ← hsz, Nat.succ_mul]
      congr 3
      omega) (by simpa using hl)
    refine ⟨(y1, y2), ⟨_, _, ?_, p1, q1⟩, ⟨p2, q2⟩, fun hb => ?_, fun m hm => ⟨p4 m fun q hq => hm q ?_, q4 m fun q hq => hm q ?_⟩⟩
    rotate_right 2
    · simp only [List.map_cons, DataW.weightsAll, List.mem_append]; exact .inl hq
    · simp only [List.map_cons, DataW.weightsAll, List.mem_append]; exact .inr hq
    · rw [hsz]
      simp only [Ty.size]
      rw [List.take_add, List.drop_drop]
    · have := p3 hb
      have := q3 hb
      simp only [bulk, List.map_cons, List.sum_cons]
      omega
theorem open_trod : (d : Nat) → ∀ t T fuel cs x, isTy P d t T = true → DataW.trod enc P w 0 (fun _ => true) true fuel t cs = some x → Opens P w β t T cs x.1
  | 0, t, T, fuel, cs, x, e, _ => by cases e
  | d + 1, t, T, fuel, cs, x, e, h => by
    have IH := fun t T fuel cs x => open_trod d t T fuel cs x
    simp only [isTy] at e
    split at e
    · rename_i hu
      split at e
      · obtain ⟨b, rfl, rfl⟩ := DataW.trod_bool hu h
        exact ⟨b, rfl, trivial, fun hb => hb.one _, fun _ _ => trivial⟩
      · cases e
    · rename_i k hu
      split at e
      · have := sameKind_eq e
        subst this
        obtain ⟨n, rfl, rfl, hw⟩ := DataW.trod_int hu h
        exact ⟨n, rfl, hw, fun hb => hb.one _, fun _ _ => trivial⟩
      · cases e
    · rename_i hu
      split at e
      · obtain ⟨s, rfl, rfl, hw⟩ := DataW.trod_string hu h
        refine ⟨s, rfl, hw, fun hb => ?_, fun m hm => (by have h1 := hm s.data.toList.length (by rw [DataW.weights]; exact List.mem_singleton.2 rfl); rw [Array.length_toList] at h1; exact h1)⟩
        have := hb.str s.data.toList
        simp only [bulk]
        have e2 : s.data.toList.length = s.size := Array.length_toList
        rw [e2] at this
        exact this
      · cases e
    · rename_i el hu
      split at e
      · rename_i T'
        simp only [Bool.and_eq_true] at e
        obtain ⟨⟨e1, e2⟩, e0⟩ := e
        have e1 := Nat.eq_of_beq_eq_true e1
        have e0 := Nat.le_of_ble_eq_true e0
        rcases DataW.trod_slice hu h with ⟨rfl, rfl⟩ | ⟨a, len, cap, elems, rest, n, _, rfl, rfl, _, hlc, hcm, hel, hget, _⟩
        · exact ⟨[], ⟨none, 0, rfl, Nat.le_refl _, fun _ => rfl, fun i x ad hx => by simp at hx⟩, ⟨Nat.zero_le _, fun x hx => (by cases hx)⟩, fun hb => hb.one _, fun m _ => ⟨Nat.zero_le _, fun x hx => (by cases hx)⟩⟩
        · have hq : ∀ i, i < len → ∃ y : T'.den, (∃ ds, rep (heapOf w) T' y ds ∧ CellsAt (heapOf w) (a.add (i * T'.size)) ds) ∧ wf T' y ∧ (IsBulk β → ∀ z, elems[i]? = some z → bulk T' y ≤ β z.1) ∧ ∀ m z, elems[i]? = some z → (∀ q ∈ z.1.weights P el, q ≤ m) → wfm m T' y := by
            intro i hi
            have hg := hget i hi
            have hs : elems[i]? = some elems[i] := List.getElem?_eq_getElem (by omega)
            rw [hs] at hg
            cases hc : w.cells? 0 (a.add (i * P.cellsOf el)) (P.cellsOf el) with
            | none => rw [hc] at hg; cases hg
            | some cs' =>
              rw [hc] at hg
              obtain ⟨y, r1, r2, r3, r4⟩ := IH el T' n cs' _ e2 hg
              refine ⟨y, ⟨cs', r1, ?_⟩, r2, fun hb z hz => ?_, fun m z hz hm => ?_⟩
              · rw [← e1]; exact cellsAt_of_cells? hc
              · rw [hs] at hz
                cases hz
                exact r3 hb
              · rw [hs] at hz
                cases hz
                exact r4 m hm
          obtain ⟨xs, hl, hx⟩ := list_of_each len hq
          refine ⟨xs, ⟨some a, cap, by rw [hl], by omega, fun h => (by cases h), fun i x ad hxi had => ?_⟩, ⟨by omega, fun x hx' => ?_⟩, fun hb => ?_, fun m hm => ⟨?_, fun x hx' => ?_⟩⟩
          · cases had
            exact (hx i x hxi).1
          · obtain ⟨i, hi⟩ := List.getElem?_of_mem hx'
            exact (hx i x hi).2.1
          · simp only [bulk]
            have h1 : (xs.map (bulk T')).sum ≤ ((elems.map (·.1)).map β).sum := by
              refine sum_le_of_each xs (elems.map (·.1)) (fun i x y hxi hyi => ?_) (by simp; omega)
              rw [List.getElem?_map] at hyi
              cases hz : elems[i]? with
              | none => rw [hz] at hyi; cases hyi
              | some z =>
                rw [hz] at hyi
                cases hyi
                exact (hx i x hxi).2.2.1 hb z hz
            have h2 := hb.slice (elems.map (·.1)) (rest.map (·.1))
            exact Nat.le_trans (Nat.add_le_add_right h1 1) h2
          · have h1 := hm _ (by rw [DataW.weights, hu]; exact List.mem_cons_self ..)
            rw [List.length_map, List.length_map] at h1
            have h2 : (elems.length + rest.length) * 1 ≤ (elems.length + rest.length) * P.bytesOf el := Nat.mul_le_mul_left _ e0
            omega
          · obtain ⟨i, hi⟩ := List.getElem?_of_mem hx'
            have hil : i < xs.length := (List.getElem?_eq_some_iff.1 hi).1
            have hs : elems[i]? = some elems[i] := List.getElem?_eq_getElem (by omega)
            refine (hx i x hi).2.2.2 m _ hs fun q hq => hm q ?_
            rw [DataW.weights, hu]
            refine List.mem_cons_of_mem _ (List.mem_append_left _ ?_)
            have key : ∀ (l : List (DataW H)) (i : Nat) d, l[i]? = some d → q ∈ d.weights P el → q ∈ DataW.weightsAll P el l := by
              intro l
              induction l with
              | nil => intro i d hd; simp at hd
              | cons d0 l ih =>
                intro i d hd hq
                rw [DataW.weightsAll, List.mem_append]
                cases i with
                | zero => simp at hd; subst hd; exact .inl hq
                | succ i => exact .inr (ih i d (by simpa using hd) hq)
            exact key _ i _ (by rw [List.getElem?_map, hs]; rfl) hq
      · cases e
    · rename_i fs hu
      simp only [Bool.and_eq_true] at e
      obtain ⟨⟨e0, e1⟩, e2⟩ := e
      have e1 := Nat.eq_of_beq_eq_true e1
      obtain ⟨xs, n, _, rfl, hlen, hxl, hget⟩ := DataW.trod_struct hu h
      obtain ⟨y, r1, r2, r3, r4⟩ := open_fields (n := n) (cs := cs) IH fs.toList T 0 e2 xs (fun i f hf => hget i f (by simpa using hf)) (by simpa using hxl)
      refine ⟨y, ?_, r2, fun hb => Nat.le_trans (r3 hb) (hb.agg _), fun m hm => r4 m (by rw [DataW.weights, hu] at hm; exact hm)⟩
      rw [List.drop_zero, List.take_of_length_le (by omega)] at r1
      exact r1
    · rename_i m el hu
      simp only [Bool.and_eq_true] at e
      obtain ⟨⟨e0, e1⟩, e2⟩ := e
      have e1 := Nat.eq_of_beq_eq_true e1
      obtain ⟨xs, n, _, rfl, hlen, hxl, hget⟩ := DataW.trod_array hu h
      obtain ⟨y, r1, r2, r3, r4⟩ := open_arr (n := n) (cs := cs) IH m T 0 e2 xs (fun i hi => by rw [Nat.zero_add]; exact hget i hi) hxl
      refine ⟨y, ?_, r2, fun hb => Nat.le_trans (r3 hb) (hb.agg _), fun m hm => r4 m (by rw [DataW.weights, hu] at hm; exact hm)⟩
      rw [List.drop_zero, List.take_of_length_le (by omega)] at r1
      exact r1
    · cases e
theorem val_of_ok {r : Reach} {b0 : Nat} {t : TypeId} {T : Ty} {v : Value} {d : Nat} (e : isTy P d t T = true) (hv : Value.okWide P w r b0 t v) : v = T.val v.cells.toList := by
  cases d with
  | zero => cases e
  | succ d =>
    simp only [isTy] at e
    split at e
    · rename_i hu
      obtain ⟨b, rfl⟩ := okWide_bool hu hv
      split at e
      · rfl
      · cases e
    · rename_i k hu
      obtain ⟨b, rfl⟩ := okWide_int hu hv
      split at e
      · rfl
      · cases e
    · rename_i hu
      obtain ⟨b, rfl⟩ := okWide_string hu hv
      split at e
      · rfl
      · cases e
    · rename_i el hu
      obtain ⟨a, b, c, rfl⟩ := okWide_slice hu hv
      split at e
      · rfl
      · cases e
    · rename_i fs hu
      simp only [Bool.and_eq_true] at e
      obtain ⟨cs, rfl, _⟩ := okWide_struct hu hv
      rw [agg_of_agg e.1.1]
      simp [Value.cells]
    · rename_i m el hu
      simp only [Bool.and_eq_true] at e
      simp only [Value.okWide, hu] at hv
      obtain ⟨cs, rfl, _⟩ := hv
      rw [agg_of_agg e.1.1]
      simp [Value.cells]
    · cases e
theorem open_all {r : Reach} {b0 : Nat} : (ts : List TypeId) → (A : Ty) → isTys P ts A = true → (vs : List Value) → (ds : List (DataW H)) → (ps : List MemPlace) →
    DataW.TrodAll enc P w 0 (fun _ => true) true ts vs ds ps → (∀ (j : Nat) t v, ts[j]? = some t → vs[j]? = some v → Value.okWide P w r b0 t v) →
    ∃ y : A.den, trep (heapOf w) A y vs ∧ wf A y ∧ (IsBulk β → bulk A y ≤ (ds.map β).sum) ∧ ∀ m, (∀ q ∈ DataW.weightsEach P ts ds, q ≤ m) → wfm m A y
  | [], .unit, _, vs, ds, ps, h, _ => by
    obtain ⟨rfl, rfl, rfl⟩ := trodAll_nil h
    exact ⟨(), rfl, trivial, fun _ => Nat.zero_le _, fun _ _ => trivial⟩
  | [], .bool, e, _, _, _, _, _ => by cases e
  | [], .int _, e, _, _, _, _, _ => by cases e
  | [], .str, e, _, _, _, _, _ => by cases e
  | [], .sl _, e, _, _, _, _, _ => by cases e
  | [], .opt _, e, _, _, _, _, _ => by cases e
  | [], .mp _ _, e, _, _, _, _, _ => by cases e
  | [], .nd _ _ _ _, e, _, _, _, _, _ => by cases e
  | [], .pair _ _, e, _, _, _, _, _ => by cases e
  | _ :: _, .unit, e, _, _, _, _, _ => by cases e
  | _ :: _, .bool, e, _, _, _, _, _ => by cases e
  | _ :: _, .int _, e, _, _, _, _, _ => by cases e
  | _ :: _, .str, e, _, _, _, _, _ => by cases e
  | _ :: _, .sl _, e, _, _, _, _, _ => by cases e
  | _ :: _, .opt _, e, _, _, _, _, _ => by cases e
  | _ :: _, .mp _ _, e, _, _, _, _, _ => by cases e
  | _ :: _, .nd _ _ _ _, e, _, _, _, _, _ => by cases e
  | t :: ts, .pair a b, e, vs, ds, ps, h, hv => by
    simp only [isTys, Bool.and_eq_true] at e
    obtain ⟨v0, vs0, d0, ds0, p0, q0, rfl, rfl, rfl, h0, r0⟩ := trodAll_cons h
    obtain ⟨fuel, h0⟩ := h0
    obtain ⟨y1, s1, s2, s3, s4⟩ := open_trod (β := β) 40 t a fuel _ _ e.1 h0
    obtain ⟨y2, u1, u2, u3, u4⟩ := open_all ts b e.2 vs0 ds0 q0 r0 (fun j t v ht hv' => hv (j + 1) t v (by simpa using ht) (by simpa using hv'))
    refine ⟨(y1, y2), ⟨v0, vs0, rfl, ⟨_, s1, val_of_ok e.1 (hv 0 t v0 rfl rfl)⟩, u1⟩, ⟨s2, u2⟩, fun hb => ?_, fun m hm => ⟨s4 m fun q hq => hm q (by rw [DataW.weightsEach, List.mem_append]; exact .inl hq), u4 m fun q hq => hm q (by rw [DataW.weightsEach, List.mem_append]; exact .inr hq)⟩⟩
    have : bulk a y1 ≤ β d0 := s3 hb
    have := u3 hb
    simp only [bulk, List.map_cons, List.sum_cons]
    omega
theorem trodAll_below (hl : laidOutB P = true) {W W' : World} (hb : Below W.heap.size W W') : (ts : List TypeId) → (ts.all fun t => P.readableRec t && decide (t < P.types.size)) = true → (vs : List Value) → (ds : List (DataW H)) → (ps : List MemPlace) →
    DataW.TrodAll enc P W 0 (fun _ => true) true ts vs ds ps → DataW.TrodAll enc P W' 0 (fun b => decide (b < W.heap.size)) true ts vs ds ps
  | [], _, vs, ds, ps, h => by
    obtain ⟨rfl, rfl, rfl⟩ := trodAll_nil h
    exact trodAll_mk0
  | t :: ts, e, vs, ds, ps, h => by
    simp only [List.all_cons, Bool.and_eq_true, decide_eq_true_eq] at e
    obtain ⟨v0, vs0, d0, ds0, p0, q0, rfl, rfl, rfl, h0, r0⟩ := trodAll_cons h
    have lt0 : ∀ x ∈ p0, x.block < W.heap.size := by obtain ⟨m, hm⟩ := h0; exact DataW.trod_lt m _ _ _ hm
    exact trodAll_cons_mk (RowKit.Below.trod hl e.1.1 e.1.2 h0 hb.kit lt0) (trodAll_below hl hb ts e.2 vs0 ds0 q0 r0)
end
def noGl : Nat → Option ((t : Ty) × t.den) := fun _ => none
def lawC (A : Ty) (pre : A.den → Prop) : Contract := { arg := A, res := .bool, one := true, pre := pre, fn := fun _ => true }
def lawOk (P : Program) (fn : Func) (A : Ty) (tb : TypeId) : Bool :=
  isTys P fn.params.toList A && (fn.params.toList.all fun t => P.readableRec t && decide (t < P.types.size)) && (match P.underlying tb with | some .bool => true | _ => false)
theorem law_post {H : Type} {enc : TypeId × Value → H} {P : Program} {fn : Func} {A : Ty} {tb : TypeId} {s : ChangeSpec} {f : FuncId} {pre : A.den → Prop} {W : World} {base : Nat} {args : Array Value} {ds gs : List (DataW H)} {before : List MemPlace} {apart : Bool}
    {β : DataW H → Nat} {gl : Nat → Option ((t : Ty) × t.den)} (hG : GlobOk gl (heapOf W))
    (hok : lawOk P fn A tb = true) (hl : laidOutB P = true) (hr : fn.resultTypes = #[tb]) (hs : s.vars = []) (hf : ∀ ds : List (DataW H), ds.length = fn.params.toList.length → s.fn H ds = { results := [.lit (.bool true)], args := ds })
    (hK : CallSpec P gl f (lawC A pre))
    (hval : ∀ (j : Nat) t v, fn.params[j]? = some t → args[j]? = some v → Value.okWide P W .any base t v)
    (hW : DataW.Whole enc P fn.params.toList s.vars apart W args.toList ds gs before)
    (hpre : ∀ y : A.den, wf A y → (IsBulk β → bulk A y ≤ (ds.map β).sum) → (∀ m, (∀ q ∈ DataW.weightsEach P fn.params.toList ds, q ≤ m) → wfm m A y) → pre y) :
    Calls P f args W fun e W' => ∃ v, e = .returned v ∧ s.post enc P fn apart true false false W args v W' := by
  have hW' := hW
  unfold lawOk at hok
  simp only [Bool.and_eq_true] at hok
  obtain ⟨⟨o1, o2⟩, o3⟩ := hok
  have hb : P.underlying tb = some .bool := by
    split at o3
    · assumption
    · cases o3
  obtain ⟨p, q, hA, hV, rfl, hfz, hnd⟩ := hW
  rw [hs] at hV
  obtain ⟨rfl, rfl⟩ := trodVars_none hV
  obtain ⟨y, y1, y2, y3, y4⟩ := open_all (β := β) (r := .any) (b0 := base) fn.params.toList A o1 args.toList ds p hA (fun j t v ht hv => hval j t v (by simpa using ht) (by simpa using hv))
  have hlen := Go.trodAll_length hA
  have hc := hK.2 y (heapOf W) W args.toList (hpre y y2 y3 y4) y1 (fun k o h => h) hG
  have htl : args.toList ++ tailVals (lawC A pre).tail = args.toList := by simp [tailVals, lawC]
  rw [htl, Array.toArray_toList] at hc
  refine hc.mono fun e W' hq => ?_
  obtain ⟨v, h', rfl, _, _, _, hv, bel⟩ := hq
  obtain ⟨cs, hcs, rfl⟩ := hv
  simp only [lawC, rep] at hcs
  subst hcs
  refine ⟨_, rfl, ds, [], p ++ [], [], p, [], hW', ?_, ?_, ?_, bel.kit.frame _, fun h => by cases h⟩
  · rw [List.append_nil, hf ds hlen.2, hr]
    exact trodAll_mk1 (shut_bool hb _)
  · rw [List.append_nil, hf ds hlen.2]
    exact trodAll_below hl bel _ o2 _ _ _ hA
  · rw [List.append_nil, hf ds hlen.2, hs]
    rfl
end Go.Fr
namespace Go.Fr
open Go Go.RowKit Go.ChangeShapes Go.WideShapes Go.ChangeAt
def ctGet : List (FuncId × Contract) → FuncId → Option Contract
  | [], _ => none
  | (k, i) :: r, t => bif Nat.beq k t then some i else ctGet r t
def CtOk (P : Program) (G : Nat → Option ((t : Ty) × t.den)) (l : List (FuncId × Contract)) : Prop := ∀ f C, ctGet l f = some C → CallSpec P G f C
theorem ct_nil {P : Program} {G : Nat → Option ((t : Ty) × t.den)} : CtOk P G [] := fun f C h => by cases h
theorem ct_cons {P : Program} {G : Nat → Option ((t : Ty) × t.den)} {f : FuncId} {C : Contract} {l : List (FuncId × Contract)} (h : CallSpec P G f C) (r : CtOk P G l) : CtOk P G ((f, C) :: l) := by
  intro g D hg
  simp only [ctGet] at hg
  cases hb : Nat.beq f g with
  | true =>
    rw [hb] at hg
    have := Nat.eq_of_beq_eq_true hb
    subst this
    cases hg
    exact h
  | false =>
    rw [hb] at hg
    exact r g D hg
def bodyOf (f : Func) : Code := match f.body with | some c => c | none => .skip
def inlOf (f : Func) : Inl := ⟨bodyOf f, f.ntmps, f.results.toList⟩
def inlGet : List (FuncId × Func) → FuncId → Option Inl
  | [], _ => none
  | (k, i) :: r, t => bif Nat.beq k t then some (inlOf i) else inlGet r t
def IlOk (P : Program) (l : List (FuncId × Func)) : Prop := ∀ f F, inlGet l f = some F → InlOk P f F
theorem il_nil {P : Program} : IlOk P [] := fun f F h => by cases h
def inlB (fn : Func) : Bool := fn.body.isSome && fn.name != "runtime.NumGoroutine" && codeBd fn.ntmps (bodyOf fn)
theorem il_cons {P : Program} {f : FuncId} {fn : Func} {l : List (FuncId × Func)} (hf : P.funcs[f]? = some fn) (hk : inlB fn = true) (r : IlOk P l) : IlOk P ((f, fn) :: l) := by
  intro g F hg
  simp only [inlGet] at hg
  cases hb : Nat.beq f g with
  | true =>
    rw [hb] at hg
    have := Nat.eq_of_beq_eq_true hb
    subst this
    cases hg
    unfold inlB at hk
    simp only [Bool.and_eq_true] at hk
    refine ⟨⟨fn, hf, by simpa using hk.1.2, ?_, rfl, rfl⟩, hk.2⟩
    unfold inlOf bodyOf
    cases hbd : fn.body with
    | none => rw [hbd] at hk; simp at hk
    | some c => rfl
  | false =>
    rw [hb] at hg
    exact r g F hg
def hintGet : List (Nat × Nat × Hint) → Nat → Nat → Option Hint
  | [], _, _ => none
  | (b, r, h) :: l, b', r' => bif Nat.beq b b' && Nat.beq r r' then some h else hintGet l b' r'
def ifcOf : List (TypeId × TI) → TypeId → Option Ty
  | [], _ => none
  | (_, i) :: r, t => match i.ty with
    | some (.nd tl ti l j) => bif Nat.beq tl t || Nat.beq ti t then some (.nd tl ti l j) else ifcOf r t
    | _ => ifcOf r t
def env (tab : List (TypeId × TI)) (l : List (FuncId × Contract)) (il : List (FuncId × Func)) (gl : Nat → Option ((t : Ty) × t.den)) (hs : List (Nat × Nat × Hint)) (nm : List Nat) : Env := ⟨tabGet tab, ctGet l, inlGet il, gl, hintGet hs, anyNat nm, fun _ => none, ifcOf tab⟩
def rctGet : List (FuncId × RContract) → FuncId → Option RContract
  | [], _ => none
  | (k, i) :: r, t => bif Nat.beq k t then some i else rctGet r t
def RctOk (P : Program) (l : List (FuncId × RContract)) : Prop := ∀ f C, rctGet l f = some C → RSpec P f C
theorem rct_nil {P : Program} : RctOk P [] := fun f C h => by cases h
theorem rct_cons {P : Program} {f : FuncId} {C : RContract} {l : List (FuncId × RContract)} (h : RSpec P f C) (r : RctOk P l) : RctOk P ((f, C) :: l) := by
  intro g D hg
  simp only [rctGet] at hg
  cases hb : Nat.beq f g with
  | true =>
    rw [hb] at hg
    have := Nat.eq_of_beq_eq_true hb
    subst this
    cases hg
    exact h
  | false =>
    rw [hb] at hg
    exact r g D hg
def envR (tab : List (TypeId × TI)) (l : List (FuncId × Contract)) (il : List (FuncId × Func)) (gl : Nat → Option ((t : Ty) × t.den)) (hs : List (Nat × Nat × Hint)) (nm : List Nat) (rl : List (FuncId × RContract)) : Env := ⟨tabGet tab, ctGet l, inlGet il, gl, hintGet hs, anyNat nm, rctGet rl, ifcOf tab⟩
def fnOk (fn : Func) (C : Contract) : Bool :=
  (match fn.body with | some c => codeBd fn.ntmps c | none => false) && fn.name != "runtime.NumGoroutine" && Nat.ble (C.arg.chain + C.tail.length) fn.ntmps && (C.one == Nat.beq fn.results.size 1) && (match C.own with | none => true | some _ => false)
theorem fn_spec {P : Program} {tab : List (TypeId × TI)} {l : List (FuncId × Contract)} {il : List (FuncId × Func)} {gl : Nat → Option ((t : Ty) × t.den)} {hs : List (Nat × Nat × Hint)} {nm : List Nat} {f : FuncId} {fn : Func} {C : Contract} (ht : tabOk P tab = true) (hm : P.follows .mixedOrders = true) (hc : CtOk P gl l) (hi : IlOk P il)
    (hf : P.funcs[f]? = some fn) (hk : fnOk fn C = true) (hv : fnVC (env tab l il gl hs nm) fn (bodyOf fn) C) : CallSpec P gl f C := by
  unfold fnOk at hk
  simp only [Bool.and_eq_true] at hk
  obtain ⟨⟨⟨⟨k1, k2⟩, k3⟩, k4⟩, k5⟩ := hk
  have k5 : C.own = none := by
    cases ho : C.own with
    | none => rfl
    | some _ => rw [ho] at k5; cases k5
  cases hb : fn.body with
  | none => rw [hb] at k1; cases k1
  | some c =>
    rw [hb] at k1
    have hbc : bodyOf fn = c := by unfold bodyOf; rw [hb]
    rw [hbc] at hv
    refine fn_sound (E := env tab l il gl hs nm) ⟨fun t ti h => tabOk_get tab ht t ti h, hc, hi, fun f C h => by cases h⟩ hm hf (by simpa using k2) hb k1 (Nat.le_of_ble_eq_true k3) ?_ k5 hv
    have k4 : C.one = Nat.beq fn.results.size 1 := by simpa using k4
    rw [k4]
    apply propext
    exact ⟨fun h => by rw [h]; rfl, Nat.eq_of_beq_eq_true⟩
theorem fn_specR {P : Program} {tab : List (TypeId × TI)} {l : List (FuncId × Contract)} {il : List (FuncId × Func)} {gl : Nat → Option ((t : Ty) × t.den)} {hs : List (Nat × Nat × Hint)} {nm : List Nat} {rl : List (FuncId × RContract)} {f : FuncId} {fn : Func} {C : Contract} (ht : tabOk P tab = true) (hm : P.follows .mixedOrders = true) (hc : CtOk P gl l) (hi : IlOk P il) (hr : RctOk P rl)
    (hf : P.funcs[f]? = some fn) (hk : fnOk fn C = true) (hv : fnVC (envR tab l il gl hs nm rl) fn (bodyOf fn) C) : CallSpec P gl f C := by
  unfold fnOk at hk
  simp only [Bool.and_eq_true] at hk
  obtain ⟨⟨⟨⟨k1, k2⟩, k3⟩, k4⟩, k5⟩ := hk
  have k5 : C.own = none := by
    cases ho : C.own with
    | none => rfl
    | some _ => rw [ho] at k5; cases k5
  cases hb : fn.body with
  | none => rw [hb] at k1; cases k1
  | some c =>
    rw [hb] at k1
    have hbc : bodyOf fn = c := by unfold bodyOf; rw [hb]
    rw [hbc] at hv
    refine fn_sound (E := envR tab l il gl hs nm rl) ⟨fun t ti h => tabOk_get tab ht t ti h, hc, hi, hr⟩ hm hf (by simpa using k2) hb k1 (Nat.le_of_ble_eq_true k3) ?_ k5 hv
    have k4 : C.one = Nat.beq fn.results.size 1 := by simpa using k4
    rw [k4]
    apply propext
    exact ⟨fun h => by rw [h]; rfl, Nat.eq_of_beq_eq_true⟩
@[reducible] def Contract.cut (C : Contract) (μ : C.arg.den → Nat) (n : Nat) : Contract := { arg := C.arg, res := C.res, one := C.one, pre := fun x => C.pre x ∧ μ x < n, fn := C.fn, tail := C.tail, own := C.own }
theorem cut_all {P : Program} {G : Nat → Option ((t : Ty) × t.den)} {f : FuncId} {C : Contract} {μ : C.arg.den → Nat} (h : ∀ n, CallSpec P G f (C.cut μ n)) : CallSpec P G f C :=
  ⟨(h 0).1, fun x h' w args hp => (h (μ x + 1)).2 x h' w args ⟨hp, Nat.lt_succ_self _⟩⟩
theorem cut_zero {P : Program} {G : Nat → Option ((t : Ty) × t.den)} {f : FuncId} {C : Contract} {μ : C.arg.den → Nat} {fn : Func} (hf : P.funcs[f]? = some fn) (hk : fnOk fn C = true) : CallSpec P G f (C.cut μ 0) := by
  unfold fnOk at hk
  simp only [Bool.and_eq_true] at hk
  obtain ⟨⟨⟨⟨k1, k2⟩, k3⟩, k4⟩, k5⟩ := hk
  cases hb : fn.body with
  | none => rw [hb] at k1; cases k1
  | some c => exact ⟨⟨fn, c, hf, by simpa using k2, hb⟩, fun x h' w args hp => absurd hp.2 (Nat.not_lt_zero _)⟩
theorem law_lifted {C : Checked} {os : Os} {H : Type} {enc : TypeId × Value → H} {f : FuncId} {fn : Func} {A : Ty} {tb : TypeId} {s : ChangeSpec} {pre : A.den → Prop} {conds : List PathCond}
    (own : ownKnob C.prog.godebug = none) (started : os.Started) (noInit : C.prog.inits.idxOf? f = none) (hfn : C.prog.funcs[f]? = some fn)
    (witness : ∃ (w : World) (tape : Tape) (i : Input), w.os = os ∧ (w.forCall tape i).Shaped C.prog ∧ i.vars = [] ∧ Input.okWide C.prog (w.forCall tape i) .any w.heap.size f i ∧
      s.pre6 enc C.prog fn conds false (w.forCall tape i).memory i.args ∧ (({} : Assume)).holds C.prog (lone (Frame.enter C.prog f i.args .normal) [] (w.forCall tape i)))
    (hok : lawOk C.prog fn A tb = true) (hl : laidOutB C.prog = true) (hr : fn.resultTypes = #[tb]) (hs : s.vars = []) (hf : ∀ ds : List (DataW H), ds.length = fn.params.toList.length → s.fn H ds = { results := [.lit (.bool true)], args := ds })
    (hK : CallSpec C.prog noGl f (lawC A pre)) (hpre : ∀ y : A.den, wf A y → pre y) :
    ReturnsInHanded {} C os f .any (s.pre6 enc C.prog fn conds false) (s.post enc C.prog fn false true false false) := by
  refine returnsInHanded_of_change (C := C) own started noInit hfn witness ?_
  intro W base args ds gs before hval hW _ _
  exact law_post (β := fun _ => 0) (gl := noGl) (fun g T x hg => by cases hg) hok hl hr hs hf hK hval hW (fun y hy _ _ => hpre y hy)
theorem law_lifted_sized {C : Checked} {os : Os} {H : Type} {enc : TypeId × Value → H} {f : FuncId} {fn : Func} {A : Ty} {tb : TypeId} {s : ChangeSpec} {pre : A.den → Prop} {conds : List PathCond}
    (own : ownKnob C.prog.godebug = none) (started : os.Started) (noInit : C.prog.inits.idxOf? f = none) (hfn : C.prog.funcs[f]? = some fn)
    (witness : ∃ (w : World) (tape : Tape) (i : Input), w.os = os ∧ (w.forCall tape i).Shaped C.prog ∧ i.vars = [] ∧ Input.okWide C.prog (w.forCall tape i) .any w.heap.size f i ∧
      s.pre6 enc C.prog fn conds false (w.forCall tape i).memory i.args ∧ (({} : Assume)).holds C.prog (lone (Frame.enter C.prog f i.args .normal) [] (w.forCall tape i)))
    (hok : lawOk C.prog fn A tb = true) (hl : laidOutB C.prog = true) (hr : fn.resultTypes = #[tb]) (hs : s.vars = []) (hf : ∀ ds : List (DataW H), ds.length = fn.params.toList.length → s.fn H ds = { results := [.lit (.bool true)], args := ds })
    (hK : CallSpec C.prog noGl f (lawC A pre)) (hpre : ∀ y : A.den, wf A y → wfm 140737488355328 A y → pre y) :
    ReturnsInHanded {} C os f .any (s.pre6 enc C.prog fn conds false) (s.post enc C.prog fn false true false false) := by
  refine returnsInHanded_of_change_sized (C := C) own started noInit hfn witness ?_
  intro W base args ds gs before hval hW _ hz _
  refine law_post (β := fun _ => 0) (gl := noGl) (fun g T x hg => by cases hg) hok hl hr hs hf hK hval hW (fun y hy _ hm => hpre y hy (hm _ fun q hq => ?_))
  have h1 := List.all_eq_true.1 hz q ?_
  · have h2 := reachBytes_lt
    have h1 : q ≤ reachBytes := by simpa using h1
    omega
  · have hm : ∀ (ts us : List TypeId) (az bs : List (DataW H)), q ∈ DataW.weightsEach C.prog ts az → q ∈ DataW.weightsEach C.prog (ts ++ us) (az ++ bs) ∨ az.length < ts.length := by
      intro ts
      induction ts with
      | nil => intro us az bs h; simp [DataW.weightsEach] at h
      | cons t ts ih =>
        intro us az bs h
        cases az with
        | nil => exact .inr (by simp)
        | cons d az =>
          simp only [DataW.weightsEach, List.mem_append] at h
          simp only [List.cons_append, DataW.weightsEach, List.mem_append, List.length_cons]
          rcases h with h | h
          · exact .inl (.inl h)
          · rcases ih us az bs h with h | h
            · exact .inl (.inr h)
            · exact .inr (by omega)
    rcases hm fn.params.toList (s.plain.varTypes C.prog) ds gs hq with h | h
    · exact h
    · obtain ⟨p, q', hA, _⟩ := hW
      have := (Go.trodAll_length hA).2
      omega
theorem law_lifted_laid {C : Checked} {os : Os} {H : Type} {enc : TypeId × Value → H} {f : FuncId} {fn : Func} {A : Ty} {tb : TypeId} {s : ChangeSpec} {pre : A.den → Prop} {conds : List PathCond} {gl : Nat → Option ((t : Ty) × t.den)} {X : World → Prop}
    (hX : ∀ (w w' : World), w.heap = w'.heap → X w → X w') (own : ownKnob C.prog.godebug = none) (started : os.Started) (noInit : C.prog.inits.idxOf? f = none) (hfn : C.prog.funcs[f]? = some fn)
    (witness : ∃ (w : World) (tape : Tape) (i : Input), w.os = os ∧ (w.forCall tape i).Shaped C.prog ∧ i.vars = [] ∧ Input.okWide C.prog (w.forCall tape i) .any w.heap.size f i ∧
      ((s.pre enc C.prog fn conds false (w.forCall tape i).memory i.args ∧ X (w.forCall tape i).memory) ∧ sizedMet enc C.prog fn (OpenSpec.ofChange s) false (w.forCall tape i).memory i.args) ∧ (({} : Assume)).holds C.prog (lone (Frame.enter C.prog f i.args .normal) [] (w.forCall tape i)))
    (hok : lawOk C.prog fn A tb = true) (hl : laidOutB C.prog = true) (hr : fn.resultTypes = #[tb]) (hs : s.vars = []) (hf : ∀ ds : List (DataW H), ds.length = fn.params.toList.length → s.fn H ds = { results := [.lit (.bool true)], args := ds })
    (hG : ∀ W : World, X W → GlobOk gl (heapOf W)) (hK : CallSpec C.prog gl f (lawC A pre)) (hpre : ∀ y : A.den, wf A y → pre y) :
    ReturnsInHanded {} C os f .any (fun w args => (s.pre enc C.prog fn conds false w args ∧ X w) ∧ sizedMet enc C.prog fn (OpenSpec.ofChange s) false w args) (s.post enc C.prog fn false true false false) := by
  refine returnsInHanded_of_change_and (C := C) (X := fun w _ => X w) (fun w w' _ hh h => hX w w' hh h) own started noInit hfn witness ?_
  intro W base args ds gs before hval hW _ _ hXW _
  exact law_post (β := fun _ => 0) (gl := gl) (hG W hXW) hok hl hr hs hf hK hval hW (fun y hy _ _ => hpre y hy)
theorem wrap_id {n : Int} (h0 : -9223372036854775808 ≤ n) (h1 : n ≤ 9223372036854775807) : IntKind.i64.wrap n = n := by
  have e : IntKind.i64.wrap n = if n % 18446744073709551616 ≥ 9223372036854775808 then n % 18446744073709551616 - 18446744073709551616 else n % 18446744073709551616 := by
    unfold IntKind.wrap
    have hb : IntKind.i64.bits = 64 := rfl
    have hs : IntKind.i64.signed = true := rfl
    rw [hb, hs]
    simp
  rw [e]
  split <;> omega
theorem wrap_succ {i : Nat} (h : i + 1 ≤ 9223372036854775807) : IntKind.i64.wrap ((i : Int) + 1) = ((i + 1 : Nat) : Int) := by
  rw [wrap_id (by omega) (by omega)]
  omega
theorem getD_of {α : Type} {l : List α} {i : Nat} (d : α) (h : i < l.length) : l.getD i d = l[i] := by simp [List.getD, h]
theorem all_take_succ {α : Type} {f : α → Bool} {l : List α} {i : Nat} (h : i < l.length) : (l.take (i + 1)).all f = ((l.take i).all f && f l[i]) := by
  rw [List.take_succ_eq_append_getElem h, List.all_append]
  simp
theorem foldl_take_succ {α β : Type} {f : β → α → β} {b : β} {l : List α} {i : Nat} (h : i < l.length) : (l.take (i + 1)).foldl f b = f ((l.take i).foldl f b) l[i] := by
  rw [List.take_succ_eq_append_getElem h, List.foldl_append]
  rfl
end Go.Fr
namespace Go.Fr
open Go Go.RowKit
universe u
def retRow (E : Env) (b : Nat) (rs : List ResultVar) (T : Ty) (e : TypeId) (σ : St) (k : List T.den → Prop) : Prop :=
  match rs with
  | r :: [] => match resSV E b σ r with
    | some s => match s with
      | .leaf (.row q) => match getR σ.rows q with
        | some R => bif Nat.beq R.e e then popSlK T [.tv (.sl R.t) R.xs] False fun xs _ => k xs else False
        | none => False
      | .leaf (.raw (.slice none 0 0)) => k []
      | _ => False
    | none => False
  | _ => False
def retOwn (E : Env) (b : Nat) (rs : List ResultVar) (C : Contract) (x : C.arg.den) (σ : St) : Prop :=
  match C.own with
  | some e => ownK C.res (C.fn x) fun T want => retRow E b rs T e σ fun ys => ys = want
  | none => False
def fnVCO (E : Env) (fn : Func) (c : Code) (C : Contract) : Prop :=
  ∀ x, C.pre x → vc E (vcN E deep) bot (bot + fn.ntmps) c ⟨entrySlots C.arg x C.tail bot, [], []⟩ fun e σ => match e with
    | .normal => retOwn E bot fn.results.toList C x σ
    | .ret => retOwn E bot fn.results.toList C x σ
    | .exit _ => False
def fnVCR (E : Env) (fn : Func) (c : Code) (C : RContract) : Prop :=
  ∀ xs, C.pre xs → vc E (vcN E deep) bot (bot + fn.ntmps) c ⟨(0, .leaf (.row 999999999)) :: tailSlots C.tail 1, [], [(999999999, ⟨C.t, C.e, xs⟩)]⟩ fun e σ => match e with
    | .normal => retRow E bot fn.results.toList C.t C.e σ fun ys => C.post xs ys
    | .ret => retRow E bot fn.results.toList C.t C.e σ fun ys => C.post xs ys
    | .exit _ => False
section
variable {P : Program} {E : Env} {B : Nat} {w0 w : World} {h0 h : PHeap} {b : Nat} {u : Nat → Value} {n : Nat} {N : Names} {a : Act}
theorem ownK_back : {T : Ty} → {x : T.den} → {k : (t : Ty) → List t.den → Prop} → ownK T x k → ∃ (t : Ty) (xs : List t.den), k t xs ∧ ∀ {B : Nat} {w : World} {h : PHeap} {e : TypeId} {v : Value},
    ((∃ cs, w.ownsRow B e t.size v xs.length cs ∧ RowCells h t xs cs) ∧ ∀ g, v.ownBlock = some g → h g = none) → ownRep B w h e T x v
  | .sl t, xs, _, e => ⟨t, xs, e, fun h => h⟩
  | .bool, _, _, e => e.elim
  | .int _, _, _, e => e.elim
  | .str, _, _, e => e.elim
  | .unit, _, _, e => e.elim
  | .opt _, _, _, e => e.elim
  | .mp _ _, _, _, e => e.elim
  | .nd _ _ _ _, _, _, e => e.elim
  | .pair _ _, _, _, e => e.elim
def Ty.flat : Ty → Bool
  | .sl _ => false
  | .opt _ => false
  | .mp _ _ => false
  | .nd _ _ _ _ => false
  | .pair a b => a.flat && b.flat
  | _ => true
theorem rep_flat {h h' : PHeap} : (t : Ty) → t.flat = true → (x : t.den) → (cs : List Value) → rep h t x cs → rep h' t x cs
  | .bool, _, _, _, e => e
  | .int _, _, _, _, e => e
  | .str, _, _, _, e => e
  | .unit, _, _, _, e => e
  | .sl _, hf, _, _, _ => by cases hf
  | .opt _, hf, _, _, _ => by cases hf
  | .mp _ _, hf, _, _, _ => by cases hf
  | .nd _ _ _ _, hf, _, _, _ => by cases hf
  | .pair a b, hf, x, _, ⟨c1, c2, e, h1, h2⟩ => by
    simp only [Ty.flat, Bool.and_eq_true] at hf
    exact ⟨c1, c2, e, rep_flat a hf.1 _ _ h1, rep_flat b hf.2 _ _ h2⟩
theorem RowCells_flat {h h' : PHeap} (t : Ty) (hf : t.flat = true) : (xs : List t.den) → (cs : List Value) → RowCells h t xs cs → RowCells h' t xs cs
  | [], _, e => e
  | x :: xs, _, ⟨d, r, e, h1, h2⟩ => ⟨d, r, e, rep_flat t hf x d h1, RowCells_flat t hf xs r h2⟩
theorem retRow_sound (hE : EnvOk P E) {σ : St} (hS : Sat B w0 h0 b u n σ N h a w) {rs : List ResultVar} {T : Ty} {e : TypeId} {k : List T.den → Prop} (he : retRow E b rs T e σ k) :
    ∃ v ys cs, rs.length = 1 ∧ (rs.mapM (resVal a.tmps)).run P w = .ok [v] w ∧ k ys ∧ w.ownsRow B e T.size v ys.length cs ∧ RowCells h T ys cs ∧ ∀ g, v.ownBlock = some g → h g = none := by
  unfold retRow at he
  split at he
  rotate_left
  · exact he.elim
  rename_i r
  split at he
  rotate_left
  · exact he.elim
  rename_i s hs
  obtain ⟨v, g1, g2⟩ := resSV_run hE hS hs
  have hrun : ([r].mapM (resVal a.tmps)).run P w = .ok [v] w := by
    simp only [List.mapM_cons, List.mapM_nil, Sem.run_bind, g1, Result.andThen_ok, Sem.run_pure]
  split at he
  · rename_i q
    split at he
    rotate_left
    · exact he.elim
    rename_i R hR
    cases hb : Nat.beq R.e e with
    | false => rw [hb] at he; exact he.elim
    | true =>
      have hee := Nat.eq_of_beq_eq_true hb
      rw [hb] at he
      simp only [cond_true, popSlK_eq, popSl] at he
      split at he
      rotate_left
      · exact he.elim
      rename_i xs rr hxs
      split at hxs
      rotate_left
      · cases hxs
      rename_i ht
      obtain ⟨T', te, ys0⟩ := R
      simp only at ht hee
      subst ht hee
      injection hxs with hxs
      injection hxs with hxs _
      subst hxs
      obtain ⟨cs, hown, hrc⟩ := hS.mem.row q _ hR
      simp only [SV.rel, Leaf.rel] at g2
      obtain ⟨rfl, _⟩ := g2
      exact ⟨_, ys0, cs, rfl, hrun, he, hown, hrc, fun g hg => hS.mem.rowh q _ g hR hg⟩
  · simp only [SV.rel, Leaf.rel] at g2
    subst g2
    exact ⟨_, [], [], rfl, hrun, he, World.ownsRow_nil w B _ _, rfl, fun g hg => by cases hg⟩
  · exact he.elim
theorem entry_sat {C : Contract} {fn : Func} {x : C.arg.den} {args : List Value} (hargs : trep h C.arg x args) (hpin : PIn h w) (hpn : C.arg.chain + C.tail.length ≤ fn.ntmps) :
    Sat w.heap.size w h bot (fun _ => undef) fn.ntmps ⟨entrySlots C.arg x C.tail bot, [], []⟩ ⟨fun k => k, fun _ => .nilFunc⟩ h { tmps := (args ++ tailVals C.tail).toArray ++ Array.replicate (fn.ntmps - (args ++ tailVals C.tail).toArray.size) undef, defers := [] } w := by
  have hlen := trep_len C.arg x args hargs
  have htl : (tailVals C.tail).length = C.tail.length := by simp [tailVals]
  refine ⟨⟨Below.refl _ _, Nat.le_refl _, hpin, fun i b hh => (by cases hh), fun i j b c hh => (by cases hh), fun r R hh => (by cases hh), fun r R g hh => (by cases hh), fun r R g i b hh => (by cases hh), fun r s R S g hh => (by cases hh)⟩, PLe.refl h, fun k hk => .inl hk, ?_, ?_, rfl⟩
  · intro t
    have hv0 : ∀ a : Act, vals bot (fun _ => undef) a t = a.tmps.getD t undef := fun a => by
      unfold vals bot
      rw [if_neg (by omega), Nat.sub_zero]
    rw [hv0]
    refine params_sat C.arg x C.tail args hargs bot _ (fun j v hj => ?_) t
    have hlt : j < (args ++ tailVals C.tail).length := (List.getElem?_eq_some_iff.1 hj).1
    unfold bot
    rw [Nat.zero_add, Array.getD_eq_getD_getElem?, Array.getElem?_append_left (by simpa using hlt)]
    simp [hj]
  · simp
    omega
theorem fn_own_sound (hE : EnvOk P E) (hm : P.follows .mixedOrders = true) {f : FuncId} {fn : Func} {c : Code} {C : Contract} (hf : P.funcs[f]? = some fn) (hname : fn.name ≠ "runtime.NumGoroutine") (hb : fn.body = some c)
    (hbd : codeBd fn.ntmps c = true) (hpn : C.arg.chain + C.tail.length ≤ fn.ntmps) (hv : fnVCO E fn c C) : CallSpec P E.gl f C := by
  refine ⟨⟨fn, c, hf, hname, hb⟩, ?_⟩
  intro x h w args hpre hargs hpin hG
  refine calls_of_wp hf hb ?_
  refine vc_sound hE hm (vcN_sound hE hm deep) hG c hbd _ _ _ _ h _ w (hv x hpre) (entry_sat hargs hpin hpn) ?_
  have fin : ∀ σ N h' a' w', retOwn E bot fn.results.toList C x σ → Sat w.heap.size w h bot (fun _ => undef) fn.ntmps σ N h' a' w' → a'.defers = [] ∧ ∃ v, (results fn a'.tmps).run P w' = .ok v w' ∧
      ∃ u h2, Ending.returned v = .returned u ∧ PLe h h2 ∧ (∀ k, h2 k ≠ none → h k ≠ none ∨ w.heap.size ≤ k) ∧ PIn h2 w' ∧ resOr w.heap.size w' h2 C (C.fn x) u ∧ Below w.heap.size w w' := by
    intro σ N h' a' w' e hS'
    refine ⟨hS'.defers, ?_⟩
    unfold retOwn at e
    split at e
    rotate_left
    · exact e.elim
    rename_i te hown
    obtain ⟨T, want, e, hrep⟩ := ownK_back e
    obtain ⟨v, ys, cs, hl, hrun, rfl, q1, q2, q3⟩ := retRow_sound hE hS' e
    have hres : (results fn a'.tmps).run P w' = .ok v w' := by
      rw [results_eq, Array.mapM_eq_mapM_toList]
      simp only [Sem.run_bind, Sem.run_map, hrun, Result.andThen_ok, Sem.run_pure]
      rfl
    refine ⟨v, hres, v, h', rfl, hS'.grow, hS'.dom, hS'.mem.pin, ?_, hS'.mem.below⟩
    unfold resOr
    rw [hown]
    exact hrep ⟨⟨cs, q1, q2⟩, q3⟩
  intro ex σ N h' a' w' he hS'
  cases ex with
  | normal => exact fin σ N h' a' w' he hS'
  | exit i => exact he.elim
  | ret => exact fin σ N h' a' w' he hS'
theorem fn_row_sound (hE : EnvOk P E) (hgl : E.gl = noGl) (hm : P.follows .mixedOrders = true) {f : FuncId} {fn : Func} {c : Code} {C : RContract} (hf : P.funcs[f]? = some fn) (hname : fn.name ≠ "runtime.NumGoroutine") (hb : fn.body = some c)
    (hbd : codeBd fn.ntmps c = true) (hpn : 1 + C.tail.length ≤ fn.ntmps) (hback : C.back = true) (hflat : C.t.flat = true) (hv : fnVCR E fn c C) : RSpec P f C := by
  refine ⟨⟨fn, c, hf, hname, hb⟩, ?_⟩
  intro xs h w B v cs hpre hpin hB hown hrc hfr
  refine calls_of_wp hf hb ?_
  -- all that lies there, but the row's own block
  obtain ⟨hh, hhd⟩ : ∃ hh : PHeap, hh = fun k => if v.ownBlock = some k then none else w.heap[k]? := ⟨_, rfl⟩
  have hle : PLe h hh := fun k o hk => by
    rw [hhd]
    simp only
    rw [if_neg (fun e => by rw [hfr k e] at hk; cases hk)]
    exact hpin k o hk
  have hpin' : PIn hh w := fun k o hk => by
    rw [hhd] at hk
    simp only at hk
    split at hk
    · cases hk
    · exact hk
  have htl : (tailVals C.tail).length = C.tail.length := by simp [tailVals]
  have hone : v.oneCell' = true := by
    rcases hown.2 with ⟨e0, _⟩ | ⟨g, cap, cur, e0, _⟩ <;> rw [e0] <;> rfl
  have hG : GlobOk E.gl hh := fun g T x hg => by rw [hgl] at hg; cases hg
  have hS : Sat 0 w hh bot (fun _ => undef) fn.ntmps ⟨(0, .leaf (.row 999999999)) :: tailSlots C.tail 1, [], [(999999999, ⟨C.t, C.e, xs⟩)]⟩ ⟨fun k => k, fun _ => v⟩ hh { tmps := ([v] ++ tailVals C.tail).toArray ++ Array.replicate (fn.ntmps - ([v] ++ tailVals C.tail).toArray.size) undef, defers := [] } w := by
    have hget : ∀ r R, getR [(999999999, (⟨C.t, C.e, xs⟩ : RowS))] r = some R → r = 999999999 ∧ R = ⟨C.t, C.e, xs⟩ := by
      intro r R hR
      rw [getR_cons] at hR
      split at hR
      · rename_i e
        injection hR with hR
        exact ⟨e.symm, hR.symm⟩
      · cases hR
    refine ⟨⟨Below.refl _ _, Nat.zero_le _, hpin', fun i b hh => (by cases hh), fun i j b c hh => (by cases hh), ?_, ?_, fun r R g i b _ _ hh => (by cases hh), ?_⟩, PLe.refl hh, fun k hk => .inl hk, ?_, ?_, rfl⟩
    · intro r R hR
      obtain ⟨rfl, rfl⟩ := hget r R hR
      exact ⟨cs, ownsRow_base hown (Nat.zero_le _), RowCells_mono hle _ _ _ hrc⟩
    · intro r R g hR hg
      rw [hhd]
      simp only at hg ⊢
      rw [if_pos hg]
    · intro r s R S g hR hS _ _
      rw [(hget r R hR).1, (hget s S hS).1]
    · intro t
      have hv0 : ∀ a : Act, vals bot (fun _ => undef) a t = a.tmps.getD t undef := fun a => by
        unfold vals bot
        rw [if_neg (by omega), Nat.sub_zero]
      rw [hv0]
      rw [getS_cons]
      split
      · rename_i e
        subst e
        simp only [SV.rel, Leaf.rel]
        rw [Array.getD_eq_getD_getElem?, Array.getElem?_append_left (by simp)]
        simp [hone]
      · refine tails_sat C.tail 1 _ (fun j u hj => ?_) t
        have hlt : j < (tailVals C.tail).length := (List.getElem?_eq_some_iff.1 hj).1
        rw [Array.getD_eq_getD_getElem?, Array.getElem?_append_left (by simp; omega)]
        simp [Nat.add_comm 1 j, hj]
    · simp
      omega
  refine vc_sound hE hm (vcN_sound hE hm deep) hG c hbd _ _ _ _ hh _ w (hv xs hpre) hS ?_
  have fin : ∀ σ N h' a' w', retRow E bot fn.results.toList C.t C.e σ (fun ys => C.post xs ys) → Sat 0 w hh bot (fun _ => undef) fn.ntmps σ N h' a' w' → a'.defers = [] ∧ ∃ r, (results fn a'.tmps).run P w' = .ok r w' ∧
      ∃ u v' ys cs', Ending.returned r = .returned u ∧ C.post xs ys ∧ w'.ownsRow B C.e C.t.size v' ys.length cs' ∧ RowCells h C.t ys cs' ∧ GrownBy w w' v.ownBlock ∧
        (∀ g, v'.ownBlock = some g → v.ownBlock = some g ∨ w.heap.size ≤ g) ∧ (match C.back with | true => u = v' | false => v' = v) := by
    intro σ N h' a' w' e hS'
    refine ⟨hS'.defers, ?_⟩
    obtain ⟨v', ys, cs', hl, hrun, hpost, q1, q2, q3⟩ := retRow_sound hE hS' e
    have hres : (results fn a'.tmps).run P w' = .ok v' w' := by
      rw [results_eq, Array.mapM_eq_mapM_toList]
      simp only [Sem.run_bind, Sem.run_map, hrun, Result.andThen_ok, Sem.run_pure]
      rfl
    have hwhere : ∀ g, v'.ownBlock = some g → v.ownBlock = some g ∨ w.heap.size ≤ g := by
      intro g hg
      rcases Nat.lt_or_ge g w.heap.size with hl | hl
      · by_cases hvg : v.ownBlock = some g
        · exact .inl hvg
        · have h1 : hh g = w.heap[g]? := by rw [hhd]; simp only; rw [if_neg hvg]
          have h2 : w.heap[g]? = some w.heap[g] := Array.getElem?_eq_getElem hl
          have h3 := hS'.grow g _ (h1.trans h2)
          rw [q3 g hg] at h3
          cases h3
      · exact .inr hl
    have hgrown : GrownBy w w' v.ownBlock := ⟨hS'.mem.below.os, hS'.mem.below.tape, hS'.mem.below.output, hS'.mem.below.size, (fun k hk hne => by
      have h1 : hh k = w.heap[k]? := by rw [hhd]; simp only; rw [if_neg (fun e => hne e.symm)]
      have h2 : w.heap[k]? = some w.heap[k] := Array.getElem?_eq_getElem hk
      rw [h2]
      exact hS'.mem.pin k _ (hS'.grow k _ (h1.trans h2))), hS'.mem.below.drawn⟩
    refine ⟨v', hres, v', v', ys, cs', rfl, hpost, ⟨q1.1, ?_⟩, RowCells_flat C.t hflat ys cs' q2, hgrown, hwhere, by rw [hback]⟩
    rcases q1.2 with h0 | ⟨g, cap, cur, e1, _, e2⟩
    · exact .inl h0
    · refine .inr ⟨g, cap, cur, e1, ?_, e2⟩
      rcases hwhere g (by rw [e1]; rfl) with hg | hg
      · exact (hown.lt g hg).1
      · omega
  intro ex σ N h' a' w' he hS'
  cases ex with
  | normal => exact fin σ N h' a' w' he hS'
  | exit i => exact he.elim
  | ret => exact fin σ N h' a' w' he hS'
def fnOkO (fn : Func) (C : Contract) : Bool :=
  (match fn.body with | some c => codeBd fn.ntmps c | none => false) && fn.name != "runtime.NumGoroutine" && Nat.ble (C.arg.chain + C.tail.length) fn.ntmps
def fnOkR (fn : Func) (C : RContract) : Bool :=
  (match fn.body with | some c => codeBd fn.ntmps c | none => false) && fn.name != "runtime.NumGoroutine" && Nat.ble (1 + C.tail.length) fn.ntmps && C.back && C.t.flat
theorem env_ok {P : Program} {tab : List (TypeId × TI)} {l : List (FuncId × Contract)} {il : List (FuncId × Func)} {gl : Nat → Option ((t : Ty) × t.den)} {hs : List (Nat × Nat × Hint)} {nm : List Nat} {rl : List (FuncId × RContract)} (ht : tabOk P tab = true) (hc : CtOk P gl l) (hi : IlOk P il) (hr : RctOk P rl) :
    EnvOk P (envR tab l il gl hs nm rl) := ⟨fun t ti h => tabOk_get tab ht t ti h, hc, hi, hr⟩
theorem fn_specO {P : Program} {tab : List (TypeId × TI)} {l : List (FuncId × Contract)} {il : List (FuncId × Func)} {gl : Nat → Option ((t : Ty) × t.den)} {hs : List (Nat × Nat × Hint)} {nm : List Nat} {rl : List (FuncId × RContract)} {f : FuncId} {fn : Func} {C : Contract} (ht : tabOk P tab = true) (hm : P.follows .mixedOrders = true) (hc : CtOk P gl l) (hi : IlOk P il) (hr : RctOk P rl)
    (hf : P.funcs[f]? = some fn) (hk : fnOkO fn C = true) (hv : fnVCO (envR tab l il gl hs nm rl) fn (bodyOf fn) C) : CallSpec P gl f C := by
  unfold fnOkO at hk
  simp only [Bool.and_eq_true] at hk
  obtain ⟨⟨k1, k2⟩, k3⟩ := hk
  cases hb : fn.body with
  | none => rw [hb] at k1; cases k1
  | some c =>
    rw [hb] at k1
    have hbc : bodyOf fn = c := by unfold bodyOf; rw [hb]
    rw [hbc] at hv
    exact fn_own_sound (E := envR tab l il gl hs nm rl) (env_ok ht hc hi hr) hm hf (by simpa using k2) hb k1 (Nat.le_of_ble_eq_true k3) hv
theorem fn_specRow {P : Program} {tab : List (TypeId × TI)} {l : List (FuncId × Contract)} {il : List (FuncId × Func)} {hs : List (Nat × Nat × Hint)} {nm : List Nat} {rl : List (FuncId × RContract)} {f : FuncId} {fn : Func} {C : RContract} (ht : tabOk P tab = true) (hm : P.follows .mixedOrders = true) (hc : CtOk P noGl l) (hi : IlOk P il) (hr : RctOk P rl)
    (hf : P.funcs[f]? = some fn) (hk : fnOkR fn C = true) (hv : fnVCR (envR tab l il noGl hs nm rl) fn (bodyOf fn) C) : RSpec P f C := by
  unfold fnOkR at hk
  simp only [Bool.and_eq_true] at hk
  obtain ⟨⟨⟨⟨k1, k2⟩, k3⟩, k4⟩, k5⟩ := hk
  cases hb : fn.body with
  | none => rw [hb] at k1; cases k1
  | some c =>
    rw [hb] at k1
    have hbc : bodyOf fn = c := by unfold bodyOf; rw [hb]
    rw [hbc] at hv
    exact fn_row_sound (E := envR tab l il noGl hs nm rl) (env_ok ht hc hi hr) rfl hm hf (by simpa using k2) hb k1 (Nat.le_of_ble_eq_true k3) k4 k5 hv
end
def cOrd (T : Ty) (cf : T.den → T.den → Int) : Contract := { arg := .pair T (.pair T .unit), res := .int .i64, one := true, pre := fun _ => True, fn := fun x => cf x.1 x.2.1 }
def sortBy {α : Type} (cf : α → α → Int) (l : List α) : List α := l.mergeSort fun x y => !decide (cf y x < 0)
end Go.Fr
namespace Go.Fr
open Go
theorem wrap_eq (n : Int) : IntKind.i64.wrap n = (n + 9223372036854775808) % 18446744073709551616 - 9223372036854775808 := by
  have e : IntKind.i64.wrap n = if n % 18446744073709551616 ≥ 9223372036854775808 then n % 18446744073709551616 - 18446744073709551616 else n % 18446744073709551616 := by
    unfold IntKind.wrap
    have hb : IntKind.i64.bits = 64 := rfl
    have hs : IntKind.i64.signed = true := rfl
    rw [hb, hs]
    simp
  rw [e]
  split <;> omega
theorem drop_cons {α : Type} {l : List α} {k : Nat} (d : α) (h : k < l.length) : l.drop k = l.getD k d :: l.drop (k + 1) := by
  rw [List.drop_eq_getElem_cons h, getD_of d h]
theorem toNat_cast (k : Nat) : Int.toNat (k : Int) = k := rfl
theorem dec_t {p : Prop} [Decidable p] (h : decide p = true) : p := of_decide_eq_true h
theorem dec_f {p : Prop} [Decidable p] (h : decide p = false) : ¬ p := of_decide_eq_false h
theorem eq_false_of {b : Bool} (h : ¬ b = true) : false = b := by cases b <;> simp_all
theorem eq_true_of {b : Bool} (h : b = true) : true = b := h.symm
theorem maxLen_eq : maxLen = 9223372036854775807 := rfl
theorem beq_bool (a b : Bool) : Ty.beq .bool a b = (a == b) := rfl
theorem one_len {α : Type} (c : α) : [c].length = 1 := rfl
theorem wf_i64 {n : Int} (h : (Lit.int .i64 n).wf = true) : -9223372036854775808 ≤ n ∧ n ≤ 9223372036854775807 := by
  unfold Lit.wf at h
  simp only [Bool.and_eq_true, decide_eq_true_eq] at h
  exact h
def all2 {α : Type} (f : α → α → Bool) : List α → List α → Bool
  | [], [] => true
  | a :: r, b :: s => f a b && all2 f r s
  | _, _ => false
theorem all2_iff {α : Type} {f : α → α → Bool} (d : α) : ∀ {a b : List α}, all2 f a b = true ↔ a.length = b.length ∧ ∀ k, k < a.length → f (a.getD k d) (b.getD k d) = true
  | [], [] => by simp [all2]
  | [], b :: s => by simp [all2]
  | a :: r, [] => by simp [all2]
  | a :: r, b :: s => by
    simp only [all2, Bool.and_eq_true, List.length_cons, Nat.add_right_cancel_iff]
    rw [all2_iff d]
    constructor
    · rintro ⟨h1, h2, h3⟩
      refine ⟨h2, fun k hk => ?_⟩
      cases k with
      | zero => exact h1
      | succ k => exact h3 k (by omega)
    · rintro ⟨h2, h3⟩
      exact ⟨h3 0 (by omega), h2, fun k hk => h3 (k + 1) (by omega)⟩
theorem all2_so_far {α : Type} {f : α → α → Bool} {a b : List α} {k : Nat} {d : α} (h : ∀ j, j < k → f (a.getD j d) (b.getD j d) = true) (hk : f (a.getD k d) (b.getD k d) = true) :
    ∀ j, j < k + 1 → f (a.getD j d) (b.getD j d) = true := by
  intro j hj
  by_cases e : j = k
  · subst e; exact hk
  · exact h j (by omega)
end Go.Fr
namespace Go.Fr
open Go
def byt (s : ByteArray) (k : Nat) : Nat := (s.get! k).toNat
theorem byt_lt (s : ByteArray) (k : Nat) : byt s k < 256 := (s.get! k).toNat_lt
def uSize (r : Int) : Int := if r < 0 ∨ r > 1114111 ∨ (r ≥ 55296 ∧ r ≤ 57343) then 0 else if r < 128 then 1 else if r < 2048 then 2 else if r < 65536 then 3 else 4
def uBytes (r n : Int) : List Int :=
  if n = 1 then [r] else if n = 2 then [192 + r / 64, 128 + r % 64] else if n = 3 then [224 + r / 4096, 128 + r / 64 % 64, 128 + r % 64] else [240 + r / 262144, 128 + r / 4096 % 64, 128 + r / 64 % 64, 128 + r % 64]
def uNum : List Int → Int
  | [] => 0
  | [a] => a
  | [a, b] => 64 * (a - 192) + b - 128
  | [a, b, c] => 64 * (64 * (a - 224) + b - 128) + c - 128
  | a :: b :: c :: d :: _ => 64 * (64 * (64 * (a - 240) + b - 128) + c - 128) + d - 128
def uStep (s : ByteArray) (at_ : Int) : Int × Int × Unit :=
  if at_ < 0 ∨ at_ ≥ (s.size : Int) then (0, 0, ()) else (((Utf8.decode s at_.toNat).1 : Int), ((Utf8.decode s at_.toNat).2 : Int), ())
theorem decode_eq (s : ByteArray) (i : Nat) : Utf8.decode s i =
    if byt s i < 128 then (byt s i, 1)
    else if byt s i / 32 = 6 ∧ i + 1 < s.size ∧ byt s (i + 1) / 64 = 2 then
      (if (byt s i % 32) * 64 + byt s (i + 1) % 64 ≥ 128 then ((byt s i % 32) * 64 + byt s (i + 1) % 64, 2) else (65533, 1))
    else if byt s i / 16 = 14 ∧ (i + 1 < s.size ∧ byt s (i + 1) / 64 = 2) ∧ (i + 2 < s.size ∧ byt s (i + 2) / 64 = 2) then
      (if (byt s i % 16) * 4096 + (byt s (i + 1) % 64) * 64 + byt s (i + 2) % 64 ≥ 2048 ∧ Utf8.valid (((byt s i % 16) * 4096 + (byt s (i + 1) % 64) * 64 + byt s (i + 2) % 64 : Nat) : Int) = true then
        ((byt s i % 16) * 4096 + (byt s (i + 1) % 64) * 64 + byt s (i + 2) % 64, 3) else (65533, 1))
    else if byt s i / 8 = 30 ∧ (i + 1 < s.size ∧ byt s (i + 1) / 64 = 2) ∧ (i + 2 < s.size ∧ byt s (i + 2) / 64 = 2) ∧ (i + 3 < s.size ∧ byt s (i + 3) / 64 = 2) then
      (if (byt s i % 8) * 262144 + (byt s (i + 1) % 64) * 4096 + (byt s (i + 2) % 64) * 64 + byt s (i + 3) % 64 ≥ 65536 ∧ Utf8.valid (((byt s i % 8) * 262144 + (byt s (i + 1) % 64) * 4096 + (byt s (i + 2) % 64) * 64 + byt s (i + 3) % 64 : Nat) : Int) = true then
        ((byt s i % 8) * 262144 + (byt s (i + 1) % 64) * 4096 + (byt s (i + 2) % 64) * 64 + byt s (i + 3) % 64, 4) else (65533, 1))
    else (65533, 1) := by
  unfold Utf8.decode byt
  simp only [Nat.add_zero, Bool.and_eq_true, decide_eq_true_eq, beq_iff_eq, and_assoc]
  rfl
theorem valid_iff (r : Int) : Utf8.valid r = true ↔ (0 ≤ r ∧ r < 55296) ∨ (57344 ≤ r ∧ r ≤ 1114111) := by
  simp [Utf8.valid]
theorem decode_width (s : ByteArray) (i : Nat) (h : i < s.size) : 1 ≤ (Utf8.decode s i).2 ∧ (Utf8.decode s i).2 ≤ 4 ∧ i + (Utf8.decode s i).2 ≤ s.size := by
  rw [decode_eq]
  repeat' split
  all_goals simp only
  all_goals omega
theorem decode_rune (s : ByteArray) (i : Nat) : (Utf8.decode s i).1 ≤ 1114111 := by
  rw [decode_eq]
  have := byt_lt s i
  repeat' split
  all_goals simp only
  all_goals (try (rename_i h; rw [valid_iff] at h))
  all_goals omega
def decFrom (s : ByteArray) : Nat → Nat → List Int
  | 0, _ => []
  | f + 1, p => if p < s.size then ((Utf8.decode s p).1 : Int) :: decFrom s f (p + (Utf8.decode s p).2) else []
def decodeL (s : ByteArray) : List Int := decFrom s s.size 0
theorem decFrom_fuel (s : ByteArray) : ∀ (f g p : Nat), s.size ≤ p + f → s.size ≤ p + g → decFrom s f p = decFrom s g p
  | 0, 0, _, _, _ => rfl
  | 0, g + 1, p, h, _ => by simp only [decFrom]; rw [if_neg (by omega)]
  | f + 1, 0, p, _, h => by simp only [decFrom]; rw [if_neg (by omega)]
  | f + 1, g + 1, p, h1, h2 => by
    simp only [decFrom]
    by_cases h : p < s.size
    · rw [if_pos h, if_pos h]
      have := decode_width s p h
      rw [decFrom_fuel s f g _ (by omega) (by omega)]
    · rw [if_neg h, if_neg h]
def decAt (s : ByteArray) (p : Nat) : List Int := decFrom s s.size p
theorem decAt_step {s : ByteArray} {p : Nat} (h : p < s.size) : decAt s p = ((Utf8.decode s p).1 : Int) :: decAt s (p + (Utf8.decode s p).2) := by
  unfold decAt
  have hw := decode_width s p h
  obtain ⟨n, hn⟩ : ∃ n, s.size = n + 1 := ⟨s.size - 1, by omega⟩
  have e : decFrom s s.size p = decFrom s (n + 1) p := by rw [hn]
  rw [e]
  simp only [decFrom]
  rw [if_pos h, decFrom_fuel s n s.size _ (by omega) (by omega)]
theorem decAt_end {s : ByteArray} {p : Nat} (h : s.size ≤ p) : decAt s p = [] := by
  unfold decAt
  cases hs : s.size with
  | zero => rfl
  | succ n => simp only [decFrom]; rw [if_neg (by omega)]
theorem decAt_len (s : ByteArray) : ∀ (f p : Nat), s.size ≤ p + f → (decAt s p).length ≤ s.size - p
  | 0, p, h => by rw [decAt_end (by omega)]; exact Nat.zero_le _
  | f + 1, p, h => by
    by_cases hp : p < s.size
    · rw [decAt_step hp]
      have hw := decode_width s p hp
      have := decAt_len s f (p + (Utf8.decode s p).2) (by omega)
      simp only [List.length_cons]
      omega
    · rw [decAt_end (by omega)]; exact Nat.zero_le _
theorem uSize_1 {r : Int} : uSize r = 1 ↔ 0 ≤ r ∧ r < 128 := by
  unfold uSize; repeat' split
  all_goals omega
theorem uSize_2 {r : Int} : uSize r = 2 ↔ 128 ≤ r ∧ r < 2048 := by
  unfold uSize; repeat' split
  all_goals omega
theorem uSize_3 {r : Int} : uSize r = 3 ↔ 2048 ≤ r ∧ r < 65536 ∧ (r < 55296 ∨ 57343 < r) := by
  unfold uSize; repeat' split
  all_goals omega
theorem uSize_4 {r : Int} : uSize r = 4 ↔ 65536 ≤ r ∧ r ≤ 1114111 := by
  unfold uSize; repeat' split
  all_goals omega
def bytesAt (s : ByteArray) (i : Nat) : Nat → List Int
  | 0 => []
  | n + 1 => (byt s i : Int) :: bytesAt s (i + 1) n
def fitsN (s : ByteArray) (i n : Nat) : Prop := uSize (uNum (bytesAt s i n)) = (n : Int) ∧ uBytes (uNum (bytesAt s i n)) (n : Int) = bytesAt s i n
theorem fits_1 {s : ByteArray} {i : Nat} : fitsN s i 1 ↔ byt s i < 128 := by
  have := byt_lt s i
  simp only [fitsN, bytesAt, uNum]
  rw [show ((1 : Nat) : Int) = 1 from rfl, uSize_1]
  unfold uBytes
  rw [if_pos rfl]
  simp only [and_true]
  omega
theorem fits_2 {s : ByteArray} {i : Nat} : fitsN s i 2 ↔ byt s i / 32 = 6 ∧ byt s (i + 1) / 64 = 2 ∧ (byt s i % 32) * 64 + byt s (i + 1) % 64 ≥ 128 := by
  have := byt_lt s i
  have := byt_lt s (i + 1)
  simp only [fitsN, bytesAt, uNum]
  rw [show ((2 : Nat) : Int) = 2 from rfl, uSize_2]
  unfold uBytes
  rw [if_neg (by decide), if_pos rfl]
  simp only [List.cons.injEq, and_true]
  omega
theorem fits_3 {s : ByteArray} {i : Nat} : fitsN s i 3 ↔ byt s i / 16 = 14 ∧ byt s (i + 1) / 64 = 2 ∧ byt s (i + 2) / 64 = 2 ∧ (byt s i % 16) * 4096 + (byt s (i + 1) % 64) * 64 + byt s (i + 2) % 64 ≥ 2048 ∧
    Utf8.valid (((byt s i % 16) * 4096 + (byt s (i + 1) % 64) * 64 + byt s (i + 2) % 64 : Nat) : Int) = true := by
  have := byt_lt s i
  have := byt_lt s (i + 1)
  have := byt_lt s (i + 2)
  simp only [fitsN, bytesAt, uNum]
  rw [show ((3 : Nat) : Int) = 3 from rfl, uSize_3, valid_iff, show i + 1 + 1 = i + 2 from rfl]
  unfold uBytes
  rw [if_neg (by decide), if_neg (by decide), if_pos rfl]
  simp only [List.cons.injEq, and_true]
  omega
theorem fits_4 {s : ByteArray} {i : Nat} : fitsN s i 4 ↔ byt s i / 8 = 30 ∧ byt s (i + 1) / 64 = 2 ∧ byt s (i + 2) / 64 = 2 ∧ byt s (i + 3) / 64 = 2 ∧ (byt s i % 8) * 262144 + (byt s (i + 1) % 64) * 4096 + (byt s (i + 2) % 64) * 64 + byt s (i + 3) % 64 ≥ 65536 ∧
    Utf8.valid (((byt s i % 8) * 262144 + (byt s (i + 1) % 64) * 4096 + (byt s (i + 2) % 64) * 64 + byt s (i + 3) % 64 : Nat) : Int) = true := by
  have := byt_lt s i
  have := byt_lt s (i + 1)
  have := byt_lt s (i + 2)
  have := byt_lt s (i + 3)
  simp only [fitsN, bytesAt, uNum]
  rw [show ((4 : Nat) : Int) = 4 from rfl, uSize_4, valid_iff, show i + 1 + 1 = i + 2 from rfl, show i + 2 + 1 = i + 3 from rfl]
  unfold uBytes
  rw [if_neg (by decide), if_neg (by decide), if_neg (by decide)]
  simp only [List.cons.injEq, and_true]
  omega
theorem step_1 {s : ByteArray} {i : Nat} (h : fitsN s i 1) : Utf8.decode s i = (byt s i, 1) := by
  rw [decode_eq, if_pos (fits_1.1 h)]
theorem step_2 {s : ByteArray} {i : Nat} (hs : i + 2 ≤ s.size) (h : fitsN s i 2) : Utf8.decode s i = ((byt s i % 32) * 64 + byt s (i + 1) % 64, 2) := by
  have g := fits_2.1 h
  rw [decode_eq, if_neg (by omega), if_pos (by omega), if_pos (by omega)]
theorem step_3 {s : ByteArray} {i : Nat} (hs : i + 3 ≤ s.size) (h : fitsN s i 3) : Utf8.decode s i = ((byt s i % 16) * 4096 + (byt s (i + 1) % 64) * 64 + byt s (i + 2) % 64, 3) := by
  have g := fits_3.1 h
  rw [decode_eq, if_neg (by omega), if_neg (by omega), if_pos (by omega), if_pos ⟨g.2.2.2.1, g.2.2.2.2⟩]
theorem step_4 {s : ByteArray} {i : Nat} (hs : i + 4 ≤ s.size) (h : fitsN s i 4) : Utf8.decode s i = ((byt s i % 8) * 262144 + (byt s (i + 1) % 64) * 4096 + (byt s (i + 2) % 64) * 64 + byt s (i + 3) % 64, 4) := by
  have g := fits_4.1 h
  rw [decode_eq, if_neg (by omega), if_neg (by omega), if_neg (by omega), if_pos (by omega), if_pos ⟨g.2.2.2.2.1, g.2.2.2.2.2⟩]
theorem step_0 {s : ByteArray} {i : Nat} (h1 : ¬ fitsN s i 1) (h2 : i + 2 ≤ s.size → ¬ fitsN s i 2) (h3 : i + 3 ≤ s.size → ¬ fitsN s i 3) (h4 : i + 4 ≤ s.size → ¬ fitsN s i 4) : Utf8.decode s i = (65533, 1) := by
  rw [fits_1] at h1
  rw [fits_2] at h2
  rw [fits_3] at h3
  rw [fits_4] at h4
  rw [decode_eq, if_neg h1]
  by_cases c2 : byt s i / 32 = 6 ∧ i + 1 < s.size ∧ byt s (i + 1) / 64 = 2
  · rw [if_pos c2, if_neg (fun g => h2 (by omega) ⟨c2.1, c2.2.2, g⟩)]
  · rw [if_neg c2]
    by_cases c3 : byt s i / 16 = 14 ∧ (i + 1 < s.size ∧ byt s (i + 1) / 64 = 2) ∧ (i + 2 < s.size ∧ byt s (i + 2) / 64 = 2)
    · rw [if_pos c3, if_neg (fun g => h3 (by omega) ⟨c3.1, c3.2.1.2, c3.2.2.2, g.1, g.2⟩)]
    · rw [if_neg c3]
      by_cases c4 : byt s i / 8 = 30 ∧ (i + 1 < s.size ∧ byt s (i + 1) / 64 = 2) ∧ (i + 2 < s.size ∧ byt s (i + 2) / 64 = 2) ∧ (i + 3 < s.size ∧ byt s (i + 3) / 64 = 2)
      · rw [if_pos c4, if_neg (fun g => h4 (by omega) ⟨c4.1, c4.2.1.2, c4.2.2.1.2, c4.2.2.2.2, g.1, g.2⟩)]
      · rw [if_neg c4]
theorem step_n {s : ByteArray} {i n : Nat} (h0 : 1 ≤ n) (h4 : n ≤ 4) (hs : i + n ≤ s.size) (h : fitsN s i n) : Utf8.decode s i = ((uNum (bytesAt s i n)).toNat, n) := by
  have := byt_lt s i
  have := byt_lt s (i + 1)
  have := byt_lt s (i + 2)
  have := byt_lt s (i + 3)
  have e : n = 1 ∨ n = 2 ∨ n = 3 ∨ n = 4 := by omega
  rcases e with rfl | rfl | rfl | rfl
  · rw [step_1 h]; rfl
  · rw [step_2 hs h]
    have g := fits_2.1 h
    simp only [bytesAt, uNum, Prod.mk.injEq, and_true]
    omega
  · rw [step_3 hs h]
    have g := fits_3.1 h
    simp only [bytesAt, uNum, Prod.mk.injEq, and_true, show i + 1 + 1 = i + 2 from rfl]
    omega
  · rw [step_4 hs h]
    have g := fits_4.1 h
    simp only [bytesAt, uNum, Prod.mk.injEq, and_true, show i + 1 + 1 = i + 2 from rfl, show i + 2 + 1 = i + 3 from rfl]
    omega
theorem byt_data (s : ByteArray) (k : Nat) : UInt8.toNat (Option.getD s.data[k]? (0 : UInt8)) = byt s k := by
  have e : s.get! k = s.data[k]! := by cases s; rfl
  unfold byt
  rw [e, getElem!_def]
  cases s.data[k]? <;> rfl
theorem toListLoop (s : ByteArray) : ∀ (n i : Nat) (r : List UInt8), s.size ≤ i + n → ByteArray.toList.loop s i r = r.reverse ++ s.data.toList.drop i
  | 0, i, r, h => by
    rw [ByteArray.toList.loop]
    rw [if_neg (by omega), List.drop_eq_nil_of_le (by rw [Array.length_toList]; exact h)]
    simp
  | n + 1, i, r, h => by
    rw [ByteArray.toList.loop]
    by_cases hi : i < s.size
    · rw [if_pos hi, toListLoop s n (i + 1) _ (by omega)]
      have hl : i < s.data.toList.length := by rw [Array.length_toList]; exact hi
      rw [List.drop_eq_getElem_cons hl]
      have : s.get! i = s.data.toList[i] := by
        have e : s.get! i = s.data[i]! := by cases s; rfl
        rw [e, getElem!_pos s.data i hi]
        simp
      simp [this]
    · rw [if_neg hi, List.drop_eq_nil_of_le (by rw [Array.length_toList]; exact Nat.not_lt.1 hi)]
      simp
theorem toList_data (s : ByteArray) : s.toList = s.data.toList := by
  unfold ByteArray.toList
  rw [toListLoop s s.size 0 [] (by omega)]
  simp
theorem bytesAt_len (s : ByteArray) : ∀ (n i : Nat), (bytesAt s i n).length = n
  | 0, _ => rfl
  | n + 1, i => by simp [bytesAt, bytesAt_len s n]
theorem bytesAt_get (s : ByteArray) : ∀ (n i k : Nat), k < n → (bytesAt s i n)[k]? = some (byt s (i + k) : Int)
  | 0, _, _, h => by omega
  | n + 1, i, 0, _ => rfl
  | n + 1, i, k + 1, h => by
    show (bytesAt s (i + 1) n)[k]? = _
    rw [bytesAt_get s n (i + 1) k (by omega)]
    have : i + 1 + k = i + (k + 1) := by omega
    rw [this]
theorem strBytes_get (s : ByteArray) (k : Nat) (h : k < s.size) : (strBytes s)[k]? = some (byt s k : Int) := by
  unfold strBytes
  have hl : k < s.data.toList.length := by rw [Array.length_toList]; exact h
  rw [List.getElem?_map, List.getElem?_eq_getElem hl]
  have := byt_data s k
  have e : s.data[k]? = some s.data.toList[k] := by
    rw [Array.getElem?_eq_getElem h]; simp
  rw [e] at this
  simp only [Option.getD_some] at this
  show some ((s.data.toList[k].toNat : Nat) : Int) = _
  rw [this]
theorem strBytes_len (s : ByteArray) : (strBytes s).length = s.size := by
  unfold strBytes
  rw [List.length_map, Array.length_toList]
  rfl
theorem strBytes_all (s : ByteArray) : strBytes s = bytesAt s 0 s.size := by
  apply List.ext_getElem?
  intro k
  by_cases h : k < s.size
  · rw [strBytes_get s k h, bytesAt_get s _ _ _ h, Nat.zero_add]
  · rw [List.getElem?_eq_none (by rw [strBytes_len]; omega), List.getElem?_eq_none (by rw [bytesAt_len]; omega)]
theorem extract_byt (s : ByteArray) (i j k : Nat) (h : i + k < j) (hj : j ≤ s.size) : byt (s.extract i j) k = byt s (i + k) := by
  rw [← byt_data, ← byt_data, ByteArray.data_extract, Array.getElem?_extract]
  have hs : s.data.size = s.size := rfl
  rw [hs, Nat.min_eq_left hj, if_pos (by omega)]
theorem strBytes_extract (s : ByteArray) (i n : Nat) (h : i + n ≤ s.size) : strBytes (s.extract i (i + n)) = bytesAt s i n := by
  have hz : (s.extract i (i + n)).size = n := by rw [ByteArray.size_extract]; omega
  rw [strBytes_all, hz]
  apply List.ext_getElem?
  intro k
  by_cases hk : k < n
  · rw [bytesAt_get _ _ _ _ hk, bytesAt_get _ _ _ _ hk, Nat.zero_add, extract_byt s i (i + n) k (by omega) h]
  · rw [List.getElem?_eq_none (by rw [bytesAt_len]; omega), List.getElem?_eq_none (by rw [bytesAt_len]; omega)]
theorem strBytes_inj {a b : ByteArray} : strBytes a = strBytes b ↔ a.toList = b.toList := by
  rw [toList_data, toList_data]
  unfold strBytes
  constructor
  · intro h
    apply List.ext_getElem?
    intro k
    have := congrArg (fun l => l[k]?) h
    simp only [List.getElem?_map] at this
    cases h1 : a.data.toList[k]? <;> cases h2 : b.data.toList[k]? <;> rw [h1, h2] at this <;> simp_all
    exact UInt8.toNat_inj.1 (by omega)
  · intro h; rw [h]
theorem strBytes_of {l : List Int} (h : ∀ x ∈ l, 0 ≤ x ∧ x < 256) : strBytes (bytesOf l) = l := by
  unfold strBytes bytesOf
  simp only [List.map_map]
  conv => rhs; rw [← List.map_id l]
  apply List.map_congr_left
  intro x hx
  have := h x hx
  simp only [Function.comp, id]
  rw [UInt8.toNat_ofNat']
  omega
theorem wrap32_eq (n : Int) : IntKind.i32.wrap n = (n + 2147483648) % 4294967296 - 2147483648 := by
  have e : IntKind.i32.wrap n = if n % 4294967296 ≥ 2147483648 then n % 4294967296 - 4294967296 else n % 4294967296 := by
    unfold IntKind.wrap
    have hb : IntKind.i32.bits = 32 := rfl
    have hs : IntKind.i32.signed = true := rfl
    rw [hb, hs]
    simp
  rw [e]
  split <;> omega
theorem wrap8_eq (n : Int) : IntKind.u8.wrap n = n % 256 := by
  unfold IntKind.wrap
  have hb : IntKind.u8.bits = 8 := rfl
  have hs : IntKind.u8.signed = false := rfl
  rw [hb, hs]
  simp
end Go.Fr
namespace Go.Fr.Z14
open Go Go.Fr Go.Proofs
abbrev t3 : Ty := .int .i64
abbrev t4 : Ty := .bool
abbrev t5 : Ty := .int .u8
abbrev t9 : Ty := .str
abbrev t21 : Ty := .int .i32
abbrev t48 : Ty := .pair t3 (.pair t3 (.pair t3 (.pair t3 (.pair t9 .unit))))
abbrev t22 : Ty := .sl t48
abbrev t23 : Ty := .sl t3
abbrev t25 : Ty := .pair t3 (.pair t3 (.pair t23 (.pair t22 .unit)))
abbrev t29 : Ty := .int .i64
abbrev t33 : Ty := .pair t3 (.pair t22 (.pair t3 .unit))
abbrev t38 : Ty := .pair t3 (.pair t3 .unit)
abbrev t44 : Ty := .pair t38 (.pair t38 .unit)
abbrev t51 : Ty := .pair t38 (.pair t38 .unit)
abbrev t53 : Ty := .sl t51
abbrev t55 : Ty := .pair t38 (.pair t38 .unit)
abbrev t56 : Ty := .sl t55
abbrev t64 : Ty := .pair t3 (.pair t22 .unit)
abbrev t67 : Ty := .unit
abbrev t65 : Ty := .mp t3 t67
abbrev t74 : Ty := .sl t21
abbrev t90 : Ty := .pair t3 (.pair t3 (.pair t3 .unit))
abbrev t99 : Ty := .pair t3 (.pair t3 (.pair t90 (.pair t3 (.pair t9 .unit))))
abbrev t80 : Ty := .sl t99
abbrev t92 : Ty := .pair t3 (.pair t90 (.pair t3 (.pair t3 .unit)))
abbrev t153 : Ty := .pair t80 (.pair t92 .unit)
abbrev t131 : Ty := .nd 134 144 t153 (.pair t3 (.pair t92 .unit))
abbrev t137 : Ty := .pair t131 .unit
abbrev t77 : Ty := .opt t137
abbrev t83 : Ty := .pair t77 .unit
abbrev t84 : Ty := .mp t3 t48
abbrev t94 : Ty := .pair t3 (.pair t92 (.pair t3 .unit))
abbrev t161 : Ty := .pair t3 (.pair t3 .unit)
abbrev t104 : Ty := .sl t161
abbrev t163 : Ty := .pair t3 (.pair t3 .unit)
abbrev t106 : Ty := .sl t163
abbrev t164 : Ty := .pair t3 (.pair t3 .unit)
abbrev t109 : Ty := .sl t164
abbrev t123 : Ty := .int .u64
abbrev t129 : Ty := .pair t21 (.pair t3 .unit)
abbrev t146 : Ty := .sl t131
abbrev t148 : Ty := .pair t146 (.pair t3 (.pair t92 .unit))
abbrev t169 : Ty := .sl t5
abbrev t172 : Ty := .int .i64
abbrev t180 : Ty := .int .u32
abbrev t182 : Ty := .int .u64
abbrev t191 : Ty := .pair t21 (.pair t21 (.pair t21 (.pair t21 .unit)))
abbrev t192 : Ty := .int .u64
abbrev t28 : Ty := .opt t64
abbrev t35 : Ty := .opt t83
abbrev t134 : Ty := .opt t153
abbrev t144 : Ty := .opt t148
def tab : List (TypeId × TI) := [
  (3, ⟨.int .i64, 1, 8, [.tv (.int .i64) (0 : Int)], some t3⟩),
  (4, ⟨.bool, 1, 1, [.blit false], some t4⟩),
  (5, ⟨.int .u8, 1, 1, [.tv (.int .u8) (0 : Int)], some t5⟩),
  (9, ⟨.str, 1, 16, [.tv .str ByteArray.empty], some t9⟩),
  (21, ⟨.int .i32, 1, 4, [.tv (.int .i32) (0 : Int)], some t21⟩),
  (48, ⟨.struct [(0, 1, false), (1, 1, false), (2, 1, false), (3, 1, false), (4, 1, false)], 5, 48, [.tv (.int .i64) (0 : Int), .tv (.int .i64) (0 : Int), .tv (.int .i64) (0 : Int), .tv (.int .i64) (0 : Int), .tv .str ByteArray.empty], some t48⟩),
  (22, ⟨.slice 48, 1, 24, [.raw (.slice none 0 0)], some t22⟩),
  (23, ⟨.slice 3, 1, 24, [.raw (.slice none 0 0)], some t23⟩),
  (25, ⟨.struct [(0, 1, false), (1, 1, false), (2, 1, false), (3, 1, false)], 4, 64, [.tv (.int .i64) (0 : Int), .tv (.int .i64) (0 : Int), .raw (.slice none 0 0), .raw (.slice none 0 0)], some t25⟩),
  (29, ⟨.int .i64, 1, 8, [.tv (.int .i64) (0 : Int)], some t29⟩),
  (33, ⟨.struct [(0, 1, false), (1, 1, false), (2, 1, false)], 3, 40, [.tv (.int .i64) (0 : Int), .raw (.slice none 0 0), .tv (.int .i64) (0 : Int)], some t33⟩),
  (38, ⟨.struct [(0, 1, false), (1, 1, false)], 2, 16, [.tv (.int .i64) (0 : Int), .tv (.int .i64) (0 : Int)], some t38⟩),
  (44, ⟨.array 2 38 2, 4, 32, [.tv (.int .i64) (0 : Int), .tv (.int .i64) (0 : Int), .tv (.int .i64) (0 : Int), .tv (.int .i64) (0 : Int)], some t44⟩),
  (51, ⟨.struct [(0, 2, true), (2, 2, true)], 4, 32, [.tv (.int .i64) (0 : Int), .tv (.int .i64) (0 : Int), .tv (.int .i64) (0 : Int), .tv (.int .i64) (0 : Int)], some t51⟩),
  (53, ⟨.slice 51, 1, 24, [.raw (.slice none 0 0)], some t53⟩),
  (55, ⟨.struct [(0, 2, true), (2, 2, true)], 4, 32, [.tv (.int .i64) (0 : Int), .tv (.int .i64) (0 : Int), .tv (.int .i64) (0 : Int), .tv (.int .i64) (0 : Int)], some t55⟩),
  (56, ⟨.slice 55, 1, 24, [.raw (.slice none 0 0)], some t56⟩),
  (64, ⟨.struct [(0, 1, false), (1, 1, false)], 2, 32, [.tv (.int .i64) (0 : Int), .raw (.slice none 0 0)], some t64⟩),
  (67, ⟨.struct [], 0, 0, [], some t67⟩),
  (65, ⟨.map 3 67, 1, 8, [.raw (.map none)], some t65⟩),
  (74, ⟨.slice 21, 1, 24, [.raw (.slice none 0 0)], some t74⟩),
  (90, ⟨.array 3 3 1, 3, 24, [.tv (.int .i64) (0 : Int), .tv (.int .i64) (0 : Int), .tv (.int .i64) (0 : Int)], some t90⟩),
  (99, ⟨.struct [(0, 1, false), (1, 1, false), (2, 3, true), (5, 1, false), (6, 1, false)], 7, 64, [.tv (.int .i64) (0 : Int), .tv (.int .i64) (0 : Int), .tv (.int .i64) (0 : Int), .tv (.int .i64) (0 : Int), .tv (.int .i64) (0 : Int), .tv (.int .i64) (0 : Int), .tv .str ByteArray.empty], some t99⟩),
  (80, ⟨.slice 99, 1, 24, [.raw (.slice none 0 0)], some t80⟩),
  (92, ⟨.struct [(0, 1, false), (1, 3, true), (4, 1, false), (5, 1, false)], 6, 48, [.tv (.int .i64) (0 : Int), .tv (.int .i64) (0 : Int), .tv (.int .i64) (0 : Int), .tv (.int .i64) (0 : Int), .tv (.int .i64) (0 : Int), .tv (.int .i64) (0 : Int)], some t92⟩),
  (153, ⟨.struct [(0, 1, false), (1, 6, true)], 7, 72, [.raw (.slice none 0 0), .tv (.int .i64) (0 : Int), .tv (.int .i64) (0 : Int), .tv (.int .i64) (0 : Int), .tv (.int .i64) (0 : Int), .tv (.int .i64) (0 : Int), .tv (.int .i64) (0 : Int)], some t153⟩),
  (131, ⟨.iface, 1, 16, [.raw .nilIface], some t131⟩),
  (137, ⟨.struct [(0, 1, false)], 1, 16, [.raw .nilIface], some t137⟩),
  (77, ⟨.ptr 137, 1, 8, [.raw (.pointer none)], some t77⟩),
  (83, ⟨.struct [(0, 1, false)], 1, 8, [.raw (.pointer none)], some t83⟩),
  (84, ⟨.map 3 48, 1, 8, [.raw (.map none)], some t84⟩),
  (94, ⟨.struct [(0, 1, false), (1, 6, true), (7, 1, false)], 8, 64, [.tv (.int .i64) (0 : Int), .tv (.int .i64) (0 : Int), .tv (.int .i64) (0 : Int), .tv (.int .i64) (0 : Int), .tv (.int .i64) (0 : Int), .tv (.int .i64) (0 : Int), .tv (.int .i64) (0 : Int), .tv (.int .i64) (0 : Int)], some t94⟩),
  (161, ⟨.struct [(0, 1, false), (1, 1, false)], 2, 16, [.tv (.int .i64) (0 : Int), .tv (.int .i64) (0 : Int)], some t161⟩),
  (104, ⟨.slice 161, 1, 24, [.raw (.slice none 0 0)], some t104⟩),
  (163, ⟨.struct [(0, 1, false), (1, 1, false)], 2, 16, [.tv (.int .i64) (0 : Int), .tv (.int .i64) (0 : Int)], some t163⟩),
  (106, ⟨.slice 163, 1, 24, [.raw (.slice none 0 0)], some t106⟩),
  (164, ⟨.struct [(0, 1, false), (1, 1, false)], 2, 16, [.tv (.int .i64) (0 : Int), .tv (.int .i64) (0 : Int)], some t164⟩),
  (109, ⟨.slice 164, 1, 24, [.raw (.slice none 0 0)], some t109⟩),
  (123, ⟨.int .u64, 1, 8, [.tv (.int .u64) (0 : Int)], some t123⟩),
  (129, ⟨.struct [(0, 1, false), (1, 1, false)], 2, 16, [.tv (.int .i32) (0 : Int), .tv (.int .i64) (0 : Int)], some t129⟩),
  (146, ⟨.slice 131, 1, 24, [.raw (.slice none 0 0)], some t146⟩),
  (148, ⟨.struct [(0, 1, false), (1, 1, false), (2, 6, true)], 8, 80, [.raw (.slice none 0 0), .tv (.int .i64) (0 : Int), .tv (.int .i64) (0 : Int), .tv (.int .i64) (0 : Int), .tv (.int .i64) (0 : Int), .tv (.int .i64) (0 : Int), .tv (.int .i64) (0 : Int), .tv (.int .i64) (0 : Int)], some t148⟩),
  (169, ⟨.slice 5, 1, 24, [.raw (.slice none 0 0)], some t169⟩),
  (172, ⟨.int .i64, 1, 8, [.tv (.int .i64) (0 : Int)], some t172⟩),
  (180, ⟨.int .u32, 1, 4, [.tv (.int .u32) (0 : Int)], some t180⟩),
  (182, ⟨.int .u64, 1, 8, [.tv (.int .u64) (0 : Int)], some t182⟩),
  (191, ⟨.array 4 21 1, 4, 16, [.tv (.int .i32) (0 : Int), .tv (.int .i32) (0 : Int), .tv (.int .i32) (0 : Int), .tv (.int .i32) (0 : Int)], some t191⟩),
  (192, ⟨.int .u64, 1, 8, [.tv (.int .u64) (0 : Int)], some t192⟩),
  (28, ⟨.ptr 64, 1, 8, [.raw (.pointer none)], some t28⟩),
  (35, ⟨.ptr 83, 1, 8, [.raw (.pointer none)], some t35⟩),
  (134, ⟨.ptr 153, 1, 8, [.raw (.pointer none)], some t134⟩),
  (144, ⟨.ptr 148, 1, 8, [.raw (.pointer none)], some t144⟩)]
theorem tab_ok : tabOk Tryz.prog tab = true := by kernel_rfl
theorem mixed : Tryz.prog.follows .mixedOrders = true := by kernel_rfl
def gl : Nat → Option ((t : Ty) × t.den) := fun g => bif Nat.beq g 0 then some ⟨t191, ((127 : Int), (2047 : Int), (65535 : Int), (1114111 : Int), ())⟩ else none
def right (r : Int) : Bool := decide (0 ≤ r ∧ r ≤ 1114111 ∧ (r < 55296 ∨ r > 57343))
def sizeR (r : Int) : Int := if uSize r = 0 then 3 else uSize r
def encB (x : Int) : ByteArray := if uSize x = 0 then bytesOf (uBytes 65533 3) else bytesOf (uBytes x (uSize x))
def encode (l : List Int) : ByteArray := l.foldl (fun s x => s ++ encB x) ByteArray.empty
def clean (s : ByteArray) : ByteArray := encode (decodeL s)
abbrev Span := Int × Int × Unit
abbrev Chg := Span × Span × Unit
abbrev Inl := Int × Int × Int × Int × ByteArray × Unit
abbrev ISet := Int × List Inl × Unit
abbrev WSet := Int × List Inl × Int × Unit
def w64 (n : Int) : Int := IntKind.i64.wrap n
def within (s : Span) : Bool := decide (0 ≤ s.1) && decide (s.1 ≤ s.2.1) && decide (s.2.1 ≤ 1099511627776)
def zeroC : Chg := ((0, 0, ()), (0, 0, ()), ())
def okStep (last c : Chg) (first : Bool) : Bool :=
  within c.1 && within c.2.1 && !(decide (c.1.1 = c.1.2.1) && decide (c.2.1.1 = c.2.1.2.1)) &&
    decide (c.1.1 - last.1.2.1 = c.2.1.1 - last.2.1.2.1) && decide (last.1.2.1 ≤ c.1.1) && (first || decide (c.1.1 ≠ last.1.2.1))
def normFrom (last : Chg) (first : Bool) : List Chg → Bool
  | [] => true
  | c :: r => okStep last c first && normFrom c false r
def normal (l : List Chg) : Bool := normFrom zeroC true l
def size (s : Span) : Int := w64 (s.2.1 - s.1)
def delta (l : List Chg) : Int := l.foldl (fun n c => w64 (n + w64 (size c.2.1 - size c.1))) 0
def mapTo (at_ bias : Int) : List Chg → Int → Int
  | [], shift => at_ + shift
  | c :: r, shift => if at_ < c.1.1 then at_ + shift else if at_ ≤ c.1.2.1 then (if bias = 0 then c.2.1.1 else c.2.1.2.1) else mapTo at_ bias r (c.2.1.2.1 - c.1.2.1)
def mapP (l : List Chg) (at_ bias : Int) : Int × Int × Unit :=
  if normal l = false then (0, 4, ()) else if at_ < 0 ∨ at_ > 1099511627776 ∨ (bias ≠ 0 ∧ bias ≠ 1) then (0, 1, ()) else (mapTo at_ bias l 0, 0, ())
def refMap (at_ bias : Int) : List Chg → Int → Int
  | [], shift => at_ + shift
  | c :: r, shift => if c.1.1 ≤ at_ ∧ at_ ≤ c.1.2.1 then (if bias = 0 then c.2.1.1 else c.2.1.2.1) else refMap at_ bias r (if at_ > c.1.2.1 then c.2.1.2.1 - c.1.2.1 else shift)
def endOf (l : List Chg) : Int := match l.getLast? with | some c => c.1.2.1 | none => 0
def invert (l : List Chg) : List Chg := l.map fun c => (c.2.1, c.1, ())
def cmpI (a b : Int) : Int := if a < b then -1 else if b < a then 1 else 0
def firstNZ : List Int → Int
  | [] => 0
  | x :: r => if x = 0 then firstNZ r else x
def txt (x : Inl) : ByteArray := x.2.2.2.2.1
def hasNL (s : ByteArray) : Bool := s.data.toList.contains 10
def wrongI (n : Int) (x : Inl) : Int :=
  if x.1 < 1 ∨ x.2.1 < 0 ∨ x.2.1 > n ∨ (x.2.2.1 ≠ 0 ∧ x.2.2.1 ≠ 1) then 1 else if ((decodeL (txt x)).length : Int) > 40 then 2 else if (txt x).size = 0 ∨ hasNL (txt x) = true then 4 else 0
def hasId (i : Int) (l : List Inl) : Bool := l.any fun x => decide (x.1 = i)
def wrongW (n : Int) (l : List Inl) (x : Inl) : Int := if wrongI n x ≠ 0 then wrongI n x else if hasId x.1 l = true then 8 else 0
def errI (n : Int) : List Inl → List Inl → Int
  | _, [] => 0
  | seen, x :: r => if wrongW n seen x ≠ 0 then wrongW n seen x else errI n (seen ++ [x]) r
def cmpL (a b : Inl) : Int := firstNZ [cmpI a.2.1 b.2.1, cmpI a.2.2.2.1 b.2.2.2.1, cmpI a.1 b.1]
def sortI (l : List Inl) : List Inl := sortBy cmpL l
def aheadI (a b : Inl) : Bool := if a.2.1 ≠ b.2.1 then decide (a.2.1 < b.2.1) else if a.2.2.2.1 ≠ b.2.2.2.1 then decide (a.2.2.2.1 < b.2.2.2.1) else decide (a.1 < b.1)
def insI1 (x : Inl) : List Inl → List Inl
  | [] => [x]
  | y :: r => if aheadI x y = true then x :: y :: r else y :: insI1 x r
def insI (l : List Inl) : List Inl := l.foldl (fun o x => insI1 x o) []
def cleanI (x : Inl) : Inl := (x.1, x.2.1, x.2.2.1, x.2.2.2.1, clean (txt x), ())
def wrongN (n : Int) (l : List Inl) : Int := if n < 0 ∨ n > 1099511627776 then 1 else if (l.length : Int) > 60 then 5 else errI n [] l
def newI (n : Int) (l : List Inl) : Option ISet × Int × Unit := if wrongN n l = 0 then (some (n, sortI (l.map cleanI), ()), 0, ()) else (none, wrongN n l, ())
def newW (n : Int) (l : List Inl) : WSet := if wrongN n l = 0 then (n, insI (l.map cleanI), 0, ()) else (0, [], wrongN n l, ())
def allI (s : Option ISet) : List Inl := match s with | none => [] | some s => s.2.1
def lenI (s : Option ISet) : Int := match s with | none => 0 | some s => s.1
def inI (f t : Int) (x : Inl) : Bool := !(decide (x.2.1 < f) || decide (x.2.1 > t))
def rmOk : List Int → List Int → Bool
  | _, [] => true
  | m, i :: r => m.contains i && rmOk (m.erase i) r
def spliceI (s : Option ISet) (rm : List Int) (add : List Inl) : Option ISet × Int × Unit :=
  if rmOk ((allI s).map (·.1)) rm = true then newI (lenI s) ((allI s).filter (fun x => !rm.contains x.1) ++ add) else (none, 6, ())
def timesI (n : Int) (l : List Int) : Int := (l.count n : Int)
def spliceW (w : WSet) (rm : List Int) (add : List Inl) : WSet :=
  if (((w.2.1).countP (fun x => decide (rm.count x.1 = 1)) : Nat) : Int) < (rm.length : Int) then (0, [], 6, ()) else newW w.1 (w.2.1.filter (fun x => decide (rm.count x.1 = 0)) ++ add)
def moveI (p : List Chg) (x : Inl) : Inl := (x.1, (mapP p x.2.1 x.2.2.1).1, x.2.2.1, x.2.2.2.1, txt x, ())
def moveW (p : List Chg) (x : Inl) : Inl := (x.1, refMap x.2.1 x.2.2.1 p 0, x.2.2.1, x.2.2.2.1, txt x, ())
def shiftI (s : Option ISet) (p : List Chg) : Option ISet × Int × Unit :=
  if normal p = false then (none, 4, ()) else if endOf p > lenI s ∨ w64 (lenI s + delta p) > 1099511627776 then (none, 1, ()) else newI (w64 (lenI s + delta p)) ((allI s).map (moveI p))
def shiftW (w : WSet) (p : List Chg) : WSet :=
  if normal p = false then (0, [], 4, ()) else if endOf p > w.1 ∨ w64 (w.1 + delta p) > 1099511627776 then (0, [], 1, ()) else newW (w64 (w.1 + delta p)) (w.2.1.map (moveW p))
def sameL (a b : List Inl) : Bool := decide (a = b)
def isI (s : Option ISet) (e : Int) (w : WSet) : Bool := decide (e = w.2.2.1) && (s.isNone == decide (w.2.2.1 ≠ 0)) && (s.isNone || (sameL (allI s) w.2.1 && decide (lenI s = w.1)))
def shortL (l : List Inl) : Prop := ∀ x ∈ l, (txt x).size ≤ 100000
def okI (s : Option ISet) : Prop := (allI s).length ≤ 10000 ∧ shortL (allI s) ∧ ((allI s).map (·.1)).Nodup ∧ (0 : Int) ≤ lenI s ∧ lenI s ≤ (1099511627776 : Int)
def okW (w : WSet) : Prop := w.2.1.length ≤ 10000 ∧ shortL w.2.1 ∧ (0 : Int) ≤ w.1 ∧ w.1 ≤ (1099511627776 : Int)
def cSize : Contract := { arg := .pair t38 .unit, res := .int .i64, one := true, pre := fun _ => True, fn := fun x => size x.1 }
def cDelta : Contract := { arg := .pair t53 .unit, res := .int .i64, one := true, pre := fun x => x.1.length ≤ maxLen, fn := fun x => delta x.1 }
def cWithin : Contract := { arg := .pair t38 .unit, res := .bool, one := true, pre := fun _ => True, fn := fun x => within x.1 }
def cNormal : Contract := { arg := .pair t53 .unit, res := .bool, one := true, pre := fun x => x.1.length ≤ maxLen, fn := fun x => normal x.1 }
def cRefNormal : Contract := { arg := .pair t56 .unit, res := .bool, one := true, pre := fun x => x.1.length ≤ maxLen, fn := fun x => normal x.1 }
def cMap : Contract := { arg := .pair t53 (.pair t3 (.pair t3 .unit)), res := .pair t3 (.pair t29 .unit), one := false, pre := fun x => x.1.length ≤ maxLen, fn := fun x => mapP x.1 x.2.1 x.2.2.1 }
def cRefMap : Contract := { arg := .pair t56 (.pair t3 (.pair t3 .unit)), res := t3, one := true, pre := fun x => x.1.length ≤ maxLen ∧ normal x.1 = true ∧ (0 : Int) ≤ x.2.1 ∧ x.2.1 ≤ (1099511627776 : Int), fn := fun x => refMap x.2.1 x.2.2.1 x.1 0 }
def cCmp : Contract := { arg := .pair t3 (.pair t3 .unit), res := .int .i64, one := true, pre := fun _ => True, fn := fun x => cmpI x.1 x.2.1 }
def cOr : Contract := { arg := .pair t23 .unit, res := .int .i64, one := true, pre := fun x => x.1.length ≤ maxLen, fn := fun x => firstNZ x.1 }
def cRight : Contract := { arg := .pair t21 .unit, res := .bool, one := true, pre := fun _ => True, fn := fun x => right x.1 }
def cUSize : Contract := { arg := .pair t21 .unit, res := t3, one := true, pre := fun _ => True, fn := fun x => uSize x.1 }
def cOne : Contract := { arg := .pair t21 (.pair t3 .unit), res := t9, one := true, pre := fun x => (0 : Int) ≤ x.1 ∧ x.1 ≤ (1114111 : Int) ∧ uSize x.1 = x.2.1, fn := fun x => bytesOf (uBytes x.1 x.2.1) }
def cNumber : Contract := { arg := .pair t9 .unit, res := t21, one := true, pre := fun x => 1 ≤ x.1.size ∧ x.1.size ≤ 4, fn := fun x => uNum (strBytes x.1) }
def cRStep : Contract := { arg := .pair t9 (.pair t3 .unit), res := t129, one := true, pre := fun x => x.1.size ≤ maxLen, fn := fun x => uStep x.1 x.2.1 }
def cRDecode : Contract := { arg := .pair t9 .unit, res := t74, one := true, pre := fun x => x.1.size ≤ 1000000000, fn := fun x => decodeL x.1 }
def cDecode : Contract := { arg := .pair t9 .unit, res := t74, one := true, pre := fun x => x.1.size ≤ 1000000000, fn := fun x => decodeL x.1 }
def cCount : Contract := { arg := .pair t9 .unit, res := t3, one := true, pre := fun x => x.1.size ≤ maxLen, fn := fun x => ((decodeL x.1).length : Int) }
def cREncode : Contract := { arg := .pair t74 .unit, res := t9, one := true, pre := fun x => x.1.length ≤ 1000000000, fn := fun x => encode x.1 }
def cEncode : Contract := { arg := .pair t74 .unit, res := t9, one := true, pre := fun x => x.1.length ≤ 1000000000, fn := fun x => encode x.1 }
def cClean : Contract := { arg := .pair t9 .unit, res := t9, one := true, pre := fun x => x.1.size ≤ 100000000, fn := fun x => clean x.1 }
def cContains : Contract := { arg := .pair t9 (.pair t9 .unit), res := .bool, one := true, pre := fun x => x.2.1 = (ByteArray.mk #[10]), fn := fun x => hasNL x.1 }
def cOrder : Contract := cOrd t48 cmpL
def cAhead : Contract := { arg := .pair t48 (.pair t48 .unit), res := .bool, one := true, pre := fun _ => True, fn := fun x => aheadI x.1 x.2.1 }
def cTimes : Contract := { arg := .pair t3 (.pair t23 .unit), res := t3, one := true, pre := fun x => x.2.1.length ≤ maxLen, fn := fun x => timesI x.1 x.2.1 }
def cWrong : Contract := { arg := .pair t3 (.pair t48 .unit), res := t29, one := true, pre := fun x => (txt x.2.1).size ≤ maxLen, fn := fun x => wrongI x.1 x.2.1 }
def cRefWrong : Contract := { arg := .pair t3 (.pair t22 (.pair t48 .unit)), res := t3, one := true, pre := fun x => x.2.1.length ≤ maxLen ∧ (txt x.2.2.1).size ≤ 1000000000, fn := fun x => wrongW x.1 x.2.1 x.2.2.1 }
def cClone : Contract := { arg := .pair t22 .unit, res := t22, one := true, pre := fun x => x.1.length ≤ 10000, fn := fun x => x.1 }
def cCloneO : Contract := { arg := .pair t22 .unit, res := t22, one := true, pre := fun x => x.1.length ≤ 10000, fn := fun x => x.1, own := some 48 }
def cAll : Contract := { arg := .pair t28 .unit, res := t22, one := true, pre := fun x => (allI x.1).length ≤ 10000, fn := fun x => allI x.1 }
def cAllO : Contract := { arg := .pair t28 .unit, res := t22, one := true, pre := fun x => (allI x.1).length ≤ 10000, fn := fun x => allI x.1, own := some 48 }
def cLen : Contract := { arg := .pair t28 .unit, res := t3, one := true, pre := fun _ => True, fn := fun x => lenI x.1 }
def cNew : Contract := { arg := .pair t3 (.pair t22 .unit), res := .pair t28 (.pair t29 .unit), one := false, pre := fun x => x.2.1.length ≤ maxLen ∧ shortL x.2.1, fn := fun x => newI x.1 x.2.1 }
def cRefNew : Contract := { arg := .pair t3 (.pair t22 .unit), res := t33, one := true, pre := fun x => x.2.1.length ≤ maxLen ∧ shortL x.2.1, fn := fun x => newW x.1 x.2.1 }
def cBetween : Contract := { arg := .pair t28 (.pair t3 (.pair t3 .unit)), res := t22, one := true, pre := fun x => (allI x.1).length ≤ 10000, fn := fun x => (allI x.1).filter (inI x.2.1 x.2.2.1) }
def cSplice : Contract := { arg := .pair t28 (.pair t23 (.pair t22 .unit)), res := .pair t28 (.pair t29 .unit), one := false, pre := fun x => okI x.1 ∧ x.2.1.length ≤ 10000 ∧ x.2.2.1.length ≤ 10000 ∧ shortL x.2.2.1, fn := fun x => spliceI x.1 x.2.1 x.2.2.1 }
def cRefSplice : Contract := { arg := .pair t33 (.pair t23 (.pair t22 .unit)), res := t33, one := true, pre := fun x => okW x.1 ∧ x.2.1.length ≤ 10000 ∧ x.2.2.1.length ≤ 10000 ∧ shortL x.2.2.1, fn := fun x => spliceW x.1 x.2.1 x.2.2.1 }
def cShift : Contract := { arg := .pair t28 (.pair t53 .unit), res := .pair t28 (.pair t29 .unit), one := false, pre := fun x => okI x.1 ∧ x.2.1.length ≤ 1000, fn := fun x => shiftI x.1 x.2.1 }
def cRefShift : Contract := { arg := .pair t33 (.pair t56 .unit), res := t33, one := true, pre := fun x => okW x.1 ∧ (∀ m ∈ x.1.2.1, (0 : Int) ≤ m.2.1 ∧ m.2.1 ≤ (1099511627776 : Int)) ∧ x.2.1.length ≤ 1000, fn := fun x => shiftW x.1 x.2.1 }
def rSort : RContract := { t := t48, e := 48, pre := fun xs => List.length xs ≤ 100000, post := fun xs ys => ys.Perm xs ∧ ys.Pairwise (fun a b => ¬ cmpL b a < 0), back := false, tail := [24] }
end Go.Fr.Z14
namespace Go.Fr.Z14
open Go Go.Fr Go.Proofs
abbrev D3 := Int × Int × Int × Unit
abbrev Itm := Int × Int × D3 × Int × ByteArray × Unit
abbrev Sm := Int × D3 × Int × Int × Unit
abbrev Lf := List Itm × Sm × Unit
abbrev Nx := Int × Sm × Unit
abbrev Nd := NT Lf Nx
def withinN (n : Int) : Bool := decide (0 ≤ n) && decide (n ≤ 1099511627776)
def checkI (x : Itm) : Int := if (withinN x.2.2.2.1 && withinN x.2.2.1.1 && withinN x.2.2.1.2.1 && withinN x.2.2.1.2.2.1) = true then 0 else 1
def ofI (x : Itm) : Sm := (1, x.2.2.1, x.2.2.2.1, 0, ())
def zS : Sm := (0, (0, 0, 0, ()), 0, 0, ())
def addD (a b : D3) : D3 := (w64 (a.1 + b.1), w64 (a.2.1 + b.2.1), w64 (a.2.2.1 + b.2.2.1), ())
def addS (a b : Sm) : Sm :=
  if b.1 > 0 ∧ (a.1 = 0 ∨ b.2.2.1 > a.2.2.1) then (w64 (a.1 + b.1), addD a.2.1 b.2.1, b.2.2.1, w64 (a.1 + b.2.2.2.1), ())
  else (w64 (a.1 + b.1), addD a.2.1 b.2.1, a.2.2.1, a.2.2.2.1, ())
def allS (l : List Itm) : Sm := l.foldl (fun s x => addS s (ofI x)) zS
def sumOf : Nd → Sm
  | .nil => zS
  | .leaf a => a.2.1
  | .inner _ b => b.2.1
def heightOf : Nd → Int
  | .nil => 0
  | .leaf _ => 1
  | .inner _ b => b.1
def sums (ks : List Nd) : Sm := ks.foldl (fun s k => addS s (sumOf k)) zS
def mkLf (l : List Itm) : Lf := (l, allS l, ())
def mkLeaf (l : List Itm) : Nd := .leaf (mkLf l)
def mkNx (ks : List Nd) : Nx := (w64 (heightOf (ks.getD 0 .nil) + 1), sums ks, ())
def mkInner (ks : List Nd) : Nd := .inner ks (mkNx ks)
def spread (l : List Itm) : List Nd := if l.length ≤ 8 then [mkLeaf l] else [mkLeaf (l.take (l.length / 2)), mkLeaf (l.drop (l.length / 2))]
def raise (ks : List Nd) : List Nd := if ks.length ≤ 8 then [mkInner ks] else [mkInner (ks.take (ks.length / 2)), mkInner (ks.drop (ks.length / 2))]
def kidsOf : Nd → List Nd
  | .inner ks _ => ks
  | _ => []
def itemsOf : Nd → List Itm
  | .leaf a => a.1
  | _ => []
def meldF : Nat → Nd → Nd → List Nd
  | 0, _, _ => []
  | n + 1, a, b =>
    if heightOf a > heightOf b then raise ((kidsOf a).take ((kidsOf a).length - 1) ++ meldF n ((kidsOf a).getD ((kidsOf a).length - 1) .nil) b)
    else if heightOf a < heightOf b then raise (meldF n a ((kidsOf b).getD 0 .nil) ++ (kidsOf b).drop 1)
    else if (NT.asLeaf a).isSome = true then spread (itemsOf a ++ itemsOf b) else raise (kidsOf a ++ kidsOf b)
def meld (a b : Nd) : List Nd := meldF ((heightOf a).toNat + (heightOf b).toNat) a b
def Wf : Nat → Bool → Nd → Prop
  | 0, _, _ => False
  | _ + 1, _, .nil => False
  | h + 1, top, .leaf a => h = 0 ∧ (if top = true then 1 else 4) ≤ a.1.length ∧ a.1.length ≤ 8 ∧ a.2.1 = allS a.1
  | h + 1, top, .inner ks b => 1 ≤ h ∧ (if top = true then 2 else 4) ≤ ks.length ∧ ks.length ≤ 8 ∧ b.1 = ((h + 1 : Nat) : Int) ∧ b.2.1 = sums ks ∧ ∀ k ∈ ks, Wf h false k
def WfN (n : Nd) : Prop := n = .nil ∨ ∃ h : Nat, h ≤ 100 ∧ Wf h true n
def join (a b : Nd) : Nd :=
  if NT.isNil a = true then b else if NT.isNil b = true then a else if (meld a b).length = 1 then (meld a b).getD 0 .nil else mkInner (meld a b)
def rowN (ks : List Nd) : Nd := if ks.length = 0 then .nil else if ks.length = 1 then ks.getD 0 .nil else mkInner ks
def itemsF : Nat → Nd → List Itm
  | 0, _ => []
  | n + 1, x => match x with
    | .nil => []
    | .leaf a => a.1
    | .inner ks _ => ks.flatMap (itemsF n)
def items (n : Nd) : List Itm := itemsF 101 n
abbrev Tre := Option (Nd × Unit)
def topT (t : Tre) : Nd := match t with | none => .nil | some t => t.1
def build (l : List Itm) : Nat → Nd
  | 0 => .nil
  | k + 1 => join (build l k) (mkLeaf ((l.drop (8 * k)).take 8))
def buildT (l : List Itm) : Nd := build l ((l.length + 7) / 8)
def newT (l : List Itm) : Tre × Int × Unit := if l.length > 30000 then (none, 5, ()) else if (l.all fun x => decide (checkI x = 0)) = true then (some (buildT l, ()), 0, ()) else (none, 1, ())
def cWithinN : Contract := { arg := .pair t3 .unit, res := .bool, one := true, pre := fun _ => True, fn := fun x => withinN x.1 }
def cCheck : Contract := { arg := .pair t99 .unit, res := t29, one := true, pre := fun _ => True, fn := fun x => checkI x.1 }
def cOfI : Contract := { arg := .pair t99 .unit, res := t92, one := true, pre := fun _ => True, fn := fun x => ofI x.1 }
def cAddS : Contract := { arg := .pair t92 (.pair t92 .unit), res := t92, one := true, pre := fun _ => True, fn := fun x => addS x.1 x.2.1 }
def cAllS : Contract := { arg := .pair t80 .unit, res := t92, one := true, pre := fun x => x.1.length ≤ maxLen, fn := fun x => allS x.1 }
def cSumOf : Contract := { arg := .pair t131 .unit, res := t92, one := true, pre := fun _ => True, fn := fun x => sumOf x.1 }
def cHeightOf : Contract := { arg := .pair t131 .unit, res := t3, one := true, pre := fun _ => True, fn := fun x => heightOf x.1 }
def cLeafOf : Contract := { arg := .pair t80 .unit, res := t134, one := true, pre := fun x => x.1.length ≤ maxLen, fn := fun x => some (mkLf x.1) }
def cInnerOf : Contract := { arg := .pair t146 .unit, res := t144, one := true, pre := fun x => 1 ≤ x.1.length ∧ x.1.length ≤ maxLen, fn := fun x => some (x.1, mkNx x.1) }
def cRaise : Contract := { arg := .pair t146 .unit, res := t146, one := true, pre := fun x => 1 ≤ x.1.length ∧ x.1.length ≤ 100000, fn := fun x => raise x.1 }
def cPut : Contract := { arg := .pair t146 (.pair t146 .unit), res := t146, one := true, pre := fun x => x.1.length ≤ 100000 ∧ x.2.1.length ≤ 100000, fn := fun x => x.1 ++ x.2.1 }
def cSpread : Contract := { arg := .pair t80 .unit, res := t146, one := true, pre := fun x => x.1.length ≤ 100000, fn := fun x => spread x.1 }
def muMeld (x : Nd × Nd × Unit) : Nat := (heightOf x.1).toNat + (heightOf x.2.1).toNat
def cMeld : Contract := { arg := .pair t131 (.pair t131 .unit), res := t146, one := true, pre := fun x => ∃ h k : Nat, h ≤ 100 ∧ k ≤ 100 ∧ Wf h true x.1 ∧ Wf k true x.2.1, fn := fun x => meld x.1 x.2.1 }
def cJoin : Contract := { arg := .pair t131 (.pair t131 .unit), res := t131, one := true, pre := fun x => WfN x.1 ∧ WfN x.2.1, fn := fun x => join x.1 x.2.1 }
def cRowN : Contract := { arg := .pair t146 .unit, res := t131, one := true, pre := fun x => x.1.length ≤ 100000, fn := fun x => rowN x.1 }
def cTop : Contract := { arg := .pair t77 .unit, res := t131, one := true, pre := fun _ => True, fn := fun x => topT x.1 }
def cSum : Contract := { arg := .pair t77 .unit, res := t92, one := true, pre := fun _ => True, fn := fun x => sumOf (topT x.1) }
def cHeightT : Contract := { arg := .pair t77 .unit, res := t3, one := true, pre := fun _ => True, fn := fun x => heightOf (topT x.1) }
def cTreeNew : Contract := { arg := .pair t80 .unit, res := .pair t77 (.pair t29 .unit), one := false, pre := fun x => x.1.length ≤ 100000, fn := fun x => newT x.1 }
def cItems : Contract := { arg := .pair t77 .unit, res := t80, one := true, pre := fun x => (topT x.1 = .nil ∨ ∃ h : Nat, h ≤ 3 ∧ Wf h true (topT x.1)) ∧ (items (topT x.1)).length ≤ 100000, fn := fun x => items (topT x.1) }
end Go.Fr.Z14
namespace Go.Fr.Z14
open Go Go.Fr Go.Proofs
def zItm : Itm := (0, 0, (0, 0, 0, ()), 0, ByteArray.empty, ())
abbrev Plc := Int × Sm × Int × Unit
abbrev Spt := Int × Int × Unit
abbrev Pce := Int × Int × Unit
abbrev Wve := Option (Tre × Unit)
def reach (v bias e : Int) : Bool := decide (e > v) || (decide (bias = 0) && decide (e = v))
def sizeD (s : Sm) (dim : Int) : Int := if dim = 3 then s.1 else if dim = 0 then s.2.1.1 else if dim = 1 then s.2.1.2.1 else s.2.1.2.2.1
def findL (dim v bias : Int) : List Itm → Sm → Sm
  | [], s => s
  | i :: r, s => if reach v bias (sizeD (addS s (ofI i)) dim) = true then s else findL dim v bias r (addS s (ofI i))
def findK (dim v bias : Int) : List Nd → Sm → Sm × Nd
  | [], s => (s, .nil)
  | k :: r, s => if reach v bias (sizeD (addS s (sumOf k)) dim) = true then (s, k) else findK dim v bias r (addS s (sumOf k))
def findF (dim v bias : Int) : Nat → Nd → Sm → Int → Sm × Int
  | 0, _, s, vis => (s, vis)
  | n + 1, x, s, vis => match x with
    | .nil => (s, vis)
    | .leaf a => (findL dim v bias a.1 s, w64 (vis + 1))
    | .inner ks _ => findF dim v bias n (findK dim v bias ks s).2 (findK dim v bias ks s).1 (w64 (vis + 1))
def findP (t : Nd) (dim v bias : Int) : Plc := ((findF dim v bias 101 t zS 0).1.1, (findF dim v bias 101 t zS 0).1, (findF dim v bias 101 t zS 0).2, ())
def findT (t : Tre) (dim v bias : Int) : Plc × Int × Unit :=
  if dim < 0 ∨ dim > 3 ∨ v < 0 ∨ v > sizeD (sumOf (topT t)) dim ∨ (bias ≠ 0 ∧ bias ≠ 1) then ((0, zS, 0, ()), 1, ()) else (findP (topT t) dim v bias, 0, ())
def atT (t : Tre) (i : Int) : Itm × Int × Unit := if i < 0 ∨ i ≥ ((items (topT t)).length : Int) then (zItm, 1, ()) else ((items (topT t)).getD i.toNat zItm, 0, ())
def okIts (l : List Itm) : Prop := l.length ≤ 100000 ∧ ∀ x ∈ l, checkI x = 0
def okTre (t : Tre) : Prop := WfN (topT t) ∧ okIts (items (topT t))
def plainI (n : Int) : Itm := (0, 0, (n, n, 0, ()), 0, ByteArray.empty, ())
def virtualI (x : Inl) : Itm := (0, x.1, (0, ((decodeL (txt x)).length : Int), 0, ()), 0, ByteArray.empty, ())
def rowF (t : Int) : Int → List Inl → List Itm
  | f, [] => if t > f then [plainI (w64 (t - f))] else []
  | f, x :: r => if x.2.1 > f then plainI (w64 (x.2.1 - f)) :: virtualI x :: rowF t x.2.1 r else virtualI x :: rowF t f r
def weaveI (s : Option ISet) : Wve := some ((newT (rowF (lenI s) 0 (allI s))).1, ())
def treeOf (w : Wve) : Tre := match w with | none => none | some w => w.1
def piecesI (t : Tre) : List Pce := (items (topT t)).map fun i => (i.2.1, i.2.2.1.2.1, ())
def outW (w : Wve) (at_ bias : Int) : Int × Int × Unit :=
  if (findT (treeOf w) 0 at_ bias).2.1 ≠ 0 then (0, (findT (treeOf w) 0 at_ bias).2.1, ())
  else (w64 (w64 ((findT (treeOf w) 0 at_ bias).1.2.1.2.1.2.1 + at_) - (findT (treeOf w) 0 at_ bias).1.2.1.2.1.1), 0, ())
def inW (w : Wve) (at_ : Int) : Int × Int × Int × Unit :=
  if (findT (treeOf w) 1 at_ 1).2.1 ≠ 0 then (0, 0, (findT (treeOf w) 1 at_ 1).2.1, ())
  else if (atT (treeOf w) (findT (treeOf w) 1 at_ 1).1.1).1.2.1 = 0 then (w64 ((findT (treeOf w) 1 at_ 1).1.2.1.2.1.1 + w64 (at_ - (findT (treeOf w) 1 at_ 1).1.2.1.2.1.2.1)), 0, 0, ())
  else if w64 (at_ - (findT (treeOf w) 1 at_ 1).1.2.1.2.1.2.1) = 0 then ((findT (treeOf w) 1 at_ 1).1.2.1.2.1.1, 0, 0, ())
  else ((findT (treeOf w) 1 at_ 1).1.2.1.2.1.1, (atT (treeOf w) (findT (treeOf w) 1 at_ 1).1.1).1.2.1, 0, ())
def lenT (x : Inl) : Int := ((decodeL (txt x)).length : Int)
def refOut (w : WSet) (at_ bias : Int) : Int := (w.2.1).foldl (fun n x => if x.2.1 < at_ ∨ (x.2.1 = at_ ∧ bias = 1) then w64 (n + lenT x) else n) at_
def spotsX (at_ : Int) (l : List Inl) : List Spt := l.flatMap fun x => if x.2.1 = at_ then (decodeL (txt x)).map fun _ => ((at_, x.1, ()) : Spt) else []
def spotsAt (w : WSet) (at_ : Int) : List Spt := spotsX at_ w.2.1 ++ (if at_ < w.1 then [(at_, 0, ())] else [])
def spots (w : WSet) : List Spt := (List.range (w.1 + 1).toNat).flatMap fun k : Nat => spotsAt w (k : Int)
def pceStep (out : List Pce) (x : Spt) : List Pce := if out ≠ [] ∧ (out.getD (out.length - 1) (0, 0, ())).1 = x.2.1 then out.set (out.length - 1) ((out.getD (out.length - 1) (0, 0, ())).1, w64 ((out.getD (out.length - 1) (0, 0, ())).2.1 + 1), ()) else out ++ [(x.2.1, 1, ())]
def refPieces (w : WSet) : List Pce := (spots w).foldl pceStep []
def refIn (w : WSet) (at_ : Int) : Spt :=
  if at_ = ((spots w).length : Int) then (w.1, 0, ())
  else if ((spots w).getD at_.toNat (0, 0, ())).2.1 = 0 ∨ at_ = 0 ∨ ((spots w).getD (at_ - 1).toNat (0, 0, ())).2.1 ≠ ((spots w).getD at_.toNat (0, 0, ())).2.1 then (((spots w).getD at_.toNat (0, 0, ())).1, 0, ()) else (spots w).getD at_.toNat (0, 0, ())
def highB (h n : Int) : Bool := ((List.range (h - 2).toNat).all fun j => decide ((4 : Int) ^ (j + 1) ≤ n + 1)) && ((decide (h = 0) == decide (n = 0)) && decide (h ≥ 0))
def sameP (a b : List Pce) : Bool := decide (a = b)
def longW (n : Int) (l : List Inl) : Bool := decide (n < 0) || decide (n > 300) || decide ((l.length : Int) > 60) || l.any fun x => decide (((txt x).size : Int) > 200)
def isW (w : Wve) (s : WSet) : Bool := w.isSome && decide ((sumOf (topT (treeOf w))).2.1.1 = s.1) && decide ((sumOf (topT (treeOf w))).2.1.2.1 = ((spots s).length : Int)) && sameP (piecesI (treeOf w)) (refPieces s) && highB (heightOf (topT (treeOf w))) ((items (topT (treeOf w))).length : Int)
def fitsW (s : Span) (n : Int) : Bool := decide (0 ≤ s.1) && decide (s.1 ≤ s.2.1) && decide (s.2.1 ≤ n)
def smallW (w : WSet) : Prop := w.2.1.length ≤ 60 ∧ (∀ x ∈ w.2.1, (txt x).size ≤ 1000) ∧ (0 : Int) ≤ w.1 ∧ w.1 ≤ (1000 : Int)
def cSizeD : Contract := { arg := .pair t92 (.pair t3 .unit), res := t3, one := true, pre := fun x => (0 : Int) ≤ x.2.1 ∧ x.2.1 ≤ (3 : Int), fn := fun x => sizeD x.1 x.2.1 }
def cFind : Contract := { arg := .pair t77 (.pair t3 (.pair t3 (.pair t3 .unit))), res := .pair t94 (.pair t29 .unit), one := false, pre := fun x => WfN (topT x.1), fn := fun x => findT x.1 x.2.1 x.2.2.1 x.2.2.2.1 }
def cAt : Contract := { arg := .pair t77 (.pair t3 .unit), res := .pair t99 (.pair t29 .unit), one := false, pre := fun x => okTre x.1, fn := fun x => atT x.1 x.2.1 }
def cPlain : Contract := { arg := .pair t3 .unit, res := t99, one := true, pre := fun _ => True, fn := fun x => plainI x.1 }
def cVirtual : Contract := { arg := .pair t48 .unit, res := t99, one := true, pre := fun x => (txt x.1).size ≤ maxLen, fn := fun x => virtualI x.1 }
def cRow : Contract := { arg := .pair t3 (.pair t3 (.pair t22 .unit)), res := t80, one := true, pre := fun x => x.2.2.1.length ≤ 10000 ∧ shortL x.2.2.1, fn := fun x => rowF x.2.1 x.1 x.2.2.1 }
def cWeave : Contract := { arg := .pair t28 .unit, res := t35, one := true, pre := fun x => (allI x.1).length ≤ 10000 ∧ shortL (allI x.1), fn := fun x => weaveI x.1 }
def cTreeOf : Contract := { arg := .pair t35 .unit, res := t77, one := true, pre := fun _ => True, fn := fun x => treeOf x.1 }
def cSizes : Contract := { arg := .pair t35 .unit, res := .pair t3 (.pair t3 .unit), one := false, pre := fun _ => True, fn := fun x => ((sumOf (topT (treeOf x.1))).2.1.1, (sumOf (topT (treeOf x.1))).2.1.2.1, ()) }
def cPieces : Contract := { arg := .pair t35 .unit, res := t104, one := true, pre := fun x => (topT (treeOf x.1) = .nil ∨ ∃ h : Nat, h ≤ 3 ∧ Wf h true (topT (treeOf x.1))) ∧ (items (topT (treeOf x.1))).length ≤ 10000, fn := fun x => piecesI (treeOf x.1) }
def cHeightW : Contract := { arg := .pair t35 .unit, res := t3, one := true, pre := fun _ => True, fn := fun x => heightOf (topT (treeOf x.1)) }
def cOut : Contract := { arg := .pair t35 (.pair t3 (.pair t3 .unit)), res := .pair t3 (.pair t29 .unit), one := false, pre := fun x => WfN (topT (treeOf x.1)), fn := fun x => outW x.1 x.2.1 x.2.2.1 }
def cIn : Contract := { arg := .pair t35 (.pair t3 .unit), res := .pair t3 (.pair t3 (.pair t29 .unit)), one := false, pre := fun x => okTre (treeOf x.1), fn := fun x => inW x.1 x.2.1 }
def cSpots : Contract := { arg := .pair t33 .unit, res := t106, one := true, pre := fun x => smallW x.1, fn := fun x => spots x.1 }
def cRefPieces : Contract := { arg := .pair t33 .unit, res := t109, one := true, pre := fun x => smallW x.1, fn := fun x => refPieces x.1 }
def cHigh : Contract := { arg := .pair t3 (.pair t3 .unit), res := .bool, one := true, pre := fun x => x.1 ≤ (1000 : Int) ∧ (0 : Int) ≤ x.2.1 ∧ x.2.1 ≤ (1000000 : Int), fn := fun x => highB x.1 x.2.1 }
def cSameP : Contract := { arg := .pair t109 (.pair t109 .unit), res := .bool, one := true, pre := fun x => x.1.length ≤ maxLen ∧ x.2.1.length ≤ maxLen, fn := fun x => sameP x.1 x.2.1 }
def cRefsP : Contract := { arg := .pair t104 .unit, res := t109, one := true, pre := fun x => x.1.length ≤ 1000000, fn := fun x => x.1 }
def cIs : Contract := { arg := .pair t35 (.pair t33 .unit), res := .bool, one := true, pre := fun x => smallW x.2.1 ∧ (topT (treeOf x.1) = .nil ∨ ∃ h : Nat, h ≤ 3 ∧ Wf h true (topT (treeOf x.1))) ∧ (items (topT (treeOf x.1))).length ≤ 10000, fn := fun x => isW x.1 x.2.1 }
def cLong : Contract := { arg := .pair t3 (.pair t22 .unit), res := .bool, one := true, pre := fun x => x.2.1.length ≤ maxLen, fn := fun x => longW x.1 x.2.1 }
def cFits : Contract := { arg := .pair t38 (.pair t3 .unit), res := .bool, one := true, pre := fun _ => True, fn := fun x => fitsW x.1 x.2.1 }
def muSplit (x : Nd × Int × Unit) : Nat := (heightOf x.1).toNat
def spK : List Nd → Nat → Int → Option (Nat × Int)
  | [], _, _ => none
  | k :: r, i, a => if a ≤ (sumOf k).1 then some (i, a) else spK r (i + 1) (w64 (a - (sumOf k).1))
def splitF : Nat → Nd → Int → Nd × Nd
  | 0, _, _ => (.nil, .nil)
  | m + 1, n, a => match n with
    | .nil => (.nil, .nil)
    | .leaf x => if a ≤ 0 then (.nil, .leaf x) else if a ≥ (x.1.length : Int) then (.leaf x, .nil) else (mkLeaf (x.1.take a.toNat), mkLeaf (x.1.drop a.toNat))
    | .inner ks b => match spK ks 0 a with
      | none => (.inner ks b, .nil)
      | some q => (join (rowN (ks.take q.1)) (splitF m (ks.getD q.1 .nil) q.2).1, join (splitF m (ks.getD q.1 .nil) q.2).2 (rowN (ks.drop (q.1 + 1))))
def splitN (n : Nd) (a : Int) : Nd × Nd := splitF (heightOf n).toNat n a
def replN (n mid : Nd) (from_ to : Int) : Nd := join (join (splitN n from_).1 mid) (splitN (splitN n from_).2 (w64 (to - from_))).2
def replT (t : Tre) (from_ to : Int) (l : List Itm) : Tre × Int × Unit :=
  if from_ < 0 ∨ to < from_ ∨ to > (sumOf (topT t)).1 then (none, 1, ())
  else if (newT l).2.1 ≠ 0 then (none, (newT l).2.1, ())
  else if w64 (w64 ((sumOf (topT t)).1 - w64 (to - from_)) + (l.length : Int)) > 30000 then (none, 5, ())
  else (some (replN (topT t) (topT (newT l).1) from_ to, ()), 0, ())
def maxI (a b : Int) : Int := if a < b then b else a
def updL (w : Wve) (old : Span) : Int := if (atT (treeOf w) (findT (treeOf w) 0 old.2.1 1).1.1).2.1 = 0 then w64 ((findT (treeOf w) 0 old.2.1 1).1.1 + 1) else (findT (treeOf w) 0 old.2.1 1).1.1
def updE (w : Wve) (old now : Span) : Int := if (atT (treeOf w) (findT (treeOf w) 0 old.2.1 1).1.1).2.1 = 0 then w64 (now.2.1 + w64 (w64 ((findT (treeOf w) 0 old.2.1 1).1.2.1.2.1.1 + (atT (treeOf w) (findT (treeOf w) 0 old.2.1 1).1.1).1.2.2.1.1) - old.2.1)) else now.2.1
def updR (w : Wve) (old now : Span) (s : Option ISet) : Tre × Int × Unit :=
  replT (treeOf w) (findT (treeOf w) 0 old.1 0).1.1 (maxI (findT (treeOf w) 0 old.1 0).1.1 (updL w old)) (rowF (updE w old now) (findT (treeOf w) 0 old.1 0).1.2.1.2.1.1 ((allI s).filter (inI now.1 now.2.1)))
def updW (w : Wve) (old now : Span) (s : Option ISet) : Wve × Int × Unit :=
  if (fitsW old (sumOf (topT (treeOf w))).2.1.1 && fitsW now (lenI s) && decide (old.1 = now.1) && decide (w64 ((sumOf (topT (treeOf w))).2.1.1 - old.2.1) = w64 (lenI s - now.2.1))) = false then (none, 1, ())
  else if (updR w old now s).2.1 ≠ 0 then (none, (updR w old now s).2.1, ()) else (some ((updR w old now s).1, ()), 0, ())
def cSplit : Contract := { arg := .pair t131 (.pair t3 .unit), res := .pair t131 (.pair t131 .unit), one := false, pre := fun x => WfN x.1 ∧ okIts (items x.1), fn := fun x => ((splitN x.1 x.2.1).1, (splitN x.1 x.2.1).2, ()) }
def cReplace : Contract := { arg := .pair t77 (.pair t3 (.pair t3 (.pair t80 .unit))), res := .pair t77 (.pair t29 .unit), one := false, pre := fun x => okTre x.1 ∧ x.2.2.2.1.length ≤ 100000, fn := fun x => replT x.1 x.2.1 x.2.2.1 x.2.2.2.1 }
def cUpdate : Contract := { arg := .pair t35 (.pair t38 (.pair t38 (.pair t28 .unit))), res := .pair t35 (.pair t29 .unit), one := false, pre := fun x => okTre (treeOf x.1) ∧ (allI x.2.2.2.1).length ≤ 10000 ∧ shortL (allI x.2.2.2.1), fn := fun x => updW x.1 x.2.1 x.2.2.1 x.2.2.2.1 }
def cFour : Contract := { arg := .unit, res := .bool, one := true, pre := fun _ => True, fn := fun _ => true }
def fits2 (n m : Int) (o w : Span) : Bool := decide (o.1 ≥ 0) && decide (o.1 ≤ o.2.1) && decide (o.2.1 ≤ n) && decide (w.1 = o.1) && decide (w.1 ≤ w.2.1) && decide (w.2.1 ≤ m) && decide (w64 (n - o.2.1) = w64 (m - w.2.1))
def cFits2 : Contract := { arg := .pair t3 (.pair t3 (.pair t44 .unit)), res := .bool, one := true, pre := fun _ => True, fn := fun x => fits2 x.1 x.2.1 x.2.2.1.1 x.2.2.1.2.1 }
def cWeaveSplices : Contract := lawC (.pair t3 (.pair t22 (.pair t25 .unit))) (fun x => x.2.1.length ≤ maxLen ∧ x.2.2.1.2.2.1.length ≤ maxLen ∧ x.2.2.1.2.2.2.1.length ≤ maxLen)
def cWeaveEdits : Contract := lawC (.pair t3 (.pair t22 (.pair t51 .unit))) (fun x => x.2.1.length ≤ maxLen)
def fnVCat (E : Env) (fn : Func) (c : Code) (C : Contract) (x : C.arg.den) : Prop :=
  vc E (vcN E deep) bot (bot + fn.ntmps) c ⟨entrySlots C.arg x C.tail bot, [], []⟩ fun e σ => match e with
    | .normal => retVC E bot fn.results.toList C.one C.res σ (C.fn x)
    | .ret => retVC E bot fn.results.toList C.one C.res σ (C.fn x)
    | .exit _ => False
theorem fnVC_at {E : Env} {fn : Func} {c : Code} {C : Contract} (h : ∀ x, C.pre x → fnVCat E fn c C x) : fnVC E fn c C := h
end Go.Fr.Z14
namespace Go.Fr.Z14
open Go Go.Fr Go.Proofs
set_option maxRecDepth 100000
def hs10 : List (Nat × Nat × Hint) := [(0, 3, ⟨[.slot 24 t3, .cell 20 0 (mapT t3 t48)], [0, 1, 2, 8, 22, 23], [20], []⟩),
  (0, 8, ⟨[.slot 35 t3, .cell 20 0 (mapT t3 t48)], [0, 2, 8, 33, 34], [20], []⟩),
  (0, 17, ⟨[.rowS 15 900000015 t48 48, .slot 53 t3], [0, 2, 8, 51, 52], [20], []⟩)]
def nm10 : List Nat := [3000000023]
noncomputable def E10 : Env := env tab [(15, cAll), (31, cLen), (7, cNew)] [] gl hs10 nm10
def vc10 : Prop :=
 ∀
 (x :
 Option (Int × List Inl × Unit) ×
 List Int × List Inl × Unit),
 let y := x.fst;
 let y_1 := x.snd.snd.fst;
 let y_2 := x.snd.fst;
 let y_3 := (↑(List.length y_2) : Int);
 let y_4 := (↑(List.length (allI y)) : Int);
 let y_5 := spliceI y y_2 y_1;
 okI y ∧ List.length y_2 ≤ (10000 : Nat) ∧ List.length y_1 ≤ (10000 : Nat) ∧ shortL y_1 →
 List.length (allI y) ≤ (10000 : Nat) ∧
 (((0 : Int) = (0 : Int) ∧ y = y ∧ y_2 = y_2 ∧ y_1 = y_1 ∧ True ∧ allI y = allI y ∧ y_4 = y_4) ∧ ([] : List (Int × Inl × Unit)) = [] ∧ True) ∧
 ∃ (Z : Int × List (Int × Inl × Unit) × Unit → Prop),
 ∃ (μ : Int × List (Int × Inl × Unit) × Unit → Nat),
 Z ((0 : Int), [], ()) ∧
 ∀ (a : Int),
 let y_6 :=  [((List.getD (allI y) (Int.toNat a) (Ty.dflt t48)).fst,  List.getD (allI y) (Int.toNat a) (Ty.dflt t48), ())];
 let y_7 := IntKind.wrap IntKind.i64 (a + (1 : Int));
 ∀ (a_1 : List (Int × Inl × Unit)),
 let y_8 := a_1 ++ y_6;
 let y_9 := (a, a_1, ());
 let y_10 := (y_7, y_8, ());
 Z y_9 →
 (decide (a < y_4) = true →
 ((0 : Int) ≤ a ∧ a < y_4) ∧
 mget t3 t48 (List.getD (allI y) (Int.toNat a) (Ty.dflt t48)).fst a_1 = none ∧
 ((y_7 = y_7 ∧ y = y ∧ y_2 = y_2 ∧ y_1 = y_1 ∧ True ∧ allI y = allI y ∧ y_4 = y_4) ∧
 y_8 = y_8 ∧ True) ∧
 Z y_10 ∧ μ y_10 < μ y_9) ∧
 (decide (a < y_4) = false →
 (((0 : Int) = (0 : Int) ∧ y = y ∧ y_1 = y_1 ∧ True ∧ y_2 = y_2 ∧ y_3 = y_3) ∧
 a_1 = a_1 ∧ True) ∧
 ∃ (Z : Int × List (Int × Inl × Unit) × Unit → Prop),
 ∃ (μ : Int × List (Int × Inl × Unit) × Unit → Nat),
 Z ((0 : Int), a_1, ()) ∧
 ∀ (a : Int),
 let y_11 := IntKind.wrap IntKind.i64 (a + (1 : Int));
 let y_12 := List.getD y_2 (Int.toNat a) (Ty.dflt t3);
 ∀ (a_3 : List (Int × Inl × Unit)),
 let y_13 := (y_11, mdel t3 t48 y_12 a_3, ());
 let y_14 := (a, a_3, ());
 Z y_14 →
 (decide (a < y_3) = true →
 ((0 : Int) ≤ a ∧ a < y_3) ∧
 ((!Option.isSome (mget t3 t48 y_12 a_3)) = true →
 (none, (6 : Int), ()) = y_5) ∧
 ((!Option.isSome (mget t3 t48 y_12 a_3)) = false →
 ((y_11 = y_11 ∧ y = y ∧ y_1 = y_1 ∧ True ∧ y_2 = y_2 ∧ y_3 = y_3) ∧
 mdel t3 t48 y_12 a_3 = mdel t3 t48 y_12 a_3 ∧ True) ∧
 Z y_13 ∧ μ y_13 < μ y_14)) ∧
 (decide (a < y_3) = false →
 List.length (allI y) ≤ (10000 : Nat) ∧
 (((0 : Int) = (0 : Int) ∧
 True ∧ y = y ∧ y_1 = y_1 ∧ True ∧ allI y = allI y ∧ y_4 = y_4) ∧
 (a_3 = a_3 ∧ True) ∧ True ∧ True) ∧
 ∃ (Z :
 List Inl × Int × Unit → Prop),
 ∃ (μ :
 List Inl × Int × Unit → Nat),
 Z ([], (0 : Int), ()) ∧
 ∀ (a : List Inl),
 let y_15 := a ++ y_1;
 ∀ (a_5 : Int),
 let y_16 := IntKind.wrap IntKind.i64 (a_5 + (1 : Int));
 let y_17 := (a, a_5, ());
 let y_18 :=  a ++ [List.getD (allI y) (Int.toNat a_5) (Ty.dflt t48)];
 let y_19 :=  List.length a +  List.length  [List.getD (allI y) (Int.toNat a_5) (Ty.dflt t48)];
 let y_20 :=  Option.isSome  (mget t3 t48  (List.getD (allI y) (Int.toNat a_5) (Ty.dflt t48)).fst  a_3);
 let y_21 := (y_18, y_16, ());
 let y_22 := (a, y_16, ());
 Z y_17 →
 (decide (a_5 < y_4) = true →
 ((0 : Int) ≤ a_5 ∧ a_5 < y_4) ∧
 (y_20 = true →
 y_19 * (48 : Nat) ≤ (140737488355328 : Nat) ∧
 y_19 ≤ maxLen ∧
 ((y_16 = y_16 ∧
 True ∧
 y = y ∧
 y_1 = y_1 ∧
 True ∧
 allI y = allI y ∧ y_4 = y_4) ∧
 (a_3 = a_3 ∧ True) ∧ y_18 = y_18 ∧ True) ∧
 Z y_21 ∧ μ y_21 < μ y_17) ∧
 (y_20 = false →
 ((y_16 = y_16 ∧
 True ∧
 y = y ∧
 y_1 = y_1 ∧
 True ∧ allI y = allI y ∧ y_4 = y_4) ∧
 (a_3 = a_3 ∧ True) ∧ a = a ∧ True) ∧
 Z y_22 ∧ μ y_22 < μ y_17)) ∧
 (decide (a_5 < y_4) = false →
 True ∧
 (List.length a + List.length y_1) * (48 : Nat) ≤
 (140737488355328 : Nat) ∧
 List.length a + List.length y_1 ≤ maxLen ∧
 (List.length y_15 ≤ maxLen ∧ shortL y_15) ∧
 newI (lenI y) y_15 = y_5)))
theorem vcEq10 : fnVC E10 Tryz.f10 (bodyOf Tryz.f10) cSplice = vc10 := by kernel_rfl
def hs11 : List (Nat × Nat × Hint) := [(0, 4, ⟨[.rowS 7 900000007 t48 48, .slot 8 t3, .slot 15 t3], [1, 2, 3, 6, 13, 14], [3, 6], []⟩)]
def nm11 : List Nat := [3000000023]
noncomputable def E11 : Env := env tab [(32, cTimes), (8, cRefNew)] [] gl hs11 nm11
def vc11 : Prop :=
 ∀
 (x :
 (Int × List Inl × Int × Unit) ×
 List Int × List Inl × Unit),
 let y := x.fst.snd.fst;
 let y_1 := x.snd;
 let y_2 := x.fst.snd.snd.fst;
 let y_3 := x.fst.fst;
 let y_4 := y_1.snd.fst;
 let y_5 := y_1.fst;
 let y_6 := (↑(List.length y) : Int);
 okW x.fst ∧ List.length y_5 ≤ (10000 : Nat) ∧ List.length y_4 ≤ (10000 : Nat) ∧ shortL y_4 →
 (((0 : Int) = (0 : Int) ∧ (0 : Int) = (0 : Int) ∧ True ∧ y_5 = y_5 ∧ y_4 = y_4 ∧ True ∧ True ∧ y = y ∧ y_6 = y_6) ∧
 ((y_3 = y_3 ∧ y = y ∧ y_2 = y_2) ∧
 (0 : Int) = (0 : Int) ∧
 Value.slice none (0 : Nat) (0 : Nat) = Value.slice none (0 : Nat) (0 : Nat) ∧ (0 : Int) = (0 : Int)) ∧
 True ∧ True) ∧
 ∃ (Z : List Inl × Int × Int × Unit → Prop),
 ∃ (μ : List Inl × Int × Int × Unit → Nat),
 Z ([], (0 : Int), (0 : Int), ()) ∧
 ∀ (a : List Inl),
 let y_7 := a ++ y_4;
 ∀ (a_1 : Int),
 let y_8 := IntKind.wrap IntKind.i64 (a_1 + (1 : Int));
 ∀ (a_2 : Int),
 let y_9 := (a, a_1, a_2, ());
 let y_10 := a ++ [List.getD y (Int.toNat a_2) (Ty.dflt t48)];
 let y_11 := IntKind.wrap IntKind.i64 (a_2 + (1 : Int));
 let y_12 := timesI (List.getD y (Int.toNat a_2) (Ty.dflt t48)).fst y_5;
 let y_13 := List.length a + List.length [List.getD y (Int.toNat a_2) (Ty.dflt t48)];
 let y_14 := y_12 == (1 : Int);
 let y_15 := (a, y_8, y_11, ());
 let y_16 := (a, a_1, y_11, ());
 let y_17 := (y_10, y_8, y_11, ());
 let y_18 := (y_10, a_1, y_11, ());
 Z y_9 →
 (decide (a_2 < y_6) = true →
 ((0 : Int) ≤ a_2 ∧ a_2 < y_6) ∧
 List.length y_5 ≤ maxLen ∧
 ((y_12 == (0 : Int)) = true →
 y_13 * (48 : Nat) ≤ (140737488355328 : Nat) ∧
 y_13 ≤ maxLen ∧
 (y_14 = true →
 ((y_11 = y_11 ∧
 y_8 = y_8 ∧
 True ∧ y_5 = y_5 ∧ y_4 = y_4 ∧ True ∧ True ∧ y = y ∧ y_6 = y_6) ∧
 ((y_3 = y_3 ∧ y = y ∧ y_2 = y_2) ∧
 (0 : Int) = (0 : Int) ∧
 Value.slice none (0 : Nat) (0 : Nat) =
 Value.slice none (0 : Nat) (0 : Nat) ∧
 (0 : Int) = (0 : Int)) ∧
 y_10 = y_10 ∧ True) ∧
 Z y_17 ∧ μ y_17 < μ y_9) ∧
 (y_14 = false →
 ((y_11 = y_11 ∧
 a_1 = a_1 ∧
 True ∧ y_5 = y_5 ∧ y_4 = y_4 ∧ True ∧ True ∧ y = y ∧ y_6 = y_6) ∧
 ((y_3 = y_3 ∧ y = y ∧ y_2 = y_2) ∧
 (0 : Int) = (0 : Int) ∧
 Value.slice none (0 : Nat) (0 : Nat) =
 Value.slice none (0 : Nat) (0 : Nat) ∧
 (0 : Int) = (0 : Int)) ∧
 y_10 = y_10 ∧ True) ∧
 Z y_18 ∧ μ y_18 < μ y_9)) ∧
 ((y_12 == (0 : Int)) = false →
 (y_14 = true →
 ((y_11 = y_11 ∧
 y_8 = y_8 ∧ True ∧ y_5 = y_5 ∧ y_4 = y_4 ∧ True ∧ True ∧ y = y ∧ y_6 = y_6) ∧
 ((y_3 = y_3 ∧ y = y ∧ y_2 = y_2) ∧
 (0 : Int) = (0 : Int) ∧
 Value.slice none (0 : Nat) (0 : Nat) =
 Value.slice none (0 : Nat) (0 : Nat) ∧
 (0 : Int) = (0 : Int)) ∧
 a = a ∧ True) ∧
 Z y_15 ∧ μ y_15 < μ y_9) ∧
 (y_14 = false →
 ((y_11 = y_11 ∧
 a_1 = a_1 ∧ True ∧ y_5 = y_5 ∧ y_4 = y_4 ∧ True ∧ True ∧ y = y ∧ y_6 = y_6) ∧
 ((y_3 = y_3 ∧ y = y ∧ y_2 = y_2) ∧
 (0 : Int) = (0 : Int) ∧
 Value.slice none (0 : Nat) (0 : Nat) =
 Value.slice none (0 : Nat) (0 : Nat) ∧
 (0 : Int) = (0 : Int)) ∧
 a = a ∧ True) ∧
 Z y_16 ∧ μ y_16 < μ y_9))) ∧
 (decide (a_2 < y_6) = false →
 (decide (a_1 < (↑(List.length y_5) : Int)) = true →
 ((0 : Int), [], (6 : Int), ()) = spliceW x.fst y_5 y_4) ∧
 (decide (a_1 < (↑(List.length y_5) : Int)) = false →
 (List.length a + List.length y_4) * (48 : Nat) ≤ (140737488355328 : Nat) ∧
 List.length a + List.length y_4 ≤ maxLen ∧
 (List.length y_7 ≤ maxLen ∧ shortL y_7) ∧ newW y_3 y_7 = spliceW x.fst y_5 y_4))
theorem vcEq11 : fnVC E11 Tryz.f11 (bodyOf Tryz.f11) cRefSplice = vc11 := by kernel_rfl
def hs13 : List (Nat × Nat × Hint) := []
def nm13 : List Nat := [3000000023]
noncomputable def E13 : Env := env tab [] [] gl hs13 nm13
def vc13 : Prop :=
 ∀ (x : Int × Int × ((Int × Int × Unit) × (Int × Int × Unit) × Unit) × Unit),
 True →
 ((0 : Int) ≤ (0 : Int) ∧ (0 : Int) < (↑(2 : Nat) : Int)) ∧
 ((0 : Int) ≤ (1 : Int) ∧ (1 : Int) < (↑(2 : Nat) : Int)) ∧
 (decide (x.snd.snd.fst.fst.fst ≥ (0 : Int)) = true →
 (decide (x.snd.snd.fst.fst.fst ≤ x.snd.snd.fst.fst.snd.fst) = true →
 (decide (x.snd.snd.fst.fst.snd.fst ≤ x.fst) = true →
 ((x.snd.snd.fst.snd.fst.fst == x.snd.snd.fst.fst.fst) = true →
 (decide (x.snd.snd.fst.snd.fst.fst ≤ x.snd.snd.fst.snd.fst.snd.fst) = true →
 (decide (x.snd.snd.fst.snd.fst.snd.fst ≤ x.snd.fst) = true →
 (IntKind.wrap IntKind.i64 (x.fst - x.snd.snd.fst.fst.snd.fst) ==
 IntKind.wrap IntKind.i64 (x.snd.fst - x.snd.snd.fst.snd.fst.snd.fst)) =
 fits2 x.fst x.snd.fst x.snd.snd.fst.fst x.snd.snd.fst.snd.fst) ∧
 (decide (x.snd.snd.fst.snd.fst.snd.fst ≤ x.snd.fst) = false →
 false = fits2 x.fst x.snd.fst x.snd.snd.fst.fst x.snd.snd.fst.snd.fst)) ∧
 (decide (x.snd.snd.fst.snd.fst.fst ≤ x.snd.snd.fst.snd.fst.snd.fst) = false →
 false = fits2 x.fst x.snd.fst x.snd.snd.fst.fst x.snd.snd.fst.snd.fst)) ∧
 ((x.snd.snd.fst.snd.fst.fst == x.snd.snd.fst.fst.fst) = false →
 false = fits2 x.fst x.snd.fst x.snd.snd.fst.fst x.snd.snd.fst.snd.fst)) ∧
 (decide (x.snd.snd.fst.fst.snd.fst ≤ x.fst) = false →
 false = fits2 x.fst x.snd.fst x.snd.snd.fst.fst x.snd.snd.fst.snd.fst)) ∧
 (decide (x.snd.snd.fst.fst.fst ≤ x.snd.snd.fst.fst.snd.fst) = false →
 false = fits2 x.fst x.snd.fst x.snd.snd.fst.fst x.snd.snd.fst.snd.fst)) ∧
 (decide (x.snd.snd.fst.fst.fst ≥ (0 : Int)) = false →
 false = fits2 x.fst x.snd.fst x.snd.snd.fst.fst x.snd.snd.fst.snd.fst)
theorem vcEq13 : fnVC E13 Tryz.f13 (bodyOf Tryz.f13) cFits2 = vc13 := by kernel_rfl
def hs17 : List (Nat × Nat × Hint) := [(0, 6, ⟨[.slot 5 t3, .slot 6 t3, .slot 20 t3], [1, 2, 4, 18, 19], [2, 4], []⟩),
  (0, 15, ⟨[.rowS 9 900000009 t48 48, .slot 57 t3], [1, 4, 5, 55, 56], [4], []⟩)]
def nm17 : List Nat := [3000000023]
noncomputable def E17 : Env := env tab [(50, cRefNormal), (51, cRefMap), (8, cRefNew)] [] gl hs17 nm17
def vc17 : Prop :=
 ∀
 (x :
 (Int × List Inl × Int × Unit) ×
 List ((Int × Int × Unit) × (Int × Int × Unit) × Unit) × Unit),
 let y := x.fst.snd.fst;
 let y_1 := x.snd.fst;
 let y_2 := x.fst.fst;
 let y_3 := x.fst.snd.snd.fst;
 let y_4 := (↑(List.length y_1) : Int);
 let y_5 := shiftW x.fst y_1;
 let y_6 := (↑(List.length y) : Int);
 okW x.fst ∧
 (∀ (m : Ty.den t48),
 let y_7 := m.snd.fst;
 m ∈ y → (0 : Int) ≤ y_7 ∧ y_7 ≤ (1099511627776 : Int)) ∧
 List.length y_1 ≤ (1000 : Nat) →
 List.length y_1 ≤ maxLen ∧
 ((!normal y_1) = true → ((0 : Int), [], (4 : Int), ()) = y_5) ∧
 ((!normal y_1) = false →
 (((0 : Int) = (0 : Int) ∧
 (0 : Int) = (0 : Int) ∧ y_2 = y_2 ∧ y_1 = y_1 ∧ True ∧ True ∧ y_1 = y_1 ∧ y_4 = y_4) ∧
 (y_2 = y_2 ∧ y = y ∧ y_3 = y_3) ∧
 (0 : Int) = (0 : Int) ∧
 Value.slice none (0 : Nat) (0 : Nat) = Value.slice none (0 : Nat) (0 : Nat) ∧ (0 : Int) = (0 : Int)) ∧
 ∃ (Z : Int × Int × Int × Unit → Prop),
 ∃ (μ : Int × Int × Int × Unit → Nat),
 Z (y_2, (0 : Int), (0 : Int), ()) ∧
 ∀ (a a_1 a_2 : Int),
 let y_7 :=  IntKind.wrap IntKind.i64  (IntKind.wrap IntKind.i64  (a +  IntKind.wrap IntKind.i64  ((List.getD y_1 (Int.toNat a_2) (Ty.dflt t55)).snd.fst.snd.fst -  (List.getD y_1 (Int.toNat a_2) (Ty.dflt t55)).snd.fst.fst)) -  IntKind.wrap IntKind.i64  ((List.getD y_1 (Int.toNat a_2) (Ty.dflt t55)).fst.snd.fst -  (List.getD y_1 (Int.toNat a_2) (Ty.dflt t55)).fst.fst));
 let y_8 := (a, a_1, a_2, ());
 let y_9 := (List.getD y_1 (Int.toNat a_2) (Ty.dflt t55)).fst.snd.fst;
 let y_10 := IntKind.wrap IntKind.i64 (a_2 + (1 : Int));
 let y_11 := (y_7, y_9, y_10, ());
 Z y_8 →
 (decide (a_2 < y_4) = true →
 ((0 : Int) ≤ a_2 ∧ a_2 < y_4) ∧
 ((y_10 = y_10 ∧ y_9 = y_9 ∧ y_7 = y_7 ∧ y_1 = y_1 ∧ True ∧ True ∧ y_1 = y_1 ∧ y_4 = y_4) ∧
 (y_2 = y_2 ∧ y = y ∧ y_3 = y_3) ∧
 (0 : Int) = (0 : Int) ∧
 Value.slice none (0 : Nat) (0 : Nat) = Value.slice none (0 : Nat) (0 : Nat) ∧
 (0 : Int) = (0 : Int)) ∧
 Z y_11 ∧ μ y_11 < μ y_8) ∧
 (decide (a_2 < y_4) = false →
 (decide (a_1 > y_2) = true → ((0 : Int), [], (1 : Int), ()) = y_5) ∧
 (decide (a_1 > y_2) = false →
 (decide (a > (1099511627776 : Int)) = true → ((0 : Int), [], (1 : Int), ()) = y_5) ∧
 (decide (a > (1099511627776 : Int)) = false →
 (((0 : Int) = (0 : Int) ∧ True ∧ y_1 = y_1 ∧ True ∧ a = a ∧ y = y ∧ y_6 = y_6) ∧
 ((0 : Int) = (0 : Int) ∧
 Value.slice none (0 : Nat) (0 : Nat) = Value.slice none (0 : Nat) (0 : Nat) ∧
 (0 : Int) = (0 : Int)) ∧
 True ∧ True) ∧
 ∃ (Z : List Inl × Int × Unit → Prop),
 ∃ (μ : List Inl × Int × Unit → Nat),
 Z ([], (0 : Int), ()) ∧
 ∀ (a_7 : List Inl) (a_8 : Int),
 let y_12 :=  [((List.getD y (Int.toNat a_8) (Ty.dflt t48)).fst,  refMap (List.getD y (Int.toNat a_8) (Ty.dflt t48)).snd.fst  (List.getD y (Int.toNat a_8) (Ty.dflt t48)).snd.snd.fst y_1  (0 : Int),  (List.getD y (Int.toNat a_8) (Ty.dflt t48)).snd.snd)];
 let y_13 := (a_7, a_8, ());
 let y_14 := (List.getD y (Int.toNat a_8) (Ty.dflt t48)).snd.fst;
 let y_15 := IntKind.wrap IntKind.i64 (a_8 + (1 : Int));
 let y_16 := (a_7 ++ y_12, y_15, ());
 Z y_13 →
 (decide (a_8 < y_6) = true →
 ((0 : Int) ≤ a_8 ∧ a_8 < y_6) ∧
 (List.length y_1 ≤ maxLen ∧
 normal y_1 = true ∧
 (0 : Int) ≤ y_14 ∧ y_14 ≤ (1099511627776 : Int)) ∧
 (List.length a_7 + List.length y_12) * (48 : Nat) ≤
 (140737488355328 : Nat) ∧
 List.length a_7 + List.length y_12 ≤ maxLen ∧
 ((y_15 = y_15 ∧
 True ∧ y_1 = y_1 ∧ True ∧ a = a ∧ y = y ∧ y_6 = y_6) ∧
 ((0 : Int) = (0 : Int) ∧
 Value.slice none (0 : Nat) (0 : Nat) =
 Value.slice none (0 : Nat) (0 : Nat) ∧
 (0 : Int) = (0 : Int)) ∧
 a_7 ++ y_12 = a_7 ++ y_12 ∧ True) ∧
 Z y_16 ∧ μ y_16 < μ y_13) ∧
 (decide (a_8 < y_6) = false →
 (List.length a_7 ≤ maxLen ∧ shortL a_7) ∧ newW a a_7 = y_5)))))
theorem vcEq17 : fnVC E17 Tryz.f17 (bodyOf Tryz.f17) cRefShift = vc17 := by kernel_rfl
def hs32 : List (Nat × Nat × Hint) := [(0, 3, ⟨[.slot 5 t3, .slot 10 t3], [0, 8, 9], [], []⟩)]
def nm32 : List Nat := [3000000023]
noncomputable def E32 : Env := env tab [] [] gl hs32 nm32
def vc32 : Prop :=
 ∀ (x : Int × List Int × Unit),
 List.length x.snd.fst ≤ maxLen →
 ((0 : Int) = (0 : Int) ∧
 (0 : Int) = (0 : Int) ∧
 x.fst = x.fst ∧ x.snd.fst = x.snd.fst ∧ (↑(List.length x.snd.fst) : Int) = (↑(List.length x.snd.fst) : Int)) ∧
 ∃ (Z : Int × Int × Unit → Prop),
 ∃ (μ : Int × Int × Unit → Nat),
 Z ((0 : Int), (0 : Int), ()) ∧
 ∀ (a a_1 : Int),
 Z (a, a_1, ()) →
 (decide (a_1 < (↑(List.length x.snd.fst) : Int)) = true →
 ((0 : Int) ≤ a_1 ∧ a_1 < (↑(List.length x.snd.fst) : Int)) ∧
 ((List.getD x.snd.fst (Int.toNat a_1) (Ty.dflt t3) == x.fst) = true →
 (IntKind.wrap IntKind.i64 (a_1 + (1 : Int)) = IntKind.wrap IntKind.i64 (a_1 + (1 : Int)) ∧
 IntKind.wrap IntKind.i64 (a + (1 : Int)) = IntKind.wrap IntKind.i64 (a + (1 : Int)) ∧
 x.fst = x.fst ∧
 x.snd.fst = x.snd.fst ∧
 (↑(List.length x.snd.fst) : Int) = (↑(List.length x.snd.fst) : Int)) ∧
 Z
 (IntKind.wrap IntKind.i64 (a + (1 : Int)), IntKind.wrap IntKind.i64 (a_1 + (1 : Int)),
 ()) ∧
 μ
 (IntKind.wrap IntKind.i64 (a + (1 : Int)), IntKind.wrap IntKind.i64 (a_1 + (1 : Int)),
 ()) <
 μ (a, a_1, ())) ∧
 ((List.getD x.snd.fst (Int.toNat a_1) (Ty.dflt t3) == x.fst) = false →
 (IntKind.wrap IntKind.i64 (a_1 + (1 : Int)) = IntKind.wrap IntKind.i64 (a_1 + (1 : Int)) ∧
 a = a ∧
 x.fst = x.fst ∧
 x.snd.fst = x.snd.fst ∧
 (↑(List.length x.snd.fst) : Int) = (↑(List.length x.snd.fst) : Int)) ∧
 Z (a, IntKind.wrap IntKind.i64 (a_1 + (1 : Int)), ()) ∧
 μ (a, IntKind.wrap IntKind.i64 (a_1 + (1 : Int)), ()) < μ (a, a_1, ()))) ∧
 (decide (a_1 < (↑(List.length x.snd.fst) : Int)) = false → a = timesI x.fst x.snd.fst)
theorem vcEq32 : fnVC E32 Tryz.f32 (bodyOf Tryz.f32) cTimes = vc32 := by kernel_rfl
def hs47 : List (Nat × Nat × Hint) := [(0, 3, ⟨[.slot 9 t3, .cell 3 0 t3, .cell 3 1 t3, .cell 3 2 t3, .cell 3 3 t3], [3, 7, 8], [3], []⟩)]
def nm47 : List Nat := [3000000023]
noncomputable def E47 : Env := env tab [(80, cWithin), (81, cSize)] [] gl hs47 nm47
def vc47 : Prop :=
 ∀ (x : List ((Int × Int × Unit) × (Int × Int × Unit) × Unit) × Unit),
 let y := x.fst;
 let y_1 := (↑(List.length y) : Int);
 List.length y ≤ maxLen →
 (((0 : Int) = (0 : Int) ∧ True ∧ y = y ∧ y_1 = y_1) ∧
 (0 : Int) = (0 : Int) ∧ (0 : Int) = (0 : Int) ∧ (0 : Int) = (0 : Int) ∧ (0 : Int) = (0 : Int)) ∧
 ∃ (Z : Int × Int × Int × Int × Int × Unit → Prop),
 ∃ (μ : Int × Int × Int × Int × Int × Unit → Nat),
 Z ((0 : Int), (0 : Int), (0 : Int), (0 : Int), (0 : Int), ()) ∧
 ∀ (a : Int),
 let y_2 :=  (IntKind.wrap IntKind.i64 (a + (1 : Int)), (List.getD y (Int.toNat a) (Ty.dflt t51)).fst.fst,  (List.getD y (Int.toNat a) (Ty.dflt t51)).fst.snd.fst,  (List.getD y (Int.toNat a) (Ty.dflt t51)).snd.fst);
 let y_3 := (List.getD y (Int.toNat a) (Ty.dflt t51)).fst;
 let y_4 := (List.getD y (Int.toNat a) (Ty.dflt t51)).snd.fst;
 let y_5 := IntKind.wrap IntKind.i64 (a + (1 : Int));
 let y_6 := y_4.snd.fst;
 let y_7 := y_4.fst;
 let y_8 := y_4.fst;
 let y_9 := y_3.fst;
 let y_10 := IntKind.wrap IntKind.i64 (size y_3 + size y_4) == (0 : Int);
 let y_11 := y_3.snd.fst;
 ∀ (a_1 a_2 : Int),
 let y_12 := IntKind.wrap IntKind.i64 (y_9 - a_2);
 ∀ (a_3 a_4 : Int),
 let y_13 := (a, a_1, a_2, a_3, a_4, ());
 Z y_13 →
 (decide (a < y_1) = true →
 ((0 : Int) ≤ a ∧ a < y_1) ∧
 True ∧
 ((!within y_3) = true → false = normal y) ∧
 ((!within y_3) = false →
 True ∧
 ((!within y_4) = true → false = normal y) ∧
 ((!within y_4) = false →
 True ∧
 True ∧
 (y_10 = true → false = normal y) ∧
 (y_10 = false →
 ((y_12 != IntKind.wrap IntKind.i64 (y_8 - a_4)) = true →
 false = normal y) ∧
 ((y_12 != IntKind.wrap IntKind.i64 (y_8 - a_4)) = false →
 (decide (y_12 < (0 : Int)) = true → false = normal y) ∧
 (decide (y_12 < (0 : Int)) = false →
 ((y_12 == (0 : Int)) = true →
 (decide (a > (0 : Int)) = true → false = normal y) ∧
 (decide (a > (0 : Int)) = false →
 ((y_5 = y_5 ∧ True ∧ y = y ∧ y_1 = y_1) ∧
 y_9 = y_9 ∧
 y_11 = y_11 ∧ y_8 = y_7 ∧ y_4.snd.fst = y_6) ∧
 Z y_2 ∧ μ y_2 < μ y_13)) ∧
 ((y_12 == (0 : Int)) = false →
 ((y_5 = y_5 ∧ True ∧ y = y ∧ y_1 = y_1) ∧
 y_9 = y_9 ∧ y_11 = y_11 ∧ y_8 = y_7 ∧ y_4.snd.fst = y_6) ∧
 Z y_2 ∧ μ y_2 < μ y_13))))))) ∧
 (decide (a < y_1) = false → true = normal y)
theorem vcEq47 : fnVC E47 Tryz.f47 (bodyOf Tryz.f47) cNormal = vc47 := by kernel_rfl
def hs48 : List (Nat × Nat × Hint) := [(0, 3, ⟨[.slot 3 t3, .slot 8 t3], [6, 7], [], []⟩)]
def nm48 : List Nat := [3000000023]
noncomputable def E48 : Env := env tab [(81, cSize)] [] gl hs48 nm48
def vc48 : Prop :=
 ∀ (x : List ((Int × Int × Unit) × (Int × Int × Unit) × Unit) × Unit),
 List.length x.fst ≤ maxLen →
 ((0 : Int) = (0 : Int) ∧
 (0 : Int) = (0 : Int) ∧ x.fst = x.fst ∧ (↑(List.length x.fst) : Int) = (↑(List.length x.fst) : Int)) ∧
 ∃ (Z : Int × Int × Unit → Prop),
 ∃ (μ : Int × Int × Unit → Nat),
 Z ((0 : Int), (0 : Int), ()) ∧
 ∀ (a a_1 : Int),
 Z (a, a_1, ()) →
 (decide (a_1 < (↑(List.length x.fst) : Int)) = true →
 ((0 : Int) ≤ a_1 ∧ a_1 < (↑(List.length x.fst) : Int)) ∧
 True ∧
 True ∧
 (IntKind.wrap IntKind.i64 (a_1 + (1 : Int)) = IntKind.wrap IntKind.i64 (a_1 + (1 : Int)) ∧
 IntKind.wrap IntKind.i64
 (a +
 IntKind.wrap IntKind.i64
 (size (List.getD x.fst (Int.toNat a_1) (Ty.dflt t51)).snd.fst -
 size (List.getD x.fst (Int.toNat a_1) (Ty.dflt t51)).fst)) =
 IntKind.wrap IntKind.i64
 (a +
 IntKind.wrap IntKind.i64
 (size (List.getD x.fst (Int.toNat a_1) (Ty.dflt t51)).snd.fst -
 size (List.getD x.fst (Int.toNat a_1) (Ty.dflt t51)).fst)) ∧
 x.fst = x.fst ∧ (↑(List.length x.fst) : Int) = (↑(List.length x.fst) : Int)) ∧
 Z
 (IntKind.wrap IntKind.i64
 (a +
 IntKind.wrap IntKind.i64
 (size (List.getD x.fst (Int.toNat a_1) (Ty.dflt t51)).snd.fst -
 size (List.getD x.fst (Int.toNat a_1) (Ty.dflt t51)).fst)),
 IntKind.wrap IntKind.i64 (a_1 + (1 : Int)), ()) ∧
 μ
 (IntKind.wrap IntKind.i64
 (a +
 IntKind.wrap IntKind.i64
 (size (List.getD x.fst (Int.toNat a_1) (Ty.dflt t51)).snd.fst -
 size (List.getD x.fst (Int.toNat a_1) (Ty.dflt t51)).fst)),
 IntKind.wrap IntKind.i64 (a_1 + (1 : Int)), ()) <
 μ (a, a_1, ())) ∧
 (decide (a_1 < (↑(List.length x.fst) : Int)) = false → a = delta x.fst)
theorem vcEq48 : fnVC E48 Tryz.f48 (bodyOf Tryz.f48) cDelta = vc48 := by kernel_rfl
def hs49 : List (Nat × Nat × Hint) := [(0, 7, ⟨[.slot 8 t3, .slot 32 t3], [1, 2, 30, 31], [], []⟩)]
def nm49 : List Nat := [3000000023]
noncomputable def E49 : Env := env tab [(47, cNormal)] [] gl hs49 nm49
def vc49 : Prop :=
 ∀ (x : List ((Int × Int × Unit) × (Int × Int × Unit) × Unit) × Int × Int × Unit),
 let y := x.fst;
 let y_1 := x.snd.fst;
 let y_2 := x.snd.snd.fst;
 let y_3 := y_2 == (0 : Int);
 let y_4 := mapP y y_1 y_2;
 let y_5 := (↑(List.length y) : Int);
 List.length y ≤ maxLen →
 List.length y ≤ maxLen ∧
 ((!normal y) = true → ((0 : Int), (4 : Int), ()) = y_4) ∧
 ((!normal y) = false →
 (decide (y_1 < (0 : Int)) = true → ((0 : Int), (1 : Int), ()) = y_4) ∧
 (decide (y_1 < (0 : Int)) = false →
 (decide (y_1 > (1099511627776 : Int)) = true → ((0 : Int), (1 : Int), ()) = y_4) ∧
 (decide (y_1 > (1099511627776 : Int)) = false →
 ((y_2 != (0 : Int)) = true →
 ((y_2 != (1 : Int)) = true → ((0 : Int), (1 : Int), ()) = y_4) ∧
 ((y_2 != (1 : Int)) = false →
 ((0 : Int) = (0 : Int) ∧ (0 : Int) = (0 : Int) ∧ y_1 = y_1 ∧ y_2 = y_2 ∧ y = y ∧ y_5 = y_5) ∧
 ∃ (Z : Int × Int × Unit → Prop),
 ∃ (μ : Int × Int × Unit → Nat),
 Z ((0 : Int), (0 : Int), ()) ∧
 ∀ (a : Int),
 let y_6 := (IntKind.wrap IntKind.i64 (y_1 + a), (0 : Int), ());
 ∀ (a_1 : Int),
 let y_7 := (List.getD y (Int.toNat a_1) (Ty.dflt t51)).fst.snd.fst;
 let y_8 := (a, a_1, ());
 let y_9 := (List.getD y (Int.toNat a_1) (Ty.dflt t51)).fst.fst;
 let y_10 := (List.getD y (Int.toNat a_1) (Ty.dflt t51)).snd.fst.snd.fst;
 let y_11 := IntKind.wrap IntKind.i64 (a_1 + (1 : Int));
 let y_12 := IntKind.wrap IntKind.i64 (y_10 - y_7);
 let y_13 := decide (y_1 ≤ y_7);
 let y_14 := (y_12, y_11, ());
 Z y_8 →
 (decide (a_1 < y_5) = true →
 ((0 : Int) ≤ a_1 ∧ a_1 < y_5) ∧
 (decide (y_1 < y_9) = true → y_6 = y_4) ∧
 (decide (y_1 < y_9) = false →
 (y_13 = true →
 (y_3 = true →
 ((List.getD y (Int.toNat a_1) (Ty.dflt t51)).snd.fst.fst,
 (0 : Int), ()) =
 y_4) ∧
 (y_3 = false →
 (y_13 = true → (y_10, (0 : Int), ()) = y_4) ∧
 (y_13 = false →
 (y_11 = y_11 ∧
 y_12 = y_12 ∧
 y_1 = y_1 ∧ y_2 = y_2 ∧ y = y ∧ y_5 = y_5) ∧
 Z y_14 ∧ μ y_14 < μ y_8))) ∧
 (y_13 = false →
 (y_13 = true → (y_10, (0 : Int), ()) = y_4) ∧
 (y_13 = false →
 (y_11 = y_11 ∧
 y_12 = y_12 ∧ y_1 = y_1 ∧ y_2 = y_2 ∧ y = y ∧ y_5 = y_5) ∧
 Z y_14 ∧ μ y_14 < μ y_8)))) ∧
 (decide (a_1 < y_5) = false → y_6 = y_4))) ∧
 ((y_2 != (0 : Int)) = false →
 ((0 : Int) = (0 : Int) ∧ (0 : Int) = (0 : Int) ∧ y_1 = y_1 ∧ y_2 = y_2 ∧ y = y ∧ y_5 = y_5) ∧
 ∃ (Z : Int × Int × Unit → Prop),
 ∃ (μ : Int × Int × Unit → Nat),
 Z ((0 : Int), (0 : Int), ()) ∧
 ∀ (a : Int),
 let y_6 := (IntKind.wrap IntKind.i64 (y_1 + a), (0 : Int), ());
 ∀ (a_1 : Int),
 let y_7 := (List.getD y (Int.toNat a_1) (Ty.dflt t51)).fst.snd.fst;
 let y_8 := (a, a_1, ());
 let y_9 := (List.getD y (Int.toNat a_1) (Ty.dflt t51)).fst.fst;
 let y_10 := (List.getD y (Int.toNat a_1) (Ty.dflt t51)).snd.fst.snd.fst;
 let y_11 := IntKind.wrap IntKind.i64 (a_1 + (1 : Int));
 let y_12 := IntKind.wrap IntKind.i64 (y_10 - y_7);
 let y_13 := decide (y_1 ≤ y_7);
 let y_14 := (y_12, y_11, ());
 Z y_8 →
 (decide (a_1 < y_5) = true →
 ((0 : Int) ≤ a_1 ∧ a_1 < y_5) ∧
 (decide (y_1 < y_9) = true → y_6 = y_4) ∧
 (decide (y_1 < y_9) = false →
 (y_13 = true →
 (y_3 = true →
 ((List.getD y (Int.toNat a_1) (Ty.dflt t51)).snd.fst.fst,
 (0 : Int), ()) =
 y_4) ∧
 (y_3 = false →
 (y_13 = true → (y_10, (0 : Int), ()) = y_4) ∧
 (y_13 = false →
 (y_11 = y_11 ∧
 y_12 = y_12 ∧ y_1 = y_1 ∧ y_2 = y_2 ∧ y = y ∧ y_5 = y_5) ∧
 Z y_14 ∧ μ y_14 < μ y_8))) ∧
 (y_13 = false →
 (y_13 = true → (y_10, (0 : Int), ()) = y_4) ∧
 (y_13 = false →
 (y_11 = y_11 ∧
 y_12 = y_12 ∧ y_1 = y_1 ∧ y_2 = y_2 ∧ y = y ∧ y_5 = y_5) ∧
 Z y_14 ∧ μ y_14 < μ y_8)))) ∧
 (decide (a_1 < y_5) = false → y_6 = y_4)))))
theorem vcEq49 : fnVC E49 Tryz.f49 (bodyOf Tryz.f49) cMap = vc49 := by kernel_rfl
def hs50 : List (Nat × Nat × Hint) := [(0, 2, ⟨[.slot 9 t3], [0, 7, 8], [], []⟩)]
def nm50 : List Nat := [3000000023]
noncomputable def E50 : Env := env tab [(82, cWithin)] [] gl hs50 nm50
def vc50 : Prop :=
 ∀ (x : List ((Int × Int × Unit) × (Int × Int × Unit) × Unit) × Unit),
 let y := x.fst;
 let y_1 := (↑(List.length y) : Int);
 List.length y ≤ maxLen →
 ((0 : Int) = (0 : Int) ∧ y = y ∧ y = y ∧ y_1 = y_1) ∧
 ∃ (Z : Int × Unit → Prop),
 ∃ (μ : Int × Unit → Nat),
 Z ((0 : Int), ()) ∧
 ∀ (a : Int),
 let y_2 :=  IntKind.wrap IntKind.i64  ((List.getD y (Int.toNat a) (Ty.dflt t55)).fst.fst -  (List.getD y (Int.toNat (IntKind.wrap IntKind.i64 (a - (1 : Int)))) (Ty.dflt t55)).fst.snd.fst);
 let y_3 := IntKind.wrap IntKind.i64 ((List.getD y (Int.toNat a) (Ty.dflt t55)).fst.fst - (0 : Int));
 let y_4 := IntKind.wrap IntKind.i64 (a + (1 : Int));
 let y_5 := decide (a > (0 : Int));
 let y_6 := (List.getD y (Int.toNat a) (Ty.dflt t55)).snd.fst;
 let y_7 := (a, ());
 let y_8 := (List.getD y (Int.toNat a) (Ty.dflt t55)).fst;
 let y_9 := IntKind.wrap IntKind.i64 (a - (1 : Int));
 let y_10 := y_8.fst == y_8.snd.fst;
 let y_11 := y_6.fst == y_6.snd.fst;
 let y_12 := (y_4, ());
 let y_13 := y_3 != IntKind.wrap IntKind.i64 (y_6.fst - (0 : Int));
 let y_14 := decide (y_3 < (0 : Int));
 let y_15 := y_3 == (0 : Int);
 let y_16 :=  y_2 != IntKind.wrap IntKind.i64 (y_6.fst - (List.getD y (Int.toNat y_9) (Ty.dflt t55)).snd.fst.snd.fst);
 let y_17 := decide (y_2 < (0 : Int));
 let y_18 := y_2 == (0 : Int);
 Z y_7 →
 (decide (a < y_1) = true →
 ((0 : Int) ≤ a ∧ a < y_1) ∧
 True ∧
 ((!within y_8) = true → false = normal y) ∧
 ((!within y_8) = false →
 True ∧
 ((!within y_6) = true → false = normal y) ∧
 ((!within y_6) = false →
 (y_10 = true →
 (y_11 = true → false = normal y) ∧
 (y_11 = false →
 (y_5 = true →
 ((0 : Int) ≤ y_9 ∧ y_9 < y_1) ∧
 (y_17 = true → false = normal y) ∧
 (y_17 = false →
 (y_16 = true → false = normal y) ∧
 (y_16 = false →
 (y_5 = true →
 (y_18 = true → false = normal y) ∧
 (y_18 = false →
 (y_4 = y_4 ∧ y = y ∧ y = y ∧ y_1 = y_1) ∧
 Z y_12 ∧ μ y_12 < μ y_7)) ∧
 (y_5 = false →
 (y_4 = y_4 ∧ y = y ∧ y = y ∧ y_1 = y_1) ∧
 Z y_12 ∧ μ y_12 < μ y_7)))) ∧
 (y_5 = false →
 (y_14 = true → false = normal y) ∧
 (y_14 = false →
 (y_13 = true → false = normal y) ∧
 (y_13 = false →
 (y_5 = true →
 (y_15 = true → false = normal y) ∧
 (y_15 = false →
 (y_4 = y_4 ∧ y = y ∧ y = y ∧ y_1 = y_1) ∧
 Z y_12 ∧ μ y_12 < μ y_7)) ∧
 (y_5 = false →
 (y_4 = y_4 ∧ y = y ∧ y = y ∧ y_1 = y_1) ∧
 Z y_12 ∧ μ y_12 < μ y_7)))))) ∧
 (y_10 = false →
 (y_5 = true →
 ((0 : Int) ≤ y_9 ∧ y_9 < y_1) ∧
 (y_17 = true → false = normal y) ∧
 (y_17 = false →
 (y_16 = true → false = normal y) ∧
 (y_16 = false →
 (y_5 = true →
 (y_18 = true → false = normal y) ∧
 (y_18 = false →
 (y_4 = y_4 ∧ y = y ∧ y = y ∧ y_1 = y_1) ∧
 Z y_12 ∧ μ y_12 < μ y_7)) ∧
 (y_5 = false →
 (y_4 = y_4 ∧ y = y ∧ y = y ∧ y_1 = y_1) ∧
 Z y_12 ∧ μ y_12 < μ y_7)))) ∧
 (y_5 = false →
 (y_14 = true → false = normal y) ∧
 (y_14 = false →
 (y_13 = true → false = normal y) ∧
 (y_13 = false →
 (y_5 = true →
 (y_15 = true → false = normal y) ∧
 (y_15 = false →
 (y_4 = y_4 ∧ y = y ∧ y = y ∧ y_1 = y_1) ∧
 Z y_12 ∧ μ y_12 < μ y_7)) ∧
 (y_5 = false →
 (y_4 = y_4 ∧ y = y ∧ y = y ∧ y_1 = y_1) ∧
 Z y_12 ∧ μ y_12 < μ y_7)))))))) ∧
 (decide (a < y_1) = false → true = normal y)
theorem vcEq50 : fnVC E50 Tryz.f50 (bodyOf Tryz.f50) cRefNormal = vc50 := by kernel_rfl
def hs51 : List (Nat × Nat × Hint) := [(0, 3, ⟨[.slot 7 t3, .slot 12 t3], [1, 2, 10, 11], [], []⟩)]
def nm51 : List Nat := [3000000023]
noncomputable def E51 : Env := env tab [] [] gl hs51 nm51
def vc51 : Prop :=
 ∀ (x : List ((Int × Int × Unit) × (Int × Int × Unit) × Unit) × Int × Int × Unit),
 let y := x.fst;
 let y_1 := x.snd.fst;
 let y_2 := x.snd.snd.fst;
 let y_3 := (↑(List.length y) : Int);
 let y_4 := refMap y_1 y_2 y (0 : Int);
 List.length y ≤ maxLen ∧ normal y = true ∧ (0 : Int) ≤ y_1 ∧ y_1 ≤ (1099511627776 : Int) →
 ((0 : Int) = (0 : Int) ∧ (0 : Int) = (0 : Int) ∧ y_1 = y_1 ∧ y_2 = y_2 ∧ y = y ∧ y_3 = y_3) ∧
 ∃ (Z : Int × Int × Unit → Prop),
 ∃ (μ : Int × Int × Unit → Nat),
 Z ((0 : Int), (0 : Int), ()) ∧
 ∀ (a a_1 : Int),
 let y_5 := (List.getD y (Int.toNat a_1) (Ty.dflt t55)).fst.snd.fst;
 let y_6 := IntKind.wrap IntKind.i64 (a_1 + (1 : Int));
 let y_7 := (a, a_1, ());
 let y_8 := (List.getD y (Int.toNat a_1) (Ty.dflt t55)).fst.fst;
 let y_9 := (List.getD y (Int.toNat a_1) (Ty.dflt t55)).snd.fst;
 let y_10 := (a, y_6, ());
 let y_11 := IntKind.wrap IntKind.i64 (y_9.snd.fst - y_5);
 let y_12 := decide (y_1 > y_5);
 let y_13 := (y_11, y_6, ());
 Z y_7 →
 (decide (a_1 < y_3) = true →
 ((0 : Int) ≤ a_1 ∧ a_1 < y_3) ∧
 (decide (y_1 ≥ y_8) = true →
 (decide (y_1 ≤ y_5) = true →
 ((y_2 == (0 : Int)) = true → y_9.fst = y_4) ∧
 ((y_2 == (0 : Int)) = false → y_9.snd.fst = y_4)) ∧
 (decide (y_1 ≤ y_5) = false →
 (y_12 = true →
 (y_6 = y_6 ∧ y_11 = y_11 ∧ y_1 = y_1 ∧ y_2 = y_2 ∧ y = y ∧ y_3 = y_3) ∧
 Z y_13 ∧ μ y_13 < μ y_7) ∧
 (y_12 = false →
 (y_6 = y_6 ∧ a = a ∧ y_1 = y_1 ∧ y_2 = y_2 ∧ y = y ∧ y_3 = y_3) ∧
 Z y_10 ∧ μ y_10 < μ y_7))) ∧
 (decide (y_1 ≥ y_8) = false →
 (y_12 = true →
 (y_6 = y_6 ∧ y_11 = y_11 ∧ y_1 = y_1 ∧ y_2 = y_2 ∧ y = y ∧ y_3 = y_3) ∧
 Z y_13 ∧ μ y_13 < μ y_7) ∧
 (y_12 = false →
 (y_6 = y_6 ∧ a = a ∧ y_1 = y_1 ∧ y_2 = y_2 ∧ y = y ∧ y_3 = y_3) ∧
 Z y_10 ∧ μ y_10 < μ y_7))) ∧
 (decide (a_1 < y_3) = false → IntKind.wrap IntKind.i64 (y_1 + a) = y_4)
theorem vcEq51 : fnVC E51 Tryz.f51 (bodyOf Tryz.f51) cRefMap = vc51 := by kernel_rfl
def hs80 : List (Nat × Nat × Hint) := []
def nm80 : List Nat := [3000000023]
noncomputable def E80 : Env := env tab [] [] gl hs80 nm80
def vc80 : Prop :=
 ∀ (x : (Int × Int × Unit) × Unit),
 True →
 (decide (x.fst.fst ≥ (0 : Int)) = true →
 (decide (x.fst.snd.fst ≥ x.fst.fst) = true → decide (x.fst.snd.fst ≤ (1099511627776 : Int)) = within x.fst) ∧
 (decide (x.fst.snd.fst ≥ x.fst.fst) = false → false = within x.fst)) ∧
 (decide (x.fst.fst ≥ (0 : Int)) = false → false = within x.fst)
theorem vcEq80 : fnVC E80 Tryz.f80 (bodyOf Tryz.f80) cWithin = vc80 := by kernel_rfl
def hs81 : List (Nat × Nat × Hint) := []
def nm81 : List Nat := [3000000023]
noncomputable def E81 : Env := env tab [] [] gl hs81 nm81
def vc81 : Prop :=
 ∀ (x : (Int × Int × Unit) × Unit), True → IntKind.wrap IntKind.i64 (x.fst.snd.fst - x.fst.fst) = size x.fst
theorem vcEq81 : fnVC E81 Tryz.f81 (bodyOf Tryz.f81) cSize = vc81 := by kernel_rfl
def hs82 : List (Nat × Nat × Hint) := []
def nm82 : List Nat := [3000000023]
noncomputable def E82 : Env := env tab [] [] gl hs82 nm82
def vc82 : Prop :=
 ∀ (x : (Int × Int × Unit) × Unit),
 True →
 (decide (x.fst.fst ≥ (0 : Int)) = true →
 (decide (x.fst.fst ≤ x.fst.snd.fst) = true → decide (x.fst.snd.fst ≤ (1099511627776 : Int)) = within x.fst) ∧
 (decide (x.fst.fst ≤ x.fst.snd.fst) = false → false = within x.fst)) ∧
 (decide (x.fst.fst ≥ (0 : Int)) = false → false = within x.fst)
theorem vcEq82 : fnVC E82 Tryz.f82 (bodyOf Tryz.f82) cWithin = vc82 := by kernel_rfl
end Go.Fr.Z14
namespace Go.Fr.Z14
open Go Go.Fr Go.Proofs
theorem beq_t {a b : Int} (h : (a == b) = true) : a = b := by simpa using h
theorem beq_f {a b : Int} (h : (a == b) = false) : a ≠ b := by simpa using h
theorem bne_t {a b : Int} (h : (a != b) = true) : a ≠ b := by simpa using h
theorem bne_f {a b : Int} (h : (a != b) = false) : a = b := by simpa using h
theorem not_t {b : Bool} (h : (!b) = true) : b = false := by cases b <;> simp_all
theorem not_f {b : Bool} (h : (!b) = false) : b = true := by cases b <;> simp_all
theorem p82 : vc82 := by
  unfold vc82
  intro x _
  refine ⟨fun h1 => ⟨fun h2 => ?_, fun h2 => ?_⟩, fun h1 => ?_⟩
  · have h1 := dec_t h1; have h2 := dec_t h2; simp [within, h1, h2]
  · have h2 := dec_f h2; simp [within, h2]
  · have h1 := dec_f h1; simp [within]; omega
theorem p80 : vc80 := by
  unfold vc80
  intro x _
  refine ⟨fun h1 => ⟨fun h2 => ?_, fun h2 => ?_⟩, fun h1 => ?_⟩
  · have h1 := dec_t h1; have h2 := dec_t h2; simp [within, h1, h2]
  · have h2 := dec_f h2; simp [within, h2]
  · have h1 := dec_f h1; simp [within]; omega
theorem p81 : vc81 := by
  unfold vc81
  intro x _
  rfl
theorem delta_take {l : List Chg} {k : Nat} (h : k < l.length) : delta (l.take (k + 1)) = w64 (delta (l.take k) + w64 (size (l.getD k zeroC).2.1 - size (l.getD k zeroC).1)) := by
  unfold delta
  rw [foldl_take_succ h, getD_of _ h]
theorem p48 : vc48 := by
  unfold vc48
  simp only [eq_self, true_and, and_true]
  intro x hx
  rw [maxLen_eq] at hx
  refine ⟨fun z => ∃ k : Nat, k ≤ x.1.length ∧ z.1 = delta (x.1.take k) ∧ z.2.1 = (k : Int), fun z => x.1.length - z.2.1.toNat, ⟨0, Nat.zero_le _, rfl, rfl⟩, ?_⟩
  rintro a i ⟨k, hk, ha, hi⟩
  simp only at ha hi
  subst hi ha
  refine ⟨fun h => ?_, fun h => ?_⟩
  · have h := dec_t h
    have hl : k < x.1.length := by omega
    have hw : IntKind.i64.wrap ((k : Int) + 1) = ((k + 1 : Nat) : Int) := wrap_succ (by omega)
    refine ⟨⟨by omega, h⟩, ⟨k + 1, hl, ?_, hw⟩, ?_⟩
    · exact (delta_take hl).symm
    · show x.1.length - (IntKind.i64.wrap ((k : Int) + 1)).toNat < x.1.length - (k : Int).toNat
      rw [hw, toNat_cast, toNat_cast]
      omega
  · have h := dec_f h
    have : k = x.1.length := by omega
    subst this
    rw [List.take_length]
theorem within_iff {s : Span} : within s = true ↔ 0 ≤ s.1 ∧ s.1 ≤ s.2.1 ∧ s.2.1 ≤ 1099511627776 := by simp [within, and_assoc]
theorem okStep_iff {last c : Chg} {f : Bool} : okStep last c f = true ↔ (0 ≤ c.1.1 ∧ c.1.1 ≤ c.1.2.1 ∧ c.1.2.1 ≤ 1099511627776) ∧ (0 ≤ c.2.1.1 ∧ c.2.1.1 ≤ c.2.1.2.1 ∧ c.2.1.2.1 ≤ 1099511627776) ∧
    ¬ (c.1.1 = c.1.2.1 ∧ c.2.1.1 = c.2.1.2.1) ∧ c.1.1 - last.1.2.1 = c.2.1.1 - last.2.1.2.1 ∧ last.1.2.1 ≤ c.1.1 ∧ (f = true ∨ c.1.1 ≠ last.1.2.1) := by
  simp only [okStep, Bool.and_eq_true, within_iff, Bool.not_eq_true', decide_eq_true_eq, Bool.or_eq_true, Bool.and_eq_false_iff, decide_eq_false_iff_not, and_assoc]
  constructor
  · rintro ⟨a1, a2, a3, b1, b2, b3, c1, d, e, f⟩
    exact ⟨a1, a2, a3, b1, b2, b3, by omega, d, e, f⟩
  · rintro ⟨a1, a2, a3, b1, b2, b3, c1, d, e, f⟩
    exact ⟨a1, a2, a3, b1, b2, b3, by omega, d, e, f⟩
theorem normFrom_cons {last c : Chg} {f : Bool} {r : List Chg} : normFrom last f (c :: r) = true ↔ okStep last c f = true ∧ normFrom c false r = true := by
  simp [normFrom]
theorem p47 : vc47 := by
  unfold vc47
  simp only [eq_self, true_and, and_true]
  intro x hx
  rw [maxLen_eq] at hx
  refine ⟨fun z => ∃ k : Nat, k ≤ x.1.length ∧ z.1 = (k : Int) ∧ (0 ≤ z.2.2.1 ∧ z.2.2.1 ≤ 1099511627776 ∧ 0 ≤ z.2.2.2.2.1 ∧ z.2.2.2.2.1 ≤ 1099511627776) ∧
    normal x.1 = normFrom ((z.2.1, z.2.2.1, ()), (z.2.2.2.1, z.2.2.2.2.1, ()), ()) (decide (k = 0)) (x.1.drop k), fun z => x.1.length - z.1.toNat, ⟨0, Nat.zero_le _, rfl, by simp, rfl⟩, ?_⟩
  rintro i a1 a2 a3 a4 ⟨k, hk, hi, hb, hn⟩
  simp only at hi hb hn
  subst hi
  refine ⟨fun h => ?_, fun h => ?_⟩
  · have h := dec_t h
    have hl : k < x.1.length := by omega
    rw [toNat_cast]
    rw [drop_cons (Ty.dflt t51) hl] at hn
    generalize hc : x.1.getD k (Ty.dflt t51) = c at hn ⊢
    have hw : IntKind.i64.wrap ((k : Int) + 1) = ((k + 1 : Nat) : Int) := wrap_succ (by omega)
    have key : normal x.1 = true ↔ okStep ((a1, a2, ()), (a3, a4, ()), ()) c (decide (k = 0)) = true ∧ normFrom c false (x.1.drop (k + 1)) = true := by
      rw [hn]; exact normFrom_cons
    refine ⟨⟨by omega, h⟩, fun g1 => ?_, fun g1 => ⟨fun g2 => ?_, fun g2 => ⟨fun g3 => ?_, fun g3 => ⟨fun g4 => ?_, fun g4 => ⟨fun g5 => ?_, fun g5 => ?_⟩⟩⟩⟩⟩
    · refine eq_false_of fun hh => ?_
      have := (okStep_iff.1 (key.1 hh).1).1
      rw [within_iff.2 this] at g1
      cases g1
    · refine eq_false_of fun hh => ?_
      have := (okStep_iff.1 (key.1 hh).1).2.1
      rw [within_iff.2 this] at g2
      cases g2
    all_goals
      have w1 := within_iff.1 (not_f g1)
      have w2 := within_iff.1 (not_f g2)
    · refine eq_false_of fun hh => ?_
      have := okStep_iff.1 (key.1 hh).1
      have g3 := beq_t g3
      simp only [size, w64, wrap_eq] at g3
      omega
    all_goals
      have g3 := beq_f g3
      simp only [size, w64, wrap_eq] at g3
    · refine eq_false_of fun hh => ?_
      have := okStep_iff.1 (key.1 hh).1
      have g4 := bne_t g4
      simp only [wrap_eq] at g4
      simp only at this
      omega
    all_goals
      have g4 := bne_f g4
      simp only [wrap_eq] at g4
    · refine eq_false_of fun hh => ?_
      have := okStep_iff.1 (key.1 hh).1
      have g5 := dec_t g5
      simp only [wrap_eq] at g5
      simp only at this
      omega
    · have g5 := dec_f g5
      simp only [wrap_eq] at g5
      have next : okStep ((a1, a2, ()), (a3, a4, ()), ()) c (decide (k = 0)) = true → (∃ k' : Nat, k' ≤ x.1.length ∧ IntKind.i64.wrap ((k : Int) + 1) = (k' : Int) ∧ (0 ≤ c.1.2.1 ∧ c.1.2.1 ≤ 1099511627776 ∧ 0 ≤ c.2.1.2.1 ∧ c.2.1.2.1 ≤ 1099511627776) ∧
          normal x.1 = normFrom ((c.1.1, c.1.2.1, ()), (c.2.1.1, c.2.1.2.1, ()), ()) (decide (k' = 0)) (x.1.drop k')) ∧ x.1.length - (IntKind.i64.wrap ((k : Int) + 1)).toNat < x.1.length - (k : Int).toNat := by
        intro hok
        refine ⟨⟨k + 1, hl, hw, by omega, ?_⟩, by rw [hw, toNat_cast, toNat_cast]; omega⟩
        rw [hn]
        have : decide (k + 1 = 0) = false := by simp
        rw [this]
        show (okStep _ c _ && normFrom c false _) = _
        rw [hok]
        rfl
      refine ⟨fun g6 => ⟨fun g7 => ?_, fun g7 => ?_⟩, fun g6 => ?_⟩
      · refine eq_false_of fun hh => ?_
        have := okStep_iff.1 (key.1 hh).1
        have g6 := beq_t g6
        have g7 := dec_t g7
        simp only [wrap_eq] at g6
        simp only [decide_eq_true_eq] at this
        omega
      · have g6 := beq_t g6
        have g7 := dec_f g7
        simp only [wrap_eq] at g6
        refine next (okStep_iff.2 ?_)
        simp only [decide_eq_true_eq]
        omega
      · have g6 := beq_f g6
        simp only [wrap_eq] at g6
        refine next (okStep_iff.2 ?_)
        simp only [decide_eq_true_eq]
        omega
  · have h := dec_f h
    have : k = x.1.length := by omega
    subst this
    rw [hn, List.drop_length]
    rfl
theorem within_no {s : Span} : within s = false ↔ ¬ (0 ≤ s.1 ∧ s.1 ≤ s.2.1 ∧ s.2.1 ≤ 1099511627776) := by
  rw [← within_iff]; simp
theorem dflt56 : Ty.dflt t51 = zeroC := rfl
theorem bne_eq_false_iff_eq' {a b : Int} : (a != b) = false ↔ a = b := by simp
def prevC (l : List Chg) (k : Nat) : Chg := if k = 0 then zeroC else l.getD (k - 1) zeroC
theorem prevC_succ (l : List Chg) (k : Nat) : prevC l (k + 1) = l.getD k zeroC := by simp [prevC]
theorem normFrom_drop {l : List Chg} {k : Nat} (h : k < l.length) : normFrom (prevC l k) (decide (k = 0)) (l.drop k) = true ↔ okStep (prevC l k) (l.getD k zeroC) (decide (k = 0)) = true ∧ normFrom (prevC l (k + 1)) (decide (k + 1 = 0)) (l.drop (k + 1)) = true := by
  rw [drop_cons zeroC h, prevC_succ]
  have : decide (k + 1 = 0) = false := by simp
  rw [this]
  exact normFrom_cons
theorem p50 : vc50 := by
  unfold vc50
  simp only [eq_self, true_and, and_true, decide_eq_true_eq, decide_eq_false_iff_not, beq_iff_eq, beq_eq_false_iff_ne, bne_iff_ne, bne_eq_false_iff_eq, Bool.not_eq_true', Bool.not_eq_false', ne_eq]
  intro x hx
  rw [maxLen_eq] at hx
  rw [dflt56]
  refine ⟨fun z => ∃ k : Nat, k ≤ x.1.length ∧ z.1 = (k : Int) ∧ (0 ≤ (prevC x.1 k).1.2.1 ∧ (prevC x.1 k).1.2.1 ≤ 1099511627776 ∧ 0 ≤ (prevC x.1 k).2.1.2.1 ∧ (prevC x.1 k).2.1.2.1 ≤ 1099511627776) ∧
    normal x.1 = normFrom (prevC x.1 k) (decide (k = 0)) (x.1.drop k), fun z => x.1.length - z.1.toNat, ⟨0, Nat.zero_le _, rfl, by simp [prevC, zeroC], rfl⟩, ?_⟩
  rintro i ⟨k, hk, hi, hb, hn⟩
  simp only at hi
  subst hi
  refine ⟨fun h => ?_, fun h => ?_⟩
  · have hl : k < x.1.length := by omega
    rw [toNat_cast]
    have hw : IntKind.i64.wrap ((k : Int) + 1) = ((k + 1 : Nat) : Int) := wrap_succ (by omega)
    have hw' : 0 < k → IntKind.i64.wrap ((k : Int) - 1) = ((k - 1 : Nat) : Int) := fun h => by rw [wrap_eq]; omega
    have key : normal x.1 = true ↔ okStep (prevC x.1 k) (x.1.getD k zeroC) (decide (k = 0)) = true ∧ normFrom (prevC x.1 (k + 1)) (decide (k + 1 = 0)) (x.1.drop (k + 1)) = true := by
      rw [hn]; exact normFrom_drop hl
    have next : okStep (prevC x.1 k) (x.1.getD k zeroC) (decide (k = 0)) = true → (∃ k' : Nat, k' ≤ x.1.length ∧ IntKind.i64.wrap ((k : Int) + 1) = (k' : Int) ∧ (0 ≤ (prevC x.1 k').1.2.1 ∧ (prevC x.1 k').1.2.1 ≤ 1099511627776 ∧ 0 ≤ (prevC x.1 k').2.1.2.1 ∧ (prevC x.1 k').2.1.2.1 ≤ 1099511627776) ∧
          normal x.1 = normFrom (prevC x.1 k') (decide (k' = 0)) (x.1.drop k')) ∧ x.1.length - (IntKind.i64.wrap ((k : Int) + 1)).toNat < x.1.length - (k : Int).toNat := by
        intro hok
        refine ⟨⟨k + 1, hl, hw, ?_, ?_⟩, by rw [hw, toNat_cast, toNat_cast]; omega⟩
        · rw [prevC_succ]
          have := okStep_iff.1 hok
          omega
        rw [Bool.eq_iff_iff, key]
        simp only [hok, true_and]
    rw [okStep_iff] at key next
    have e1 : 0 < k → prevC x.1 k = x.1.getD (k - 1) zeroC := fun h => by simp [prevC]; omega
    have e0 : k = 0 → prevC x.1 k = zeroC := fun h => by simp [prevC, h]
    generalize x.1.getD k zeroC = c at *
    simp only [within_iff, within_no, decide_eq_true_eq] at key next ⊢
    have no : ¬ (normal x.1 = true) → false = normal x.1 := eq_false_of
    generalize normal x.1 = nx at *
    simp only [hw] at next ⊢
    rcases Nat.eq_zero_or_pos k with h0 | h0
    · rw [e0 h0] at key next
      simp only [zeroC, wrap_eq] at key next ⊢
      (repeat' (first | apply And.intro | intro _))
      all_goals first
        | omega
        | (refine no fun hh => ?_; have := (key.1 hh).1; omega)
        | (refine (next ?_).1; omega)
        | (refine (next ?_).2; omega)
    · rw [hw' h0, toNat_cast, ← e1 h0]
      simp only [wrap_eq]
      (repeat' (first | apply And.intro | intro _))
      all_goals first
        | omega
        | (refine no fun hh => ?_; have := (key.1 hh).1; omega)
        | (refine (next ?_).1; omega)
        | (refine (next ?_).2; omega)
  · have : k = x.1.length := by omega
    subst this
    rw [hn, List.drop_length]
    rfl
theorem normal_drop {l : List Chg} (h : normal l = true) : ∀ k, k ≤ l.length → normFrom (prevC l k) (decide (k = 0)) (l.drop k) = true
  | 0, _ => h
  | k + 1, hk => ((normFrom_drop (by omega)).1 (normal_drop h k (by omega))).2
theorem normal_ok {l : List Chg} (h : normal l = true) {k : Nat} (hk : k < l.length) :
    (0 ≤ (l.getD k zeroC).1.1 ∧ (l.getD k zeroC).1.1 ≤ (l.getD k zeroC).1.2.1 ∧ (l.getD k zeroC).1.2.1 ≤ 1099511627776) ∧
    (0 ≤ (l.getD k zeroC).2.1.1 ∧ (l.getD k zeroC).2.1.1 ≤ (l.getD k zeroC).2.1.2.1 ∧ (l.getD k zeroC).2.1.2.1 ≤ 1099511627776) ∧
    ¬ ((l.getD k zeroC).1.1 = (l.getD k zeroC).1.2.1 ∧ (l.getD k zeroC).2.1.1 = (l.getD k zeroC).2.1.2.1) ∧
    (l.getD k zeroC).1.1 - (prevC l k).1.2.1 = (l.getD k zeroC).2.1.1 - (prevC l k).2.1.2.1 ∧ (prevC l k).1.2.1 ≤ (l.getD k zeroC).1.1 ∧ (k = 0 ∨ (l.getD k zeroC).1.1 ≠ (prevC l k).1.2.1) := by
  have := okStep_iff.1 ((normFrom_drop hk).1 (normal_drop h k (by omega))).1
  simpa only [decide_eq_true_eq] using this
theorem mapTo_step {l : List Chg} {k : Nat} (h : k < l.length) (p b s : Int) :
    (p < (l.getD k zeroC).1.1 → mapTo p b (l.drop k) s = p + s) ∧
    ((l.getD k zeroC).1.1 ≤ p → p ≤ (l.getD k zeroC).1.2.1 → b = 0 → mapTo p b (l.drop k) s = (l.getD k zeroC).2.1.1) ∧
    ((l.getD k zeroC).1.1 ≤ p → p ≤ (l.getD k zeroC).1.2.1 → b ≠ 0 → mapTo p b (l.drop k) s = (l.getD k zeroC).2.1.2.1) ∧
    ((l.getD k zeroC).1.1 ≤ p → (l.getD k zeroC).1.2.1 < p → mapTo p b (l.drop k) s = mapTo p b (l.drop (k + 1)) ((l.getD k zeroC).2.1.2.1 - (l.getD k zeroC).1.2.1)) := by
  rw [drop_cons zeroC h]
  generalize l.getD k zeroC = c
  simp only [mapTo]
  refine ⟨fun a => if_pos a, fun a b c => ?_, fun a b c => ?_, fun a b => ?_⟩
  · rw [if_neg (by omega), if_pos b, if_pos c]
  · rw [if_neg (by omega), if_pos b, if_neg c]
  · rw [if_neg (by omega), if_neg (by omega)]
theorem refMap_step {l : List Chg} {k : Nat} (h : k < l.length) (p b s : Int) :
    ((l.getD k zeroC).1.1 ≤ p → p ≤ (l.getD k zeroC).1.2.1 → b = 0 → refMap p b (l.drop k) s = (l.getD k zeroC).2.1.1) ∧
    ((l.getD k zeroC).1.1 ≤ p → p ≤ (l.getD k zeroC).1.2.1 → b ≠ 0 → refMap p b (l.drop k) s = (l.getD k zeroC).2.1.2.1) ∧
    ((l.getD k zeroC).1.2.1 < p → refMap p b (l.drop k) s = refMap p b (l.drop (k + 1)) ((l.getD k zeroC).2.1.2.1 - (l.getD k zeroC).1.2.1)) ∧
    (p < (l.getD k zeroC).1.1 → p ≤ (l.getD k zeroC).1.2.1 → refMap p b (l.drop k) s = refMap p b (l.drop (k + 1)) s) := by
  rw [drop_cons zeroC h]
  generalize l.getD k zeroC = c
  simp only [refMap]
  refine ⟨fun a b c => ?_, fun a b c => ?_, fun a => ?_, fun a b => ?_⟩
  · rw [if_pos ⟨a, b⟩, if_pos c]
  · rw [if_pos ⟨a, b⟩, if_neg c]
  · rw [if_neg (by omega), if_pos a]
  · rw [if_neg (by omega), if_neg (by omega)]
theorem p51 : vc51 := by
  unfold vc51
  simp only [eq_self, true_and, and_true, decide_eq_true_eq, decide_eq_false_iff_not, beq_iff_eq, beq_eq_false_iff_ne, ne_eq]
  rintro ⟨l, p, b, ⟨⟩⟩
  simp only
  rintro ⟨hx, hn, hp0, hp1⟩
  replace hp0 : (0 : Int) ≤ p := hp0
  replace hp1 : p ≤ (1099511627776 : Int) := hp1
  rw [maxLen_eq] at hx
  have dflt57 : Ty.dflt t55 = zeroC := rfl
  rw [dflt57]
  refine ⟨fun z => ∃ k : Nat, k ≤ l.length ∧ z.2.1 = (k : Int) ∧ -1099511627776 ≤ z.1 ∧ z.1 ≤ 1099511627776 ∧ refMap p b l 0 = refMap p b (l.drop k) z.1, fun z => l.length - z.2.1.toNat, ⟨0, Nat.zero_le _, rfl, by simp, by simp, rfl⟩, ?_⟩
  rintro s i ⟨k, hk, hi, hs0, hs1, hm⟩
  simp only at hi hm hs0 hs1
  subst hi
  refine ⟨fun h => ?_, fun h => ?_⟩
  · have hl : k < l.length := by omega
    have hw : IntKind.i64.wrap ((k : Int) + 1) = ((k + 1 : Nat) : Int) := wrap_succ (by omega)
    obtain ⟨q1, q2, q3, q4⟩ := refMap_step hl p b s
    have ok := normal_ok hn hl
    rw [toNat_cast, hw]
    generalize l.getD k zeroC = c at *
    have next : ∀ s', -1099511627776 ≤ s' → s' ≤ 1099511627776 → refMap p b (l.drop k) s = refMap p b (l.drop (k + 1)) s' →
      (∃ k' : Nat, k' ≤ l.length ∧ ((k + 1 : Nat) : Int) = (k' : Int) ∧ -1099511627776 ≤ s' ∧ s' ≤ 1099511627776 ∧ refMap p b l 0 = refMap p b (l.drop k') s') ∧ l.length - (((k + 1 : Nat) : Int)).toNat < l.length - k :=
      fun s' a1 a2 a3 => ⟨⟨k + 1, hl, rfl, a1, a2, hm.trans a3⟩, by rw [toNat_cast]; omega⟩
    have hw2 : IntKind.i64.wrap (c.2.1.2.1 - c.1.2.1) = c.2.1.2.1 - c.1.2.1 := by rw [wrap_eq]; omega
    rw [hw2]
    have hdec : l.length - (((k + 1 : Nat) : Int)).toNat < l.length - (k : Int).toNat := by rw [toNat_cast, toNat_cast]; omega
    (repeat' (first | apply And.intro | intro _))
    all_goals first
      | omega
      | (rw [hm]; symm; first | (apply q1 <;> omega) | (apply q2 <;> omega))
      | (refine (next _ ?_ ?_ ?_).1 <;> first | omega | (apply q3; omega) | (apply q4 <;> omega))
      | exact hdec
  · have : k = l.length := by omega
    subst this
    rw [hm, List.drop_length]
    show _ = p + s
    rw [wrap_eq]; omega
theorem p49 : vc49 := by
  unfold vc49
  simp only [eq_self, true_and, and_true, decide_eq_true_eq, decide_eq_false_iff_not, beq_iff_eq, beq_eq_false_iff_ne, bne_iff_ne, bne_eq_false_iff_eq, Bool.not_eq_true', Bool.not_eq_false', ne_eq]
  rintro ⟨l, p, b, ⟨⟩⟩
  simp only
  intro hx
  rw [maxLen_eq] at hx
  rw [dflt56]
  refine ⟨hx, fun hn => by simp [mapP, hn], fun hn => ⟨fun h => by simp [mapP, hn, h], fun hp0 => ⟨fun h => ?_, fun hp1 => ?_⟩⟩⟩
  · rw [mapP, if_neg (by simp [hn]), if_pos (by omega)]
  have main : (b = 0 ∨ b = 1) → mapP l p b = (mapTo p b l 0, 0, ()) := fun h => by
    rw [mapP, if_neg (by simp [hn]), if_neg (by omega)]
  have step : ∀ (s : Int) (i : Int), (∃ k : Nat, k ≤ l.length ∧ i = (k : Int) ∧ -1099511627776 ≤ s ∧ s ≤ 1099511627776 ∧ mapTo p b l 0 = mapTo p b (l.drop k) s) → (i < (l.length : Int)) →
      (0 ≤ i ∧ i < (l.length : Int)) ∧ (p < (l.getD i.toNat zeroC).1.1 → IntKind.i64.wrap (p + s) = mapTo p b l 0) ∧ (¬ p < (l.getD i.toNat zeroC).1.1 → p ≤ (l.getD i.toNat zeroC).1.2.1 → b = 0 → (l.getD i.toNat zeroC).2.1.1 = mapTo p b l 0) ∧
      (¬ p < (l.getD i.toNat zeroC).1.1 → p ≤ (l.getD i.toNat zeroC).1.2.1 → b ≠ 0 → (l.getD i.toNat zeroC).2.1.2.1 = mapTo p b l 0) ∧
      (¬ p < (l.getD i.toNat zeroC).1.1 → ¬ p ≤ (l.getD i.toNat zeroC).1.2.1 → (∃ k' : Nat, k' ≤ l.length ∧ IntKind.i64.wrap (i + 1) = (k' : Int) ∧ -1099511627776 ≤ IntKind.i64.wrap ((l.getD i.toNat zeroC).2.1.2.1 - (l.getD i.toNat zeroC).1.2.1) ∧ IntKind.i64.wrap ((l.getD i.toNat zeroC).2.1.2.1 - (l.getD i.toNat zeroC).1.2.1) ≤ 1099511627776 ∧
        mapTo p b l 0 = mapTo p b (l.drop k') (IntKind.i64.wrap ((l.getD i.toNat zeroC).2.1.2.1 - (l.getD i.toNat zeroC).1.2.1))) ∧ l.length - (IntKind.i64.wrap (i + 1)).toNat < l.length - i.toNat) := by
    rintro s i ⟨k, hk, hi, hs0, hs1, hm⟩ h
    subst hi
    have hl : k < l.length := by omega
    have hw : IntKind.i64.wrap ((k : Int) + 1) = ((k + 1 : Nat) : Int) := wrap_succ (by omega)
    obtain ⟨q1, q2, q3, q4⟩ := mapTo_step hl p b s
    have ok := normal_ok hn hl
    rw [toNat_cast, hw]
    generalize l.getD k zeroC = c at *
    have hw2 : IntKind.i64.wrap (c.2.1.2.1 - c.1.2.1) = c.2.1.2.1 - c.1.2.1 := by rw [wrap_eq]; omega
    rw [hw2, hm]
    refine ⟨by omega, fun h => ?_, fun a b c => (q2 (by omega) b c).symm, fun a b c => (q3 (by omega) b c).symm, fun a b => ⟨⟨k + 1, hl, rfl, by omega, by omega, ?_⟩, by rw [toNat_cast]; omega⟩⟩
    · rw [q1 h, wrap_eq]; omega
    · exact q4 (by omega) (by omega)
  have done : ∀ (s : Int) (i : Int), (∃ k : Nat, k ≤ l.length ∧ i = (k : Int) ∧ -1099511627776 ≤ s ∧ s ≤ 1099511627776 ∧ mapTo p b l 0 = mapTo p b (l.drop k) s) → ¬ (i < (l.length : Int)) →
      IntKind.i64.wrap (p + s) = mapTo p b l 0 := by
    rintro s i ⟨k, hk, hi, hs0, hs1, hm⟩ h
    have : k = l.length := by omega
    subst this
    rw [hm, List.drop_length]
    show _ = p + s
    rw [wrap_eq]; omega
  refine ⟨fun hb0 => ⟨fun hb1 => ?_, fun hb1 => ?_⟩, fun hb0 => ?_⟩
  · rw [mapP, if_neg (by simp [hn]), if_pos (by omega)]
  all_goals
    rw [main (by omega)]
    refine ⟨fun z => ∃ k : Nat, k ≤ l.length ∧ z.2.1 = (k : Int) ∧ -1099511627776 ≤ z.1 ∧ z.1 ≤ 1099511627776 ∧ mapTo p b l 0 = mapTo p b (l.drop k) z.1, fun z => l.length - z.2.1.toNat, ⟨0, Nat.zero_le _, rfl, by simp, by simp, rfl⟩, ?_⟩
    intro s i hz
    refine ⟨fun h => ?_, fun h => ?_⟩
    · obtain ⟨r1, r2, r3, r4, r5⟩ := step s i hz h
      simp only [Prod.mk.injEq, and_true]
      (repeat' (first | apply And.intro | intro _))
      all_goals first
        | omega
        | (apply r2 <;> omega)
        | (apply r3 <;> omega)
        | (apply r4 <;> omega)
        | (refine (r5 ?_ ?_).1 <;> omega)
        | (refine (r5 ?_ ?_).2 <;> omega)
        | skip
    · rw [done s i hz h]
end Go.Fr.Z14
