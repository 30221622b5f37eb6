/-
  Each operation that turns nothing of the call's own; stores, new blocks, appends. Conditions: none.
-/
import Derived.Test.YtepnpmaoodljkaaDoorFrI
namespace Go.Fr
open Go Go.RowKit
universe u

section
variable {P : Program} {E : Env} {B : Nat} {w0 w : World} {bs : Blks} {rs : Rows} {N : Names} {h : PHeap} {b : Nat} {sl : Slots}

theorem pure_sound (hE : EnvOk P E) (hM : MemSat B w0 bs rs N h w) (hG : GlobOk E.gl h) {o : Oper} {a : Act} {K : Act → World → Prop} {Q : Exit → Act → World → Prop} {r : SV} {p : Option Prop}
    (e : pureEv E b sl bs rs o.op = some (r, p)) (hp : ∀ q, p = some q → q) (ho : ∀ x ∈ o.op.operands.toList, (evO b sl x).rel N h (a.eval x))
    (hK : ∀ v h' w', PLe h h' → (∀ k, h' k ≠ none → h k ≠ none ∨ w.heap.size ≤ k) → Below w.heap.size w w' → MemSat B w0 bs rs N h' w' → r.rel N h' v → K (a.put o.dst v) w') : o.wp P a w K Q := by
  have hK0 : ∀ v, r.rel N h v → K (a.put o.dst v) w := fun v hv => hK v h w (PLe.refl h) (fun k hk => .inl hk) (Below.refl _ _) hM hv
  obtain ⟨dst, op, type, pos, after, guard⟩ := o
  simp only at e ho hK hK0
  cases op <;> try (cases e; done)
  case move x =>
    injection e with e; injection e with e1 e2; subst e1 e2
    unfold Oper.wp
    simp only [execOp, Sem.run_pure]
    exact hK0 _ (ho x (by simp [Op.operands]))
  case assign x =>
    injection e with e; injection e with e1 e2; subst e1 e2
    unfold Oper.wp
    simp only [execOp, Sem.run_pure]
    exact hK0 _ (ho x (by simp [Op.operands]))
  case pick c x y =>
    simp only [pureEv] at e
    have hc := ho c (by simp [Op.operands])
    split at e
    · rename_i hcc
      injection e with e; injection e with e1 e2; subst e1 e2
      rw [hcc] at hc
      unfold Oper.wp
      simp only [SV.rel, Leaf.rel] at hc
      simp [execOp, hc]
      exact hK0 _ (ho x (by simp [Op.operands]))
    · rename_i hcc
      injection e with e; injection e with e1 e2; subst e1 e2
      rw [hcc] at hc
      unfold Oper.wp
      simp only [SV.rel, Leaf.rel] at hc
      simp [execOp, hc]
      exact hK0 _ (ho y (by simp [Op.operands]))
    · cases e
  case build t ps =>
    simp only [pureEv] at e
    exact wp_of_yields (evBuild_run (ρ := a.eval) hE e fun q hq => ho _ (by simp only [Op.operands]; exact List.mem_map.2 ⟨q, hq, rfl⟩)) rfl hK0
  case buildSlice t n ps =>
    simp only [pureEv] at e
    exact evBuildSlice_wp hE hM rfl e (fun q hq => ho _ (by simp only [Op.operands]; exact List.mem_map.2 ⟨q, hq, rfl⟩)) hK
  case load t x =>
    simp only [pureEv] at e
    exact wp_of_yields (evLoad_run hE hM hG e (ho x (by simp [Op.operands]))) rfl hK0
  case nilCheck x =>
    simp only [pureEv] at e
    have hx := ho x (by simp [Op.operands])
    unfold evNilCheck at e
    have fin : ∀ ad : Addr, a.eval x = .pointer (some ad) → r.rel N h (.pointer (some ad)) → Oper.wp P ⟨dst, .nilCheck x, type, pos, after, guard⟩ a w K Q := fun ad hv hr => by
      unfold Oper.wp
      simp only [execOp, hv, Sem.run_pure]
      exact hK0 _ hr
    split at e
    · rename_i T y hy
      injection e with e; injection e with e1 e2; subst e1 
      have hs := hp _ e2.symm
      rw [hy] at hx
      obtain ⟨cs, g1, g2⟩ := SV.tv_iff.1 hx
      rcases g1 with ⟨rfl, _⟩ | ⟨z, ad, ds, rfl, rfl, g3, g4⟩
      · cases hs
      · refine fin ad g2 ?_
        simp only [SV.rel, Leaf.rel]
        refine ⟨by simp [optL], ad, by simp [Addr.add], fun i x hx => ?_⟩
        cases i with
        | zero =>
          simp [optL] at hx
          subst hx
          exact ⟨ds, g3, by simpa [Addr.add] using g4⟩
        | succ i => simp [optL] at hx
    · rename_i i o hy
      injection e with e; injection e with e1 e2; subst e1 e2
      rw [hy] at hx
      have hx' := hx
      simp only [SV.rel, Leaf.rel] at hx'
      exact fin _ hx' (by rw [← hx']; exact hx)
    · rename_i T xs i o hy
      injection e with e; injection e with e1 e2; subst e1 e2
      rw [hy] at hx
      have hx' := hx
      simp only [SV.rel, Leaf.rel] at hx'
      obtain ⟨_, ad, hv, _⟩ := hx'
      exact fin _ hv (by rw [← hv]; exact hx)
    · rename_i rr s i o hy
      injection e with e; injection e with e1 e2; subst e1 e2
      rw [hy] at hx
      have hx' := hx
      simp only [SV.rel, Leaf.rel] at hx'
      obtain ⟨g, len, cap, _, _, hv⟩ := hx'
      exact fin _ hv (by rw [← hv]; exact hx)
    · cases e
  case binOp op t x y yt =>
    simp only [pureEv] at e
    exact wp_of_yields (evBin_run hE e hp (ho x (by simp [Op.operands])) (ho y (by simp [Op.operands])) x y) rfl hK0
  case unOp op t x =>
    simp only [pureEv] at e
    exact wp_of_yields (evUn_run e (ho x (by simp [Op.operands]))) rfl hK0
  case convert s d x =>
    simp only [pureEv] at e
    split at e
    · rename_i si hsi
      exact wp_of_yields (evConvert_run hE hM e ⟨si, hsi⟩ (ho x (by simp [Op.operands]))) rfl hK0
    · cases e
  case slice t x lo hi mx =>
    cases mx with
    | some m =>
      cases lo with
      | some _ => cases e
      | none =>
        cases hi with
        | none => cases e
        | some hi =>
          simp only [pureEv] at e
          exact wp_of_yields (evSliceMax_run hE e hp (ho x (by simp [Op.operands])) (ho hi (by simp [Op.operands])) (ho m (by simp [Op.operands]))) rfl hK0
    | none =>
      simp only [pureEv] at e
      refine wp_of_yields (evSlice_run (lov := lo.map a.eval) (hiv := hi.map a.eval) hE e hp (ho x (by simp [Op.operands])) ?_ ?_ (by cases lo <;> rfl) (by cases hi <;> rfl)) rfl hK0
      · intro s v hs hv
        cases lo with
        | none => cases hs
        | some y => injection hs with hs; injection hv with hv; subst hs hv; exact ho y (by simp [Op.operands])
      · intro s v hs hv
        cases hi with
        | none => cases hs
        | some y => injection hs with hs; injection hv with hv; subst hs hv; exact ho y (by simp [Op.operands])
  case typeAssert x xt at_ ok =>
    simp only [pureEv] at e
    exact wp_of_yields (evAssert_run hE e hp (ho x (by simp [Op.operands]))) rfl hK0
  case makeInterface xt x =>
    simp only [pureEv] at e
    exact wp_of_yields (evMkIf_run hE e hp (ho x (by simp [Op.operands]))) rfl hK0
  case fieldAddr s x f =>
    simp only [pureEv] at e
    exact wp_of_yields (evFieldAddr_run hE e (ho x (by simp [Op.operands]))) rfl hK0
  case field s x f =>
    simp only [pureEv] at e
    exact wp_of_yields (evField_run hE e (ho x (by simp [Op.operands]))) rfl hK0
  case indexAddr t x i =>
    simp only [pureEv] at e
    exact wp_of_yields (evIndexAddr_run hE hM e hp (ho x (by simp [Op.operands])) (ho i (by simp [Op.operands]))) rfl hK0
  case index t x i =>
    simp only [pureEv] at e
    exact wp_of_yields (evIndex_run hE e hp (ho x (by simp [Op.operands])) (ho i (by simp [Op.operands]))) rfl hK0
  case extract x i =>
    simp only [pureEv] at e
    have hx := ho x (by simp [Op.operands])
    split at e
    · rename_i t y hty
      split at e
      · rename_i s hs
        injection e with e; injection e with e1 e2; subst e1 e2
        rw [hty] at hx
        obtain ⟨vs, h1, h2⟩ := hx
        obtain ⟨v, g1, g2⟩ := tupGet_rel (N := N) t y i s hs vs h2
        refine wp_of_yields (P := P) (s := Instr.extract (a.eval x) i) ⟨v, ?_, g2⟩ rfl hK0
        rw [h1]
        simp [Instr.extract, g1]
      · cases e
    · cases e
  case makeFunc fn first caps =>
    simp only [pureEv, evFunc] at e
    split at e
    · rename_i f
      split at e
      · rename_i hfirst
        split at e
        · rename_i ls hls
          injection e with e; injection e with e1 e2; subst e1 e2
          have hf0 : first = #[] := by
            apply Array.ext'
            exact hfirst
          have key : ∀ (l : List Operand) (ls : List Leaf), capLeaves b sl l = some ls → (∀ x ∈ l, (evO b sl x).rel N h (a.eval x)) → LeafRels N h ls (l.map a.eval) := by
            intro l
            induction l with
            | nil => intro ls e _; simp only [capLeaves] at e; injection e with e; subst e; exact LeafRels.nil N h
            | cons x l ih =>
              intro ls e ho
              simp only [capLeaves] at e
              split at e
              · rename_i lf hlf
                split at e
                · rename_i ls' hls'
                  injection e with e; subst e
                  have := ho x (List.mem_cons_self ..)
                  rw [hlf] at this
                  exact LeafRels.cons this (ih _ hls' fun y hy => ho y (List.mem_cons_of_mem _ hy))
                · cases e
              · cases e
          have hrel := key caps.toList ls hls fun x hx => ho x (by simp only [Op.operands]; simp; exact .inr (by simpa using hx))
          subst hf0
          refine wp_of_yields (P := P) (s := Instr.makeFunc (.func f) (#[].map a.eval) (caps.map a.eval)) ⟨.func (.func f) #[] (caps.map a.eval), by simp [Instr.makeFunc], ?_⟩ rfl hK0
          refine SV.leaf_iff.2 ?_
          simp only [Leaf.rel]
          exact ⟨caps.toList.map a.eval, by congr 1; apply Array.ext'; simp, hrel⟩
        · cases e
      · cases e
    · cases e
  case call c =>
    simp only [pureEv] at e
    split at e
    · rename_i bi hb
      have hargs : ∀ x ∈ c.args.toList, (evO b sl x).rel N h (a.eval x) := fun x hx => ho x (by simp only [Op.operands, Call.operands]; simp; exact .inr (by simpa using hx))
      have hs : ∀ s : Sem Value, builtin bi c.argTypes type (c.args.map fun | .const _ => true | _ => false) (c.args.map a.eval) = (do pure (.value (← s))) → execOp a.eval ⟨dst, .call c, type, pos, after, guard⟩ = (do pure (.value (← s))) := by
        intro s hs
        show (do let d ← resolve a.eval c type; invoke d.target d.args) = _
        simp only [resolve, hb]
        exact hs
      unfold evBuiltin at e
      split at e
      · split at e
        · rename_i t ts hts
          split at e
          · rename_i x hx
            have hca : c.args = #[x] := by
              apply Array.ext'
              exact hx
            have hct : c.argTypes[0]? = some t := by rw [← Array.getElem?_toList, hts]; rfl
            refine wp_of_yields (s := Builtin.len_ c.argTypes type #[a.eval x]) (evLen_run hE hM e (hargs x (by rw [hx]; simp)) _ _ hct) (hs _ ?_) hK0
            rw [hca]
            simp [builtin]
          · cases e
        · cases e
      · split at e
        · rename_i t ts hts
          split at e
          · rename_i x hx
            have hca : c.args = #[x] := by
              apply Array.ext'
              exact hx
            have hct : c.argTypes[0]? = some t := by rw [← Array.getElem?_toList, hts]; rfl
            have hx1 := hargs x (by rw [hx]; simp)
            split at e
            · rename_i ti hti
              obtain ⟨dd, hdd, _, hkk⟩ := (hE.tt t ti hti).und
              split at e
              · rename_i te hte
                rw [hte] at hkk
                simp only at hkk
                subst hkk
                split at e
                · rename_i hv
                  injection e with e; injection e with e1 e2; subst e1 e2
                  rw [hv] at hx1
                  simp only [SV.rel, Leaf.rel] at hx1
                  refine wp_of_yields (P := P) (s := Builtin.cap_ c.argTypes type #[a.eval x]) ⟨.int .i64 0, ?_, mkInt_rel N h _ _⟩ (hs _ ?_) hK0
                  · rw [hx1]
                    simp [Builtin.cap_, hct, run_underlying hdd, goInt]
                  · rw [hca]
                    simp [builtin]
                · cases e
              · cases e
            · cases e
          · cases e
        · cases e
      · split at e
        · rename_i x y hx
          have hca : c.args = #[x, y] := by
            apply Array.ext'
            exact hx
          have hx1 := hargs x (by rw [hx]; simp)
          have hx2 := hargs y (by rw [hx]; simp)
          split at e
          · rename_i k n hn
            split at e
            · rename_i k2 m hm
              injection e with e; injection e with e1 e2; subst e1 e2
              refine wp_of_yields (P := P) (s := Builtin.min_ c.argTypes type #[a.eval x, a.eval y]) ⟨.int k (if m < n then m else n), ?_, mkInt_rel N h _ _⟩ (hs _ (by rw [hca]; simp [builtin])) hK0
              rw [asInt_rel hn hx1, asInt_rel hm hx2]
              simp [Builtin.min_, Builtin.min2, List.foldlM]
            · cases e
          · cases e
        · cases e
      · split at e
        · rename_i x y hx
          have hca : c.args = #[x, y] := by
            apply Array.ext'
            exact hx
          have hx1 := hargs x (by rw [hx]; simp)
          have hx2 := hargs y (by rw [hx]; simp)
          split at e
          · rename_i k n hn
            split at e
            · rename_i k2 m hm
              injection e with e; injection e with e1 e2; subst e1 e2
              refine wp_of_yields (P := P) (s := Builtin.max_ c.argTypes type #[a.eval x, a.eval y]) ⟨.int k (if n < m then m else n), ?_, mkInt_rel N h _ _⟩ (hs _ (by rw [hca]; simp [builtin])) hK0
              rw [asInt_rel hn hx1, asInt_rel hm hx2]
              simp [Builtin.max_, Builtin.max2, List.foldlM]
            · cases e
          · cases e
        · cases e
      · cases e
    · exact evCall_wp hE hM hG rfl e hp (fun x hx => ho x (by simpa only [Op.operands] using hx)) hK
end
end Go.Fr
