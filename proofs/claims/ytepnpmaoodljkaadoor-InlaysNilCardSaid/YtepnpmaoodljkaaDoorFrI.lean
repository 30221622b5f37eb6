/-
  What an operation yields that turns nothing of the call's own. Conditions: none.
-/
import Derived.Test.YtepnpmaoodljkaaDoorFrH
namespace Go.Fr
open Go Go.RowKit
universe u

section
variable {P : Program} {E : Env} {B : Nat} {w0 w : World} {bs : Blks} {rs : Rows} {N : Names} {h : PHeap} {b : Nat} {sl : Slots}

theorem wp_of_yields {o : Oper} {a : Act} {K : Act → World → Prop} {Q : Exit → Act → World → Prop} {s : Sem Value} {r : SV} (hy : Yields P s w N h r)
    (hs : execOp a.eval o = (do pure (.value (← s)))) (hK : ∀ v, r.rel N h v → K (a.put o.dst v) w) : o.wp P a w K Q := by
  obtain ⟨v, h1, h2⟩ := hy
  unfold Oper.wp
  rw [hs]
  simp only [Sem.run_bind, h1, Result.andThen_ok, Sem.run_pure]
  exact hK v h2

theorem buildElems_rel (T : Ty) {ρ : Operand → Value} : (n : Nat) → (ps : List (Nat × Operand)) → (xs : List T.den) → buildElems b T sl n ps = some xs → (∀ p ∈ ps, (evO b sl p.2).rel N h (ρ p.2)) →
    ∃ css : List (List Value), css.length = ps.length ∧ xs.length = ps.length ∧ (∀ (i : Nat) x cs, xs[i]? = some x → css[i]? = some cs → rep h T x cs) ∧ ps.map (fun p => (p.1, ρ p.2)) = (css.zipIdx n).map fun c => (c.2, T.val c.1)
  | n, [], xs, e, _ => by
    simp only [buildElems] at e
    injection e with e; subst e
    exact ⟨[], rfl, rfl, fun i x cs hx _ => by simp at hx, rfl⟩
  | n, (i, x) :: ps, xs, e, ho => by
    simp only [buildElems] at e
    cases hb : Nat.beq i n with
    | false => rw [hb] at e; cases e
    | true =>
      rw [hb] at e
      have hin : i = n := Nat.eq_of_beq_eq_true hb
      subst hin
      simp only [cond_true] at e
      split at e
      · rename_i d hd
        split at e
        · rename_i ds hds
          injection e with e; subst e
          obtain ⟨cs, g1, g2⟩ := argVal_rel hd (ho (i, x) (List.mem_cons_self ..))
          obtain ⟨css, q1, q2, q3, q4⟩ := buildElems_rel T (i + 1) ps ds hds fun p hp => ho p (List.mem_cons_of_mem _ hp)
          refine ⟨cs :: css, by simp [q1], by simp [q2], fun j y ds' hy hc => ?_, ?_⟩
          · cases j with
            | zero => simp at hy hc; subst hy hc; exact g1
            | succ j => exact q3 j y ds' (by simpa using hy) (by simpa using hc)
          · simp only at g2
            simp [q4, g2]
        · cases e
      · cases e

/-- The cells of elements side by side. -/
theorem flat_at (s : Nat) : (css : List (List Value)) → (∀ c ∈ css, c.length = s) → ∀ (i j : Nat) cs u, css[i]? = some cs → cs[j]? = some u → css.flatten[i * s + j]? = some u
  | [], _, i, j, cs, u, hi, _ => by simp at hi
  | c :: css, hl, 0, j, cs, u, hi, hj => by
    simp at hi; subst hi
    rw [Nat.zero_mul, Nat.zero_add, List.flatten_cons, List.getElem?_append_left (List.getElem?_eq_some_iff.1 hj).1]
    exact hj
  | c :: css, hl, i + 1, j, cs, u, hi, hj => by
    have hc := hl c (List.mem_cons_self ..)
    rw [List.flatten_cons, List.getElem?_append_right (by rw [hc, Nat.add_mul]; omega), hc]
    rw [show (i + 1) * s + j - s = i * s + j by rw [Nat.add_mul]; omega]
    exact flat_at s css (fun c hc => hl c (List.mem_cons_of_mem _ hc)) i j cs u (by simpa using hi) hj

theorem rowCells_of {T : Ty} : (xs : List T.den) → (css : List (List Value)) → xs.length = css.length → (∀ (i : Nat) x c, xs[i]? = some x → css[i]? = some c → rep h T x c) → RowCells h T xs css.flatten
  | [], [], _, _ => rfl
  | [], _ :: _, hl, _ => by simp at hl
  | _ :: _, [], hl, _ => by simp at hl
  | x :: xs, c :: css, hl, hr => ⟨c, css.flatten, by rw [List.flatten_cons], hr 0 x c rfl rfl, rowCells_of xs css (by simpa using hl) fun i y d h1 h2 => hr (i + 1) y d (by simpa using h1) (by simpa using h2)⟩
theorem buildSlice_core {a : Act} {t te : TypeId} {n : Nat} {ps : Array (Nat × Operand)} {tei : TI} {T : Ty} {ie : TypeInfo} {z : Value} (hd : P.underlying t = some (.slice te)) (hTe : TIok P te tei) (hie : P.info? te = some ie) (hsz : ie.size = tei.size)
    (hz1 : ie.zero = some z) (b1 : ps.toList.length = n) (b2 : n * tei.size ≤ 16777216) (b4 : tei.size = T.size) (b5 : 1 ≤ T.size) {xs : List T.den} (hxs : buildElems b T sl 0 ps.toList = some xs) (ho : ∀ q ∈ ps.toList, (evO b sl q.2).rel N h (a.eval q.2)) :
    ∃ css : List (List Value), css.length = ps.toList.length ∧ xs.length = ps.toList.length ∧ (∀ (i : Nat) x c, xs[i]? = some x → css[i]? = some c → rep h T x c) ∧ (∀ c ∈ css, c.length = T.size) ∧
      (Instr.buildSlice t n (ps.map fun (i, x) => (i, a.eval x))).run P w = .ok (.slice (some ⟨w.heap.size, 0, none⟩) n n) (w.alloc (.cells css.flatten.toArray te)) := by
  obtain ⟨css, q1, q2, q3, q4⟩ := buildElems_rel (ρ := a.eval) T 0 ps.toList xs hxs ho
  have hlen : ∀ c ∈ css, c.length = T.size := by
    intro c hc
    obtain ⟨i, hi⟩ := List.getElem?_of_mem hc
    have hlt : i < xs.length := by
      have := (List.getElem?_eq_some_iff.1 hi).1
      omega
    exact rep_len T _ c (q3 i _ c (List.getElem?_eq_getElem hlt) hi)
  have hvals : ∀ c ∈ css, (T.val c).cells = c.toArray := by
    intro c hc
    obtain ⟨i, hi⟩ := List.getElem?_of_mem hc
    have hlt : i < xs.length := by
      have := (List.getElem?_eq_some_iff.1 hi).1
      omega
    exact val_cells T _ c (q3 i _ c (List.getElem?_eq_getElem hlt) hi)
  have hparts : (ps.map fun (i, x) => (i, a.eval x)).toList = ((css.map T.val).zipIdx 0).map fun x => (x.2, x.1) := by
    rw [Array.toList_map]
    have : ps.toList.map (fun (x : Nat × Operand) => (x.1, a.eval x.2)) = _ := q4
    rw [this, List.zipIdx_map, List.map_map]
    rfl
  have hfill := Great.fill_whole (s := T.size) (by omega) (css.map T.val) ((Array.range (n * ie.size)).map (z.cells[· % z.cells.size]!)) (fun v hv => by
    obtain ⟨c, hc, rfl⟩ := List.mem_map.1 hv
    rw [hvals c hc]
    simpa using hlen c hc) (by simp [hsz, b4, q1, ← b1])
  have hcells : (css.map T.val).flatMap (fun v => v.cells.toList) = css.flatten := by
    have go : ∀ l : List (List Value), (∀ c ∈ l, (T.val c).cells = c.toArray) → (l.map T.val).flatMap (fun v => v.cells.toList) = l.flatten := by
      intro l
      induction l with
      | nil => intro _; rfl
      | cons c l ih =>
        intro hl
        rw [List.map_cons, List.flatMap_cons, List.flatten_cons, ih (fun c hc => hl c (List.mem_cons_of_mem _ hc)), hl c (List.mem_cons_self ..)]
    exact go css hvals
  rw [hcells] at hfill
  have hrun : (Instr.buildSlice t n (ps.map fun (i, x) => (i, a.eval x))).run P w = .ok (.slice (some ⟨w.heap.size, 0, none⟩) n n) (w.alloc (.cells css.flatten.toArray te)) := by
    by_cases hn0 : n = 0
    · have hps : ps = #[] := by
        apply Array.ext'
        exact List.eq_nil_of_length_eq_zero (by rw [b1, hn0])
      have hcss : css = [] := List.eq_nil_of_length_eq_zero (by rw [q1, b1, hn0])
      subst hn0 hps hcss
      simp [Instr.buildSlice, run_underlying hd, hTe.size_run, Instr.fill, newRow]
      congr 2
      apply Array.ext'
      rw [Array.toList_map, Array.toList_range]
      rfl
    · have hpos : 0 < n * ie.size := Nat.mul_pos (by omega) (by omega)
      refine run_buildSlice w t te n _ css.flatten.toArray ie z hd hie hz1 (by rw [hsz]; have : (2:Nat)^24 = 16777216 := rfl; omega) (by omega) ?_
      rw [hparts, hsz, b4]
      rw [hsz, b4] at hfill
      exact hfill
  exact ⟨css, q1, q2, q3, hlen, hrun⟩

theorem evBuildSlice_wp (hE : EnvOk P E) (hM : MemSat B w0 bs rs N h w) {o : Oper} {a : Act} {K : Act → World → Prop} {Q : Exit → Act → World → Prop} {t : TypeId} {n : Nat} {ps : Array (Nat × Operand)} (hop : o.op = .buildSlice t n ps)
    {r : SV} {p : Option Prop} (e : evBuildSlice E b sl t n ps.toList = some (r, p)) (ho : ∀ q ∈ ps.toList, (evO b sl q.2).rel N h (a.eval q.2))
    (hK : ∀ v h' w', PLe h h' → (∀ k, h' k ≠ none → h k ≠ none ∨ w.heap.size ≤ k) → Below w.heap.size w w' → MemSat B w0 bs rs N h' w' → r.rel N h' v → K (a.put o.dst v) w') : o.wp P a w K Q := by
  unfold evBuildSlice at e
  split at e
  · cases e
  · rename_i ti hti
    have hT := hE.tt t ti hti
    obtain ⟨d, hd, _, hk⟩ := hT.und
    split at e
    · rename_i te hte
      rw [hte] at hk
      simp only at hk
      subst hk
      split at e
      · cases e
      · rename_i tei htei
        have hTe := hE.tt te tei htei
        split at e
        · cases e
        · rename_i T hTy
          cases hb : (Nat.beq ps.toList.length n && Nat.ble (n * tei.size) 16777216 && Nat.beq tei.zero.length tei.size && Nat.beq tei.size T.size && Nat.ble 1 T.size) with
          | false => rw [hb] at e; cases e
          | true =>
            rw [hb] at e
            simp only [cond_true, buildElemsK_eq] at e
            simp only [Bool.and_eq_true] at hb
            obtain ⟨⟨⟨⟨b1, b2⟩, b3⟩, b4⟩, b5⟩ := hb
            have b1 : ps.toList.length = n := Nat.eq_of_beq_eq_true b1
            have b2 : n * tei.size ≤ 16777216 := Nat.le_of_ble_eq_true b2
            have b4 : tei.size = T.size := Nat.eq_of_beq_eq_true b4
            have b5 : 1 ≤ T.size := Nat.le_of_ble_eq_true b5
            obtain ⟨ie, hie, hsz, _, hz⟩ := hTe.info
            obtain ⟨z, hz1, zcs, hz2, _⟩ := hz (Nat.eq_of_beq_eq_true b3)
            split at e
            · rename_i xs hxs
              injection e with e; injection e with e1 e2; subst e1 e2
              obtain ⟨css, q1, q2, q3, q4⟩ := buildElems_rel (ρ := a.eval) T 0 ps.toList xs hxs ho
              have hlen : ∀ c ∈ css, c.length = T.size := by
                intro c hc
                obtain ⟨i, hi⟩ := List.getElem?_of_mem hc
                have hlt : i < xs.length := by
                  have := (List.getElem?_eq_some_iff.1 hi).1
                  omega
                exact rep_len T _ c (q3 i _ c (List.getElem?_eq_getElem hlt) hi)
              have hvals : ∀ c ∈ css, (T.val c).cells = c.toArray := by
                intro c hc
                obtain ⟨i, hi⟩ := List.getElem?_of_mem hc
                have hlt : i < xs.length := by
                  have := (List.getElem?_eq_some_iff.1 hi).1
                  omega
                exact val_cells T _ c (q3 i _ c (List.getElem?_eq_getElem hlt) hi)
              have hparts : (ps.map fun (i, x) => (i, a.eval x)).toList = ((css.map T.val).zipIdx 0).map fun x => (x.2, x.1) := by
                rw [Array.toList_map]
                have : ps.toList.map (fun (x : Nat × Operand) => (x.1, a.eval x.2)) = _ := q4
                rw [this, List.zipIdx_map, List.map_map]
                rfl
              have hfill := Great.fill_whole (s := T.size) (by omega) (css.map T.val) ((Array.range (n * ie.size)).map (z.cells[· % z.cells.size]!)) (fun v hv => by
                obtain ⟨c, hc, rfl⟩ := List.mem_map.1 hv
                rw [hvals c hc]
                simpa using hlen c hc) (by simp [hsz, b4, q1, ← b1])
              have hcells : (css.map T.val).flatMap (fun v => v.cells.toList) = css.flatten := by
                have go : ∀ l : List (List Value), (∀ c ∈ l, (T.val c).cells = c.toArray) → (l.map T.val).flatMap (fun v => v.cells.toList) = l.flatten := by
                  intro l
                  induction l with
                  | nil => intro _; rfl
                  | cons c l ih =>
                    intro hl
                    rw [List.map_cons, List.flatMap_cons, List.flatten_cons, ih (fun c hc => hl c (List.mem_cons_of_mem _ hc)), hl c (List.mem_cons_self ..)]
                exact go css hvals
              rw [hcells] at hfill
              have hrun : (Instr.buildSlice t n (ps.map fun (i, x) => (i, a.eval x))).run P w = .ok (.slice (some ⟨w.heap.size, 0, none⟩) n n) (w.alloc (.cells css.flatten.toArray te)) := by
                by_cases hn0 : n = 0
                · have hps : ps = #[] := by
                    apply Array.ext'
                    exact List.eq_nil_of_length_eq_zero (by rw [b1, hn0])
                  have hcss : css = [] := List.eq_nil_of_length_eq_zero (by rw [q1, b1, hn0])
                  subst hn0 hps hcss
                  simp [Instr.buildSlice, run_underlying hd, hTe.size_run, Instr.fill, newRow]
                  congr 2
                  apply Array.ext'
                  rw [Array.toList_map, Array.toList_range]
                  rfl
                · have hpos : 0 < n * ie.size := Nat.mul_pos (by omega) (by omega)
                  refine run_buildSlice w t te n _ css.flatten.toArray ie z hd hie hz1 (by rw [hsz]; have : (2:Nat)^24 = 16777216 := rfl; omega) (by omega) ?_
                  rw [hparts, hsz, b4]
                  rw [hsz, b4] at hfill
                  exact hfill
              have hg : (w.alloc (.cells css.flatten.toArray te)).heap[w.heap.size]? = some (.cells css.flatten.toArray te) := heap_alloc_new w _
              have hn : h w.heap.size = none := by
                cases hh : h w.heap.size with
                | none => rfl
                | some o => exact absurd (hM.pin.lt hh) (by omega)
              have hle := hnew_le (o := .cells css.flatten.toArray te) hn
              have hbel : Below w.heap.size w (w.alloc (.cells css.flatten.toArray te)) := (Below.refl _ _).alloc (Nat.le_refl _) _
              have hpin : PIn (hnew h w.heap.size (.cells css.flatten.toArray te)) (w.alloc (.cells css.flatten.toArray te)) := hnew_in (fun k o hk => by
                have := hM.pin.lt hk
                rw [Below.heap_alloc _ _ _ this]
                exact hM.pin k o hk) hg
              have hfr : ∀ k, hnew h w.heap.size (.cells css.flatten.toArray te) k ≠ none → h k ≠ none ∨ w.heap.size ≤ k := by
                intro k hk
                unfold hnew at hk
                split at hk
                · right; omega
                · exact .inl hk
              unfold Oper.wp execOp
              rw [hop]
              simp only [Sem.run_bind, hrun, Result.andThen_ok, Sem.run_pure]
              refine hK _ _ _ hle hfr hbel (hM.grow hle hfr hpin hbel) ?_
              refine ⟨[.slice (some ⟨w.heap.size, 0, none⟩) n n], ⟨some ⟨w.heap.size, 0, none⟩, n, by rw [q2, b1], by rw [q2, b1]; exact Nat.le_refl _, (fun hh => by cases hh), ?_⟩, rfl⟩
              intro i x ad hx had
              injection had with had
              subst had
              have hi : i < css.length := by
                have := (List.getElem?_eq_some_iff.1 hx).1
                omega
              refine ⟨css[i], rep_mono hle T x _ (q3 i x _ hx (List.getElem?_eq_getElem hi)), fun j u hu => ?_⟩
              rw [add_add, add_lit, Nat.zero_add]
              have := flat_at T.size css hlen i j css[i] u (List.getElem?_eq_getElem hi) hu
              simp only [hcell, hnew, if_true, Option.isSome_none, Bool.false_eq_true, if_false]
              simpa using this
            · cases e
    · cases e

theorem operands_parts {ps : Array (Nat × Operand)} {q : Nat × Operand} (hq : q ∈ ps.toList) : q.2 ∈ (ps.toList.map (·.2)).toArray := by
  simp only [List.mem_toArray, List.mem_map]
  exact ⟨q, hq, rfl⟩

theorem asFn_rel {s : SV} {f : FuncId} {caps : List Leaf} {v : Value} (e : asFn s = some (f, caps)) (hr : s.rel N h v) : ∃ vs : List Value, v = .func (.func f) #[] vs.toArray ∧ LeafRels N h caps vs := by
  unfold asFn at e
  split at e
  · injection e with e; injection e with e1 e2; subst e1 e2
    simp only [SV.rel, Leaf.rel] at hr
    exact hr
  · injection e with e; injection e with e1 e2; subst e1 e2
    simp only [SV.rel, Leaf.rel] at hr
    exact ⟨[], hr, LeafRels.nil N h⟩
  · cases e

theorem leafSVs_rel : (ls : List Leaf) → (vs : List Value) → LeafRels N h ls vs → (leafSVs ls).length = vs.length ∧ ∀ (i : Nat) s v, (leafSVs ls)[i]? = some s → vs[i]? = some v → s.rel N h v
  | [], vs, e => by
    rw [LeafRels.nil_iff] at e; subst e
    exact ⟨rfl, fun i s v hs => by simp [leafSVs] at hs⟩
  | l :: ls, vs, e => by
    obtain ⟨v, r, rfl, g1, g2⟩ := rels_cons e
    obtain ⟨q1, q2⟩ := leafSVs_rel ls r g2
    refine ⟨by simp [leafSVs, q1], fun i s v' hs hv => ?_⟩
    cases i with
    | zero => simp [leafSVs] at hs hv; subst hs hv; exact g1
    | succ i => exact q2 i s v' (by simpa [leafSVs] using hs) (by simpa using hv)

/-- The arguments of a call, what is captured behind them. -/
theorem callArgs_rel {c : Call} {ρ : Operand → Value} {caps : List Leaf} {vs : List Value} (ho : ∀ x ∈ c.args.toList, (evO b sl x).rel N h (ρ x)) (hc : LeafRels N h caps vs) :
    (c.args.toList.map (evO b sl) ++ leafSVs caps).length = (c.args.toList.map ρ ++ vs).length ∧
    ∀ (i : Nat) s v, (c.args.toList.map (evO b sl) ++ leafSVs caps)[i]? = some s → (c.args.toList.map ρ ++ vs)[i]? = some v → s.rel N h v := by
  obtain ⟨q1, q2⟩ := leafSVs_rel caps vs hc
  refine ⟨by simp [q1], fun i s v hs hv => ?_⟩
  by_cases hi : i < c.args.toList.length
  · rw [List.getElem?_append_left (by simpa using hi)] at hs hv
    rw [List.getElem?_map] at hs hv
    cases hx : c.args.toList[i]? with
    | none => rw [hx] at hs; cases hs
    | some y =>
      rw [hx] at hs hv
      simp only [Option.map_some, Option.some.injEq] at hs hv
      subst hs hv
      exact ho y (List.mem_of_getElem? hx)
  · rw [List.getElem?_append_right (by simpa using hi)] at hs hv
    simp only [List.length_map] at hs hv
    exact q2 _ s v hs hv

theorem call_enter {o : Oper} {a : Act} {c : Call} (hop : o.op = .call c) {fv : Operand} (hf : c.callee = .value fv) {f : FuncId} {vs : List Value} (hv : a.eval fv = .func (.func f) #[] vs.toArray)
    {fn : Func} {cd : Code} (hfn : P.funcs[f]? = some fn) (hname : fn.name ≠ "runtime.NumGoroutine") (hbody : fn.body = some cd) :
    (execOp a.eval o).run P w = .ok (.enter f (c.args.toList.map a.eval ++ vs).toArray) w := by
  unfold execOp
  rw [hop]
  simp only [Sem.run_bind, resolve, hf, hv]
  have : (c.args.map a.eval ++ vs.toArray) = (c.args.toList.map a.eval ++ vs).toArray := by
    apply Array.ext'
    simp
  simp [Deferred.ofValue, invoke, callFunc, hfn, hname, hbody, ← this]

theorem isTail_rel : (ss : List SV) → (fs : List FuncId) → isTail ss fs = true → (vs : List Value) → ss.length = vs.length → (∀ (i : Nat) s v, ss[i]? = some s → vs[i]? = some v → s.rel N h v) → vs = tailVals fs
  | [], [], _, vs, hl, _ => List.eq_nil_of_length_eq_zero hl.symm
  | [], _ :: _, e, _, _, _ => by cases e
  | _ :: _, [], e, _, _, _ => by cases e
  | s :: ss, f :: fs, e, vs, hl, hr => by
    cases vs with
    | nil => simp at hl
    | cons v vs =>
      simp only [isTail, Bool.and_eq_true] at e
      have h2 := isTail_rel ss fs e.2 vs (by simpa using hl) (fun i s v h1 h2 => hr (i + 1) s v (by simpa using h1) (by simpa using h2))
      have h1 := e.1
      split at h1
      · rename_i g hg
        obtain ⟨us, q1, q2⟩ := asFn_rel hg (hr 0 s v rfl rfl)
        have : us = [] := List.eq_nil_of_length_eq_zero (by
          have := (leafSVs_rel [] us q2).1
          simpa [leafSVs] using this.symm)
        subst this
        rw [q1, Nat.eq_of_beq_eq_true h1, h2]
        rfl
      · cases h1
theorem cutTail_rel {tl : List FuncId} {ss ss' : List SV} (e : cutTail tl ss = some ss') {vs : List Value} (hl : ss.length = vs.length) (hr : ∀ (i : Nat) s v, ss[i]? = some s → vs[i]? = some v → s.rel N h v) :
    ∃ us, vs = us ++ tailVals tl ∧ ss'.length = us.length ∧ ∀ (i : Nat) s v, ss'[i]? = some s → us[i]? = some v → s.rel N h v := by
  unfold cutTail at e
  split at e
  · injection e with e; subst e
    exact ⟨vs, by simp [tailVals], hl, hr⟩
  · rename_i f fs
    cases hb : isTail (ss.drop (ss.length - (f :: fs).length)) (f :: fs) with
    | false => rw [hb] at e; cases e
    | true =>
      rw [hb] at e
      injection e with e; subst e
      have h1 := isTail_rel _ _ hb (vs.drop (ss.length - (f :: fs).length)) (by rw [List.length_drop, List.length_drop, hl]) (fun i s v g1 g2 => by
        rw [List.getElem?_drop] at g1 g2
        exact hr _ s v g1 g2)
      refine ⟨vs.take (ss.length - (f :: fs).length), ?_, ?_, ?_⟩
      · rw [← h1, List.take_append_drop]
      · rw [List.length_take, List.length_take, hl]
      · intro i s v g1 g2
        rw [List.getElem?_take] at g1 g2
        split at g1
        · rename_i hi
          rw [if_pos hi] at g2
          exact hr i s v g1 g2
        · cases g1
theorem evCall_wp (hE : EnvOk P E) (hM : MemSat B w0 bs rs N h w) (hG : GlobOk E.gl h) {o : Oper} {a : Act} {K : Act → World → Prop} {Q : Exit → Act → World → Prop} {c : Call} (hop : o.op = .call c)
    {r : SV} {p : Option Prop} (e : evCall E b sl c = some (r, p)) (hp : ∀ q, p = some q → q) (ho : ∀ x ∈ c.operands.toList, (evO b sl x).rel N h (a.eval x))
    (hK : ∀ v h' w', PLe h h' → (∀ k, h' k ≠ none → h k ≠ none ∨ w.heap.size ≤ k) → Below w.heap.size w w' → MemSat B w0 bs rs N h' w' → r.rel N h' v → K (a.put o.dst v) w') : o.wp P a w K Q := by
  have hoa : ∀ x ∈ c.args.toList, (evO b sl x).rel N h (a.eval x) := fun x hx => ho x (by simp only [Call.operands]; simp; exact .inr (by simpa using hx))
  unfold evCall at e
  split at e
  · rename_i fv hf
    have hof := ho fv (by simp only [Call.operands, hf]; simp)
    split at e
    · rename_i f caps hfn
      obtain ⟨vs, hv, hcaps⟩ := asFn_rel hfn hof
      split at e
      · rename_i C hC
        obtain ⟨⟨fn, cd, hfn, hname, hbody⟩, hspec⟩ := hE.ct f C hC
        split at e
        rotate_left
        · cases e
        rename_i hown
        split at e
        rotate_left
        · cases e
        rename_i ss' hcut
        rw [argsK_eq] at e
        split at e
        · rename_i x hx
          obtain ⟨l1, l2⟩ := callArgs_rel hoa hcaps
          obtain ⟨us, hus, l1, l2⟩ := cutTail_rel hcut l1 l2
          have hargs : trep h C.arg x us := argsOf_rel C.arg _ x hx _ l1 l2
          have hpre : C.pre x := by
            cases h1 : C.one <;> rw [h1] at e <;> simp only [cond_true, cond_false] at e <;> injection e with e <;> injection e with e1 e2 <;> exact hp _ e2.symm
          have hcall := hspec x h w _ hpre hargs hM.pin hG
          unfold Oper.wp
          rw [call_enter hop hf hv hfn hname hbody, hus]
          refine hcall.mono ?_
          rintro e w' ⟨v, h', rfl, h1, h2, h3, h4, h5⟩
          refine hK v h' w' h1 h2 h5 (hM.grow h1 h2 h3 h5) ?_
          unfold resOr at h4
          rw [hown] at h4
          simp only at h4
          unfold resRep at h4
          cases hone : C.one with
          | true =>
            rw [hone] at e h4
            simp only [cond_true] at e
            injection e with e; injection e with e1 e2; subst e1
            exact SV.tv_iff.2 h4
          | false =>
            rw [hone] at e h4
            simp only [cond_false] at e
            injection e with e; injection e with e1 e2; subst e1
            exact h4
        · cases e
      · cases e
    · cases e
  · cases e
end
end Go.Fr
