/-
  Texts on which the proofs of the seat's statements stand: a symbolic walk, its soundness, the functions' conditions and their proofs (2). Conditions: none.
-/
import Derived.Test.YtckeadbpimhimaaGreatDoorU1
import Derived.Maps.AppendAt
import Derived.Lib.AppendStr
import Derived.Lib.AppendZeros
namespace Go.Fr
open Go Go.RowKit
universe u
section
variable {P : Program} {E : Env} {B : Nat} {w0 w : World} {bs : Blks} {rs : Rows} {N : Names} {h : PHeap} {b : Nat} {sl : Slots}
theorem wp_of_yields {o : Oper} {a : Act} {K : Act → World → Prop} {Q : Exit → Act → World → Prop} {s : Sem Value} {r : SV} (hy : Yields P s w N h r)
    (hs : execOp a.eval o = (do pure (.value (← s)))) (hK : ∀ v, r.rel N h v → K (a.put o.dst v) w) : o.wp P a w K Q := by
  obtain ⟨v, h1, h2⟩ := hy
  unfold Oper.wp
  rw [hs]
  simp only [Sem.run_bind, h1, Result.andThen_ok, Sem.run_pure]
  exact hK v h2
theorem buildElems_rel (T : Ty) {ρ : Operand → Value} : (n : Nat) → (ps : List (Nat × Operand)) → (xs : List T.den) → buildElems b T sl n ps = some xs → (∀ p ∈ ps, (evO b sl p.2).rel N h (ρ p.2)) →
    ∃ css : List (List Value), css.length = ps.length ∧ xs.length = ps.length ∧ (∀ (i : Nat) x cs, xs[i]? = some x → css[i]? = some cs → rep h T x cs) ∧ ps.map (fun p => (p.1, ρ p.2)) = (css.zipIdx n).map fun c => (c.2, T.val c.1)
  | n, [], xs, e, _ => by
    simp only [buildElems] at e
    injection e with e; subst e
    exact ⟨[], rfl, rfl, fun i x cs hx _ => by simp at hx, rfl⟩
  | n, (i, x) :: ps, xs, e, ho => by
    simp only [buildElems] at e
    cases hb : Nat.beq i n with
    | false => rw [hb] at e; cases e
    | true =>
      rw [hb] at e
      have hin : i = n := Nat.eq_of_beq_eq_true hb
      subst hin
      simp only [cond_true] at e
      split at e
      · rename_i d hd
        split at e
        · rename_i ds hds
          injection e with e; subst e
          obtain ⟨cs, g1, g2⟩ := argVal_rel hd (ho (i, x) (List.mem_cons_self ..))
          obtain ⟨css, q1, q2, q3, q4⟩ := buildElems_rel T (i + 1) ps ds hds fun p hp => ho p (List.mem_cons_of_mem _ hp)
          refine ⟨cs :: css, by simp [q1], by simp [q2], fun j y ds' hy hc => ?_, ?_⟩
          · cases j with
            | zero => simp at hy hc; subst hy hc; exact g1
            | succ j => exact q3 j y ds' (by simpa using hy) (by simpa using hc)
          · simp only at g2
            simp [q4, g2]
        · cases e
      · cases e
theorem flat_at (s : Nat) : (css : List (List Value)) → (∀ c ∈ css, c.length = s) → ∀ (i j : Nat) cs u, css[i]? = some cs → cs[j]? = some u → css.flatten[i * s + j]? = some u
  | [], _, i, j, cs, u, hi, _ => by simp at hi
  | c :: css, hl, 0, j, cs, u, hi, hj => by
    simp at hi; subst hi
    rw [Nat.zero_mul, Nat.zero_add, List.flatten_cons, List.getElem?_append_left (List.getElem?_eq_some_iff.1 hj).1]
    exact hj
  | c :: css, hl, i + 1, j, cs, u, hi, hj => by
    have hc := hl c (List.mem_cons_self ..)
    rw [List.flatten_cons, List.getElem?_append_right (by rw [hc, Nat.add_mul]; omega), hc]
    rw [show (i + 1) * s + j - s = i * s + j by rw [Nat.add_mul]; omega]
    exact flat_at s css (fun c hc => hl c (List.mem_cons_of_mem _ hc)) i j cs u (by simpa using hi) hj
theorem rowCells_of {T : Ty} : (xs : List T.den) → (css : List (List Value)) → xs.length = css.length → (∀ (i : Nat) x c, xs[i]? = some x → css[i]? = some c → rep h T x c) → RowCells h T xs css.flatten
  | [], [], _, _ => rfl
  | [], _ :: _, hl, _ => by simp at hl
  | _ :: _, [], hl, _ => by simp at hl
  | x :: xs, c :: css, hl, hr => ⟨c, css.flatten, by rw [List.flatten_cons], hr 0 x c rfl rfl, rowCells_of xs css (by simpa using hl) fun i y d h1 h2 => hr (i + 1) y d (by simpa using h1) (by simpa using h2)⟩
theorem buildSlice_core {a : Act} {t te : TypeId} {n : Nat} {ps : Array (Nat × Operand)} {tei : TI} {T : Ty} {ie : TypeInfo} {z : Value} (hd : P.underlying t = some (.slice te)) (hTe : TIok P te tei) (hie : P.info? te = some ie) (hsz : ie.size = tei.size)
    (hz1 : ie.zero = some z) (b1 : ps.toList.length = n) (b2 : n * tei.size ≤ 16777216) (b4 : tei.size = T.size) (b5 : 1 ≤ T.size) {xs : List T.den} (hxs : buildElems b T sl 0 ps.toList = some xs) (ho : ∀ q ∈ ps.toList, (evO b sl q.2).rel N h (a.eval q.2)) :
    ∃ css : List (List Value), css.length = ps.toList.length ∧ xs.length = ps.toList.length ∧ (∀ (i : Nat) x c, xs[i]? = some x → css[i]? = some c → rep h T x c) ∧ (∀ c ∈ css, c.length = T.size) ∧
      (Instr.buildSlice t n (ps.map fun (i, x) => (i, a.eval x))).run P w = .ok (.slice (some ⟨w.heap.size, 0, none⟩) n n) (w.alloc (.cells css.flatten.toArray te)) := by
  obtain ⟨css, q1, q2, q3, q4⟩ := buildElems_rel (ρ := a.eval) T 0 ps.toList xs hxs ho
  have hlen : ∀ c ∈ css, c.length = T.size := by
    intro c hc
    obtain ⟨i, hi⟩ := List.getElem?_of_mem hc
    have hlt : i < xs.length := by
      have := (List.getElem?_eq_some_iff.1 hi).1
      omega
    exact rep_len T _ c (q3 i _ c (List.getElem?_eq_getElem hlt) hi)
  have hvals : ∀ c ∈ css, (T.val c).cells = c.toArray := by
    intro c hc
    obtain ⟨i, hi⟩ := List.getElem?_of_mem hc
    have hlt : i < xs.length := by
      have := (List.getElem?_eq_some_iff.1 hi).1
      omega
    exact val_cells T _ c (q3 i _ c (List.getElem?_eq_getElem hlt) hi)
  have hparts : (ps.map fun (i, x) => (i, a.eval x)).toList = ((css.map T.val).zipIdx 0).map fun x => (x.2, x.1) := by
    rw [Array.toList_map]
    have : ps.toList.map (fun (x : Nat × Operand) => (x.1, a.eval x.2)) = _ := q4
    rw [this, List.zipIdx_map, List.map_map]
    rfl
  have hfill := Great.fill_whole (s := T.size) (by omega) (css.map T.val) ((Array.range (n * ie.size)).map (z.cells[· % z.cells.size]!)) (fun v hv => by
    obtain ⟨c, hc, rfl⟩ := List.mem_map.1 hv
    rw [hvals c hc]
    simpa using hlen c hc) (by simp [hsz, b4, q1, ← b1])
  have hcells : (css.map T.val).flatMap (fun v => v.cells.toList) = css.flatten := by
    have go : ∀ l : List (List Value), (∀ c ∈ l, (T.val c).cells = c.toArray) → (l.map T.val).flatMap (fun v => v.cells.toList) = l.flatten := by
      intro l
      induction l with
      | nil => intro _; rfl
      | cons c l ih =>
        intro hl
        rw [List.map_cons, List.flatMap_cons, List.flatten_cons, ih (fun c hc => hl c (List.mem_cons_of_mem _ hc)), hl c (List.mem_cons_self ..)]
    exact go css hvals
  rw [hcells] at hfill
  have hrun : (Instr.buildSlice t n (ps.map fun (i, x) => (i, a.eval x))).run P w = .ok (.slice (some ⟨w.heap.size, 0, none⟩) n n) (w.alloc (.cells css.flatten.toArray te)) := by
    by_cases hn0 : n = 0
    · have hps : ps = #[] := by
        apply Array.ext'
        exact List.eq_nil_of_length_eq_zero (by rw [b1, hn0])
      have hcss : css = [] := List.eq_nil_of_length_eq_zero (by rw [q1, b1, hn0])
      subst hn0 hps hcss
      simp [Instr.buildSlice, run_underlying hd, hTe.size_run, Instr.fill, newRow]
      congr 2
      apply Array.ext'
      rw [Array.toList_map, Array.toList_range]
      rfl
    · have hpos : 0 < n * ie.size := Nat.mul_pos (by omega) (by omega)
      refine run_buildSlice w t te n _ css.flatten.toArray ie z hd hie hz1 (by rw [hsz]; have : (2:Nat)^24 = 16777216 := rfl; omega) (by omega) ?_
      rw [hparts, hsz, b4]
      rw [hsz, b4] at hfill
      exact hfill
  exact ⟨css, q1, q2, q3, hlen, hrun⟩
theorem evBuildSlice_wp (hE : EnvOk P E) (hM : MemSat B w0 bs rs N h w) {o : Oper} {a : Act} {K : Act → World → Prop} {Q : Exit → Act → World → Prop} {t : TypeId} {n : Nat} {ps : Array (Nat × Operand)} (hop : o.op = .buildSlice t n ps)
    {r : SV} {p : Option Prop} (e : evBuildSlice E b sl t n ps.toList = some (r, p)) (ho : ∀ q ∈ ps.toList, (evO b sl q.2).rel N h (a.eval q.2))
    (hK : ∀ v h' w', PLe h h' → (∀ k, h' k ≠ none → h k ≠ none ∨ w.heap.size ≤ k) → Below w.heap.size w w' → MemSat B w0 bs rs N h' w' → r.rel N h' v → K (a.put o.dst v) w') : o.wp P a w K Q := by
  unfold evBuildSlice at e
  split at e
  · cases e
  · rename_i ti hti
    have hT := hE.tt t ti hti
    obtain ⟨d, hd, _, hk⟩ := hT.und
    split at e
    · rename_i te hte
      rw [hte] at hk
      simp only at hk
      subst hk
      split at e
      · cases e
      · rename_i tei htei
        have hTe := hE.tt te tei htei
        split at e
        · cases e
        · rename_i T hTy
          cases hb : (Nat.beq ps.toList.length n && Nat.ble (n * tei.size) 16777216 && Nat.beq tei.zero.length tei.size && Nat.beq tei.size T.size && Nat.ble 1 T.size) with
          | false => rw [hb] at e; cases e
          | true =>
            rw [hb] at e
            simp only [cond_true, buildElemsK_eq] at e
            simp only [Bool.and_eq_true] at hb
            obtain ⟨⟨⟨⟨b1, b2⟩, b3⟩, b4⟩, b5⟩ := hb
            have b1 : ps.toList.length = n := Nat.eq_of_beq_eq_true b1
            have b2 : n * tei.size ≤ 16777216 := Nat.le_of_ble_eq_true b2
            have b4 : tei.size = T.size := Nat.eq_of_beq_eq_true b4
            have b5 : 1 ≤ T.size := Nat.le_of_ble_eq_true b5
            obtain ⟨ie, hie, hsz, _, hz⟩ := hTe.info
            obtain ⟨z, hz1, zcs, hz2, _⟩ := hz (Nat.eq_of_beq_eq_true b3)
            split at e
            · rename_i xs hxs
              injection e with e; injection e with e1 e2; subst e1 e2
              obtain ⟨css, q1, q2, q3, q4⟩ := buildElems_rel (ρ := a.eval) T 0 ps.toList xs hxs ho
              have hlen : ∀ c ∈ css, c.length = T.size := by
                intro c hc
                obtain ⟨i, hi⟩ := List.getElem?_of_mem hc
                have hlt : i < xs.length := by
                  have := (List.getElem?_eq_some_iff.1 hi).1
                  omega
                exact rep_len T _ c (q3 i _ c (List.getElem?_eq_getElem hlt) hi)
              have hvals : ∀ c ∈ css, (T.val c).cells = c.toArray := by
                intro c hc
                obtain ⟨i, hi⟩ := List.getElem?_of_mem hc
                have hlt : i < xs.length := by
                  have := (List.getElem?_eq_some_iff.1 hi).1
                  omega
                exact val_cells T _ c (q3 i _ c (List.getElem?_eq_getElem hlt) hi)
              have hparts : (ps.map fun (i, x) => (i, a.eval x)).toList = ((css.map T.val).zipIdx 0).map fun x => (x.2, x.1) := by
                rw [Array.toList_map]
                have : ps.toList.map (fun (x : Nat × Operand) => (x.1, a.eval x.2)) = _ := q4
                rw [this, List.zipIdx_map, List.map_map]
                rfl
              have hfill := Great.fill_whole (s := T.size) (by omega) (css.map T.val) ((Array.range (n * ie.size)).map (z.cells[· % z.cells.size]!)) (fun v hv => by
                obtain ⟨c, hc, rfl⟩ := List.mem_map.1 hv
                rw [hvals c hc]
                simpa using hlen c hc) (by simp [hsz, b4, q1, ← b1])
              have hcells : (css.map T.val).flatMap (fun v => v.cells.toList) = css.flatten := by
                have go : ∀ l : List (List Value), (∀ c ∈ l, (T.val c).cells = c.toArray) → (l.map T.val).flatMap (fun v => v.cells.toList) = l.flatten := by
                  intro l
                  induction l with
                  | nil => intro _; rfl
                  | cons c l ih =>
                    intro hl
                    rw [List.map_cons, List.flatMap_cons, List.flatten_cons, ih (fun c hc => hl c (List.mem_cons_of_mem _ hc)), hl c (List.mem_cons_self ..)]
                exact go css hvals
              rw [hcells] at hfill
              have hrun : (Instr.buildSlice t n (ps.map fun (i, x) => (i, a.eval x))).run P w = .ok (.slice (some ⟨w.heap.size, 0, none⟩) n n) (w.alloc (.cells css.flatten.toArray te)) := by
                by_cases hn0 : n = 0
                · have hps : ps = #[] := by
                    apply Array.ext'
                    exact List.eq_nil_of_length_eq_zero (by rw [b1, hn0])
                  have hcss : css = [] := List.eq_nil_of_length_eq_zero (by rw [q1, b1, hn0])
                  subst hn0 hps hcss
                  simp [Instr.buildSlice, run_underlying hd, hTe.size_run, Instr.fill, newRow]
                  congr 2
                  apply Array.ext'
                  rw [Array.toList_map, Array.toList_range]
                  rfl
                · have hpos : 0 < n * ie.size := Nat.mul_pos (by omega) (by omega)
                  refine run_buildSlice w t te n _ css.flatten.toArray ie z hd hie hz1 (by rw [hsz]; have : (2:Nat)^24 = 16777216 := rfl; omega) (by omega) ?_
                  rw [hparts, hsz, b4]
                  rw [hsz, b4] at hfill
                  exact hfill
              have hg : (w.alloc (.cells css.flatten.toArray te)).heap[w.heap.size]? = some (.cells css.flatten.toArray te) := heap_alloc_new w _
              have hn : h w.heap.size = none := by
                cases hh : h w.heap.size with
                | none => rfl
                | some o => exact absurd (hM.pin.lt hh) (by omega)
              have hle := hnew_le (o := .cells css.flatten.toArray te) hn
              have hbel : Below w.heap.size w (w.alloc (.cells css.flatten.toArray te)) := (Below.refl _ _).alloc (Nat.le_refl _) _
              have hpin : PIn (hnew h w.heap.size (.cells css.flatten.toArray te)) (w.alloc (.cells css.flatten.toArray te)) := hnew_in (fun k o hk => by
                have := hM.pin.lt hk
                rw [Below.heap_alloc _ _ _ this]
                exact hM.pin k o hk) hg
              have hfr : ∀ k, hnew h w.heap.size (.cells css.flatten.toArray te) k ≠ none → h k ≠ none ∨ w.heap.size ≤ k := by
                intro k hk
                unfold hnew at hk
                split at hk
                · right; omega
                · exact .inl hk
              unfold Oper.wp execOp
              rw [hop]
              simp only [Sem.run_bind, hrun, Result.andThen_ok, Sem.run_pure]
              refine hK _ _ _ hle hfr hbel (hM.grow hle hfr hpin hbel) ?_
              refine ⟨[.slice (some ⟨w.heap.size, 0, none⟩) n n], ⟨some ⟨w.heap.size, 0, none⟩, n, by rw [q2, b1], by rw [q2, b1]; exact Nat.le_refl _, (fun hh => by cases hh), ?_⟩, rfl⟩
              intro i x ad hx had
              injection had with had
              subst had
              have hi : i < css.length := by
                have := (List.getElem?_eq_some_iff.1 hx).1
                omega
              refine ⟨css[i], rep_mono hle T x _ (q3 i x _ hx (List.getElem?_eq_getElem hi)), fun j u hu => ?_⟩
              rw [add_add, add_lit, Nat.zero_add]
              have := flat_at T.size css hlen i j css[i] u (List.getElem?_eq_getElem hi) hu
              simp only [hcell, hnew, if_true, Option.isSome_none, Bool.false_eq_true, if_false]
              simpa using this
            · cases e
    · cases e
theorem asFn_rel {s : SV} {f : FuncId} {caps : List Leaf} {v : Value} (e : asFn s = some (f, caps)) (hr : s.rel N h v) : ∃ vs : List Value, v = .func (.func f) #[] vs.toArray ∧ LeafRels N h caps vs := by
  unfold asFn at e
  split at e
  · injection e with e; injection e with e1 e2; subst e1 e2
    simp only [SV.rel, Leaf.rel] at hr
    exact hr
  · injection e with e; injection e with e1 e2; subst e1 e2
    simp only [SV.rel, Leaf.rel] at hr
    exact ⟨[], hr, LeafRels.nil N h⟩
  · cases e
theorem leafSVs_rel : (ls : List Leaf) → (vs : List Value) → LeafRels N h ls vs → (leafSVs ls).length = vs.length ∧ ∀ (i : Nat) s v, (leafSVs ls)[i]? = some s → vs[i]? = some v → s.rel N h v
  | [], vs, e => by
    rw [LeafRels.nil_iff] at e; subst e
    exact ⟨rfl, fun i s v hs => by simp [leafSVs] at hs⟩
  | l :: ls, vs, e => by
    obtain ⟨v, r, rfl, g1, g2⟩ := rels_cons e
    obtain ⟨q1, q2⟩ := leafSVs_rel ls r g2
    refine ⟨by simp [leafSVs, q1], fun i s v' hs hv => ?_⟩
    cases i with
    | zero => simp [leafSVs] at hs hv; subst hs hv; exact g1
    | succ i => exact q2 i s v' (by simpa [leafSVs] using hs) (by simpa using hv)
theorem callArgs_rel {c : Call} {ρ : Operand → Value} {caps : List Leaf} {vs : List Value} (ho : ∀ x ∈ c.args.toList, (evO b sl x).rel N h (ρ x)) (hc : LeafRels N h caps vs) :
    (c.args.toList.map (evO b sl) ++ leafSVs caps).length = (c.args.toList.map ρ ++ vs).length ∧
    ∀ (i : Nat) s v, (c.args.toList.map (evO b sl) ++ leafSVs caps)[i]? = some s → (c.args.toList.map ρ ++ vs)[i]? = some v → s.rel N h v := by
  obtain ⟨q1, q2⟩ := leafSVs_rel caps vs hc
  refine ⟨by simp [q1], fun i s v hs hv => ?_⟩
  by_cases hi : i < c.args.toList.length
  · rw [List.getElem?_append_left (by simpa using hi)] at hs hv
    rw [List.getElem?_map] at hs hv
    cases hx : c.args.toList[i]? with
    | none => rw [hx] at hs; cases hs
    | some y =>
      rw [hx] at hs hv
      simp only [Option.map_some, Option.some.injEq] at hs hv
      subst hs hv
      exact ho y (List.mem_of_getElem? hx)
  · rw [List.getElem?_append_right (by simpa using hi)] at hs hv
    simp only [List.length_map] at hs hv
    exact q2 _ s v hs hv
theorem call_enter {o : Oper} {a : Act} {c : Call} (hop : o.op = .call c) {fv : Operand} (hf : c.callee = .value fv) {f : FuncId} {vs : List Value} (hv : a.eval fv = .func (.func f) #[] vs.toArray)
    {fn : Func} {cd : Code} (hfn : P.funcs[f]? = some fn) (hname : fn.name ≠ "runtime.NumGoroutine") (hbody : fn.body = some cd) :
    (execOp a.eval o).run P w = .ok (.enter f (c.args.toList.map a.eval ++ vs).toArray) w := by
  unfold execOp
  rw [hop]
  simp only [Sem.run_bind, resolve, hf, hv]
  have : (c.args.map a.eval ++ vs.toArray) = (c.args.toList.map a.eval ++ vs).toArray := by
    apply Array.ext'
    simp
  simp [Deferred.ofValue, invoke, callFunc, hfn, hname, hbody, ← this]
theorem isTail_rel : (ss : List SV) → (fs : List FuncId) → isTail ss fs = true → (vs : List Value) → ss.length = vs.length → (∀ (i : Nat) s v, ss[i]? = some s → vs[i]? = some v → s.rel N h v) → vs = tailVals fs
  | [], [], _, vs, hl, _ => List.eq_nil_of_length_eq_zero hl.symm
  | [], _ :: _, e, _, _, _ => by cases e
  | _ :: _, [], e, _, _, _ => by cases e
  | s :: ss, f :: fs, e, vs, hl, hr => by
    cases vs with
    | nil => simp at hl
    | cons v vs =>
      simp only [isTail, Bool.and_eq_true] at e
      have h2 := isTail_rel ss fs e.2 vs (by simpa using hl) (fun i s v h1 h2 => hr (i + 1) s v (by simpa using h1) (by simpa using h2))
      have h1 := e.1
      split at h1
      · rename_i g hg
        obtain ⟨us, q1, q2⟩ := asFn_rel hg (hr 0 s v rfl rfl)
        have : us = [] := List.eq_nil_of_length_eq_zero (by
          have := (leafSVs_rel [] us q2).1
          simpa [leafSVs] using this.symm)
        subst this
        rw [q1, Nat.eq_of_beq_eq_true h1, h2]
        rfl
      · cases h1
theorem cutTail_rel {tl : List FuncId} {ss ss' : List SV} (e : cutTail tl ss = some ss') {vs : List Value} (hl : ss.length = vs.length) (hr : ∀ (i : Nat) s v, ss[i]? = some s → vs[i]? = some v → s.rel N h v) :
    ∃ us, vs = us ++ tailVals tl ∧ ss'.length = us.length ∧ ∀ (i : Nat) s v, ss'[i]? = some s → us[i]? = some v → s.rel N h v := by
  unfold cutTail at e
  split at e
  · injection e with e; subst e
    exact ⟨vs, by simp [tailVals], hl, hr⟩
  · rename_i f fs
    cases hb : isTail (ss.drop (ss.length - (f :: fs).length)) (f :: fs) with
    | false => rw [hb] at e; cases e
    | true =>
      rw [hb] at e
      injection e with e; subst e
      have h1 := isTail_rel _ _ hb (vs.drop (ss.length - (f :: fs).length)) (by rw [List.length_drop, List.length_drop, hl]) (fun i s v g1 g2 => by
        rw [List.getElem?_drop] at g1 g2
        exact hr _ s v g1 g2)
      refine ⟨vs.take (ss.length - (f :: fs).length), ?_, ?_, ?_⟩
      · rw [← h1, List.take_append_drop]
      · rw [List.length_take, List.length_take, hl]
      · intro i s v g1 g2
        rw [List.getElem?_take] at g1 g2
        split at g1
        · rename_i hi
          rw [if_pos hi] at g2
          exact hr i s v g1 g2
        · cases g1
theorem evCall_wp (hE : EnvOk P E) (hM : MemSat B w0 bs rs N h w) (hG : GlobOk E.gl h) {o : Oper} {a : Act} {K : Act → World → Prop} {Q : Exit → Act → World → Prop} {c : Call} (hop : o.op = .call c)
    {r : SV} {p : Option Prop} (e : evCall E b sl c = some (r, p)) (hp : ∀ q, p = some q → q) (ho : ∀ x ∈ c.operands.toList, (evO b sl x).rel N h (a.eval x))
    (hK : ∀ v h' w', PLe h h' → (∀ k, h' k ≠ none → h k ≠ none ∨ w.heap.size ≤ k) → Below w.heap.size w w' → MemSat B w0 bs rs N h' w' → r.rel N h' v → K (a.put o.dst v) w') : o.wp P a w K Q := by
  have hoa : ∀ x ∈ c.args.toList, (evO b sl x).rel N h (a.eval x) := fun x hx => ho x (by simp only [Call.operands]; simp; exact .inr (by simpa using hx))
  unfold evCall at e
  split at e
  · rename_i fv hf
    have hof := ho fv (by simp only [Call.operands, hf]; simp)
    split at e
    · rename_i f caps hfn
      obtain ⟨vs, hv, hcaps⟩ := asFn_rel hfn hof
      split at e
      · rename_i C hC
        obtain ⟨⟨fn, cd, hfn, hname, hbody⟩, hspec⟩ := hE.ct f C hC
        split at e
        rotate_left
        · cases e
        rename_i hown
        split at e
        rotate_left
        · cases e
        rename_i ss' hcut
        rw [argsK_eq] at e
        split at e
        · rename_i x hx
          obtain ⟨l1, l2⟩ := callArgs_rel hoa hcaps
          obtain ⟨us, hus, l1, l2⟩ := cutTail_rel hcut l1 l2
          have hargs : trep h C.arg x us := argsOf_rel C.arg _ x hx _ l1 l2
          have hpre : C.pre x := by
            cases h1 : C.one <;> rw [h1] at e <;> simp only [cond_true, cond_false] at e <;> injection e with e <;> injection e with e1 e2 <;> exact hp _ e2.symm
          have hcall := hspec x h w _ hpre hargs hM.pin hG
          unfold Oper.wp
          rw [call_enter hop hf hv hfn hname hbody, hus]
          refine hcall.mono ?_
          rintro e w' ⟨v, h', rfl, h1, h2, h3, h4, h5⟩
          refine hK v h' w' h1 h2 h5 (hM.grow h1 h2 h3 h5) ?_
          unfold resOr at h4
          rw [hown] at h4
          simp only at h4
          unfold resRep at h4
          cases hone : C.one with
          | true =>
            rw [hone] at e h4
            simp only [cond_true] at e
            injection e with e; injection e with e1 e2; subst e1
            exact SV.tv_iff.2 h4
          | false =>
            rw [hone] at e h4
            simp only [cond_false] at e
            injection e with e; injection e with e1 e2; subst e1
            exact h4
        · cases e
      · cases e
    · cases e
  · cases e
end
end Go.Fr
namespace Go.Fr
open Go Go.RowKit
universe u
section
variable {P : Program} {E : Env} {B : Nat} {w0 w : World} {bs : Blks} {rs : Rows} {N : Names} {h : PHeap} {b : Nat} {sl : Slots}
theorem pure_sound (hE : EnvOk P E) (hM : MemSat B w0 bs rs N h w) (hG : GlobOk E.gl h) {o : Oper} {a : Act} {K : Act → World → Prop} {Q : Exit → Act → World → Prop} {r : SV} {p : Option Prop}
    (e : pureEv E b sl bs rs o.op = some (r, p)) (hp : ∀ q, p = some q → q) (ho : ∀ x ∈ o.op.operands.toList, (evO b sl x).rel N h (a.eval x))
    (hK : ∀ v h' w', PLe h h' → (∀ k, h' k ≠ none → h k ≠ none ∨ w.heap.size ≤ k) → Below w.heap.size w w' → MemSat B w0 bs rs N h' w' → r.rel N h' v → K (a.put o.dst v) w') : o.wp P a w K Q := by
  have hK0 : ∀ v, r.rel N h v → K (a.put o.dst v) w := fun v hv => hK v h w (PLe.refl h) (fun k hk => .inl hk) (Below.refl _ _) hM hv
  obtain ⟨dst, op, type, pos, after, guard⟩ := o
  simp only at e ho hK hK0
  cases op <;> try (cases e; done)
  case move x =>
    injection e with e; injection e with e1 e2; subst e1 e2
    unfold Oper.wp
    simp only [execOp, Sem.run_pure]
    exact hK0 _ (ho x (by simp [Op.operands]))
  case assign x =>
    injection e with e; injection e with e1 e2; subst e1 e2
    unfold Oper.wp
    simp only [execOp, Sem.run_pure]
    exact hK0 _ (ho x (by simp [Op.operands]))
  case pick c x y =>
    simp only [pureEv] at e
    have hc := ho c (by simp [Op.operands])
    split at e
    · rename_i hcc
      injection e with e; injection e with e1 e2; subst e1 e2
      rw [hcc] at hc
      unfold Oper.wp
      simp only [SV.rel, Leaf.rel] at hc
      simp [execOp, hc]
      exact hK0 _ (ho x (by simp [Op.operands]))
    · rename_i hcc
      injection e with e; injection e with e1 e2; subst e1 e2
      rw [hcc] at hc
      unfold Oper.wp
      simp only [SV.rel, Leaf.rel] at hc
      simp [execOp, hc]
      exact hK0 _ (ho y (by simp [Op.operands]))
    · cases e
  case build t ps =>
    simp only [pureEv] at e
    exact wp_of_yields (evBuild_run (ρ := a.eval) hE e fun q hq => ho _ (by simp only [Op.operands]; exact List.mem_map.2 ⟨q, hq, rfl⟩)) rfl hK0
  case buildSlice t n ps =>
    simp only [pureEv] at e
    exact evBuildSlice_wp hE hM rfl e (fun q hq => ho _ (by simp only [Op.operands]; exact List.mem_map.2 ⟨q, hq, rfl⟩)) hK
  case load t x =>
    simp only [pureEv] at e
    exact wp_of_yields (evLoad_run hE hM hG e (ho x (by simp [Op.operands]))) rfl hK0
  case nilCheck x =>
    simp only [pureEv] at e
    have hx := ho x (by simp [Op.operands])
    unfold evNilCheck at e
    have fin : ∀ ad : Addr, a.eval x = .pointer (some ad) → r.rel N h (.pointer (some ad)) → Oper.wp P ⟨dst, .nilCheck x, type, pos, after, guard⟩ a w K Q := fun ad hv hr => by
      unfold Oper.wp
      simp only [execOp, hv, Sem.run_pure]
      exact hK0 _ hr
    split at e
    · rename_i T y hy
      injection e with e; injection e with e1 e2; subst e1 
      have hs := hp _ e2.symm
      rw [hy] at hx
      obtain ⟨cs, g1, g2⟩ := SV.tv_iff.1 hx
      rcases g1 with ⟨rfl, _⟩ | ⟨z, ad, ds, rfl, rfl, g3, g4⟩
      · cases hs
      · refine fin ad g2 ?_
        simp only [SV.rel, Leaf.rel]
        refine ⟨by simp [optL], ad, by simp [Addr.add], fun i x hx => ?_⟩
        cases i with
        | zero =>
          simp [optL] at hx
          subst hx
          exact ⟨ds, g3, by simpa [Addr.add] using g4⟩
        | succ i => simp [optL] at hx
    · rename_i i o hy
      injection e with e; injection e with e1 e2; subst e1 e2
      rw [hy] at hx
      have hx' := hx
      simp only [SV.rel, Leaf.rel] at hx'
      exact fin _ hx' (by rw [← hx']; exact hx)
    · rename_i T xs i o hy
      injection e with e; injection e with e1 e2; subst e1 e2
      rw [hy] at hx
      have hx' := hx
      simp only [SV.rel, Leaf.rel] at hx'
      obtain ⟨_, ad, hv, _⟩ := hx'
      exact fin _ hv (by rw [← hv]; exact hx)
    · rename_i rr s i o hy
      injection e with e; injection e with e1 e2; subst e1 e2
      rw [hy] at hx
      have hx' := hx
      simp only [SV.rel, Leaf.rel] at hx'
      obtain ⟨g, len, cap, _, _, hv⟩ := hx'
      exact fin _ hv (by rw [← hv]; exact hx)
    · cases e
  case binOp op t x y yt =>
    simp only [pureEv] at e
    exact wp_of_yields (evBin_run hE e hp (ho x (by simp [Op.operands])) (ho y (by simp [Op.operands])) x y) rfl hK0
  case unOp op t x =>
    simp only [pureEv] at e
    exact wp_of_yields (evUn_run e (ho x (by simp [Op.operands]))) rfl hK0
  case convert s d x =>
    simp only [pureEv] at e
    split at e
    · rename_i si hsi
      exact wp_of_yields (evConvert_run hE hM e ⟨si, hsi⟩ (ho x (by simp [Op.operands]))) rfl hK0
    · cases e
  case slice t x lo hi mx =>
    cases mx with
    | some m =>
      cases lo with
      | some _ => cases e
      | none =>
        cases hi with
        | none => cases e
        | some hi =>
          simp only [pureEv] at e
          exact wp_of_yields (evSliceMax_run hE e hp (ho x (by simp [Op.operands])) (ho hi (by simp [Op.operands])) (ho m (by simp [Op.operands]))) rfl hK0
    | none =>
      simp only [pureEv] at e
      refine wp_of_yields (evSlice_run (lov := lo.map a.eval) (hiv := hi.map a.eval) hE e hp (ho x (by simp [Op.operands])) ?_ ?_ (by cases lo <;> rfl) (by cases hi <;> rfl)) rfl hK0
      · intro s v hs hv
        cases lo with
        | none => cases hs
        | some y => injection hs with hs; injection hv with hv; subst hs hv; exact ho y (by simp [Op.operands])
      · intro s v hs hv
        cases hi with
        | none => cases hs
        | some y => injection hs with hs; injection hv with hv; subst hs hv; exact ho y (by simp [Op.operands])
  case typeAssert x xt at_ ok =>
    simp only [pureEv] at e
    exact wp_of_yields (evAssert_run hE e hp (ho x (by simp [Op.operands]))) rfl hK0
  case makeInterface xt x =>
    simp only [pureEv] at e
    exact wp_of_yields (evMkIf_run hE e hp (ho x (by simp [Op.operands]))) rfl hK0
  case fieldAddr s x f =>
    simp only [pureEv] at e
    exact wp_of_yields (evFieldAddr_run hE e (ho x (by simp [Op.operands]))) rfl hK0
  case field s x f =>
    simp only [pureEv] at e
    exact wp_of_yields (evField_run hE e (ho x (by simp [Op.operands]))) rfl hK0
  case indexAddr t x i =>
    simp only [pureEv] at e
    exact wp_of_yields (evIndexAddr_run hE hM e hp (ho x (by simp [Op.operands])) (ho i (by simp [Op.operands]))) rfl hK0
  case index t x i =>
    simp only [pureEv] at e
    exact wp_of_yields (evIndex_run hE e hp (ho x (by simp [Op.operands])) (ho i (by simp [Op.operands]))) rfl hK0
  case extract x i =>
    simp only [pureEv] at e
    have hx := ho x (by simp [Op.operands])
    split at e
    · rename_i t y hty
      split at e
      · rename_i s hs
        injection e with e; injection e with e1 e2; subst e1 e2
        rw [hty] at hx
        obtain ⟨vs, h1, h2⟩ := hx
        obtain ⟨v, g1, g2⟩ := tupGet_rel (N := N) t y i s hs vs h2
        refine wp_of_yields (P := P) (s := Instr.extract (a.eval x) i) ⟨v, ?_, g2⟩ rfl hK0
        rw [h1]
        simp [Instr.extract, g1]
      · cases e
    · cases e
  case makeFunc fn first caps =>
    simp only [pureEv, evFunc] at e
    split at e
    · rename_i f
      split at e
      · rename_i hfirst
        split at e
        · rename_i ls hls
          injection e with e; injection e with e1 e2; subst e1 e2
          have hf0 : first = #[] := by
            apply Array.ext'
            exact hfirst
          have key : ∀ (l : List Operand) (ls : List Leaf), capLeaves b sl l = some ls → (∀ x ∈ l, (evO b sl x).rel N h (a.eval x)) → LeafRels N h ls (l.map a.eval) := by
            intro l
            induction l with
            | nil => intro ls e _; simp only [capLeaves] at e; injection e with e; subst e; exact LeafRels.nil N h
            | cons x l ih =>
              intro ls e ho
              simp only [capLeaves] at e
              split at e
              · rename_i lf hlf
                split at e
                · rename_i ls' hls'
                  injection e with e; subst e
                  have := ho x (List.mem_cons_self ..)
                  rw [hlf] at this
                  exact LeafRels.cons this (ih _ hls' fun y hy => ho y (List.mem_cons_of_mem _ hy))
                · cases e
              · cases e
          have hrel := key caps.toList ls hls fun x hx => ho x (by simp only [Op.operands]; simp; exact .inr (by simpa using hx))
          subst hf0
          refine wp_of_yields (P := P) (s := Instr.makeFunc (.func f) (#[].map a.eval) (caps.map a.eval)) ⟨.func (.func f) #[] (caps.map a.eval), by simp [Instr.makeFunc], ?_⟩ rfl hK0
          refine SV.leaf_iff.2 ?_
          simp only [Leaf.rel]
          exact ⟨caps.toList.map a.eval, by congr 1; apply Array.ext'; simp, hrel⟩
        · cases e
      · cases e
    · cases e
  case call c =>
    simp only [pureEv] at e
    split at e
    · rename_i bi hb
      have hargs : ∀ x ∈ c.args.toList, (evO b sl x).rel N h (a.eval x) := fun x hx => ho x (by simp only [Op.operands, Call.operands]; simp; exact .inr (by simpa using hx))
      have hs : ∀ s : Sem Value, builtin bi c.argTypes type (c.args.map fun | .const _ => true | _ => false) (c.args.map a.eval) = (do pure (.value (← s))) → execOp a.eval ⟨dst, .call c, type, pos, after, guard⟩ = (do pure (.value (← s))) := by
        intro s hs
        show (do let d ← resolve a.eval c type; invoke d.target d.args) = _
        simp only [resolve, hb]
        exact hs
      unfold evBuiltin at e
      split at e
      · split at e
        · rename_i t ts hts
          split at e
          · rename_i x hx
            have hca : c.args = #[x] := by
              apply Array.ext'
              exact hx
            have hct : c.argTypes[0]? = some t := by rw [← Array.getElem?_toList, hts]; rfl
            refine wp_of_yields (s := Builtin.len_ c.argTypes type #[a.eval x]) (evLen_run hE hM e (hargs x (by rw [hx]; simp)) _ _ hct) (hs _ ?_) hK0
            rw [hca]
            simp [builtin]
          · cases e
        · cases e
      · split at e
        · rename_i t ts hts
          split at e
          · rename_i x hx
            have hca : c.args = #[x] := by
              apply Array.ext'
              exact hx
            have hct : c.argTypes[0]? = some t := by rw [← Array.getElem?_toList, hts]; rfl
            have hx1 := hargs x (by rw [hx]; simp)
            split at e
            · rename_i ti hti
              obtain ⟨dd, hdd, _, hkk⟩ := (hE.tt t ti hti).und
              split at e
              · rename_i te hte
                rw [hte] at hkk
                simp only at hkk
                subst hkk
                split at e
                · rename_i hv
                  injection e with e; injection e with e1 e2; subst e1 e2
                  rw [hv] at hx1
                  simp only [SV.rel, Leaf.rel] at hx1
                  refine wp_of_yields (P := P) (s := Builtin.cap_ c.argTypes type #[a.eval x]) ⟨.int .i64 0, ?_, mkInt_rel N h _ _⟩ (hs _ ?_) hK0
                  · rw [hx1]
                    simp [Builtin.cap_, hct, run_underlying hdd, goInt]
                  · rw [hca]
                    simp [builtin]
                · cases e
              · cases e
            · cases e
          · cases e
        · cases e
      · split at e
        · rename_i x y hx
          have hca : c.args = #[x, y] := by
            apply Array.ext'
            exact hx
          have hx1 := hargs x (by rw [hx]; simp)
          have hx2 := hargs y (by rw [hx]; simp)
          split at e
          · rename_i k n hn
            split at e
            · rename_i k2 m hm
              injection e with e; injection e with e1 e2; subst e1 e2
              refine wp_of_yields (P := P) (s := Builtin.min_ c.argTypes type #[a.eval x, a.eval y]) ⟨.int k (if m < n then m else n), ?_, mkInt_rel N h _ _⟩ (hs _ (by rw [hca]; simp [builtin])) hK0
              rw [asInt_rel hn hx1, asInt_rel hm hx2]
              simp [Builtin.min_, Builtin.min2, List.foldlM]
            · cases e
          · cases e
        · cases e
      · split at e
        · rename_i x y hx
          have hca : c.args = #[x, y] := by
            apply Array.ext'
            exact hx
          have hx1 := hargs x (by rw [hx]; simp)
          have hx2 := hargs y (by rw [hx]; simp)
          split at e
          · rename_i k n hn
            split at e
            · rename_i k2 m hm
              injection e with e; injection e with e1 e2; subst e1 e2
              refine wp_of_yields (P := P) (s := Builtin.max_ c.argTypes type #[a.eval x, a.eval y]) ⟨.int k (if n < m then m else n), ?_, mkInt_rel N h _ _⟩ (hs _ (by rw [hca]; simp [builtin])) hK0
              rw [asInt_rel hn hx1, asInt_rel hm hx2]
              simp [Builtin.max_, Builtin.max2, List.foldlM]
            · cases e
          · cases e
        · cases e
      · cases e
    · exact evCall_wp hE hM hG rfl e hp (fun x hx => ho x (by simpa only [Op.operands] using hx)) hK
end
end Go.Fr
namespace Go.Fr
open Go Go.RowKit
universe u
structure SatV (B : Nat) (w0 : World) (h0 : PHeap) (σ : St) (N : Names) (h : PHeap) (v : Nat → Value) (w : World) : Prop where
  mem : MemSat B w0 σ.blks σ.rows N h w
  grow : PLe h0 h
  dom : ∀ k, h k ≠ none → h0 k ≠ none ∨ B ≤ k
  slots : SlotSat σ.slots N h v
structure Sat (B : Nat) (w0 : World) (h0 : PHeap) (b : Nat) (u : Nat → Value) (n : Nat) (σ : St) (N : Names) (h : PHeap) (a : Act) (w : World) : Prop where
  mem : MemSat B w0 σ.blks σ.rows N h w
  grow : PLe h0 h
  dom : ∀ k, h k ≠ none → h0 k ≠ none ∨ B ≤ k
  slots : SlotSat σ.slots N h (vals b u a)
  size : a.tmps.size = n
  defers : a.defers = []
theorem Sat.v {B : Nat} {w0 : World} {h0 : PHeap} {b : Nat} {u : Nat → Value} {n : Nat} {σ : St} {N : Names} {h : PHeap} {a : Act} {w : World} (hS : Sat B w0 h0 b u n σ N h a w) : SatV B w0 h0 σ N h (vals b u a) w := ⟨hS.mem, hS.grow, hS.dom, hS.slots⟩
theorem getS_cons (k : Nat) (s : SV) (sl : Slots) (t : Nat) : getS ((k, s) :: sl) t = if k = t then s else getS sl t := by
  show (bif Nat.beq k t then s else getS sl t) = _
  cases hb : Nat.beq k t with
  | true => rw [cond_true, if_pos (Nat.eq_of_beq_eq_true hb)]
  | false => rw [cond_false, if_neg (Nat.ne_of_beq_eq_false hb)]
theorem getB_cons (k : Nat) (b : Blk) (bs : Blks) (i : Nat) : getB ((k, b) :: bs) i = if k = i then some b else getB bs i := by
  show (bif Nat.beq k i then some b else getB bs i) = _
  cases hb : Nat.beq k i with
  | true => rw [cond_true, if_pos (Nat.eq_of_beq_eq_true hb)]
  | false => rw [cond_false, if_neg (Nat.ne_of_beq_eq_false hb)]
theorem getR_cons (k : Nat) (b : RowS) (bs : Rows) (i : Nat) : getR ((k, b) :: bs) i = if k = i then some b else getR bs i := by
  show (bif Nat.beq k i then some b else getR bs i) = _
  cases hb : Nat.beq k i with
  | true => rw [cond_true, if_pos (Nat.eq_of_beq_eq_true hb)]
  | false => rw [cond_false, if_neg (Nat.ne_of_beq_eq_false hb)]
theorem getD_put {a : Act} {d : Nat} {v : Value} (hd : d < a.tmps.size) (t : Nat) : (a.put (some d) v).tmps.getD t undef = if d = t then v else a.tmps.getD t undef := by
  simp only [Act.put, Array.getD_eq_getD_getElem?, Array.getElem?_setIfInBounds]
  split
  · rename_i e; subst e; simp
  · rfl
theorem size_put (a : Act) (d : Option Nat) (v : Value) : (a.put d v).tmps.size = a.tmps.size := by cases d <;> simp [Act.put]
theorem defers_put (a : Act) (d : Option Nat) (v : Value) : (a.put d v).defers = a.defers := by cases d <;> rfl
theorem vals_put {b : Nat} {u : Nat → Value} {a : Act} {d : Nat} {v : Value} (hd : d < a.tmps.size) (t : Nat) : vals b u (a.put (some d) v) t = if b + d = t then v else vals b u a t := by
  unfold vals
  by_cases ht : t < b
  · rw [if_pos ht, if_neg (by omega), if_pos ht]
  · rw [if_neg ht, if_neg ht, getD_put hd]
    by_cases e : b + d = t
    · rw [if_pos e, if_pos (by omega)]
    · rw [if_neg e, if_neg (by omega)]
theorem SlotSat.put {b : Nat} {u : Nat → Value} {sl : Slots} {N : Names} {h : PHeap} {a : Act} (hs : SlotSat sl N h (vals b u a)) {d : Nat} (hd : d < a.tmps.size) {s : SV} {v : Value} (hv : s.rel N h v) : SlotSat ((b + d, s) :: sl) N h (vals b u (a.put (some d) v)) := by
  intro t
  rw [getS_cons, vals_put hd]
  split
  · exact hv
  · exact hs t
section
variable {B : Nat} {w0 w w' : World} {bs : Blks} {rs : Rows} {N : Names} {h0 h h' : PHeap} {b : Nat} {u : Nat → Value} {sl : Slots} {a : Act} {n : Nat}
theorem Sat.put {σ : St} (hS : Sat B w0 h0 b u n σ N h a w) {d : Option Nat} (hd : ∀ t, d = some t → t < n) {s : SV} {v : Value} (hv : s.rel N h v) : Sat B w0 h0 b u n (σ.put (dstAt b d) s) N h (a.put d v) w := by
  cases d with
  | none => exact hS
  | some t => exact ⟨hS.mem, hS.grow, hS.dom, hS.slots.put (by rw [hS.size]; exact hd t rfl) hv, by rw [size_put]; exact hS.size, by rw [defers_put]; exact hS.defers⟩
mutual
theorem Leaf.rel_names {N N' : Names} : (l : Leaf) → {v : Value} → l.rel N h v → (∀ i, Leaf.namesB i l = true → N'.ρ i = N.ρ i) → (∀ i, Leaf.namesR i l = true → N'.V i = N.V i) → l.rel N' h v
  | .any, _, _, _, _ => by simp only [Leaf.rel]
  | .undef, _, hr, _, _ => by simp only [Leaf.rel] at hr ⊢; exact hr
  | .blit _, _, hr, _, _ => by simp only [Leaf.rel] at hr ⊢; exact hr
  | .tv _ _, _, hr, _, _ => by simp only [Leaf.rel] at hr ⊢; exact hr
  | .raw _, _, hr, _, _ => by simp only [Leaf.rel] at hr ⊢; exact hr
  | .ptr i off, _, hr, hb, _ => by simp only [Leaf.rel] at hr ⊢; rw [hb i (by simp [Leaf.namesB])]; exact hr
  | .mref i, _, hr, hb, _ => by simp only [Leaf.rel] at hr ⊢; rw [hb i (by simp [Leaf.namesB])]; exact hr
  | .eptr _ _ _ _, _, hr, _, _ => by simp only [Leaf.rel] at hr ⊢; exact hr
  | .row r, _, hr, _, hv => by simp only [Leaf.rel] at hr ⊢; rw [hv r (by simp [Leaf.namesR])]; exact hr
  | .rptr r _ _ _, _, hr, _, hv => by simp only [Leaf.rel] at hr ⊢; rw [hv r (by simp [Leaf.namesR])]; exact hr
  | .rsub r _ _, _, hr, _, hv => by simp only [Leaf.rel] at hr ⊢; rw [hv r (by simp [Leaf.namesR])]; exact hr
  | .clo f caps, _, hr, hb, hv => by
    simp only [Leaf.rel] at hr ⊢
    obtain ⟨vs, e1, e2⟩ := hr
    exact ⟨vs, e1, rels_names caps e2 (fun i hi => hb i (by simpa only [Leaf.namesB] using hi)) (fun i hi => hv i (by simpa only [Leaf.namesR] using hi))⟩
theorem rels_names {N N' : Names} : (ls : List Leaf) → {vs : List Value} → LeafRels N h ls vs → (∀ i, anyB i ls = true → N'.ρ i = N.ρ i) → (∀ i, anyR i ls = true → N'.V i = N.V i) → LeafRels N' h ls vs
  | [], _, hr, _, _ => by rw [LeafRels] at hr ⊢; exact hr
  | l :: ls, _, hr, hb, hv => by
    rw [LeafRels] at hr ⊢
    obtain ⟨v, r, e0, e1, e2⟩ := hr
    exact ⟨v, r, e0, Leaf.rel_names l e1 (fun i hi => hb i (by simp only [anyB, hi, Bool.true_or])) (fun i hi => hv i (by simp only [anyR, hi, Bool.true_or])),
      rels_names ls e2 (fun i hi => hb i (by simp only [anyB, hi, Bool.or_true])) (fun i hi => hv i (by simp only [anyR, hi, Bool.or_true]))⟩
end
theorem anyLeaf_false {f : Leaf → Bool} : {ls : List Leaf} → anyLeaf f ls = false → ∀ l ∈ ls, f l = false
  | [], _, l, hl => by cases hl
  | x :: r, e, l, hl => by
    simp only [anyLeaf, Bool.or_eq_false_iff] at e
    rcases List.mem_cons.1 hl with e' | e'
    · subst e'; exact e.1
    · exact anyLeaf_false e.2 l e'
theorem LeafRels.names {N N' : Names} : (ls : List Leaf) → (vs : List Value) → LeafRels N h ls vs → (∀ l ∈ ls, ∀ i, Leaf.namesB i l = true → N'.ρ i = N.ρ i) → (∀ l ∈ ls, ∀ i, Leaf.namesR i l = true → N'.V i = N.V i) → LeafRels N' h ls vs
  | [], _, hr, _, _ => by rw [LeafRels] at hr ⊢; exact hr
  | l :: ls, _, hr, hb, hv => by
    rw [LeafRels] at hr ⊢
    obtain ⟨v, r, e0, e1, e2⟩ := hr
    exact ⟨v, r, e0, l.rel_names e1 (hb l (List.mem_cons_self ..)) (hv l (List.mem_cons_self ..)), LeafRels.names ls r e2 (fun l hl => hb l (List.mem_cons_of_mem _ hl)) (fun l hl => hv l (List.mem_cons_of_mem _ hl))⟩
theorem SV.rel_names {N N' : Names} (s : SV) {v : Value} (hr : s.rel N h v) (hb : ∀ i, s.anyL (Leaf.namesB i) = true → N'.ρ i = N.ρ i) (hv : ∀ i, s.anyL (Leaf.namesR i) = true → N'.V i = N.V i) : s.rel N' h v := by
  have any : ∀ (f : Leaf → Bool) (ls : List Leaf) (l : Leaf), l ∈ ls → f l = true → anyLeaf f ls = true := by
    intro f ls l hl hf
    induction ls with
    | nil => cases hl
    | cons c cs ih =>
      simp only [anyLeaf, Bool.or_eq_true]
      rcases List.mem_cons.1 hl with e | e
      · subst e; exact .inl hf
      · exact .inr (ih e)
  cases s with
  | leaf l => exact SV.leaf_iff.2 (l.rel_names (SV.leaf_iff.1 hr) hb hv)
  | agg ls =>
    obtain ⟨cs, e1, e2, e3⟩ := hr
    exact ⟨cs, e1, LeafRels.names ls cs e2 (fun l hl i hi => hb i (any _ ls l hl hi)) (fun l hl i hi => hv i (any _ ls l hl hi)), e3⟩
  | tupv t x => exact hr
theorem anySlots_false {f : Leaf → Bool} : {sl : Slots} → anySlots f sl = false → ∀ t, (getS sl t).anyL f = true → f .any = true
  | [], _, t, ht => ht
  | (k, s) :: r, e, t, ht => by
    simp only [anySlots, Bool.or_eq_false_iff] at e
    rw [getS_cons] at ht
    split at ht
    · rw [e.1] at ht; cases ht
    · exact anySlots_false e.2 t ht
theorem anyBlks_false {f : Leaf → Bool} : {bs : Blks} → anyBlks f bs = false → ∀ i b, getB bs i = some b → anyLeaf f b.cells = false
  | [], _, i, b, hb => by cases hb
  | (k, c) :: r, e, i, b, hb => by
    simp only [anyBlks, Bool.or_eq_false_iff] at e
    rw [getB_cons] at hb
    split at hb
    · injection hb with hb; subst hb; exact e.1
    · exact anyBlks_false e.2 i b hb
theorem getB_setB (bs : Blks) (i : Nat) (c : Blk) (j : Nat) : getB (setB bs i c) j = if i = j then (getB bs j).map fun _ => c else getB bs j := by
  induction bs with
  | nil => simp [setB, getB]
  | cons p r ih =>
    obtain ⟨k, b⟩ := p
    unfold setB
    cases hb : Nat.beq k i with
    | true =>
      have := Nat.eq_of_beq_eq_true hb
      subst this
      rw [cond_true, getB_cons, getB_cons]
      by_cases hj : k = j <;> simp [hj]
    | false =>
      have := Nat.ne_of_beq_eq_false hb
      rw [cond_false, getB_cons, getB_cons, ih]
      by_cases hj : k = j
      · subst hj
        simp [Ne.symm this]
      · simp [hj]
theorem MemSat.turnBlock (hM : MemSat B w0 bs rs N h w) {i : Nat} {b c : Blk} (hb : getB bs i = some b) (hbel : Below B w0 w') (hsz : w'.heap.size = w.heap.size) (hother : ∀ k, k ≠ N.ρ i → w'.heap[k]? = w.heap[k]?)
    {o : Obj} (hat : w'.heap[N.ρ i]? = some o) (hc : BlkSat N h c o) : MemSat B w0 (setB bs i c) rs N h w' := by
  obtain ⟨o0, g1, g2, g4, g5⟩ := hM.blk i b hb
  have hget : ∀ j d, getB (setB bs i c) j = some d → ∃ d', getB bs j = some d' := by
    intro j d hj
    rw [getB_setB] at hj
    split at hj
    · rename_i e; subst e; exact ⟨b, hb⟩
    · exact ⟨d, hj⟩
  refine ⟨hbel, by rw [hsz]; exact hM.size, ?_, ?_, ?_, ?_, hM.rowh, ?_, hM.rowr⟩
  · intro k o hk
    rw [hother k (fun e => by rw [e, g5] at hk; cases hk)]
    exact hM.pin k o hk
  · intro j d hj
    rw [getB_setB] at hj
    by_cases e : i = j
    · subst e
      rw [if_pos rfl, hb] at hj
      simp only [Option.map_some, Option.some.injEq] at hj
      subst hj
      exact ⟨o, hat, hc, g4, g5⟩
    · rw [if_neg e] at hj
      obtain ⟨d0, q1, q2, q4, q5⟩ := hM.blk j d hj
      exact ⟨d0, by rw [hother _ (fun hh => e (hM.inj i j b d hb hj hh.symm))]; exact q1, q2, q4, q5⟩
  · intro j k d1 d2 hj hk he
    obtain ⟨e1, q1⟩ := hget j d1 hj
    obtain ⟨e2, q2⟩ := hget k d2 hk
    exact hM.inj j k e1 e2 q1 q2 he
  · intro r R hR
    obtain ⟨ds, q1, q2⟩ := hM.row r R hR
    refine ⟨ds, ⟨q1.1, ?_⟩, q2⟩
    rcases q1.2 with h0 | ⟨g, cap, cur, e1, e2, e3, e4⟩
    · exact .inl h0
    · exact .inr ⟨g, cap, cur, e1, e2, by rw [hother g (fun hh => hM.rowb r R g i b hR (by rw [e1]; rfl) hb hh.symm)]; exact e3, e4⟩
  · intro r R g j d hR hg hj
    obtain ⟨e1, q1⟩ := hget j d hj
    exact hM.rowb r R g j e1 hR hg q1
theorem MemSat.store (hM : MemSat B w0 bs rs N h w) {i : Nat} {t : TypeId} {ls ls' : List Leaf} (hb : getB bs i = some ⟨t, ls, none⟩) {cs : List Value} (hr : LeafRels N h ls' cs) (h1 : ∀ u ∈ cs, u.oneCell' = true) :
    MemSat B w0 (setB bs i ⟨t, ls', none⟩) rs N h (w.setRow (N.ρ i) cs.toArray) := by
  obtain ⟨o0, g1, g2, g4, g5⟩ := hM.blk i _ hb
  obtain ⟨cs0, rfl, _⟩ := BlkSat.cells.1 g2
  have hother : ∀ k, k ≠ N.ρ i → (w.setRow (N.ρ i) cs.toArray).heap[k]? = w.heap[k]? := fun k hk => setRow_other w _ k _ hk
  exact hM.turnBlock hb (hM.below.trans ⟨rfl, rfl, rfl, by simp, fun k hk => hother k (by omega), Nat.le_refl _⟩) (by simp) hother (setRow_heap w _ cs0.toArray _ _ (0, 0) g1) (BlkSat.cells.2 ⟨cs, rfl, hr, h1⟩)
def Names.setB (N : Names) (d g : Nat) : Names := { N with ρ := fun k => if k = d then g else N.ρ k }
theorem MemSat.newB' (hM : MemSat B w0 bs rs N h w) {d : Nat} {b : Blk} {o : Obj} (hr : BlkSat (N.setB d w.heap.size) h b o)
    (hn : ∀ i c, getB bs i = some c → anyLeaf (Leaf.namesB d) c.cells = false) :
    MemSat B w0 ((d, b) :: bs) rs (N.setB d w.heap.size) h (w.alloc o) := by
  have hnone : h w.heap.size = none := by
    cases hh : h w.heap.size with
    | none => rfl
    | some o => exact absurd (hM.pin.lt hh) (by omega)
  have hold : ∀ k, k < w.heap.size → (w.alloc o).heap[k]? = w.heap[k]? := fun k hk => Below.heap_alloc _ _ _ hk
  have hrho : ∀ (ls : List Leaf), anyLeaf (Leaf.namesB d) ls = false → ∀ l ∈ ls, ∀ i, Leaf.namesB i l = true → (N.setB d w.heap.size).ρ i = N.ρ i := by
    intro ls hf l hl i hi
    simp only [Names.setB]
    rw [if_neg]
    intro e
    subst e
    rw [anyLeaf_false hf l hl] at hi
    cases hi
  refine ⟨hM.below.alloc hM.size _, by simp; have := hM.size; omega, ?_, ?_, ?_, ?_, hM.rowh, ?_, hM.rowr⟩
  · intro k o hk
    rw [hold k (hM.pin.lt hk)]
    exact hM.pin k o hk
  · intro i c hi
    rw [getB_cons] at hi
    by_cases e : d = i
    · subst e
      rw [if_pos rfl] at hi
      injection hi with hi; subst hi
      refine ⟨o, ?_, hr, ?_, ?_⟩
      · simp only [Names.setB, if_true]
        exact heap_alloc_new w _
      · simp only [Names.setB, if_true]; exact hM.size
      · simp only [Names.setB, if_true]; exact hnone
    · rw [if_neg e] at hi
      obtain ⟨o2, q1, q2, q4, q5⟩ := hM.blk i c hi
      have hne : (N.setB d w.heap.size).ρ i = N.ρ i := by simp only [Names.setB]; rw [if_neg (fun hh => e hh.symm)]
      rw [hne]
      refine ⟨o2, by rw [hold _ (lt_of_heap q1)]; exact q1, ?_, q4, q5⟩
      unfold BlkSat at q2 ⊢
      split at q2
      · obtain ⟨ds, p1, p2, p3⟩ := q2
        exact ⟨ds, p1, LeafRels.names _ _ p2 (hrho _ (hn i c hi)) (fun _ _ _ _ => rfl), p3⟩
      · exact q2
      · exact q2
  · intro i j c1 c2 hi hj he
    rw [getB_cons] at hi hj
    simp only [Names.setB] at he
    by_cases e1 : d = i
    · by_cases e2 : d = j
      · omega
      · rw [if_neg e2] at hj
        rw [if_pos e1.symm, if_neg (fun hh => e2 hh.symm)] at he
        obtain ⟨ds, q1, _⟩ := hM.blk j c2 hj
        have := lt_of_heap q1
        omega
    · rw [if_neg e1] at hi
      by_cases e2 : d = j
      · rw [if_neg (fun hh => e1 hh.symm), if_pos e2.symm] at he
        obtain ⟨ds, q1, _⟩ := hM.blk i c1 hi
        have := lt_of_heap q1
        omega
      · rw [if_neg e2] at hj
        rw [if_neg (fun hh => e1 hh.symm), if_neg (fun hh => e2 hh.symm)] at he
        exact hM.inj i j c1 c2 hi hj he
  · intro r R hR
    obtain ⟨ds, q1, q2⟩ := hM.row r R hR
    exact ⟨ds, q1.alloc _, q2⟩
  · intro r R g i c hR hg hi
    rw [getB_cons] at hi
    simp only [Names.setB]
    by_cases e : d = i
    · rw [if_pos e.symm]
      have := (ownBlock_lt hM hR hg).2
      omega
    · rw [if_neg e] at hi
      rw [if_neg (fun hh => e hh.symm)]
      exact hM.rowb r R g i c hR hg hi
theorem MemSat.newB (hM : MemSat B w0 bs rs N h w) {d : Nat} {b : Blk} {o : Obj} (hr : BlkSat (N.setB d w.heap.size) h b o)
    (hn : anyBlks (Leaf.namesB d) bs = false) :
    MemSat B w0 ((d, b) :: bs) rs (N.setB d w.heap.size) h (w.alloc o) :=
  hM.newB' hr fun i c hi => anyBlks_false hn i c hi
end
end Go.Fr
namespace Go.Fr
open Go Go.RowKit Go.Lib
universe u
section
variable {P : Program} {E : Env} {B : Nat} {w0 w w' : World} {bs : Blks} {rs : Rows} {N : Names} {h h' : PHeap} {sl : Slots} {v : Nat → Value} {n : Nat}
theorem mapSlots_get (g : Nat → Option Leaf) : (sl : Slots) → ∀ t, getS (mapSlots g sl) t = (getS sl t).sub g
  | [], t => rfl
  | (k, s) :: r, t => by
    show getS ((k, s.sub g) :: mapSlots g r) t = _
    rw [getS_cons, getS_cons, mapSlots_get g r t]
    split <;> rfl
theorem mapBlks_get (g : Nat → Option Leaf) : (bs : Blks) → ∀ i, getB (mapBlks g bs) i = (getB bs i).map fun b => ⟨b.ty, subs g b.cells, b.it⟩
  | [], i => rfl
  | (k, b) :: r, i => by
    show getB ((k, ⟨b.ty, subs g b.cells, b.it⟩) :: mapBlks g r) i = _
    rw [getB_cons, getB_cons, mapBlks_get g r i]
    split <;> rfl
theorem rmR_get : (rs : Rows) → ∀ r i, getR (rmR rs r) i = if r = i then none else getR rs i
  | [], r, i => by simp [rmR, getR]
  | (k, R) :: rs, r, i => by
    unfold rmR
    cases hb : Nat.beq k r with
    | true =>
      have := Nat.eq_of_beq_eq_true hb
      subst this
      rw [cond_true, rmR_get rs, getR_cons]
      split <;> simp [*]
    | false =>
      have := Nat.ne_of_beq_eq_false hb
      rw [cond_false, getR_cons, getR_cons, rmR_get rs]
      by_cases e : k = i
      · subst e; simp [Ne.symm this]
      · simp [e]
def Keeps (N : Names) (_h : PHeap) (h' : PHeap) (g : Nat → Option Leaf) : Prop := ∀ i l, g i = some l → ∀ v, v = N.V i ∧ v.oneCell' = true → l.rel N h' v
mutual
theorem Leaf.rel_sub {g : Nat → Option Leaf} (hg : Keeps N h h' g) (hl : PLe h h') : (l : Leaf) → {v : Value} → l.rel N h v → (l.sub g).rel N h' v
  | .row i, v, hr => by
    simp only [Leaf.sub]
    cases hi : g i with
    | none => exact Leaf.rel_mono hl _ v hr
    | some l => exact hg i l hi v (by simpa only [Leaf.rel] using hr)
  | .rptr i a b c, v, hr => by
    simp only [Leaf.sub]
    cases hi : g i with
    | none => exact Leaf.rel_mono hl _ v hr
    | some l => simp only [Leaf.rel]
  | .rsub i a b, v, hr => by
    simp only [Leaf.sub]
    cases hi : g i with
    | none => exact Leaf.rel_mono hl _ v hr
    | some l => simp only [Leaf.rel]
  | .clo f caps, v, hr => by
    simp only [Leaf.sub, Leaf.rel] at hr ⊢
    obtain ⟨vs, e1, e2⟩ := hr
    exact ⟨vs, e1, rels_sub hg hl caps e2⟩
  | .any, v, hr => Leaf.rel_mono hl _ v hr
  | .undef, v, hr => Leaf.rel_mono hl _ v hr
  | .blit _, v, hr => Leaf.rel_mono hl _ v hr
  | .tv _ _, v, hr => Leaf.rel_mono hl _ v hr
  | .raw _, v, hr => Leaf.rel_mono hl _ v hr
  | .ptr _ _, v, hr => Leaf.rel_mono hl _ v hr
  | .mref _, v, hr => Leaf.rel_mono hl _ v hr
  | .eptr _ _ _ _, v, hr => Leaf.rel_mono hl _ v hr
theorem rels_sub {g : Nat → Option Leaf} (hg : Keeps N h h' g) (hl : PLe h h') : (ls : List Leaf) → {vs : List Value} → LeafRels N h ls vs → LeafRels N h' (subs g ls) vs
  | [], _, hr => by rw [LeafRels] at hr; simp only [subs]; exact LeafRels.nil_iff.2 hr
  | l :: ls, _, hr => by
    rw [LeafRels] at hr
    obtain ⟨v, r, rfl, e1, e2⟩ := hr
    simp only [subs]
    exact LeafRels.cons (Leaf.rel_sub hg hl l e1) (rels_sub hg hl ls e2)
end
theorem SV.rel_sub {g : Nat → Option Leaf} (hg : Keeps N h h' g) (hl : PLe h h') (s : SV) {v : Value} (hr : s.rel N h v) : (s.sub g).rel N h' v := by
  cases s with
  | leaf l => exact SV.leaf_iff.2 (l.rel_sub hg hl (SV.leaf_iff.1 hr))
  | agg ls =>
    obtain ⟨cs, e1, e2, e3⟩ := hr
    exact ⟨cs, e1, rels_sub hg hl ls e2, e3⟩
  | tupv t x =>
    obtain ⟨vs, e1, e2⟩ := hr
    exact ⟨vs, e1, trep_mono hl t x vs e2⟩
theorem SlotSat.mapped {g : Nat → Option Leaf} (hg : Keeps N h h' g) (hl : PLe h h') (hs : SlotSat sl N h v) : SlotSat (mapSlots g sl) N h' v := fun t => by
  rw [mapSlots_get g]
  exact SV.rel_sub hg hl _ (hs t)
theorem BlkSat.mapped {g : Nat → Option Leaf} (hg : Keeps N h h' g) (hl : PLe h h') {b : Blk} {o : Obj} (e : BlkSat N h b o) : BlkSat N h' ⟨b.ty, subs g b.cells, b.it⟩ o := by
  obtain ⟨t, ls, it⟩ := b
  cases it with
  | none =>
    obtain ⟨cs, q1, q2, q3⟩ := BlkSat.cells.1 e
    exact BlkSat.cells.2 ⟨cs, q1, rels_sub hg hl ls q2, q3⟩
  | some p =>
    cases p with
    | str s p => exact e
    | map =>
      obtain ⟨K, V, xs, es, cl, q1, q2, q3⟩ := BlkSat.map.1 e
      subst q1
      exact BlkSat.map.2 ⟨K, V, xs, es, cl, rfl, q2, MapRep.mono hl _ _ q3⟩
theorem forget_keeps (r : Nat) : Keeps N h h (forget r) := by
  intro i l hl v hv
  unfold forget at hl
  cases hb : Nat.beq i r with
  | true => rw [hb] at hl; injection hl with hl; subst hl; simp only [Leaf.rel]
  | false => rw [hb] at hl; cases hl
theorem MemSat.mapBlks {g : Nat → Option Leaf} (hg : Keeps N h h g) (hM : MemSat B w0 bs rs N h w) : MemSat B w0 (Go.Fr.mapBlks g bs) rs N h w := by
  have hget : ∀ i b, getB (Go.Fr.mapBlks g bs) i = some b → ∃ c, getB bs i = some c ∧ b = ⟨c.ty, subs g c.cells, c.it⟩ := by
    intro i b hb
    rw [mapBlks_get] at hb
    cases hc : getB bs i with
    | none => rw [hc] at hb; cases hb
    | some c => rw [hc] at hb; injection hb with hb; exact ⟨c, rfl, hb.symm⟩
  refine ⟨hM.below, hM.size, hM.pin, ?_, ?_, hM.row, hM.rowh, ?_, hM.rowr⟩
  · intro i b hb
    obtain ⟨c, hc, rfl⟩ := hget i b hb
    obtain ⟨o, q1, q2, q4⟩ := hM.blk i c hc
    exact ⟨o, q1, q2.mapped hg (PLe.refl h), q4⟩
  · intro i j b c hb hc he
    obtain ⟨b', hb', _⟩ := hget i b hb
    obtain ⟨c', hc', _⟩ := hget j c hc
    exact hM.inj i j b' c' hb' hc' he
  · intro r R g i b hR hg hb
    obtain ⟨b', hb', _⟩ := hget i b hb
    exact hM.rowb r R g i b' hR hg hb'
theorem MemSat.rmRow (hM : MemSat B w0 bs rs N h w) (r : Nat) : MemSat B w0 bs (rmR rs r) N h w := by
  have hget : ∀ i R, getR (rmR rs r) i = some R → getR rs i = some R ∧ r ≠ i := by
    intro i R hR
    rw [rmR_get] at hR
    split at hR
    · cases hR
    · rename_i e; exact ⟨hR, e⟩
  exact ⟨hM.below, hM.size, hM.pin, hM.blk, hM.inj, fun i R hR => hM.row i R (hget i R hR).1, fun i R g hR => hM.rowh i R g (hget i R hR).1,
    fun i R g j b hR => hM.rowb i R g j b (hget i R hR).1, fun i j R S g hR hS => hM.rowr i j R S g (hget i R hR).1 (hget j S hS).1⟩
def Names.setR (N : Names) (d : Nat) (v : Value) : Names := { N with V := fun k => if k = d then v else N.V k }
theorem MemSat.newR (hM : MemSat B w0 bs rs N h w) {d : Nat} {R : RowS} {v : Value} {cs : List Value} {row : Option Nat} (hb : Below B w0 w') (hsz : w.heap.size ≤ w'.heap.size)
    (hgr : ∀ k, k < w.heap.size → some k ≠ row → w'.heap[k]? = w.heap[k]?) (ho : w'.ownsRow B R.e R.t.size v R.xs.length cs) (hc : RowCells h R.t R.xs cs)
    (hfree : ∀ g, v.ownBlock = some g ∨ row = some g → h g = none ∧ (∀ i b, getB bs i = some b → N.ρ i ≠ g) ∧ (∀ s S, getR rs s = some S → (N.V s).ownBlock ≠ some g))
    (hn : anyBlks (Leaf.namesR d) bs = false) : MemSat B w0 bs ((d, R) :: rs) (N.setR d v) h w' := by
  have hV : ∀ (ls : List Leaf), anyLeaf (Leaf.namesR d) ls = false → ∀ l ∈ ls, ∀ i, Leaf.namesR i l = true → (N.setR d v).V i = N.V i := by
    intro ls hf l hl i hi
    simp only [Names.setR]
    rw [if_neg]
    intro e
    subst e
    rw [anyLeaf_false hf l hl] at hi
    cases hi
  refine ⟨hb, Nat.le_trans hM.size hsz, ?_, ?_, hM.inj, ?_, ?_, ?_, ?_⟩
  · intro k o hk
    have hlt := hM.pin.lt hk
    rw [hgr k hlt (fun e => by rw [(hfree k (.inr e.symm)).1] at hk; cases hk)]
    exact hM.pin k o hk
  · intro i b hi
    obtain ⟨o, q1, q2, q4, q5⟩ := hM.blk i b hi
    refine ⟨o, by rw [show (N.setR d v).ρ i = N.ρ i from rfl, hgr _ (lt_of_heap q1) (fun e => (hfree _ (.inr e.symm)).2.1 i b hi rfl)]; exact q1, ?_, q4, q5⟩
    unfold BlkSat at q2 ⊢
    split at q2
    · obtain ⟨ds, p1, p2, p3⟩ := q2
      exact ⟨ds, p1, LeafRels.names _ _ p2 (fun _ _ _ _ => rfl) (hV _ (anyBlks_false hn i b hi)), p3⟩
    · exact q2
    · exact q2
  · intro r S hS
    rw [getR_cons] at hS
    simp only [Names.setR]
    by_cases e : d = r
    · subst e
      rw [if_pos rfl] at hS ⊢
      injection hS with hS; subst hS
      exact ⟨cs, ho, hc⟩
    · rw [if_neg e] at hS
      rw [if_neg (fun hh => e hh.symm)]
      obtain ⟨ds, q1, q2⟩ := hM.row r S hS
      refine ⟨ds, ⟨q1.1, ?_⟩, q2⟩
      rcases q1.2 with h0 | ⟨g, cap, cur, e1, e2, e3, e4⟩
      · exact .inl h0
      · exact .inr ⟨g, cap, cur, e1, e2, by rw [hgr g (lt_of_heap e3) (fun hh => (hfree g (.inr hh.symm)).2.2 r S hS (by rw [e1]; rfl))]; exact e3, e4⟩
  · intro r S g hS hg
    rw [getR_cons] at hS
    simp only [Names.setR] at hg
    by_cases e : d = r
    · subst e
      rw [if_pos rfl] at hg
      exact (hfree g (.inl hg)).1
    · rw [if_neg e] at hS
      rw [if_neg (fun hh => e hh.symm)] at hg
      exact hM.rowh r S g hS hg
  · intro r S g i b hS hg hi
    rw [getR_cons] at hS
    simp only [Names.setR] at hg ⊢
    by_cases e : d = r
    · subst e
      rw [if_pos rfl] at hg
      exact (hfree g (.inl hg)).2.1 i b hi
    · rw [if_neg e] at hS
      rw [if_neg (fun hh => e hh.symm)] at hg
      exact hM.rowb r S g i b hS hg hi
  · intro r s R1 R2 g h1 h2 g1 g2
    rw [getR_cons] at h1 h2
    simp only [Names.setR] at g1 g2
    by_cases e1 : d = r
    · by_cases e2 : d = s
      · omega
      · rw [if_neg e2] at h2
        rw [if_pos e1.symm] at g1
        rw [if_neg (fun hh => e2 hh.symm)] at g2
        exact absurd g2 ((hfree g (.inl g1)).2.2 s R2 h2)
    · rw [if_neg e1] at h1
      rw [if_neg (fun hh => e1 hh.symm)] at g1
      by_cases e2 : d = s
      · rw [if_pos e2.symm] at g2
        exact absurd g1 ((hfree g (.inl g2)).2.2 r R1 h1)
      · rw [if_neg e2] at h2
        rw [if_neg (fun hh => e2 hh.symm)] at g2
        exact hM.rowr r s R1 R2 g h1 h2 g1 g2
theorem list_cells (t : Ty) (ad : Addr) : (ys : List t.den) → (k : Nat) → (∀ (i : Nat) x, ys[i]? = some x → ∃ ds, rep h t x ds ∧ CellsAt h (ad.add ((k + i) * t.size)) ds) →
    ∃ news, RowCells h t ys news ∧ ∀ (j : Nat) u, news[j]? = some u → hcell h (ad.add (k * t.size + j)) = some u
  | [], k, _ => ⟨[], rfl, fun j u hu => by simp at hu⟩
  | y :: ys, k, hy => by
    obtain ⟨ds, g1, g2⟩ := hy 0 y rfl
    obtain ⟨news, q1, q2⟩ := list_cells t ad ys (k + 1) fun i x hx => by
      obtain ⟨es, p1, p2⟩ := hy (i + 1) x (by simpa using hx)
      exact ⟨es, p1, by rw [show k + 1 + i = k + (i + 1) by omega]; exact p2⟩
    have hl := rep_len t y ds g1
    refine ⟨ds ++ news, ⟨ds, news, rfl, g1, q1⟩, fun j u hu => ?_⟩
    by_cases hj : j < ds.length
    · rw [List.getElem?_append_left hj] at hu
      have := g2 j u hu
      rw [add_add, Nat.add_zero] at this
      exact this
    · rw [List.getElem?_append_right (by omega)] at hu
      have := q2 _ u hu
      rw [show (k + 1) * t.size + (j - ds.length) = k * t.size + j by rw [Nat.add_mul]; omega] at this
      exact this
theorem run_append_nil_src (base : Nat) (t ty e : TypeId) (i : TypeInfo) (size : Nat) (ht : P.underlying t = some (.slice e)) (hi : P.info? e = some i)
    (v : Value) (n : Nat) (xs : List Value) (hown : w.ownsRow base e size v n xs) (c : Nat) : (Builtin.append_ #[t, t] ty #[v, .slice none 0 c]).run P w = .ok v w := by
  rcases hown.2 with ⟨rfl, rfl⟩ | ⟨g, cap, cur, rfl, _, _, hnc, _⟩
  · simp [Builtin.append_, run_underlying ht, sizeOf, typeInfo, hi, Builtin.lenOf, Builtin.firstCells]
  · simp [Builtin.append_, run_underlying ht, sizeOf, typeInfo, hi, Builtin.lenOf, Builtin.firstCells, hnc, storeCells]
theorem getR_setR (rs : Rows) (i : Nat) (c : RowS) (j : Nat) : getR (setR rs i c) j = if i = j then (getR rs j).map fun _ => c else getR rs j := by
  induction rs with
  | nil => simp [setR, getR]
  | cons p r ih =>
    obtain ⟨k, b⟩ := p
    unfold setR
    cases hb : Nat.beq k i with
    | true =>
      have := Nat.eq_of_beq_eq_true hb
      subst this
      rw [cond_true, getR_cons, getR_cons]
      by_cases hj : k = j <;> simp [hj]
    | false =>
      have := Nat.ne_of_beq_eq_false hb
      rw [cond_false, getR_cons, getR_cons, ih]
      by_cases hj : k = j
      · subst hj
        simp [Ne.symm this]
      · simp [hj]
theorem RowCells_set (t : Ty) : (xs : List t.den) → (cs : List Value) → RowCells h t xs cs → ∀ (i : Nat) (y : t.den) (ds : List Value), i < xs.length → rep h t y ds → RowCells h t (xs.set i y) (cs.take (i * t.size) ++ ds ++ cs.drop (i * t.size + t.size))
  | [], _, _, i, y, ds, hi, _ => by simp at hi
  | x :: xs, cs, ⟨d, r, e, h1, h2⟩, 0, y, ds, hi, hy => by
    subst e
    have hd := rep_len t x d h1
    refine ⟨ds, r, ?_, hy, h2⟩
    simp [hd]
  | x :: xs, cs, ⟨d, r, e, h1, h2⟩, i + 1, y, ds, hi, hy => by
    subst e
    have hd := rep_len t x d h1
    have ih := RowCells_set t xs r h2 i y ds (by simpa using hi) hy
    refine ⟨d, _, ?_, h1, ih⟩
    have e1 : (i + 1) * t.size = d.length + i * t.size := by rw [hd, Nat.add_mul]; omega
    rw [e1, Nat.add_assoc, List.take_length_add_append, List.drop_length_add_append]
    simp [List.append_assoc]
theorem MemSat.turnRow (hM : MemSat B w0 bs rs N h w) {r : Nat} {R R' : RowS} (hR : getR rs r = some R) {g : Nat} (hg : (N.V r).ownBlock = some g) (hbel : Below B w0 w') (hsz : w'.heap.size = w.heap.size)
    (hother : ∀ k, k ≠ g → w'.heap[k]? = w.heap[k]?) {cs : List Value} (ho : w'.ownsRow B R'.e R'.t.size (N.V r) R'.xs.length cs) (hc : RowCells h R'.t R'.xs cs) : MemSat B w0 bs (setR rs r R') N h w' := by
  have hget : ∀ j S, getR (setR rs r R') j = some S → ∃ S', getR rs j = some S' := by
    intro j S hj
    rw [getR_setR] at hj
    split at hj
    · rename_i e; subst e; exact ⟨R, hR⟩
    · exact ⟨S, hj⟩
  refine ⟨hbel, by rw [hsz]; exact hM.size, ?_, ?_, hM.inj, ?_, ?_, ?_, ?_⟩
  · intro k o hk
    rw [hother k (fun e => by rw [e, hM.rowh r R g hR hg] at hk; cases hk)]
    exact hM.pin k o hk
  · intro i b hb
    obtain ⟨o, q1, q2, q4, q5⟩ := hM.blk i b hb
    exact ⟨o, by rw [hother _ (hM.rowb r R g i b hR hg hb)]; exact q1, q2, q4, q5⟩
  · intro q S hS
    rw [getR_setR] at hS
    by_cases e : r = q
    · subst e
      rw [if_pos rfl, hR] at hS
      simp only [Option.map_some, Option.some.injEq] at hS
      subst hS
      exact ⟨cs, ho, hc⟩
    · rw [if_neg e] at hS
      obtain ⟨ds, q1, q2⟩ := hM.row q S hS
      refine ⟨ds, ⟨q1.1, ?_⟩, q2⟩
      rcases q1.2 with h0 | ⟨g', cap, cur, e1, e2, e3, e4⟩
      · exact .inl h0
      · exact .inr ⟨g', cap, cur, e1, e2, by rw [hother g' (fun hh => e (hM.rowr r q R S g hR hS hg (by rw [e1, ← hh]; rfl)))]; exact e3, e4⟩
  · intro q S k hq hk
    obtain ⟨S', hS'⟩ := hget q S hq
    exact hM.rowh q S' k hS' hk
  · intro q S k i b hq hk hb
    obtain ⟨S', hS'⟩ := hget q S hq
    exact hM.rowb q S' k i b hS' hk hb
  · intro q1 q2 S1 S2 k h1 h2 k1 k2
    obtain ⟨S1', hS1'⟩ := hget q1 S1 h1
    obtain ⟨S2', hS2'⟩ := hget q2 S2 h2
    exact hM.rowr q1 q2 S1' S2' k hS1' hS2' k1 k2
theorem MemSat.turnRowG (hM : MemSat B w0 bs rs N h w) {r : Nat} {R R' : RowS} (hR : getR rs r = some R) (hbel : Below B w0 w') (hsz : w.heap.size ≤ w'.heap.size)
    (hother : ∀ k, k < w.heap.size → some k ≠ (N.V r).ownBlock → w'.heap[k]? = w.heap[k]?) {cs : List Value} (ho : w'.ownsRow B R'.e R'.t.size (N.V r) R'.xs.length cs) (hc : RowCells h R'.t R'.xs cs) : MemSat B w0 bs (setR rs r R') N h w' := by
  have hget : ∀ j S, getR (setR rs r R') j = some S → ∃ S', getR rs j = some S' := by
    intro j S hj
    rw [getR_setR] at hj
    split at hj
    · rename_i e; subst e; exact ⟨R, hR⟩
    · exact ⟨S, hj⟩
  refine ⟨hbel, Nat.le_trans hM.size hsz, ?_, ?_, hM.inj, ?_, ?_, ?_, ?_⟩
  · intro k o hk
    rw [hother k (hM.pin.lt hk) (fun e => by rw [hM.rowh r R k hR e.symm] at hk; cases hk)]
    exact hM.pin k o hk
  · intro i b hb
    obtain ⟨o, q1, q2, q4, q5⟩ := hM.blk i b hb
    exact ⟨o, by rw [hother _ (lt_of_heap q1) (fun e => hM.rowb r R _ i b hR e.symm hb rfl)]; exact q1, q2, q4, q5⟩
  · intro q S hS
    rw [getR_setR] at hS
    by_cases e : r = q
    · subst e
      rw [if_pos rfl, hR] at hS
      simp only [Option.map_some, Option.some.injEq] at hS
      subst hS
      exact ⟨cs, ho, hc⟩
    · rw [if_neg e] at hS
      obtain ⟨ds, q1, q2⟩ := hM.row q S hS
      refine ⟨ds, ⟨q1.1, ?_⟩, q2⟩
      rcases q1.2 with h0 | ⟨g', cap, cur, e1, e2, e3, e4⟩
      · exact .inl h0
      · exact .inr ⟨g', cap, cur, e1, e2, by rw [hother g' (lt_of_heap e3) (fun hh => e (hM.rowr r q R S g' hR hS hh.symm (by rw [e1]; rfl)))]; exact e3, e4⟩
  · intro q S k hq hk
    obtain ⟨S', hS'⟩ := hget q S hq
    exact hM.rowh q S' k hS' hk
  · intro q S k i b hq hk hb
    obtain ⟨S', hS'⟩ := hget q S hq
    exact hM.rowb q S' k i b hS' hk hb
  · intro q1 q2 S1 S2 k h1 h2 k1 k2
    obtain ⟨S1', hS1'⟩ := hget q1 S1 h1
    obtain ⟨S2', hS2'⟩ := hget q2 S2 h2
    exact hM.rowr q1 q2 S1' S2' k hS1' hS2' k1 k2
theorem append_str_run {t t' te : TypeId} {tei : TI} (hTe : TIok P te tei) (ht : P.underlying t = some (.slice te)) (ht' : P.underlying t' = some .string) (hk : tei.zero.length = tei.size) (h1 : tei.size = 1)
    {v : Value} {xs : List Int} {cs : List Value} (hB : B ≤ w.heap.size) (ho : w.ownsRow B te 1 v xs.length cs) (hc : RowCells h (.int .u8) xs cs) (s : ByteArray)
    (hb : (xs.length + (strBytes s).length) * tei.bytes ≤ 140737488355328) (hm : xs.length + (strBytes s).length ≤ maxLen) (ty : TypeId) :
    ∃ v' w' cs', (Builtin.append_ #[t, t'] ty #[v, .string s]).run P w = .ok v' w' ∧ w'.ownsRow B te 1 v' (xs ++ strBytes s).length cs' ∧ RowCells h (.int .u8) (xs ++ strBytes s) cs' ∧ GrownBy w w' v.ownBlock ∧ (v'.ownBlock = v.ownBlock ∨ v'.ownBlock = some w.heap.size) := by
  obtain ⟨i, hi, hsz, hby, hzz⟩ := hTe.info
  obtain ⟨z, hz1, zcs, hz2, hz3, _⟩ := hzz hk
  have hs1 : i.size = 1 := by rw [hsz, h1]
  have hsl : (strBytes s).length = s.size := by simp [strBytes]
  have hcl : cs.length = xs.length := by have := RowCells_len (.int .u8) xs cs hc; simpa [Ty.size] using this
  have hzc : z.cells.size = 1 := by
    have := LeafRels.length _ _ (hz3 ⟨fun k => k, fun _ => .nilFunc⟩ h)
    rw [hz2]
    simp
    omega
  have hcells : RowCells h (.int .u8) (strBytes s) (strCells s) := by
    have key : ∀ l : List UInt8, RowCells h (.int .u8) (l.map fun b => (b.toNat : Int)) (l.map fun b => Value.int .u8 b.toNat) := by
      intro l
      induction l with
      | nil => rfl
      | cons x l ih => exact ⟨[.int .u8 x.toNat], _, rfl, rfl, ih⟩
    exact key s.data.toList
  have hall := RowCells_append (.int .u8) xs (strBytes s) cs (strCells s) hc hcells
  have hsmall : xs.length + s.size ≤ 9223372036854775807 := by rw [hsl] at hm; simp only [maxLen] at hm; omega
  rw [hsl] at hm hb
  rw [← hby] at hb
  have hlen : (cs ++ strCells s).length = (xs.length + s.size) * 1 := by rw [List.length_append, hcl, strCells_length, Nat.mul_one]
  have fresh : ∀ (old : Nat), old < xs.length + s.size → ∀ (row : Option Nat),
      (w.drew.alloc (.cells (cs.toArray ++ (strCells s).toArray ++ Builtin.zeroCells z.cells (grownCap w (xs.length + s.size) old te - (xs.length + s.size))) te)).ownsRow B te 1
        (.slice (some ⟨w.heap.size, 0, none⟩) (xs.length + s.size) (grownCap w (xs.length + s.size) old te)) (xs.length + s.size) (cs ++ strCells s) ∧
      GrownBy w (w.drew.alloc (.cells (cs.toArray ++ (strCells s).toArray ++ Builtin.zeroCells z.cells (grownCap w (xs.length + s.size) old te - (xs.length + s.size))) te)) row := by
    intro old hold row
    refine ⟨⟨hlen, .inr ⟨w.heap.size, _, _, rfl, hB, heap_alloc_new w.drew _, grownCap_ge w (xs.length + s.size) old te, grownCap_le_maxLen w (xs.length + s.size) old te hm, ?_, ?_⟩⟩, ⟨rfl, rfl, rfl, by simp, fun k hk _ => Below.heap_alloc _ _ _ hk, Nat.le_succ _⟩⟩
    · have hge := grownCap_ge w (xs.length + s.size) old te
      simp only [Array.size_append, List.size_toArray, size_zeroCells, hzc, hcl, strCells_length]
      omega
    · simp only [Array.toList_append, List.append_assoc]
      rw [← List.append_assoc, ← hlen]
      exact List.take_left
  have e0 : (xs ++ strBytes s).length = xs.length + s.size := by rw [List.length_append, hsl]
  rw [e0]
  rcases ho.2 with ⟨rfl, h0⟩ | ⟨g, cap, cur, rfl, hbg, hg, hnc, hcm, hcs, htake⟩
  · have hx : xs = [] := List.eq_nil_of_length_eq_zero h0
    subst hx
    have hc0 : cs = [] := List.eq_nil_of_length_eq_zero (by rw [hcl]; rfl)
    subst hc0
    by_cases hm0 : s.size = 0
    · have hn : strCells s = [] := List.eq_nil_of_length_eq_zero (by rw [strCells_length]; exact hm0)
      refine ⟨.slice none 0 0, w, [], ?_, by rw [hm0]; exact World.ownsRow_nil w B te 1, by rw [← hn]; exact hcells, ⟨rfl, rfl, rfl, Nat.le_refl _, fun _ _ _ => rfl, Nat.le_refl _⟩, .inl rfl⟩
      have hf := run_firstCells_string (P := P) w 1 s
      rw [hm0] at hf
      simp [Builtin.append_, run_underlying ht, run_underlying ht', sizeOf, typeInfo, hi, hs1, Builtin.lenOf, hm0, hf]
    · have hr := run_append_nil_string (P := P) w t t' ty te i z ht ht' hi hz1 s (by omega) (by omega) (by simp only [List.length_nil, Nat.zero_add] at hb; omega)
      have hgr := fresh 0 (by simp; omega) (Value.ownBlock (.slice none 0 0))
      simp only [List.length_nil, Nat.zero_add, List.nil_append, Array.empty_append] at hgr ⊢
      have e1 : (s.data.map fun b => Value.int .u8 b.toNat) = (strCells s).toArray := by
        apply Array.ext'
        simp [strCells]
      rw [e1] at hr
      exact ⟨_, _, _, hr, hgr.1, hcells, hgr.2, .inr rfl⟩
  · by_cases hroom : xs.length + s.size ≤ cap
    · have hcs' : cur.size = cap := by simpa using hcs
      have hr := run_append_room_string (P := P) w t t' ty te i ht ht' hi hs1 g xs.length cap cur hg s hroom (by omega)
      refine ⟨_, _, cs ++ strCells s, hr, ⟨hlen, .inr ⟨g, cap, _, rfl, hbg, setRow_heap w g cur _ te _ hg, hroom, hcm, ?_, ?_⟩⟩, hall, ⟨rfl, rfl, rfl, by simp, fun k _ hk => setRow_other w g k _ (fun e => hk (by simp [Value.ownBlock, e])), Nat.le_refl _⟩, .inl rfl⟩
      · simp only [List.size_toArray, List.length_append, List.length_take, List.length_drop, Array.length_toList, strCells_length]
        omega
      · have ht1 : cur.toList.take xs.length = cs := by simpa using htake
        rw [ht1, ← hlen]
        exact List.take_left
    · have holds : ∀ j u, cs[j]? = some u → w.cell? ((⟨g, 0, none⟩ : Addr).add j) = some u := ho.cells (g := g) rfl
      have hr := run_append_grow_string (P := P) w t t' ty te i z ht ht' hi hz1 ⟨g, 0, none⟩ xs.length cap cs (by rw [hs1, hcl, Nat.mul_one]) holds s (by omega) (by omega) (growslice_fits (by omega) hb)
      have hgr := fresh cap (by omega) (Value.ownBlock (.slice (some ⟨g, 0, none⟩) xs.length cap))
      exact ⟨_, _, _, hr, hgr.1, hall, hgr.2, .inr rfl⟩
theorem append_run {t te : TypeId} {tei : TI} (hTe : TIok P te tei) (ht : P.underlying t = some (.slice te)) (hz : tei.zero.length = tei.size) (h1 : 1 ≤ tei.size) {T : Ty} (hTs : tei.size = T.size)
    {v : Value} {xs ys : List T.den} {cs : List Value} (hB : B ≤ w.heap.size) (ho : w.ownsRow B te T.size v xs.length cs) (hc : RowCells h T xs cs) (hp : PIn h w)
    {u : Value} (hu : vrep h (.sl T) ys u) (hb : (xs.length + ys.length) * tei.bytes ≤ 140737488355328) (hm : xs.length + ys.length ≤ maxLen) (ty : TypeId) :
    ∃ v' w' cs', (Builtin.append_ #[t, t] ty #[v, u]).run P w = .ok v' w' ∧ w'.ownsRow B te T.size v' (xs ++ ys).length cs' ∧ RowCells h T (xs ++ ys) cs' ∧ GrownBy w w' v.ownBlock ∧ (v'.ownBlock = v.ownBlock ∨ v'.ownBlock = some w.heap.size) := by
  obtain ⟨i, hi, hsz, hby, hzz⟩ := hTe.info
  obtain ⟨z, hz1, zcs, hz2, hz3, _⟩ := hzz hz
  have hzs : z.cells.size = T.size := by
    rw [hz2, ← hTs, ← hz]
    have := LeafRels.length _ _ (hz3 ⟨fun k => k, fun _ => .nilFunc⟩ h)
    simp [this]
  obtain ⟨us, g1, rfl⟩ := hu
  obtain ⟨A, c, rfl, g2, g3, g4⟩ := g1
  cases A with
  | none =>
    have hy := g3 rfl
    subst hy
    exact ⟨v, w, cs, run_append_nil_src B t ty te i T.size ht hi v _ _ ho c, by simpa using ho, by simpa using hc, GrownBy.refl w _, .inl rfl⟩
  | some ad =>
    obtain ⟨news, q1, q2⟩ := list_cells (h := h) T ad ys 0 fun i x hx => by
      obtain ⟨ds, p1, p2⟩ := g4 i x ad hx rfl
      exact ⟨ds, p1, by rw [Nat.zero_add]; exact p2⟩
    obtain ⟨v', w', hr, e1, e2, _, e3⟩ := run_append_own_at (P := P) w B t ty te i z T.size tei.bytes ht hi hz1 (by omega) hby hzs (by omega) v xs.length cs ho ad ys.length c news
      (RowCells_len T ys news q1) (fun j u hu => cell_of_hcell hp (by have := q2 j u hu; simpa using this)) (RowCells_one T ys news q1) hm hb hB
    exact ⟨v', w', cs ++ news, hr, by rw [List.length_append]; exact e1, RowCells_append T xs ys cs news hc q1, .of e2 (sem_drawn _ _ hr), e3⟩
theorem zeroCells_flat (zs : List Value) : ∀ n, (Builtin.zeroCells zs.toArray n).toList = (List.replicate n zs).flatten
  | 0 => by simp [Builtin.zeroCells]
  | n + 1 => by
    have ih := zeroCells_flat zs n
    have hl : (List.replicate n zs).flatten.length = n * zs.length := by simp
    rw [List.replicate_succ', List.flatten_append, ← ih]
    apply List.ext_getElem?
    intro j
    have hsz : (Builtin.zeroCells zs.toArray n).toList.length = n * zs.length := by simp [Builtin.zeroCells]
    by_cases h1 : j < n * zs.length
    · rw [List.getElem?_append_left (by omega)]
      have h2 : j < (n + 1) * zs.length := by rw [Nat.add_mul]; omega
      simp [Builtin.zeroCells, h1, h2]
    · rw [List.getElem?_append_right (by omega), hsz]
      by_cases h2 : j < (n + 1) * zs.length
      · have h3 : j - n * zs.length < zs.length := by rw [Nat.add_mul] at h2; omega
        have h4 : j % zs.length = j - n * zs.length := by
          have hmc := Nat.mul_comm zs.length n
          have : j = (j - n * zs.length) + zs.length * n := by omega
          rw [this, Nat.add_mul_mod_self_left, Nat.mod_eq_of_lt h3]
          omega
        simp [Builtin.zeroCells, h2, h3, h4]
      · have h3 : ¬ j - n * zs.length < zs.length := by rw [Nat.add_mul] at h2; omega
        simp [Builtin.zeroCells, h2, h3]
theorem RowCells_replicate (T : Ty) {z : T.den} {zs : List Value} (hz : rep h T z zs) : ∀ n, RowCells h T (List.replicate n z) (List.replicate n zs).flatten
  | 0 => rfl
  | n + 1 => ⟨zs, (List.replicate n zs).flatten, by simp [List.replicate_succ], hz, RowCells_replicate T hz n⟩
theorem append_zeros_run {t t' te : TypeId} {tei : TI} (hTe : TIok P te tei) (ht : P.underlying t = some (.slice te)) {kn : IntKind} (ht' : P.underlying t' = some (.int kn)) (hk : tei.zero.length = tei.size) (h1 : 1 ≤ tei.size) {T : Ty} (hTs : tei.size = T.size)
    {z : T.den} (hz : implode T tei.zero = some (z, [])) (hB : B ≤ w.heap.size) {k : IntKind} {n : Nat} (hb : n * tei.bytes ≤ 140737488355328) (hm : n ≤ maxLen) (ty : TypeId) :
    ∃ v' w' cs', (Builtin.append_ #[t, t'] ty #[.slice none 0 0, .int k n]).run P w = .ok v' w' ∧ w'.ownsRow B te T.size v' n cs' ∧ RowCells h T (List.replicate n z) cs' ∧ GrownBy w w' none ∧ (v'.ownBlock = none ∨ v'.ownBlock = some w.heap.size) := by
  obtain ⟨i, hi, hsz, hby, hzz⟩ := hTe.info
  obtain ⟨zv, hz1, zcs, hz2, hz3, _⟩ := hzz hk
  have hrz : rep h T z zcs := implode_all hz (hz3 ⟨fun k => k, fun _ => .nilFunc⟩ h)
  have hzl : zcs.length = T.size := rep_len T z zcs hrz
  have hcells := RowCells_replicate T hrz n
  have h63 : (n : Int) ≤ 9223372036854775807 := by simp only [maxLen] at hm; omega
  have hbb : n * i.bytes ≤ 281474976710656 := by rw [hby]; omega
  cases n with
  | zero =>
    refine ⟨.slice none 0 0, w, [], ?_, World.ownsRow_nil w B te _, rfl, GrownBy.refl w _, .inl rfl⟩
    simp [Builtin.append_, run_underlying ht, run_underlying ht', sizeOf, typeInfo, hi, _root_.Go.asInt, asIntOf, IntKind.wrap_i64]
  | succ n =>
    have hr := Lib.run_append_nil_zeros (P := P) w t t' ty te i zv k kn ht ht' hi hz1 (n + 1) (by omega) (by omega) h63 hbb
    refine ⟨_, _, _, hr, ⟨?_, .inr ⟨w.heap.size, _, _, rfl, hB, heap_alloc_new w.drew _, grownCap_ge w (n + 1) 0 te, grownCap_le_maxLen w (n + 1) 0 te hm, ?_, ?_⟩⟩, hcells, ⟨rfl, rfl, rfl, by simp, fun k hk _ => Below.heap_alloc _ _ _ hk, Nat.le_succ _⟩, .inr rfl⟩
    · have := RowCells_len T _ _ hcells
      simpa using this
    · have hge := grownCap_ge w (n + 1) 0 te
      simp only [Array.size_append, size_zeroCells, hz2, List.size_toArray, hzl]
      rw [← Nat.add_mul]
      congr 1
      omega
    · rw [Array.toList_append, hz2, zeroCells_flat]
      have := RowCells_len T _ _ hcells
      rw [List.length_replicate] at this
      rw [← this]
      exact List.take_left
theorem clear_run {t te : TypeId} {tei : TI} (hTe : TIok P te tei) (ht : P.underlying t = some (.slice te)) (hk : tei.zero.length = tei.size) {T : Ty} (_hTs : tei.size = T.size)
    {z : T.den} (hz : implode T tei.zero = some (z, [])) {g len cap i : Nat} {e : TypeId} {cur : Array Value} (hg : w.heap[g]? = some (.cells cur e (0, 0))) (hcs : cur.size = cap * T.size) (hlc : len ≤ cap) (hi : i < len) (c : Nat) (ty : TypeId) :
    ∃ zs : List Value, rep h T z zs ∧ (Builtin.clear_ #[t] ty #[.slice (some ⟨g, i * T.size, none⟩) (len - i) c]).run P w = .ok (.tuple #[]) (w.setRow g (cur.toList.take (i * T.size) ++ (List.replicate (len - i) zs).flatten ++ cur.toList.drop (i * T.size + (len - i) * T.size)).toArray) := by
  obtain ⟨ie, hie, hsz, hby, hzz⟩ := hTe.info
  obtain ⟨zv, hz1, zcs, hz2, hz3, hz4⟩ := hzz hk
  have hrz : rep h T z zcs := implode_all hz (hz3 ⟨fun k => k, fun _ => .nilFunc⟩ h)
  have hzl : zcs.length = T.size := rep_len T z zcs hrz
  refine ⟨zcs, hrz, ?_⟩
  have hfl : (List.replicate (len - i) zcs).flatten.length = (len - i) * T.size := by simp [hzl]
  have hfit : i * T.size + (len - i) * T.size ≤ cur.size := by
    rw [← Nat.add_mul, hcs]
    exact Nat.mul_le_mul_right _ (by omega)
  have hst := run_storeCells_at P g (i * T.size) e (List.replicate (len - i) zcs).flatten 0 cur w hg (by rw [hfl]; omega) (by
    intro v hv
    obtain ⟨l, hl, hvl⟩ := List.mem_flatten.1 hv
    rw [(List.mem_replicate.1 hl).2] at hvl
    exact hz4 v hvl)
  rw [Nat.add_zero, hfl] at hst
  have hzc : (Builtin.zeroCells zv.cells (len - i)).toList = (List.replicate (len - i) zcs).flatten := by rw [hz2, zeroCells_flat]
  obtain ⟨m, hm⟩ : ∃ m, len - i = m + 1 := ⟨len - i - 1, by omega⟩
  rw [hm] at hst hzc ⊢
  simp only [List.append_assoc] at hst ⊢
  simp [Builtin.clear_, run_underlying ht, zeroValue, typeInfo, hie, hz1, hzc, hst]
end
end Go.Fr
namespace Go.Fr
open Go Go.RowKit
universe u
section
variable {P : Program} {E : Env} {B : Nat} {w0 w : World} {N : Names} {h0 h : PHeap} {b : Nat} {u : Nat → Value} {a : Act} {n : Nat}
theorem val_agg {t : Ty} {cs : List Value} (ha : t.isAgg = true) : t.val cs = .agg cs.toArray := by cases t <;> first | rfl | cases ha
theorem checkKey_scalar {kt : TypeId} {d : TypeDesc} (hd : P.underlying kt = some d) (hs : scalarDesc d = true) (v : Value) (em : Bool) (m : Nat) (w : World) : (Instr.checkKey em (m + 1) kt v).run P w = .ok () w := by
  unfold Instr.checkKey
  simp only [Sem.run_bind, run_underlying hd, Result.andThen]
  cases d <;> first | (cases hs; done) | (cases v <;> simp)
theorem checkKey_run {kt : TypeId} (hk : keyB P kt = true) {K : Ty} {i : TypeInfo} {d : TypeDesc} (hi : P.info? kt = some i) (hd : P.underlying kt = some d) (hsz : i.size = K.size) (hag : aggDesc d = K.isAgg)
    {x : K.den} {cs : List Value} (hx : rep h K x cs) (em : Bool) (w : World) : (Instr.checkKey em 10000 kt (K.val cs)).run P w = .ok () w := by
  unfold keyB at hk
  rw [hd] at hk
  cases d
  case struct gs =>
    simp only [hi] at hk
    rw [val_agg (by rw [← hag]; rfl)]
    show (Instr.checkKey em (9999 + 1) kt _).run P w = _
    unfold Instr.checkKey
    simp only [Sem.run_bind, run_underlying hd, Result.andThen_ok]
    rw [← Array.forIn_toList]
    have hlen := rep_len K x cs hx
    have each : ∀ g ∈ gs.toList, ∃ d', P.underlying g.type = some d' ∧ scalarDesc d' = true ∧ g.offset < cs.length := fun g hg => by
      have := List.all_eq_true.1 hk g hg
      split at this
      · rename_i d' hd'
        simp only [Bool.and_eq_true, decide_eq_true_eq] at this
        exact ⟨d', hd', this.1, by omega⟩
      · cases this
    clear hk
    generalize gs.toList = L at each
    induction L with
    | nil => simp
    | cons g L ih =>
      obtain ⟨d', hd', hs, ho⟩ := each g (by simp)
      have p1 : (part g.type cs.toArray g.offset).run P w = .ok cs[g.offset] w := by
        have hna : aggDesc d' = false := by cases d' <;> first | rfl | cases hs
        have hget : cs.toArray[g.offset]? = some cs[g.offset] := by simp [List.getElem?_eq_getElem ho]
        unfold part
        simp only [Sem.run_bind, run_isAgg_of hd', Result.andThen_ok, hna, Bool.false_eq_true, if_false, hget, Sem.run_pure]
      have p2 := checkKey_scalar hd' hs cs[g.offset] em 9998 w
      have ih' := ih fun y hy => each y (by simp [hy])
      by_cases hn : g.name = "_"
      · simp only [List.forIn_cons, Sem.run_bind, hn, ne_eq, not_true, if_false, Result.andThen_ok, Sem.run_pure]
        exact ih'
      · simp only [List.forIn_cons, Sem.run_bind, hn, ne_eq, not_false_eq_true, if_true, Result.andThen_ok, p1, p2, Sem.run_pure]
        exact ih'
  all_goals exact checkKey_scalar hd hk _ em 9999 w
structure MapIs (P : Program) (t : TypeId) (ei : TI) (K V : Ty) : Prop where
  und : ∃ kt et, P.underlying t = some (.map kt et) ∧
    (∀ x h cs em w, rep h K x cs → (Instr.checkKey em 10000 kt (K.val cs)).run P w = .ok () w) ∧
    (∀ x y h cs ds w, rep h K x cs → rep h K y ds → (Op.equal kt (K.val cs) (K.val ds)).run P w = .ok (K.beq x y) w) ∧
    (∃ d, P.underlying kt = some d) ∧
    (∀ z, ei.zero.length = ei.size → implode V ei.zero = some (z, []) → ∃ v, (∀ w, (zeroValue et).run P w = .ok v w) ∧ ∀ h, vrep h V z v)
  plain : K.plain = true
theorem mapKV_some (hE : EnvOk P E) {t : TypeId} {k : TI → Ty → Ty → Prop} (e : mapKV E t False k) : ∃ ei K V, MapIs P t ei K V ∧ k ei K V := by
  unfold mapKV at e
  split at e
  rotate_left
  · exact e.elim
  rename_i ti hti
  split at e
  rotate_left
  · exact e.elim
  rename_i kt et hk
  split at e
  rotate_left
  · exact e.elim
  rename_i ki hki
  split at e
  rotate_left
  · exact e.elim
  rename_i K hK
  split at e
  rotate_left
  · exact e.elim
  rename_i ei hei
  split at e
  rotate_left
  · exact e.elim
  rename_i V hV
  cases hp : K.plain with
  | false => rw [hp] at e; exact e.elim
  | true =>
    rw [hp] at e
    refine ⟨ei, K, V, ⟨?_, hp⟩, e⟩
    obtain ⟨d, hd, _, hkk⟩ := (hE.tt t ti hti).und
    rw [hk] at hkk
    simp only at hkk
    obtain ⟨rfl, q1, q2⟩ := hkk
    have hTk := hE.tt kt ki hki
    have hTe := hE.tt et ei hei
    obtain ⟨dk, hdk, hak, _⟩ := hTk.und
    obtain ⟨ik, hik, hsk, _⟩ := hTk.info
    obtain ⟨s1, s2, heq⟩ := hTk.ty K hK
    refine ⟨kt, et, hd, fun x h cs em w hx => checkKey_run q1 hik hdk (by omega) (by rw [hak, s2]) hx em w, fun x y h cs ds w hx hy => (heq hp x y h cs ds w (.const .nilFunc) (.const .nilFunc) .eql hx hy).2, ⟨dk, hdk⟩, ?_⟩
    intro z hz0 hz
    obtain ⟨ie, hie, hse, _, hzz⟩ := hTe.info
    obtain ⟨zv, e1, cs, e2, e3, e4⟩ := hzz hz0
    obtain ⟨de, hde, hae, _⟩ := hTe.und
    obtain ⟨v1, v2, _⟩ := hTe.ty V hV
    refine ⟨zv, fun w => by simp [zeroValue, run_typeInfo_of hie, e1], fun h => ?_⟩
    have hrep : rep h V z cs := implode_all (N := ⟨fun _ => 0, fun _ => .nilFunc⟩) hz (e3 _ h)
    refine ⟨cs, hrep, ?_⟩
    unfold zeroMB at q2
    rw [hie, hde] at q2
    simp only [e1] at q2
    cases hva : V.isAgg with
    | true =>
      rw [val_agg hva]
      have hde' : aggDesc de = true := by rw [hae, ← v2]; exact hva
      rw [hde'] at q2
      split at q2
      · rename_i c hc
        injection hc with hc
        rw [hc]
        rw [hc] at e2
        simp only [Value.cells] at e2
        rw [e2]
      · cases q2
      · rename_i hc; cases hc
    | false =>
      have hde' : aggDesc de = false := by rw [hae, ← v2]; exact hva
      rw [hde'] at q2
      obtain ⟨g1, g2⟩ := val_one V z cs hrep hva
      split at q2
      · cases q2
      · rename_i c hc hne
        injection hne with hne
        subst hne
        have : zv.cells = #[zv] := by cases zv <;> first | rfl | exact absurd rfl (hc _)
        rw [this] at e2
        have e5 : cs = [zv] := by
          have := congrArg Array.toList e2
          simpa using this.symm
        rw [g1] at e5
        injection e5 with e5
        exact e5.symm
      · rename_i hc; cases hc
theorem sameNow_plain {K : Ty} (kd : TypeDesc) {x y : K.den} {cs ds : List Value} (hx : rep h K x cs) (hy : rep h K y ds) : Instr.sameNow kd (K.val cs) (K.val ds) = none ∨ Instr.sameNow kd (K.val cs) (K.val ds) = some (K.beq x y) := by
  cases K with
  | bool =>
    simp only [rep] at hx hy; subst hx hy
    cases kd <;> first | (left; rfl) | (right; rfl)
  | int k =>
    simp only [rep] at hx hy; subst hx hy
    cases kd <;> first | (left; rfl) | (right; simp [Ty.val, Instr.sameNow, Ty.beq]; done)
  | str =>
    simp only [rep] at hx hy; subst hx hy
    cases kd <;> first | (left; rfl) | (right; rfl)
  | unit => left; cases kd <;> rfl
  | pair _ _ => left; cases kd <;> rfl
  | sl _ =>
    obtain ⟨A, c, rfl, _⟩ := hx
    left; cases kd <;> rfl
  | opt _ =>
    left
    rcases hx with ⟨_, rfl⟩ | ⟨_, _, _, _, rfl, _⟩ <;> cases kd <;> rfl
  | mp _ _ =>
    left
    rcases hx with ⟨_, rfl⟩ | ⟨_, _, _, rfl, _⟩ <;> cases kd <;> rfl
  | nd _ _ _ _ =>
    left
    simp only [rep] at hx
    cases hx <;> cases kd <;> rfl
def lookI (K V : Ty) (key : K.den) : List (K.den × V.den × Unit) → List MapEntry → Nat → Option (Nat × Value)
  | x :: xs, e :: es, i => bif K.beq key x.1 then some (i, e.val) else lookI K V key xs es (i + 1)
  | _, _, _ => none
theorem findNow_look {K V : Ty} {key : K.den} {ck : List Value} (hk : rep h K key ck) (kd : TypeDesc) : (xs : List (K.den × V.den × Unit)) → (es : List MapEntry) → MapRep h K V xs es → ∀ i,
    Instr.findNow kd (K.val ck) es i = none ∨ Instr.findNow kd (K.val ck) es i = some (lookI K V key xs es i)
  | [], es, e, i => by simp only [MapRep] at e; subst e; exact .inr rfl
  | x :: xs, _, ⟨e, r, rfl, ⟨cs, h1, h2⟩, _, h3⟩, i => by
    have hs := sameNow_plain kd hk h1
    rw [← h2] at hs
    unfold Instr.findNow
    rcases hs with hs | hs
    · rw [hs]; exact .inl rfl
    · rw [hs]
      unfold lookI
      cases K.beq key x.1 with
      | true => exact .inr rfl
      | false => exact findNow_look hk kd xs r h3 (i + 1)
theorem findAsking_look {kt : TypeId} {K V : Ty} (heq : ∀ x y h cs ds w, rep h K x cs → rep h K y ds → (Op.equal kt (K.val cs) (K.val ds)).run P w = .ok (K.beq x y) w) {key : K.den} {ck : List Value} (hk : rep h K key ck) :
    (xs : List (K.den × V.den × Unit)) → (es : List MapEntry) → MapRep h K V xs es → ∀ i, (Instr.findAsking kt (K.val ck) es i).run P w = .ok (lookI K V key xs es i) w
  | [], es, e, i => by simp only [MapRep] at e; subst e; rfl
  | x :: xs, _, ⟨e, r, rfl, ⟨cs, h1, h2⟩, _, h3⟩, i => by
    have hq := heq key x.1 h ck cs w hk h1
    rw [← h2] at hq
    unfold Instr.findAsking
    simp only [Sem.run_bind, hq, Result.andThen_ok]
    unfold lookI
    cases K.beq key x.1 with
    | true => rfl
    | false => simpa using findAsking_look heq hk xs r h3 (i + 1)
theorem findKey_look {kt : TypeId} {d : TypeDesc} (hd : P.underlying kt = some d) {K V : Ty} (heq : ∀ x y h cs ds w, rep h K x cs → rep h K y ds → (Op.equal kt (K.val cs) (K.val ds)).run P w = .ok (K.beq x y) w) {key : K.den} {ck : List Value} (hk : rep h K key ck)
    {xs : List (K.den × V.den × Unit)} {es : List MapEntry} (hm : MapRep h K V xs es) : (Instr.findKey kt (K.val ck) es).run P w = .ok (lookI K V key xs es 0) w := by
  unfold Instr.findKey
  simp only [Sem.run_bind, run_underlying hd, Result.andThen_ok]
  rcases findNow_look (V := V) hk d xs es hm 0 with e | e
  · rw [e]; exact findAsking_look heq hk xs es hm 0
  · rw [e]; rfl
theorem lookI_get {K V : Ty} {key : K.den} : (xs : List (K.den × V.den × Unit)) → (es : List MapEntry) → MapRep h K V xs es → ∀ i,
    (lookI K V key xs es i = none ∧ mget K V key xs = none) ∨ ∃ j v y, lookI K V key xs es i = some (i + j, v) ∧ mget K V key xs = some y ∧ vrep h V y v ∧ j < es.length ∧ MapRep h K V (mdel K V key xs) (es.eraseIdx j)
  | [], es, e, i => .inl ⟨by unfold lookI; cases es <;> rfl, rfl⟩
  | x :: xs, _, ⟨e, r, rfl, h1, h2, h3⟩, i => by
    unfold lookI mget mdel
    cases hb : K.beq key x.1 with
    | true => exact .inr ⟨0, e.val, x.2.1, rfl, rfl, h2, by simp, by simpa using h3⟩
    | false =>
      simp only [cond_false]
      rcases lookI_get xs r h3 (i + 1) with ⟨g1, g2⟩ | ⟨j, v, y, g1, g2, g3, g4, g5⟩
      · exact .inl ⟨g1, g2⟩
      · exact .inr ⟨j + 1, v, y, by rw [g1]; congr 2; omega, g2, g3, by simpa using g4, ⟨e, _, by simp, h1, h2, g5⟩⟩
theorem mdel_none {K V : Ty} {key : K.den} : (xs : List (K.den × V.den × Unit)) → mget K V key xs = none → mdel K V key xs = xs
  | [], _ => rfl
  | x :: xs, e => by
    unfold mget at e
    unfold mdel
    cases hb : K.beq key x.1 with
    | true => rw [hb] at e; cases e
    | false =>
      rw [hb] at e
      simp only [cond_false] at e ⊢
      rw [mdel_none xs e]
theorem MapRep.snoc {K V : Ty} {y : K.den} {z : V.den} {m : MapEntry} (h1 : vrep h K y m.key) (h2 : vrep h V z m.val) : (xs : List (K.den × V.den × Unit)) → (es : List MapEntry) → MapRep h K V xs es → MapRep h K V (xs ++ [(y, z, ())]) (es ++ [m])
  | [], es, e => by simp only [MapRep] at e; subst e; exact ⟨m, [], rfl, h1, h2, rfl⟩
  | x :: xs, _, ⟨e, r, rfl, g1, g2, g3⟩ => ⟨e, r ++ [m], rfl, g1, g2, MapRep.snoc h1 h2 xs r g3⟩
theorem mapAtK_some {bs : Blks} {m : SV} {T : Ty} {k : Nat → TypeId → List T.den → Prop} (e : mapAtK bs m T k) : ∃ i bt cs xs, m = .leaf (.mref i) ∧ getB bs i = some ⟨bt, cs, some .map⟩ ∧ implode (.sl T) cs = some (xs, []) ∧ k i bt xs := by
  unfold mapAtK at e
  split at e
  · rename_i i
    split at e
    · rename_i bt cs hb
      rw [implodeK_eq] at e
      split at e
      · rename_i xs r hx
        split at e
        · exact ⟨i, bt, cs, xs, rfl, hb, hx, e⟩
        · exact e.elim
      · exact e.elim
    · exact e.elim
  · exact e.elim
theorem map_cells {K V K' V' : Ty} {xs : List (K.den × V.den × Unit)} {xs' : List (Ty.den (.pair K' (.pair V' .unit)))} (e : implode (mapT K' V') [.tv (mapT K V) xs] = some (xs', [])) : ∃ (h1 : K = K') (h2 : V = V'), xs' = h1 ▸ h2 ▸ xs := by
  simp only [implode, popSl] at e
  split at e
  · rename_i ht
    injection ht with h1 h2
    injection h2 with h2 h3
    subst h1 h2
    injection e with e
    injection e with e _
    exact ⟨rfl, rfl, e.symm⟩
  · cases e
theorem mapAt_lies {bs : Blks} {rs : Rows} (hM : MemSat B w0 bs rs N h w) {i : Nat} {bt : TypeId} {cs : List Leaf} {K V : Ty} {xs : List (Ty.den (.pair K (.pair V .unit)))} (hb : getB bs i = some ⟨bt, cs, some .map⟩) (hx : implode (mapT K V) cs = some (xs, [])) :
    ∃ es cl, w.heap[N.ρ i]? = some (.map es cl) ∧ MapRep h K V xs es.toList := by
  obtain ⟨o, q1, q2, _⟩ := hM.blk i _ hb
  obtain ⟨K', V', xs', es, cl, rfl, rfl, q3⟩ := BlkSat.map.1 q2
  obtain ⟨rfl, rfl, rfl⟩ := map_cells hx
  exact ⟨es, cl, q1, q3⟩
theorem getObj_map {r : Nat} {es : Array MapEntry} {cl : Nat} (hb : w.heap[r]? = some (.map es cl)) : (getObj r).run P w = .ok (.map es cl) w := by
  simp [getObj, Sem.run, hb]
theorem setObj_map {r : Nat} {es : Array MapEntry} {cl : Nat} (o : Obj) (hb : w.heap[r]? = some (.map es cl)) : (setObj r o).run P w = .ok () { w with heap := w.heap.setIfInBounds r o } := by
  simp [setObj, Sem.run, hb]
theorem MemSat.turnMap {bs : Blks} {rs : Rows} (hM : MemSat B w0 bs rs N h w) {i : Nat} {bt : TypeId} {cs : List Leaf} (hb : getB bs i = some ⟨bt, cs, some .map⟩) {K V : Ty} {xs : List (Ty.den (.pair K (.pair V .unit)))} {es : Array MapEntry} {cl : Nat} (hr : MapRep h K V xs es.toList) :
    MemSat B w0 (setB bs i ⟨bt, [.tv (mapT K V) xs], some .map⟩) rs N h ({ w with heap := w.heap.setIfInBounds (N.ρ i) (.map es cl) } : World) := by
  obtain ⟨o0, q1, q2, q3, q4⟩ := hM.blk i _ hb
  have hother : ∀ k, k ≠ N.ρ i → ({ w with heap := w.heap.setIfInBounds (N.ρ i) (.map es cl) } : World).heap[k]? = w.heap[k]? := fun k hk => by
    simp [Ne.symm hk]
  refine hM.turnBlock hb (hM.below.trans ⟨rfl, rfl, rfl, by simp, fun k hk => hother k (by omega), Nat.le_refl _⟩) (by simp) hother (o := .map es cl) ?_ (BlkSat.map.2 ⟨K, V, xs, es, cl, rfl, rfl, hr⟩)
  simp [lt_of_heap q1]
theorem mapVal_lies {bs : Blks} {rs : Rows} (hM : MemSat B w0 bs rs N h w) {m : SV} {vm : Value} (hm : m.rel N h vm) {K V : Ty} {k : List (K.den × V.den × Unit) → Prop} (e : mapValK bs m K V k) :
    ∃ xs, k xs ∧ ((vm = .map none ∧ xs = []) ∨ ∃ g es cl, vm = .map (some g) ∧ w.heap[g]? = some (.map es cl) ∧ MapRep h K V xs es.toList) := by
  unfold mapValK at e
  split at e
  · obtain ⟨i, bt, cs, xs, q, hb, hx, e⟩ := mapAtK_some e
    obtain ⟨es, cl, g1, g2⟩ := mapAt_lies hM hb hx
    injection q with q
    injection q with q
    subst q
    simp only [SV.rel, Leaf.rel] at hm
    exact ⟨xs, e, .inr ⟨_, es, cl, hm, g1, g2⟩⟩
  · rename_i l _
    rw [implodeK_eq] at e
    split at e
    · rename_i xs r hx
      split at e
      · obtain ⟨c1, c2, g1, g2, g3⟩ := implode_rel _ _ _ _ hx [vm] (LeafRels.cons (SV.leaf_iff.1 hm) (LeafRels.nil N h))
        rw [LeafRels.nil_iff] at g3
        subst g3
        rw [List.append_nil] at g1
        subst g1
        rcases mp_rep.1 g2 with ⟨q1, q2⟩ | ⟨g, es, cl, q1, q2, q3⟩
        · injection q2 with q2
          exact ⟨xs, e, .inl ⟨q2, q1⟩⟩
        · injection q1 with q1
          exact ⟨xs, e, .inr ⟨g, es, cl, q1, hM.pin _ _ q2, q3⟩⟩
      · exact e.elim
    · exact e.elim
  · exact e.elim
theorem mapLook_sound (hE : EnvOk P E) {σ : St} (hS : Sat B w0 h0 b u n σ N h a w) {t : TypeId} {m key : SV} {vm vk : Value} (hm : m.rel N h vm) (hk : key.rel N h vk) {k : SV → Prop} (e : mapLookK E σ.blks t m key k) :
    ∃ s v, (Instr.lookup t vm vk true).run P w = .ok v w ∧ s.rel N h v ∧ k s := by
  unfold mapLookK at e
  obtain ⟨ei, K, V, hI, e⟩ := mapKV_some hE e
  obtain ⟨xs, e, hlie⟩ := mapVal_lies hS.mem hm e
  rw [argValK_eq] at e
  split at e
  rotate_left
  · exact e.elim
  rename_i y hy
  rw [implodeK_eq] at e
  split at e
  rotate_left
  · exact e.elim
  rename_i z r hz
  split at e
  rotate_left
  · exact e.elim
  cases hzl : Nat.beq ei.zero.length ei.size with
  | false => rw [hzl] at e; exact e.elim
  | true =>
    rw [hzl] at e
    simp only [cond_true] at e
    obtain ⟨⟨kt, et, u1, u2, u3, ⟨d, u4⟩, u5⟩, hp⟩ := hI
    obtain ⟨ck, hck, rfl⟩ := argVal_rel hy hk
    obtain ⟨zv, z1, z2⟩ := u5 z (Nat.eq_of_beq_eq_true hzl) hz
    rcases hlie with ⟨rfl, rfl⟩ | ⟨g, es, cl, rfl, g1, g2⟩
    · refine ⟨_, .tuple #[zv, .bool false], ?_, ?_, e⟩
      · have hfind := findKey_look (P := P) (w := w) (V := V) (xs := []) (es := []) u4 u3 hck (by simp only [MapRep])
        simp only [Instr.lookup, Sem.run_bind, run_underlying u1, Result.andThen_ok, Sem.run_pure, u2 y h ck _ w hck, hfind, lookI, z1, if_true]
      · exact ⟨[zv, .bool false], rfl, zv, [.bool false], rfl, z2 h, .bool false, [], rfl, ⟨[.bool false], rfl, rfl⟩, rfl⟩
    have hfind := findKey_look (P := P) (w := w) u4 u3 hck g2
    rcases lookI_get (key := y) xs es.toList g2 0 with ⟨l1, l2⟩ | ⟨j, v, yv, l1, l2, l3, l4, _⟩
    · refine ⟨_, .tuple #[zv, .bool false], ?_, ?_, e⟩
      · simp only [Instr.lookup, Sem.run_bind, run_underlying u1, getObj_map g1, Result.andThen_ok, Sem.run_pure, u2 y h ck _ w hck, hfind, l1, z1, if_true]
      · rw [l2]
        exact ⟨[zv, .bool false], rfl, zv, [.bool false], rfl, z2 h, .bool false, [], rfl, ⟨[.bool false], rfl, rfl⟩, rfl⟩
    · refine ⟨_, .tuple #[v, .bool true], ?_, ?_, e⟩
      · simp only [Instr.lookup, Sem.run_bind, run_underlying u1, getObj_map g1, Result.andThen_ok, Sem.run_pure, u2 y h ck _ w hck, hfind, l1, if_true]
      · rw [l2]
        exact ⟨[v, .bool true], rfl, v, [.bool true], rfl, l3, .bool true, [], rfl, ⟨[.bool true], rfl, rfl⟩, rfl⟩
theorem mapPut_sound (hE : EnvOk P E) {σ : St} (hS : Sat B w0 h0 b u n σ N h a w) {t : TypeId} {m key v : SV} {vm vk vv : Value} (hm : m.rel N h vm) (hk : key.rel N h vk) (hv : v.rel N h vv) {k : St → Prop} (e : mapPutK E σ.slots σ.blks σ.rows t m key v k) :
    ∃ σ' w', (Instr.mapUpdate t vm vk vv).run P w = .ok () w' ∧ k σ' ∧ Sat B w0 h0 b u n σ' N h a w' := by
  unfold mapPutK at e
  obtain ⟨ei, K, V, hI, e⟩ := mapKV_some hE e
  obtain ⟨i, bt, cs, xs, rfl, hb, hx, e⟩ := mapAtK_some e
  rw [argValK_eq] at e
  split at e
  rotate_left
  · exact e.elim
  rename_i y hy
  rw [argValK_eq] at e
  split at e
  rotate_left
  · exact e.elim
  rename_i z hz
  obtain ⟨hnone, e⟩ := e
  rw [setBK_eq] at e
  obtain ⟨es, cl, g1, g2⟩ := mapAt_lies hS.mem hb hx
  obtain ⟨⟨kt, et, u1, u2, u3, ⟨d, u4⟩, u5⟩, hp⟩ := hI
  obtain ⟨ck, hck, rfl⟩ := argVal_rel hy hk
  have hvz := argVal_rel hz hv
  simp only [SV.rel, Leaf.rel] at hm
  subst hm
  have hfind := findKey_look (P := P) (w := w) u4 u3 hck g2
  have l1 : lookI K V y xs es.toList 0 = none := by
    rcases lookI_get (key := y) xs es.toList g2 0 with ⟨l1, _⟩ | ⟨j, v, yv, _, l2, _⟩
    · exact l1
    · rw [hnone] at l2; cases l2
  refine ⟨_, { w with heap := w.heap.setIfInBounds (N.ρ i) (.map (es.push { key := K.val ck, val := vv, born := cl }) (cl + 1)) }, ?_, e, ?_⟩
  · simp only [Instr.mapUpdate, Sem.run_bind, run_underlying u1, getObj_map g1, Result.andThen_ok, u2 y h ck _ w hck, hfind, l1, setObj_map _ g1]
  · refine ⟨hS.mem.turnMap hb ?_, hS.grow, fun k hk => ?_, hS.slots, hS.size, hS.defers⟩
    · simp only [Array.toList_push]
      exact MapRep.snoc ⟨ck, hck, rfl⟩ hvz xs es.toList g2
    · have := hS.dom k hk
      simpa using this
theorem mapDel_sound (hE : EnvOk P E) {σ : St} (hS : Sat B w0 h0 b u n σ N h a w) {t t' : TypeId} {ts : List TypeId} {m key : SV} {vm vk : Value} (hm : m.rel N h vm) (hk : key.rel N h vk) {k : St → Prop} (e : mapDelK E σ.slots σ.blks σ.rows t m key k) :
    ∃ σ' w', (Builtin.delete_ (t :: ts).toArray t' #[vm, vk]).run P w = .ok (.tuple #[]) w' ∧ k σ' ∧ Sat B w0 h0 b u n σ' N h a w' := by
  unfold mapDelK at e
  obtain ⟨ei, K, V, hI, e⟩ := mapKV_some hE e
  obtain ⟨i, bt, cs, xs, rfl, hb, hx, e⟩ := mapAtK_some e
  rw [argValK_eq] at e
  split at e
  rotate_left
  · exact e.elim
  rename_i y hy
  rw [setBK_eq] at e
  obtain ⟨es, cl, g1, g2⟩ := mapAt_lies hS.mem hb hx
  obtain ⟨⟨kt, et, u1, u2, u3, ⟨d, u4⟩, u5⟩, hp⟩ := hI
  obtain ⟨ck, hck, rfl⟩ := argVal_rel hy hk
  simp only [SV.rel, Leaf.rel] at hm
  subst hm
  have hfind := findKey_look (P := P) (w := w) u4 u3 hck g2
  rcases lookI_get (key := y) xs es.toList g2 0 with ⟨l1, l2⟩ | ⟨j, v, yv, l1, l2, _, l4, l5⟩
  · refine ⟨_, { w with heap := w.heap.setIfInBounds (N.ρ i) (.map es cl) }, ?_, e, ?_⟩
    · simp [Builtin.delete_, run_underlying u1, getObj_map g1, u2 y h ck _ w hck, hfind, l1, setObj_map _ g1]
    · refine ⟨hS.mem.turnMap hb ?_, hS.grow, fun k hk => by simpa using hS.dom k hk, hS.slots, hS.size, hS.defers⟩
      rw [mdel_none xs l2]
      exact g2
  · rw [Nat.zero_add] at l1
    refine ⟨_, { w with heap := w.heap.setIfInBounds (N.ρ i) (.map (es.eraseIdxIfInBounds j) cl) }, ?_, e, ?_⟩
    · simp [Builtin.delete_, run_underlying u1, getObj_map g1, u2 y h ck _ w hck, hfind, l1, setObj_map _ g1]
    · refine ⟨hS.mem.turnMap hb ?_, hS.grow, fun k hk => by simpa using hS.dom k hk, hS.slots, hS.size, hS.defers⟩
      have : (es.eraseIdxIfInBounds j).toList = es.toList.eraseIdx j := by
        have hj : j < es.size := by simpa using l4
        simp [Array.eraseIdxIfInBounds, hj]
      rw [this]
      exact l5
theorem newMap_sound {σ : St} (hS : Sat B w0 h0 b u n σ N h a w) {d : Nat} (hd : d < n) {q : Nat} {t : TypeId} {K V : Ty} {k : St → Prop} (e : newMapK σ.slots σ.blks σ.rows (b + d) q t K V k) :
    ∃ σ' N', k σ' ∧ Sat B w0 h0 b u n σ' N' h (a.put (some d) (.map (some w.heap.size))) (w.alloc (.map #[] 0)) := by
  have fin : ∀ q, usedB σ.slots σ.blks q = false → mkMapK σ.slots σ.blks σ.rows (b + d) q t K V k → ∃ σ' N', k σ' ∧ Sat B w0 h0 b u n σ' N' h (a.put (some d) (.map (some w.heap.size))) (w.alloc (.map #[] 0)) := by
    intro q hn e
    unfold mkMapK at e
    unfold usedB at hn
    simp only [Bool.or_eq_false_iff] at hn
    refine ⟨_, N.setB q w.heap.size, e, hS.mem.newB (b := ⟨t, [.tv (mapT K V) []], some .map⟩) (BlkSat.map.2 ⟨K, V, [], #[], 0, rfl, rfl, rfl⟩) hn.2, hS.grow, hS.dom, ?_, by rw [size_put]; exact hS.size, by rw [defers_put]; exact hS.defers⟩
    refine SlotSat.put (N := N.setB q w.heap.size) (fun t' => ?_) (by rw [hS.size]; exact hd) (by simp [SV.rel, Leaf.rel, Names.setB])
    refine SV.rel_names _ (hS.slots t') (fun i hi => ?_) (fun i _ => rfl)
    simp only [Names.setB]
    rw [if_neg]
    intro e
    subst e
    have := anySlots_false hn.1 t' hi
    cases this
  unfold newMapK at e
  cases h1 : usedB σ.slots σ.blks (b + d) with
  | false => rw [h1] at e; exact fin _ h1 e
  | true =>
    rw [h1] at e
    simp only [cond_true] at e
    cases h2 : usedB σ.slots σ.blks q with
    | false => rw [h2] at e; exact fin _ h2 e
    | true => rw [h2] at e; exact e.elim
end
end Go.Fr
namespace Go.Fr
open Go Go.RowKit
universe u
section
variable {P : Program} {E : Env} {B : Nat} {w0 w : World} {N : Names} {h0 h : PHeap} {b : Nat} {u : Nat → Value} {a : Act} {n : Nat}
theorem wrap_id0 {n : Int} (h0 : -9223372036854775808 ≤ n) (h1 : n ≤ 9223372036854775807) : IntKind.i64.wrap n = n := by
  have e : IntKind.i64.wrap n = if n % 18446744073709551616 ≥ 9223372036854775808 then n % 18446744073709551616 - 18446744073709551616 else n % 18446744073709551616 := by
    unfold IntKind.wrap
    have hb : IntKind.i64.bits = 64 := rfl
    have hs : IntKind.i64.signed = true := rfl
    rw [hb, hs]
    simp
  rw [e]
  split <;> omega
theorem makeSlice_run {t te : TypeId} {tei : TI} (hTe : TIok P te tei) (ht : P.underlying t = some (.slice te)) (hk : tei.zero.length = tei.size) (h1 : 1 ≤ tei.size) {T : Ty} (hTs : tei.size = T.size)
    {z : T.den} (hz : implode T tei.zero = some (z, [])) (hB : B ≤ w.heap.size) {k k' : IntKind} {m c : Nat} (hmc : m ≤ c) (hb : c * tei.bytes ≤ 140737488355328) (hc : c ≤ 1000000000000) :
    ∃ v w' cs', (Instr.makeSlice t (.int k (m : Int)) (.int k' (c : Int))).run P w = .ok v w' ∧ w'.ownsRow B te T.size v m cs' ∧ RowCells h T (List.replicate m z) cs' ∧ GrownBy w w' none ∧ v.ownBlock = some w.heap.size := by
  obtain ⟨i, hi, hsz, hby, hzz⟩ := hTe.info
  obtain ⟨zv, hz1, zcs, hz2, hz3, _⟩ := hzz hk
  have hrz : rep h T z zcs := implode_all hz (hz3 ⟨fun k => k, fun _ => .nilFunc⟩ h)
  have hzl : zcs.length = T.size := rep_len T z zcs hrz
  have hcells := RowCells_replicate T hrz m
  have hlen := RowCells_len T _ _ hcells
  rw [List.length_replicate] at hlen
  have hw1 : IntKind.i64.wrap (m : Int) = m := wrap_id0 (by omega) (by omega)
  have hw2 : IntKind.i64.wrap (c : Int) = c := wrap_id0 (by omega) (by omega)
  have hs : i.size = T.size := by rw [hsz, hTs]
  have htl : ¬ ((281474976710656 : Int) < (i.bytes : Int) * (c : Int)) := by
    have : c * i.bytes ≤ 140737488355328 := by rw [hby]; exact hb
    have h2 : (i.bytes : Int) * (c : Int) = ((c * i.bytes : Nat) : Int) := by rw [Int.natCast_mul]; exact Int.mul_comm _ _
    rw [h2]
    omega
  have hz0 : zv.cells = zcs.toArray := hz2
  have hrun : (Instr.makeSlice t (.int k (m : Int)) (.int k' (c : Int))).run P w = .ok (.slice (some ⟨w.heap.size, 0, none⟩) m c) (w.alloc (.cells (Builtin.zeroCells zcs.toArray c) te)) := by
    have e1 : ¬ ((c : Int) < 0) := by omega
    have e2 : ¬ ((m : Int) < 0) := by omega
    have e3 : ¬ ((m : Int) > (c : Int)) := by omega
    by_cases hc0 : c * T.size = 0
    · have hcz : c = 0 := by
        rcases Nat.mul_eq_zero.1 hc0 with e | e
        · exact e
        · omega
      subst hcz
      have hm0 : m = 0 := by omega
      subst hm0
      have hw0 : IntKind.i64.wrap (0 : Int) = 0 := wrap_id0 (by omega) (by omega)
      simp [hw0, Instr.makeSlice, run_underlying ht, _root_.Go.asInt, asIntOf, typeInfo, hi, sizeOf, newRow, Builtin.zeroCells]
      congr 2
      apply Array.ext
      · simp
      · intro j hj _
        simp at hj
    · simp [Instr.makeSlice, run_underlying ht, _root_.Go.asInt, asIntOf, typeInfo, hi, sizeOf, zeroValue, hz1, hs, hw1, hw2, e1, e2, e3, htl, hc0, newRow, Builtin.zeroCells, hz0, hzl]
  refine ⟨_, _, _, hrun, ⟨hlen, .inr ⟨w.heap.size, c, _, rfl, hB, heap_alloc_new w _, hmc, by have : maxLen = 9223372036854775807 := rfl; omega, ?_, ?_⟩⟩, hcells, ⟨rfl, rfl, rfl, by simp, fun k hk _ => Below.heap_alloc _ _ _ hk, Nat.le_refl _⟩, rfl⟩
  · rw [size_zeroCells]
    simp [hzl]
  · rw [zeroCells_flat]
    obtain ⟨q, rfl⟩ : ∃ q, c = m + q := ⟨c - m, by omega⟩
    rw [List.replicate_append_replicate.symm, List.flatten_append, ← hlen]
    exact List.take_left
theorem copy_run {t te : TypeId} {tei : TI} (hTe : TIok P te tei) (ht : P.underlying t = some (.slice te)) {T : Ty} (hTs : tei.size = T.size) {ats : Array TypeId} (hat : ats[0]? = some t)
    {v : Value} {xs ys : List T.den} {cs : List Value} {e : TypeId} (ho : w.ownsRow B e T.size v xs.length cs) (hc : RowCells h T xs cs) (hp : PIn h w) {uv : Value} (hu : vrep h (.sl T) ys uv) (ty : TypeId) :
    ∃ w' cs', (Builtin.copy_ ats ty #[v, uv]).run P w = .ok (.int .i64 ((min ys.length xs.length : Nat) : Int)) w' ∧ w'.ownsRow B e T.size v (ys.take xs.length ++ xs.drop ys.length).length cs' ∧ RowCells h T (ys.take xs.length ++ xs.drop ys.length) cs' ∧ GrownBy w w' v.ownBlock := by
  obtain ⟨i, hi, hsz, hby, hzz⟩ := hTe.info
  have hs : i.size = T.size := by rw [hsz, hTs]
  obtain ⟨us, g1, rfl⟩ := hu
  obtain ⟨A, c, rfl, g2, g3, g4⟩ := g1
  have hlenR : (ys.take xs.length ++ xs.drop ys.length).length = xs.length := by
    rw [List.length_append, List.length_take, List.length_drop]
    omega
  rw [hlenR]
  -- what is read
  obtain ⟨news, q1, q2⟩ : ∃ news : List Value, RowCells h T ys news ∧ ∀ ad, A = some ad → ∀ j x, news[j]? = some x → w.cell? (ad.add j) = some x := by
    cases A with
    | none => have := g3 rfl; subst this; exact ⟨[], rfl, fun ad e => by cases e⟩
    | some ad =>
      obtain ⟨news, q1, q2⟩ := list_cells (h := h) T ad ys 0 fun i x hx => by
        obtain ⟨ds, p1, p2⟩ := g4 i x ad hx rfl
        exact ⟨ds, p1, by rw [Nat.zero_add]; exact p2⟩
      exact ⟨news, q1, fun ad' e j x hx => by
        injection e with e
        subst e
        exact cell_of_hcell hp (by have := q2 j x hx; simpa using this)⟩
  have hnl := RowCells_len T ys news q1
  have hread : ∀ m, m ≤ ys.length → (Builtin.firstCells T.size m (.slice A ys.length c)).run P w = .ok (news.take (m * T.size)).toArray w := fun m hm => by
    cases A with
    | none =>
      have := g3 rfl
      subst this
      have : m = 0 := by simpa using hm
      subst this
      simp [run_firstCells_none]
    | some ad =>
      have hle : m * T.size ≤ ys.length * T.size := Nat.mul_le_mul_right _ hm
      refine run_firstCells_some (P := P) w T.size m ad ys.length c (news.take (m * T.size)) (by rw [List.length_take, hnl]; omega) fun j x hx => ?_
      rw [List.getElem?_take] at hx
      split at hx
      · exact q2 ad rfl j x hx
      · cases hx
  have hcl := RowCells_len T xs cs hc
  have cutL : ∀ (l : List T.den) (ds : List Value) (m : Nat), RowCells h T l ds → RowCells h T (l.take m) (ds.take (m * T.size)) := by
    intro l
    induction l with
    | nil => intro ds m hc; simp only [RowCells] at hc; subst hc; simp [RowCells]
    | cons x l ih =>
      rintro ds m ⟨d, q, rfl, g1, g2⟩
      cases m with
      | zero => simp [RowCells]
      | succ m =>
        have hd := rep_len T x d g1
        refine ⟨d, q.take (m * T.size), ?_, g1, ih q m g2⟩
        rw [show (m + 1) * T.size = d.length + m * T.size by rw [hd, Nat.add_mul]; omega, List.take_length_add_append]
  have cutR : ∀ (l : List T.den) (ds : List Value) (m : Nat), RowCells h T l ds → RowCells h T (l.drop m) (ds.drop (m * T.size)) := by
    intro l
    induction l with
    | nil => intro ds m hc; simp only [RowCells] at hc; subst hc; simp [RowCells]
    | cons x l ih =>
      rintro ds m ⟨d, q, rfl, g1, g2⟩
      cases m with
      | zero => exact ⟨d, q, by simp, g1, g2⟩
      | succ m =>
        have hd := rep_len T x d g1
        rw [show (m + 1) * T.size = d.length + m * T.size by rw [hd, Nat.add_mul]; omega, List.drop_length_add_append]
        exact ih q m g2
  have hall : RowCells h T (ys.take xs.length ++ xs.drop ys.length) (news.take (xs.length * T.size) ++ cs.drop (ys.length * T.size)) := RowCells_append T _ _ _ _ (cutL ys news _ q1) (cutR xs cs _ hc)
  have hmin : news.take (min ys.length xs.length * T.size) = news.take (xs.length * T.size) := by
    rcases Nat.le_total ys.length xs.length with hle | hle
    · rw [Nat.min_eq_left hle, ← hnl, List.take_length, List.take_of_length_le]
      rw [hnl]
      exact Nat.mul_le_mul_right _ hle
    · rw [Nat.min_eq_right hle]
  have hall_len := RowCells_len T _ _ hall
  rw [hlenR] at hall_len
  rcases ho.2 with ⟨rfl, h0⟩ | ⟨g, cap, cur, rfl, hbg, hg, hnc, hcm, hcs, htake⟩
  · have hx : xs = [] := List.eq_nil_of_length_eq_zero h0
    subst hx
    refine ⟨w, _, ?_, ⟨hall_len, .inl ⟨rfl, rfl⟩⟩, hall, GrownBy.refl w _⟩
    have hr := hread 0 (Nat.zero_le _)
    simp [Builtin.copy_, hat, run_underlying ht, Builtin.lenOf, sizeOf, typeInfo, hi, hs, hr, Ty.val, goInt]
  · have hcur : cur.toList.length = cap * T.size := by simpa using hcs
    have hcapn : xs.length * T.size ≤ cap * T.size := Nat.mul_le_mul_right _ hnc
    have hr := hread (min ys.length xs.length) (Nat.min_le_left _ _)
    rw [hmin] at hr
    have htl : (news.take (xs.length * T.size)).length = min ys.length xs.length * T.size := by
      rw [← hmin, List.length_take, hnl]
      have := Nat.mul_le_mul_right T.size (Nat.min_le_left ys.length xs.length)
      omega
    have hml : min ys.length xs.length * T.size ≤ xs.length * T.size := Nat.mul_le_mul_right _ (Nat.min_le_right _ _)
    have hst := run_storeCells_at P g 0 e (news.take (xs.length * T.size)) 0 cur w hg (by rw [htl]; omega) (fun x hx => RowCells_one T ys news q1 x (List.mem_of_mem_take hx))
    simp only [Nat.zero_add, List.take_zero, List.nil_append] at hst
    refine ⟨w.setRow g (news.take (xs.length * T.size) ++ cur.toList.drop (news.take (xs.length * T.size)).length).toArray, _, ?_, ⟨hall_len, .inr ⟨g, cap, _, rfl, hbg, setRow_heap w g cur _ e (0, 0) hg, hnc, hcm, ?_, ?_⟩⟩, hall, ⟨rfl, rfl, rfl, by simp, fun k _ hk => setRow_other w g k _ (fun e => hk (by simp [Value.ownBlock, e])), Nat.le_refl _⟩⟩
    · simp [Builtin.copy_, hat, run_underlying ht, Builtin.lenOf, sizeOf, typeInfo, hi, hs, hr, Ty.val, goInt, hst]
    · simp only [List.size_toArray, List.length_append, List.length_drop, hcur, htl]
      omega
    · simp only
      rw [htl]
      have hcsd : cs.drop (ys.length * T.size) = (cur.toList.drop (min ys.length xs.length * T.size)).take (xs.length * T.size - min ys.length xs.length * T.size) := by
        rw [← htake]
        rcases Nat.le_total ys.length xs.length with hle | hle
        · rw [Nat.min_eq_left hle, List.drop_take]
        · rw [Nat.min_eq_right hle, Nat.sub_self, List.take_zero, List.drop_eq_nil_of_le]
          rw [List.length_take]
          have := Nat.mul_le_mul_right T.size hle
          omega
      rw [hcsd, List.take_append, htl, List.take_of_length_le (by rw [htl]; exact hml)]
end
end Go.Fr
namespace Go.Fr
open Go Go.RowKit
universe u
section
variable {P : Program} {E : Env} {B : Nat} {w0 w : World} {N : Names} {h0 h : PHeap} {b : Nat} {u : Nat → Value} {a : Act} {n : Nat}
theorem oblige_some {p : Option Prop} {k : Prop} (e : oblige p k) : (∀ q, p = some q → q) ∧ k := by
  cases p with
  | none => exact ⟨fun q hq => (by cases hq), e⟩
  | some q => exact ⟨fun r hr => (by injection hr with hr; subst hr; exact e.1), e.2⟩
theorem store_sound (hE : EnvOk P E) {σ : St} {o : Oper} {K : Act → World → Prop} {Q : Exit → Act → World → Prop} {i : Nat} {c : Blk}
    (e : storeEv E b σ.slots σ.blks o.op = some (i, c)) (ho : ∀ x ∈ o.op.operands.toList, (evO b σ.slots x).rel N h (a.eval x)) (hM : MemSat B w0 σ.blks σ.rows N h w)
    (hK : ∀ w', MemSat B w0 (setB σ.blks i c) σ.rows N h w' → K (a.put o.dst undef) w') : o.wp P a w K Q := by
  obtain ⟨dst, op, type, pos, after, guard⟩ := o
  cases op <;> try (cases e; done)
  case store t x y =>
    simp only [storeEv] at e
    split at e
    · rename_i ti hti
      have hT := hE.tt t ti hti
      have hx := ho x (by simp [Op.operands])
      have hy := ho y (by simp [Op.operands])
      split at e
      · rename_i i' off hxx
        rw [hxx] at hx
        split at e
        · rename_i bt bc hb
          split at e
          · rename_i ls hls
            cases hbb : (Nat.beq ls.length ti.size && Nat.ble (off + ti.size) bc.length) with
            | false => rw [hbb] at e; cases e
            | true =>
              rw [hbb] at e
              simp only [cond_true] at e
              simp only [Bool.and_eq_true] at hbb
              have b1 : ls.length = ti.size := Nat.eq_of_beq_eq_true hbb.1
              have b2 : off + ti.size ≤ bc.length := Nat.le_of_ble_eq_true hbb.2
              injection e with e; injection e with e1 e2; subst e1 e2
              obtain ⟨o0, q1, q2, _⟩ := hM.blk i' _ hb
              obtain ⟨cs, rfl, q2, q3⟩ := BlkSat.cells.1 q2
              obtain ⟨ds, g1, g2, g3⟩ := cellsOf_rel hls hy
              have l1 := LeafRels.length _ _ q2
              have l2 := LeafRels.length _ _ g2
              simp only [SV.rel, Leaf.rel] at hx
              have hrun : (Instr.storeAt t (a.eval x) (a.eval y)).run P w = .ok () (w.setRow (N.ρ i') (cs.take off ++ ds ++ cs.drop (off + ds.length)).toArray) := by
                have hst := run_storeCells_at P (N.ρ i') off bt ds 0 cs.toArray w q1 (by simp; omega) g3
                simp only [Nat.add_zero] at hst
                simp only [Instr.storeAt, hx, Instr.sureAddr, storeVar, Sem.run_bind, Sem.run_pure, Result.andThen_ok, hT.size_run, g1]
                rw [if_neg (by simp; omega)]
                simpa using hst
              unfold Oper.wp
              simp only [execOp, Sem.run_bind, hrun, Result.andThen_ok, Sem.run_pure]
              exact hK _ (hM.store hb (splice_rel q2 g2 off) (splice_one q3 g3 off _))
          · cases e
        · cases e
      · cases e
    · cases e
theorem rowStore_sound (hE : EnvOk P E) {σ : St} {o : Oper} {K : Act → World → Prop} {Q : Exit → Act → World → Prop} {i : Nat} {c : RowS}
    (e : rowStoreEv E b σ.slots σ.rows o.op = some (i, c)) (ho : ∀ x ∈ o.op.operands.toList, (evO b σ.slots x).rel N h (a.eval x)) (hM : MemSat B w0 σ.blks σ.rows N h w)
    (hK : ∀ w', MemSat B w0 σ.blks (setR σ.rows i c) N h w' → K (a.put o.dst undef) w') : o.wp P a w K Q := by
  obtain ⟨dst, op, type, pos, after, guard⟩ := o
  cases op <;> try (cases e; done)
  case store t x y =>
    simp only [rowStoreEv] at e
    split at e
    · rename_i ti hti
      have hT := hE.tt t ti hti
      have hx := ho x (by simp [Op.operands])
      have hy := ho y (by simp [Op.operands])
      split at e
      · rename_i r sz j off hxx
        rw [hxx] at hx
        split at e
        · rename_i R hR
          split at e
          · rename_i ls hls
            cases hbb : (Nat.beq sz R.t.size && Nat.beq ls.length ti.size && Nat.ble (off + ti.size) R.t.size) with
            | false => rw [hbb] at e; cases e
            | true =>
              rw [hbb] at e
              simp only [cond_true, implodeK_eq] at e
              simp only [Bool.and_eq_true] at hbb
              have b0 : sz = R.t.size := Nat.eq_of_beq_eq_true hbb.1.1
              have b1 : ls.length = ti.size := Nat.eq_of_beq_eq_true hbb.1.2
              have b2 : off + ti.size ≤ R.t.size := Nat.le_of_ble_eq_true hbb.2
              split at e
              · rename_i z rest himp
                cases rest with
                | cons _ _ => cases e
                | nil =>
                  simp only at e
                  injection e with e; injection e with e1 e2; subst e1 e2
                  simp only [SV.rel, Leaf.rel] at hx
                  obtain ⟨g, len, cap, hV, hj, hx⟩ := hx
                  obtain ⟨cs, how, hrc⟩ := hM.row r R hR
                  have hown := how
                  rcases how.2 with ⟨e0, _⟩ | ⟨g', cap', cur, e0, f1, f2, f3, f4, f5, f6⟩
                  · rw [hV] at e0; cases e0
                  · rw [hV] at e0
                    injection e0 with e0 e0' e0''
                    injection e0 with e0
                    injection e0 with e0
                    subst e0 e0' e0''
                    obtain ⟨ds, g1, g2, g3⟩ := cellsOf_rel hls hy
                    have l2 := LeafRels.length _ _ g2
                    obtain ⟨es, p1, p2⟩ := RowCells_at R.t R.xs cs hrc j _ (getD_of_lt (d := R.t.dflt) hj)
                    have les := rep_len _ _ _ p1
                    have hcl := RowCells_len R.t R.xs cs hrc
                    -- the element, anew
                    have hnew : rep h R.t z (es.take off ++ ds ++ es.drop (off + ds.length)) := implode_all himp (splice_rel (explode_rel R.t _ es p1) g2 off)
                    have lnew := rep_len _ _ _ hnew
                    have hsz : j * R.t.size + R.t.size ≤ R.xs.length * R.t.size := by
                      have : (j + 1) * R.t.size ≤ R.xs.length * R.t.size := Nat.mul_le_mul_right _ hj
                      rw [Nat.add_mul] at this
                      omega
                    have hcap : R.xs.length * R.t.size ≤ cur.size := by rw [f5]; exact Nat.mul_le_mul_right _ f3
                    have hfit : j * sz + off + ds.length ≤ cur.size := by rw [b0]; omega
                    have hrun : (Instr.storeAt t (a.eval x) (a.eval y)).run P w = .ok () (w.setRow g (cur.toList.take (j * sz + off) ++ ds ++ cur.toList.drop (j * sz + off + ds.length)).toArray) := by
                      have hst := run_storeCells_at P g (j * sz + off) R.e ds 0 cur w f2 (by omega) g3
                      simp only [Nat.add_zero] at hst
                      simp only [Instr.storeAt, hx, Instr.sureAddr, storeVar, Sem.run_bind, Sem.run_pure, Result.andThen_ok, hT.size_run, g1]
                      rw [if_neg (by simp; omega)]
                      simpa using hst
                    unfold Oper.wp
                    simp only [execOp, Sem.run_bind, hrun, Result.andThen_ok, Sem.run_pure]
                    refine hK _ (hM.turnRow (R' := ⟨R.t, R.e, R.xs.set j z⟩) (g := g) (cs := cs.take (j * R.t.size) ++ (es.take off ++ ds ++ es.drop (off + ds.length)) ++ cs.drop (j * R.t.size + R.t.size)) hR (by rw [hV]; rfl)
                      (hM.below.trans ⟨rfl, rfl, rfl, by simp, fun k hk => setRow_other w g k _ (by omega), Nat.le_refl _⟩) (by simp) (fun k hk => setRow_other w g k _ hk) ?_ (RowCells_set R.t R.xs cs hrc j z _ hj hnew))
                    -- its cells
                    have hcur : cur.toList.take (R.xs.length * R.t.size) = cs := f6
                    have hlen' : (cs.take (j * R.t.size) ++ (es.take off ++ ds ++ es.drop (off + ds.length)) ++ cs.drop (j * R.t.size + R.t.size)).length = R.xs.length * R.t.size := by
                      simp only [List.length_append, List.length_take, List.length_drop] at lnew ⊢
                      omega
                    have hes : es = (cs.drop (j * R.t.size)).take R.t.size := by
                      apply List.ext_getElem?
                      intro m
                      by_cases hm : m < R.t.size
                      · rw [List.getElem?_take, if_pos hm, List.getElem?_drop]
                        rw [List.getElem?_eq_getElem (by omega)]
                        exact (p2 m _ (List.getElem?_eq_getElem (by omega))).symm
                      · rw [List.getElem?_eq_none (by omega), List.getElem?_eq_none (by simp; omega)]
                    refine ⟨by simpa using hlen', .inr ⟨g, cap, _, by simpa using hV, f1, setRow_heap w g cur _ R.e (0, 0) f2, by simpa using f3, f4, ?_, ?_⟩⟩
                    · simp only [List.size_toArray, List.length_append, List.length_take, List.length_drop, Array.length_toList]
                      rw [← f5]
                      omega
                    · simp only [List.length_set]
                      apply List.ext_getElem?
                      intro m
                      have hcm : ∀ m, m < R.xs.length * R.t.size → cs[m]? = cur.toList[m]? := by
                        intro m hm
                        rw [← hcur, List.getElem?_take, if_pos hm]
                      rw [List.getElem?_take]
                      by_cases hm : m < R.xs.length * R.t.size
                      · rw [if_pos hm]
                        subst b0
                        have el : es.length = R.t.size := les
                        by_cases h1 : m < j * R.t.size
                        · rw [List.append_assoc, List.append_assoc, List.append_assoc, List.append_assoc, List.getElem?_append_left (by simp; omega), List.getElem?_append_left (by simp; omega), List.getElem?_take, List.getElem?_take, if_pos (by omega), if_pos h1, hcm m hm]
                        · by_cases h2 : m < j * R.t.size + R.t.size
                          · -- within the element
                            have e2 : (cs.take (j * R.t.size) ++ (es.take off ++ ds ++ es.drop (off + ds.length)) ++ cs.drop (j * R.t.size + R.t.size))[m]? = (es.take off ++ ds ++ es.drop (off + ds.length))[m - j * R.t.size]? := by
                              rw [List.append_assoc, List.getElem?_append_right (by simp; omega), List.getElem?_append_left (by simp at lnew ⊢; omega)]
                              congr 1
                              simp
                              omega
                            rw [e2]
                            by_cases h3 : m < j * R.t.size + off
                            · rw [List.append_assoc, List.append_assoc, List.getElem?_append_left (by simp; omega), List.getElem?_append_left (by simp; omega), List.getElem?_take, List.getElem?_take, if_pos (by omega), if_pos (by omega), hes, List.getElem?_take, if_pos (by omega), List.getElem?_drop, hcm _ (by omega)]
                              congr 1
                              omega
                            · by_cases h4 : m < j * R.t.size + off + ds.length
                              · rw [List.append_assoc, List.append_assoc, List.getElem?_append_right (by simp; omega), List.getElem?_append_left (by simp; omega), List.getElem?_append_right (by simp; omega), List.getElem?_append_left (by simp; omega)]
                                congr 1
                                simp
                                omega
                              · rw [List.getElem?_append_right (by simp; omega), List.getElem?_append_right (by simp; omega), List.getElem?_drop, List.getElem?_drop, hes, List.getElem?_take, if_pos (by simp; omega), List.getElem?_drop, hcm _ (by simp; omega)]
                                congr 1
                                simp
                                omega
                          · have e2 : (cs.take (j * R.t.size) ++ (es.take off ++ ds ++ es.drop (off + ds.length)) ++ cs.drop (j * R.t.size + R.t.size))[m]? = cs[m]? := by
                              rw [List.getElem?_append_right (by simp at lnew ⊢; omega), List.getElem?_drop]
                              congr 1
                              simp at lnew ⊢
                              omega
                            rw [e2, List.getElem?_append_right (by simp; omega), List.getElem?_drop, hcm m hm]
                            congr 1
                            simp
                            omega
                      · rw [if_neg hm, List.getElem?_eq_none]
                        rw [hlen']
                        omega
              · cases e
          · cases e
        · cases e
      · cases e
    · cases e
theorem newB_sat {σ : St} (hS : Sat B w0 h0 b u n σ N h a w) {d : Nat} (hd : d < n) {q : Nat} {t : TypeId} {ls : List Leaf} {it : Option It} {o : Obj} (hr : BlkSat (N.setB q w.heap.size) h ⟨t, ls, it⟩ o)
    (hn : usedB σ.slots σ.blks q = false) :
    Sat B w0 h0 b u n ⟨(b + d, .leaf (.ptr q 0)) :: σ.slots, (q, ⟨t, ls, it⟩) :: σ.blks, σ.rows⟩ (N.setB q w.heap.size) h (a.put (some d) (.pointer (some ⟨w.heap.size, 0, none⟩))) (w.alloc o) := by
  unfold usedB at hn
  simp only [Bool.or_eq_false_iff] at hn
  refine ⟨hS.mem.newB (b := ⟨t, ls, it⟩) hr hn.2, hS.grow, hS.dom, ?_, by rw [size_put]; exact hS.size, by rw [defers_put]; exact hS.defers⟩
  refine SlotSat.put (N := N.setB q w.heap.size) (fun t' => ?_) (by rw [hS.size]; exact hd) (by simp [SV.rel, Leaf.rel, Names.setB])
  refine SV.rel_names _ (hS.slots t') (fun i hi => ?_) (fun i _ => rfl)
  simp only [Names.setB]
  rw [if_neg]
  intro e
  subst e
  have := anySlots_false hn.1 t' hi
  cases this
theorem newBlkQ_sound {σ : St} (hS : Sat B w0 h0 b u n σ N h a w) {d : Nat} (hd : d < n) {q1 q2 q3 : Nat} {t : TypeId} {ls : List Leaf} {it : Option It} {k : St → Prop} (e : newBlkQ σ.slots σ.blks σ.rows (b + d) q1 q2 q3 t ls it k) {o : Obj}
    (hr : ∀ q, usedB σ.slots σ.blks q = false → BlkSat (N.setB q w.heap.size) h ⟨t, ls, it⟩ o) : ∃ σ' N', k σ' ∧ Sat B w0 h0 b u n σ' N' h (a.put (some d) (.pointer (some ⟨w.heap.size, 0, none⟩))) (w.alloc o) := by
  have fin : ∀ q, usedB σ.slots σ.blks q = false → mkBlkK σ.slots σ.blks σ.rows (b + d) q t ls it k → ∃ σ' N', k σ' ∧ Sat B w0 h0 b u n σ' N' h (a.put (some d) (.pointer (some ⟨w.heap.size, 0, none⟩))) (w.alloc o) := by
    intro q hb e
    unfold mkBlkK at e
    simp only [fLs_eq] at e
    exact ⟨_, _, e, newB_sat hS hd (hr q hb) hb⟩
  unfold newBlkQ at e
  cases h1 : usedB σ.slots σ.blks (b + d) with
  | false => rw [h1] at e; exact fin _ h1 e
  | true =>
    rw [h1] at e
    simp only [cond_true] at e
    cases h2 : usedB σ.slots σ.blks q1 with
    | false => rw [h2] at e; exact fin _ h2 e
    | true =>
      rw [h2] at e
      simp only [cond_true] at e
      cases h3 : usedB σ.slots σ.blks q2 with
      | false => rw [h3] at e; exact fin _ h3 e
      | true =>
        rw [h3] at e
        simp only [cond_true] at e
        cases h4 : usedB σ.slots σ.blks q3 with
        | false => rw [h4] at e; exact fin _ h4 e
        | true => rw [h4] at e; exact e.elim
theorem newBlkK_sound {σ : St} (hS : Sat B w0 h0 b u n σ N h a w) {d : Nat} (hd : d < n) {t : TypeId} {ls : List Leaf} {it : Option It} {k : St → Prop} (e : newBlkK σ.slots σ.blks σ.rows (b + d) t ls it k) {o : Obj}
    (hr : ∀ q, usedB σ.slots σ.blks q = false → BlkSat (N.setB q w.heap.size) h ⟨t, ls, it⟩ o) : ∃ σ' N', k σ' ∧ Sat B w0 h0 b u n σ' N' h (a.put (some d) (.pointer (some ⟨w.heap.size, 0, none⟩))) (w.alloc o) :=
  newBlkQ_sound hS hd e hr
theorem append_sound (hE : EnvOk P E) {σ : St} (hS : Sat B w0 h0 b u n σ N h a w) {d : Nat} (hdn : d < n) {t t' type : TypeId} {s x : Operand} {src : (T : Ty) → (List T.den → Prop) → Prop} {k : St → Prop}
    (e : appendK E σ.slots σ.blks σ.rows (b + d) t (evO b σ.slots s) src k)
    (hsrc : ∀ (T : Ty) (te : TypeId) (tei : TI) (K : List T.den → Prop), E.tt te = some tei → P.underlying t = some (.slice te) → tei.size = T.size → tei.zero.length = tei.size → 1 ≤ tei.size → src T K → ∃ ys, K ys ∧
      ∀ (xs : List T.den) (v : Value) (cs : List Value), a.eval s = v → w.ownsRow B te T.size v xs.length cs → RowCells h T xs cs → (xs.length + ys.length) * tei.bytes ≤ 140737488355328 → xs.length + ys.length ≤ maxLen →
        ∃ v' w' cs', (Builtin.append_ #[t, t'] type #[v, a.eval x]).run P w = .ok v' w' ∧ w'.ownsRow B te T.size v' (xs ++ ys).length cs' ∧ RowCells h T (xs ++ ys) cs' ∧ GrownBy w w' v.ownBlock ∧ (v'.ownBlock = v.ownBlock ∨ v'.ownBlock = some w.heap.size)) :
    ∃ v' w' σ' N', (Builtin.append_ #[t, t'] type #[a.eval s, a.eval x]).run P w = .ok v' w' ∧ k σ' ∧ Sat B w0 h0 b u n σ' N' h (a.put (some d) v') w' := by
  have hs : (evO b σ.slots s).rel N h (a.eval s) := evO_rel hS.slots s
  unfold appendK at e
  split at e
  · rename_i r R hrow
    split at e
    · rename_i tei htei
      cases hb : (Nat.beq tei.size R.t.size && Nat.beq tei.zero.length tei.size && Nat.ble 1 tei.size) with
      | false => rw [hb] at e; exact e.elim
      | true =>
        rw [hb] at e
        simp only [cond_true] at e
        simp only [Bool.and_eq_true] at hb
        have b1 : tei.size = R.t.size := Nat.eq_of_beq_eq_true hb.1.1
        have b2 : tei.zero.length = tei.size := Nat.eq_of_beq_eq_true hb.1.2
        have b3 : 1 ≤ tei.size := Nat.le_of_ble_eq_true hb.2
        -- the row
        have hown : ∃ (v : Value) (cs : List Value) (te : TypeId), a.eval s = v ∧ P.underlying t = some (.slice te) ∧ te = R.e ∧ w.ownsRow B R.e R.t.size v R.xs.length cs ∧ RowCells h R.t R.xs cs ∧
            (∀ g, v.ownBlock = some g → h g = none ∧ (∀ i b, getB σ.blks i = some b → N.ρ i ≠ g) ∧ (∀ q S, getR σ.rows q = some S → (N.V q).ownBlock = some g → r = some q)) := by
          unfold appendRow at hrow
          split at hrow
          · cases hrow
          · rename_i ti hti
            have hT := hE.tt t ti hti
            obtain ⟨dd, hdd, _, hkk⟩ := hT.und
            split at hrow
            · rename_i te hte
              rw [hte] at hkk
              simp only at hkk
              subst hkk
              split at hrow
              · rename_i r0 hsr
                rw [hsr] at hs
                split at hrow
                · rename_i R0 hR0
                  cases hbe : Nat.beq R0.e te with
                  | false => rw [hbe] at hrow; cases hrow
                  | true =>
                    rw [hbe] at hrow
                    simp only [cond_true] at hrow
                    injection hrow with hrow
                    injection hrow with h1 h2
                    subst h1 h2
                    simp only [SV.rel, Leaf.rel] at hs
                    obtain ⟨cs, p1, p2⟩ := hS.mem.row r0 R0 hR0
                    refine ⟨_, cs, te, hs.1, hdd, (Nat.eq_of_beq_eq_true hbe).symm, p1, p2, fun g hg => ⟨hS.mem.rowh r0 R0 g hR0 hg, fun i b hi => hS.mem.rowb r0 R0 g i b hR0 hg hi, fun q S hq hqg => ?_⟩⟩
                    rw [hS.mem.rowr r0 q R0 S g hR0 hq hg hqg]
                · cases hrow
              · rename_i hsr
                rw [hsr] at hs
                split at hrow
                · rename_i tei' htei'
                  split at hrow
                  · rename_i T hT'
                    injection hrow with hrow
                    injection hrow with h1 h2
                    subst h1 h2
                    simp only [SV.rel, Leaf.rel] at hs
                    refine ⟨_, [], te, hs, hdd, rfl, World.ownsRow_nil w B te _, rfl, fun g hg => by cases hg⟩
                  · cases hrow
                · cases hrow
              · cases hrow
            · cases hrow
        obtain ⟨v, cs, te, hv, hund, hte, hown, hrc, hfree⟩ := hown
        obtain ⟨ys, e', hrun⟩ := hsrc R.t R.e tei _ htei (by rw [← hte]; exact hund) b1 b2 b3 e
        obtain ⟨e1, e2, e3⟩ := e'
        obtain ⟨v', w', cs', hr, q1, q2, q3, q4⟩ := hrun R.xs v cs hv hown hrc e1 e2
        have hbel : Below B w0 w' := hS.mem.below.grown q3 hS.mem.size fun k hk => (hown.lt k hk).1
        have fin : ∀ (sl : Slots) (bs : Blks) (rs : Rows), MemSat B w0 bs rs N h w → SlotSat sl N h (vals b u a) → (∀ q S, getR rs q = some S → r ≠ some q ∧ getR σ.rows q = some S) → (∀ i b, getB bs i = some b → ∃ b', getB σ.blks i = some b') →
            newRowK sl bs rs (b + d) ⟨R.t, R.e, R.xs ++ ys⟩ k → ∃ σ' N', k σ' ∧ Sat B w0 h0 b u n σ' N' h (a.put (some d) v') w' := by
          intro sl bs rs hM hsl hrs hbs hk
          unfold newRowK at hk
          cases hnm : (anySlots (Leaf.namesR (b + d)) sl || anyBlks (Leaf.namesR (b + d)) bs) with
          | true => rw [hnm] at hk; exact hk.elim
          | false =>
            rw [hnm] at hk
            simp only [cond_false] at hk
            simp only [Bool.or_eq_false_iff] at hnm
            refine ⟨_, N.setR (b + d) v', hk, ⟨?_, hS.grow, hS.dom, ?_, by rw [size_put]; exact hS.size, by rw [defers_put]; exact hS.defers⟩⟩
            · refine hM.newR (R := ⟨R.t, R.e, R.xs ++ ys⟩) (row := v.ownBlock) hbel q3.size (fun k hk hne => q3.block k hk hne) q1 q2 ?_ hnm.2
              intro g hg
              have hg' : v.ownBlock = some g ∨ g = w.heap.size := by
                rcases hg with hg | hg
                · rcases q4 with q4 | q4
                  · rw [q4] at hg; exact .inl hg
                  · rw [q4] at hg; injection hg with hg; exact .inr hg.symm
                · exact .inl hg
              rcases hg' with hg | hg
              · obtain ⟨f1, f2, f3⟩ := hfree g hg
                refine ⟨f1, fun i b hi => ?_, fun q S hq hqg => ?_⟩
                · obtain ⟨b', hb'⟩ := hbs i b hi
                  exact f2 i b' hb'
                · obtain ⟨p1, p2⟩ := hrs q S hq
                  exact p1 (f3 q S p2 hqg)
              · subst hg
                refine ⟨?_, fun i b hi => ?_, fun q S hq hqg => ?_⟩
                · cases hh : h w.heap.size with
                  | none => rfl
                  | some o => exact absurd (hM.pin.lt hh) (by omega)
                · obtain ⟨ds, p1, _⟩ := hM.blk i b hi
                  have := lt_of_heap p1
                  omega
                · have := (ownBlock_lt hM hq hqg).2
                  omega
            · refine SlotSat.put (N := N.setR (b + d) v') (fun t' => ?_) (by rw [hS.size]; exact hdn) ?_
              · refine SV.rel_names _ (hsl t') (fun i _ => rfl) (fun i hi => ?_)
                simp only [Names.setR]
                rw [if_neg]
                intro he
                subst he
                have := anySlots_false hnm.1 t' hi
                cases this
              · simp only [SV.rel, Leaf.rel]
                refine ⟨by simp [Names.setR], ?_⟩
                rcases q1.2 with ⟨e0, _⟩ | ⟨g, cap, cur, e0, _⟩ <;> rw [e0] <;> rfl
        rw [hv]
        cases r with
        | none =>
          obtain ⟨σ', N', g1, g2⟩ := fin σ.slots σ.blks σ.rows hS.mem hS.slots (fun q S hq => ⟨by simp, hq⟩) (fun i b hi => ⟨b, hi⟩) e3
          exact ⟨v', w', σ', N', hr, g1, g2⟩
        | some r0 =>
          simp only [fSlots_eq, fBlks_eq, fRows_eq] at e3
          obtain ⟨σ', N', g1, g2⟩ := fin _ _ _ ((hS.mem.mapBlks (forget_keeps r0)).rmRow r0) (hS.slots.mapped (forget_keeps r0) (PLe.refl h)) (fun q S hq => by
            rw [rmR_get] at hq
            split at hq
            · cases hq
            · rename_i hne; exact ⟨by simpa using hne, hq⟩) (fun i b hi => by
            rw [mapBlks_get] at hi
            cases hh : getB σ.blks i with
            | none => rw [hh] at hi; cases hi
            | some b' => exact ⟨b', rfl⟩) e3
          exact ⟨v', w', σ', N', hr, g1, g2⟩
    · exact e.elim
  · exact e.elim
theorem ownBuild_some {o : Oper} {d t len ps} (e : ownBuild E b o = some (d, t, len, ps)) : ∃ parts k, o.op = .buildSlice t len parts ∧ o.dst = some k ∧ d = b + k ∧ ps = parts.toList := by
  unfold ownBuild at e
  split at e
  · rename_i t' n' parts hop
    cases hd : o.dst with
    | none => rw [hd] at e; simp [dstAt] at e
    | some k =>
      rw [hd] at e
      simp only [dstAt] at e
      cases hb : E.nm (1000000000 + (b + k)) with
      | false => rw [hb] at e; cases e
      | true =>
        rw [hb] at e
        simp only [cond_true, Option.some.injEq, Prod.mk.injEq] at e
        obtain ⟨rfl, rfl, rfl, rfl⟩ := e
        exact ⟨parts, k, hop, rfl, rfl, rfl⟩
  · cases e
theorem buildRow_sound (hE : EnvOk P E) {σ : St} (hS : Sat B w0 h0 b u n σ N h a w) {d : Nat} (hdn : d < n) {t : TypeId} {len : Nat} {ps : Array (Nat × Operand)} {k : St → Prop}
    (e : buildRowK E b σ.slots σ.blks σ.rows (b + d) t len ps.toList k) (ho : ∀ q ∈ ps.toList, (evO b σ.slots q.2).rel N h (a.eval q.2)) :
    ∃ v' w' σ' N', (Instr.buildSlice t len (ps.map fun (i, x) => (i, a.eval x))).run P w = .ok v' w' ∧ k σ' ∧ Sat B w0 h0 b u n σ' N' h (a.put (some d) v') w' := by
  unfold buildRowK at e
  split at e
  · exact e.elim
  rename_i ti hti
  have hT := hE.tt t ti hti
  obtain ⟨dd, hd, _, hk⟩ := hT.und
  split at e
  case h_2 => exact e.elim
  rename_i te hte
  rw [hte] at hk
  simp only at hk
  subst hk
  split at e
  · exact e.elim
  rename_i tei htei
  have hTe := hE.tt te tei htei
  split at e
  · exact e.elim
  rename_i T hTy
  cases hb : (Nat.beq ps.toList.length len && Nat.ble (len * tei.size) 16777216 && Nat.beq tei.zero.length tei.size && Nat.beq tei.size T.size && Nat.ble 1 T.size) with
  | false => rw [hb] at e; exact e.elim
  | true =>
    rw [hb] at e
    simp only [cond_true, buildElemsK_eq] at e
    simp only [Bool.and_eq_true] at hb
    obtain ⟨⟨⟨⟨b1, b2⟩, b3⟩, b4⟩, b5⟩ := hb
    have b1 : ps.toList.length = len := Nat.eq_of_beq_eq_true b1
    have b2 : len * tei.size ≤ 16777216 := Nat.le_of_ble_eq_true b2
    have b4 : tei.size = T.size := Nat.eq_of_beq_eq_true b4
    have b5 : 1 ≤ T.size := Nat.le_of_ble_eq_true b5
    obtain ⟨ie, hie, hsz, _, hz⟩ := hTe.info
    obtain ⟨z, hz1, zcs, hz2, _⟩ := hz (Nat.eq_of_beq_eq_true b3)
    split at e
    case h_2 => exact e.elim
    rename_i xs hxs
    obtain ⟨css, q1, q2, q3, q4, hrun⟩ := buildSlice_core (w := w) hd hTe hie hsz hz1 b1 b2 b4 b5 hxs ho
    have hfl : css.flatten.length = css.length * T.size := by
      have go : ∀ l : List (List Value), (∀ c ∈ l, c.length = T.size) → l.flatten.length = l.length * T.size := by
        intro l
        induction l with
        | nil => intro _; simp
        | cons c l ih =>
          intro hl
          rw [List.flatten_cons, List.length_append, ih (fun c hc => hl c (List.mem_cons_of_mem _ hc)), hl c (List.mem_cons_self ..), List.length_cons, Nat.succ_mul]
          omega
      exact go css q4
    have hle : len * T.size ≤ 16777216 := by rw [← b4]; exact b2
    have hlen : len ≤ len * T.size := Nat.le_mul_of_pos_right _ b5
    have hown : (w.alloc (.cells css.flatten.toArray te)).ownsRow B te T.size (.slice (some ⟨w.heap.size, 0, none⟩) len len) xs.length css.flatten := by
      refine ⟨by rw [hfl, q1, q2], .inr ⟨w.heap.size, len, css.flatten.toArray, by rw [q2, b1], hS.mem.size, heap_alloc_new w _, by rw [q2, b1]; exact Nat.le_refl _, by have : maxLen = 9223372036854775807 := rfl; omega, ?_, ?_⟩⟩
      · simp only [List.size_toArray]
        rw [hfl, q1, b1]
      · have e1 : xs.length * T.size = css.flatten.length := by rw [hfl, q1, q2]
        show List.take (xs.length * T.size) css.flatten.toArray.toList = css.flatten
        rw [e1]
        exact List.take_length
    have hrc : RowCells h T xs css.flatten := rowCells_of xs css (by rw [q1, q2]) q3
    unfold newRowK at e
    cases hnm : (anySlots (Leaf.namesR (b + d)) σ.slots || anyBlks (Leaf.namesR (b + d)) σ.blks) with
    | true => rw [hnm] at e; exact e.elim
    | false =>
      rw [hnm] at e
      simp only [cond_false] at e
      simp only [Bool.or_eq_false_iff] at hnm
      refine ⟨_, _, _, N.setR (b + d) (.slice (some ⟨w.heap.size, 0, none⟩) len len), hrun, e, ⟨?_, hS.grow, hS.dom, ?_, by rw [size_put]; exact hS.size, by rw [defers_put]; exact hS.defers⟩⟩
      · refine hS.mem.newR (R := ⟨T, te, xs⟩) (row := none) (hS.mem.below.alloc hS.mem.size _) (Nat.le_of_lt (lt_of_heap (heap_alloc_new w _))) (fun k hk _ => Below.heap_alloc _ _ _ hk) hown hrc ?_ hnm.2
        intro g hg
        have hg : g = w.heap.size := by
          rcases hg with hg | hg
          · simp only [Value.ownBlock, Option.some.injEq] at hg
            exact hg.symm
          · cases hg
        subst hg
        refine ⟨?_, fun i b hi => ?_, fun q S hq hqg => ?_⟩
        · cases hh : h w.heap.size with
          | none => rfl
          | some o => exact absurd (hS.mem.pin.lt hh) (by omega)
        · obtain ⟨ds, p1, _⟩ := hS.mem.blk i b hi
          have := lt_of_heap p1
          omega
        · have := (ownBlock_lt hS.mem hq hqg).2
          omega
      · refine SlotSat.put (N := N.setR (b + d) _) (fun t' => ?_) (by rw [hS.size]; exact hdn) ?_
        · refine SV.rel_names _ (hS.slots t') (fun i _ => rfl) (fun i hi => ?_)
          simp only [Names.setR]
          rw [if_neg]
          intro he
          subst he
          have := anySlots_false hnm.1 t' hi
          cases this
        · simp only [SV.rel, Leaf.rel]
          exact ⟨by simp [Names.setR], rfl⟩
theorem dstAt_some {d : Option Nat} {t : Nat} (e : dstAt b d = some t) : ∃ k, d = some k ∧ t = b + k := by
  cases d with
  | none => cases e
  | some k => injection e with e; exact ⟨k, rfl, e.symm⟩
theorem run_getObj_iter {g : Nat} {s : ByteArray} {p : Nat} (q : w.heap[g]? = some (.stringIter s p)) : (getObj g).run P w = .ok (.stringIter s p) w := by
  simp [getObj, Sem.run, q]
theorem run_setObj_iter {g : Nat} {s : ByteArray} {p : Nat} (q : w.heap[g]? = some (.stringIter s p)) (o : Obj) : (setObj g o).run P w = .ok () { w with heap := w.heap.setIfInBounds g o } := by
  simp [setObj, Sem.run, q]
theorem ownK_some : {T : Ty} → {x : T.den} → {k : (t : Ty) → List t.den → Prop} → ownK T x k → ∃ (t : Ty) (xs : List t.den), k t xs ∧ ∀ {B : Nat} {w : World} {h : PHeap} {e : TypeId} {v : Value}, ownRep B w h e T x v → (∃ cs, w.ownsRow B e t.size v xs.length cs ∧ RowCells h t xs cs) ∧ ∀ g, v.ownBlock = some g → h g = none
  | .sl t, xs, _, e => ⟨t, xs, e, fun hh => hh⟩
  | .bool, _, _, e => e.elim
  | .int _, _, _, e => e.elim
  | .str, _, _, e => e.elim
  | .unit, _, _, e => e.elim
  | .opt _, _, _, e => e.elim
  | .mp _ _, _, _, e => e.elim
  | .nd _ _ _ _, _, _, e => e.elim
  | .pair _ _, _, _, e => e.elim
theorem ownsRow_base {W : World} {base base' : Nat} {e : TypeId} {size : Nat} {v : Value} {k : Nat} {xs : List Value} (h : W.ownsRow base e size v k xs) (hb : base' ≤ base) : W.ownsRow base' e size v k xs := by
  refine ⟨h.1, ?_⟩
  rcases h.2 with h0 | ⟨g, cap, cur, e1, e2, e3, e4⟩
  · exact .inl h0
  · exact .inr ⟨g, cap, cur, e1, by omega, e3, e4⟩
theorem ownCall_sound (hE : EnvOk P E) (hG : GlobOk E.gl h0) {σ : St} (hS : Sat B w0 h0 b u n σ N h a w) {o : Oper} {c : Call} (hop : o.op = .call c) {d : Nat} (hdn : d < n) {k : St → Prop} {K : Act → World → Prop} {Q : Exit → Act → World → Prop}
    (e : ownCall E b σ.slots c fun t e xs => newRowK σ.slots σ.blks σ.rows (b + d) ⟨t, e, xs⟩ k) (hK : ∀ v σ' N' h' w', k σ' → Sat B w0 h0 b u n σ' N' h' (a.put (some d) v) w' → K (a.put o.dst v) w') : o.wp P a w K Q := by
  have hoa : ∀ x ∈ c.args.toList, (evO b σ.slots x).rel N h (a.eval x) := fun x _ => evO_rel hS.slots x
  unfold ownCall at e
  split at e
  rotate_left
  · exact e.elim
  rename_i fv hf
  have hof := evO_rel hS.slots fv
  split at e
  rotate_left
  · exact e.elim
  rename_i f caps hfn
  obtain ⟨vs, hv, hcaps⟩ := asFn_rel hfn hof
  split at e
  rotate_left
  · exact e.elim
  rename_i C hC
  obtain ⟨⟨fn, cd, hfn, hname, hbody⟩, hspec⟩ := hE.ct f C hC
  split at e
  rotate_left
  · exact e.elim
  rename_i te hown
  split at e
  rotate_left
  · exact e.elim
  rename_i ss' hcut
  rw [argsK_eq] at e
  split at e
  rotate_left
  · exact e.elim
  rename_i x hx
  obtain ⟨l1, l2⟩ := callArgs_rel hoa hcaps
  obtain ⟨us, hus, l1, l2⟩ := cutTail_rel hcut l1 l2
  have hargs : trep h C.arg x us := argsOf_rel C.arg _ x hx _ l1 l2
  obtain ⟨hpre, e⟩ := e
  obtain ⟨t, xs, e, hrep⟩ := ownK_some e
  have hcall := hspec x h w _ hpre hargs hS.mem.pin (hG.mono hS.grow)
  unfold Oper.wp
  rw [call_enter hop hf hv hfn hname hbody, hus]
  refine hcall.mono ?_
  rintro en w' ⟨v, h', rfl, h1, h2, h3, h4, h5⟩
  unfold resOr at h4
  rw [hown] at h4
  simp only at h4
  obtain ⟨⟨cs, hrow, hrc⟩, hfr⟩ := hrep h4
  have hM := hS.mem.grow h1 h2 h3 h5
  have hsz := h5.size
  have hBw := hS.mem.size
  unfold newRowK at e
  cases hnm : (anySlots (Leaf.namesR (b + d)) σ.slots || anyBlks (Leaf.namesR (b + d)) σ.blks) with
  | true => rw [hnm] at e; exact e.elim
  | false =>
    rw [hnm] at e
    simp only [cond_false] at e
    simp only [Bool.or_eq_false_iff] at hnm
    refine hK v _ (N.setR (b + d) v) h' w' e ⟨?_, hS.grow.trans h1, ?_, ?_, by rw [size_put]; exact hS.size, by rw [defers_put]; exact hS.defers⟩
    · refine hM.newR (R := ⟨t, te, xs⟩) (row := none) hM.below (Nat.le_refl _) (fun k _ _ => rfl) (ownsRow_base hrow hBw) hrc ?_ hnm.2
      intro g hg
      have hg : v.ownBlock = some g := by
        rcases hg with hg | hg
        · exact hg
        · cases hg
      have hge := (hrow.lt g hg).1
      refine ⟨hfr g hg, fun i bb hi => ?_, fun q S hq hqg => ?_⟩
      · obtain ⟨ds, p1, _⟩ := hS.mem.blk i bb hi
        have := lt_of_heap p1
        omega
      · have := (ownBlock_lt hS.mem hq hqg).2
        omega
    · intro k hk
      rcases h2 k hk with g | g
      · exact hS.dom k g
      · exact .inr (by omega)
    · refine SlotSat.put (N := N.setR (b + d) _) (fun t' => ?_) (by rw [hS.size]; exact hdn) ?_
      · refine SV.rel_names _ (SV.rel_mono h1 _ _ (hS.slots t')) (fun i _ => rfl) (fun i hi => ?_)
        simp only [Names.setR]
        rw [if_neg]
        intro he
        subst he
        have := anySlots_false hnm.1 t' hi
        cases this
      · simp only [SV.rel, Leaf.rel]
        have hvs : ∃ A c, v = .slice A xs.length c := by
          rcases hrow.2 with ⟨e0, e1⟩ | ⟨g, cap, cur, e0, _⟩
          · exact ⟨none, 0, by rw [e0, e1]⟩
          · exact ⟨_, _, e0⟩
        obtain ⟨A, cc, hvs⟩ := hvs
        subst hvs
        exact ⟨by simp [Names.setR], rfl⟩
theorem cut_sound {σ : St} (hS : Sat B w0 h0 b u n σ N h a w) {d : Nat} (hdn : d < n) {r : Nat} {R : RowS} (hR : getR σ.rows r = some R) {m : Nat} (hm : m ≤ R.xs.length) {k : St → Prop}
    (e : newRowK (mapSlots (forget r) σ.slots) (mapBlks (forget r) σ.blks) (rmR σ.rows r) (b + d) ⟨R.t, R.e, R.xs.take m⟩ k) :
    ∃ A c L, N.V r = .slice A L c ∧ L = R.xs.length ∧ m ≤ c ∧ ∃ σ' N', k σ' ∧ Sat B w0 h0 b u n σ' N' h (a.put (some d) (.slice A m c)) w := by
  obtain ⟨cs, hown, hrc⟩ := hS.mem.row r R hR
  have hM := (hS.mem.mapBlks (forget_keeps r)).rmRow r
  have hsl : SlotSat (mapSlots (forget r) σ.slots) N h (vals b u a) := hS.slots.mapped (forget_keeps r) (PLe.refl h)
  have hcl := RowCells_len R.t R.xs cs hrc
  have htk : RowCells h R.t (R.xs.take m) (cs.take (m * R.t.size)) := by
    have key : ∀ (xs : List R.t.den) (cs : List Value) (m : Nat), RowCells h R.t xs cs → RowCells h R.t (xs.take m) (cs.take (m * R.t.size)) := by
      intro xs
      induction xs with
      | nil => intro cs m hc; simp only [RowCells] at hc; subst hc; simp [RowCells]
      | cons x xs ih =>
        rintro cs m ⟨d, q, rfl, g1, g2⟩
        cases m with
        | zero => simp [RowCells]
        | succ m =>
          have hd := rep_len R.t x d g1
          refine ⟨d, q.take (m * R.t.size), ?_, g1, ih q m g2⟩
          rw [show (m + 1) * R.t.size = d.length + m * R.t.size by rw [hd, Nat.add_mul]; omega, List.take_length_add_append]
    exact key R.xs cs m hrc
  have hlt : (R.xs.take m).length = m := by simp; omega
  have hms : m * R.t.size ≤ R.xs.length * R.t.size := Nat.mul_le_mul_right _ hm
  have hv : ∃ A c, N.V r = .slice A R.xs.length c ∧ m ≤ c ∧ w.ownsRow B R.e R.t.size (.slice A m c) m (cs.take (m * R.t.size)) := by
    rcases hown.2 with ⟨e0, e1⟩ | ⟨g, cap, cur, e0, f1, f2, f3, f4, f5, f6⟩
    · have : m = 0 := by omega
      subst this
      exact ⟨none, 0, by rw [e0, e1], Nat.le_refl _, by simp, .inl ⟨rfl, rfl⟩⟩
    · refine ⟨_, cap, e0, by omega, by rw [List.length_take, hcl]; omega, .inr ⟨g, cap, cur, rfl, f1, f2, by omega, f4, f5, ?_⟩⟩
      rw [← f6, List.take_take, Nat.min_eq_left hms]
  obtain ⟨A, c, hV, hmc, hown'⟩ := hv
  have hob : (Value.slice A m c).ownBlock = (N.V r).ownBlock := by rw [hV]; cases A <;> rfl
  refine ⟨A, c, R.xs.length, hV, rfl, hmc, ?_⟩
  unfold newRowK at e
  cases hnm : (anySlots (Leaf.namesR (b + d)) (mapSlots (forget r) σ.slots) || anyBlks (Leaf.namesR (b + d)) (mapBlks (forget r) σ.blks)) with
  | true => rw [hnm] at e; exact e.elim
  | false =>
    rw [hnm] at e
    simp only [cond_false] at e
    simp only [Bool.or_eq_false_iff] at hnm
    refine ⟨_, N.setR (b + d) (.slice A m c), e, ⟨?_, hS.grow, hS.dom, ?_, by rw [size_put]; exact hS.size, by rw [defers_put]; exact hS.defers⟩⟩
    · refine hM.newR (R := ⟨R.t, R.e, R.xs.take m⟩) (row := none) hS.mem.below (Nat.le_refl _) (fun k hk hne => rfl) (by rw [hlt]; exact hown') htk ?_ hnm.2
      intro g hg
      have hg : (N.V r).ownBlock = some g := by
        rcases hg with hg | hg
        · rw [hob] at hg; exact hg
        · cases hg
      refine ⟨hS.mem.rowh r R g hR hg, fun i bb hi => ?_, fun q S hq hqg => ?_⟩
      · rw [mapBlks_get] at hi
        cases hh : getB σ.blks i with
        | none => rw [hh] at hi; cases hi
        | some b' => exact hS.mem.rowb r R g i b' hR hg hh
      · rw [rmR_get] at hq
        split at hq
        · cases hq
        · rename_i hne
          exact hne (hS.mem.rowr r q R S g hR hq hg hqg)
    · refine SlotSat.put (N := N.setR (b + d) _) (fun t' => ?_) (by rw [hS.size]; exact hdn) ?_
      · refine SV.rel_names _ (hsl t') (fun i _ => rfl) (fun i hi => ?_)
        simp only [Names.setR]
        rw [if_neg]
        intro he
        subst he
        have := anySlots_false hnm.1 t' hi
        cases this
      · simp only [SV.rel, Leaf.rel]
        exact ⟨by simp [Names.setR], rfl⟩
theorem clear_sound (hE : EnvOk P E) {σ : St} (hS : Sat B w0 h0 b u n σ N h a w) {o : Oper} (hdst : o.dst = none) {k : St → Prop} {K : Act → World → Prop} {Q : Exit → Act → World → Prop}
    (e : clearK E b σ.slots σ.blks σ.rows o k) (hK : ∀ σ' w', k σ' → Sat B w0 h0 b u n σ' N h a w' → K a w') : o.wp P a w K Q := by
  have ho : ∀ x, (evO b σ.slots x).rel N h (a.eval x) := evO_rel hS.slots
  obtain ⟨dst, op, type, pos, after, guard⟩ := o
  simp only at hdst
  subst hdst
  unfold clearK at e
  simp only at e
  split at e
  rotate_left
  · exact e.elim
  rename_i c
  split at e
  rotate_left
  · exact e.elim
  rename_i hcal
  split at e
  rotate_left
  · exact e.elim
  rename_i t hts
  split at e
  rotate_left
  · exact e.elim
  rename_i x hargs
  split at e
  rotate_left
  · exact e.elim
  rename_i r sz i hx
  split at e
  rotate_left
  · exact e.elim
  rename_i R hR
  split at e
  rotate_left
  · exact e.elim
  rename_i ti hti
  split at e
  rotate_left
  · exact e.elim
  rename_i te hte
  split at e
  rotate_left
  · exact e.elim
  rename_i tei htei
  cases hb : (Nat.beq sz R.t.size && Nat.beq tei.size R.t.size && Nat.beq tei.zero.length tei.size && Nat.ble 1 tei.size) with
  | false => rw [hb] at e; exact e.elim
  | true =>
    rw [hb] at e
    simp only [cond_true, implodeK_eq] at e
    simp only [Bool.and_eq_true] at hb
    have b0 : sz = R.t.size := Nat.eq_of_beq_eq_true hb.1.1.1
    have b1 : tei.size = R.t.size := Nat.eq_of_beq_eq_true hb.1.1.2
    have b2 : tei.zero.length = tei.size := Nat.eq_of_beq_eq_true hb.1.2
    split at e
    rotate_left
    · exact e.elim
    rename_i z r' hz
    split at e
    rotate_left
    · exact e.elim
    rw [setRK_eq] at e
    have hca : c.args = #[x] := by
      apply Array.ext'
      exact hargs
    have hct : c.argTypes = #[t] := by
      apply Array.ext'
      exact hts
    obtain ⟨dd, hdd, _, hkk⟩ := (hE.tt t ti hti).und
    rw [hte] at hkk
    simp only at hkk
    subst hkk
    have hxv := ho x
    rw [hx] at hxv
    simp only [SV.rel, Leaf.rel] at hxv
    obtain ⟨g, len, cap, hV, hi, hxv⟩ := hxv
    obtain ⟨cs, hown, hrc⟩ := hS.mem.row r R hR
    have hcl := RowCells_len R.t R.xs cs hrc
    rcases hown.2 with ⟨e0, e1⟩ | ⟨g', cap', cur, e0, f1, f2, f3, f4, f5, f6⟩
    · rw [hV] at e0; cases e0
    rw [hV] at e0
    injection e0 with q1 q2 q3
    injection q1 with q1
    injection q1 with q1
    subst q1 q2 q3 b0
    obtain ⟨zs, hrz, hrun⟩ := clear_run (P := P) (w := w) (h := h) (hE.tt te tei htei) hdd b2 b1 hz f2 f5 f3 hi (cap - i) type
    have hzl : zs.length = R.t.size := rep_len R.t z zs hrz
    have hrun2 : (execOp a.eval ⟨none, .call c, type, pos, after, guard⟩).run P w = .ok (.value (.tuple #[])) (w.setRow g (cur.toList.take (i * R.t.size) ++ (List.replicate (R.xs.length - i) zs).flatten ++ cur.toList.drop (i * R.t.size + (R.xs.length - i) * R.t.size)).toArray) := by
      simp only [execOp, Sem.run_bind, resolve, hcal, hca, hct]
      simp [invoke, builtin, hxv]
      rw [hrun]
      simp
    unfold Oper.wp
    rw [hrun2]
    have hfl : (List.replicate (R.xs.length - i) zs).flatten.length = (R.xs.length - i) * R.t.size := by simp [hzl]
    have hsplit : i * R.t.size + (R.xs.length - i) * R.t.size = R.xs.length * R.t.size := by rw [← Nat.add_mul]; congr 1; omega
    have hcapn : R.xs.length * R.t.size ≤ cap * R.t.size := Nat.mul_le_mul_right _ f3
    have hcur : cur.toList.length = cap * R.t.size := by simpa using f5
    have htake : RowCells h R.t (R.xs.take i) (cs.take (i * R.t.size)) := by
      have key : ∀ (xs : List R.t.den) (cs : List Value) (m : Nat), RowCells h R.t xs cs → RowCells h R.t (xs.take m) (cs.take (m * R.t.size)) := by
        intro xs
        induction xs with
        | nil => intro cs m hc; simp only [RowCells] at hc; subst hc; simp [RowCells]
        | cons x xs ih =>
          rintro cs m ⟨d, q, rfl, g1, g2⟩
          cases m with
          | zero => simp [RowCells]
          | succ m =>
            have hd := rep_len R.t x d g1
            refine ⟨d, q.take (m * R.t.size), ?_, g1, ih q m g2⟩
            rw [show (m + 1) * R.t.size = d.length + m * R.t.size by rw [hd, Nat.add_mul]; omega, List.take_length_add_append]
      exact key R.xs cs i hrc
    refine hK _ _ e ⟨?_, hS.grow, hS.dom, hS.slots, hS.size, hS.defers⟩
    have hit : cs.take (i * R.t.size) = cur.toList.take (i * R.t.size) := by
      rw [← f6, List.take_take, Nat.min_eq_left (by omega)]
    have hlen : (R.xs.take i ++ List.replicate (R.xs.length - i) z).length = R.xs.length := by simp; omega
    refine hS.mem.turnRow (R' := ⟨R.t, R.e, R.xs.take i ++ List.replicate (R.xs.length - i) z⟩) (g := g) (cs := cs.take (i * R.t.size) ++ (List.replicate (R.xs.length - i) zs).flatten) hR (by rw [hV]; rfl)
      (hS.mem.below.trans ⟨rfl, rfl, rfl, by simp, fun k hk => setRow_other w g k _ (by omega), Nat.le_refl _⟩) (by simp) (fun k hk => setRow_other w g k _ hk) ?_ (RowCells_append R.t _ _ _ _ htake (RowCells_replicate R.t hrz _))
    refine ⟨?_, .inr ⟨g, cap, _, by rw [hlen]; exact hV, f1, setRow_heap w g cur _ R.e (0, 0) f2, by rw [hlen]; exact f3, f4, ?_, ?_⟩⟩
    · rw [hlen, List.length_append, hfl, List.length_take, hcl]
      show _ = R.xs.length * R.t.size
      omega
    · simp only [List.size_toArray, List.length_append, hfl, List.length_take, List.length_drop, hcur]
      omega
    · rw [hlen, hit]
      simp only
      have hl2 : (cur.toList.take (i * R.t.size) ++ (List.replicate (R.xs.length - i) zs).flatten).length = R.xs.length * R.t.size := by
        rw [List.length_append, hfl, List.length_take, hcur]
        omega
      rw [← hl2]
      exact List.take_left
theorem rowBack_sound {σ : St} (hS : Sat B w0 h0 b u n σ N h a w) {w' : World} {v v' : Value} {sl : Slots} {bs : Blks} {rs : Rows} {d : Option Nat} (hd : ∀ t, d = some t → t < n) {R : RowS} {cs' : List Value} {k : St → Prop}
    (hM : MemSat B w0 bs rs N h w) (hsl : SlotSat sl N h (vals b u a)) (hfree : ∀ g, v.ownBlock = some g → B ≤ g ∧ h g = none ∧ (∀ i b, getB bs i = some b → N.ρ i ≠ g) ∧ (∀ s S, getR rs s = some S → (N.V s).ownBlock ≠ some g))
    (e : rowBackK sl bs rs (dstAt b d) R k) (q1 : w'.ownsRow B R.e R.t.size v' R.xs.length cs') (q2 : RowCells h R.t R.xs cs') (q3 : GrownBy w w' v.ownBlock) (q4 : ∀ g, v'.ownBlock = some g → v.ownBlock = some g ∨ w.heap.size ≤ g) :
    ∃ σ' N', k σ' ∧ Sat B w0 h0 b u n σ' N' h (a.put d v') w' := by
  unfold rowBackK at e
  split at e
  rotate_left
  · exact e.elim
  rename_i d0 hd0
  obtain ⟨d, rfl, rfl⟩ := dstAt_some hd0
  have hdn := hd d rfl
  have hbel : Below B w0 w' := hS.mem.below.grown q3 hS.mem.size fun k hk => (hfree k hk).1
  unfold newRowK at e
  cases hnm : (anySlots (Leaf.namesR (b + d)) sl || anyBlks (Leaf.namesR (b + d)) bs) with
  | true => rw [hnm] at e; exact e.elim
  | false =>
    rw [hnm] at e
    simp only [cond_false] at e
    simp only [Bool.or_eq_false_iff] at hnm
    refine ⟨_, N.setR (b + d) v', e, ⟨?_, hS.grow, hS.dom, ?_, by rw [size_put]; exact hS.size, by rw [defers_put]; exact hS.defers⟩⟩
    · refine hM.newR (row := v.ownBlock) hbel q3.size (fun k hk hne => q3.block k hk hne) q1 q2 ?_ hnm.2
      intro g hg
      have hg' : v.ownBlock = some g ∨ w.heap.size ≤ g := by
        rcases hg with hg | hg
        · exact q4 g hg
        · exact .inl hg
      rcases hg' with hg | hg
      · exact (hfree g hg).2
      · refine ⟨?_, fun i b hi => ?_, fun q S hq hqg => ?_⟩
        · cases hh : h g with
          | none => rfl
          | some o => exact absurd (hM.pin.lt hh) (by omega)
        · obtain ⟨ds, p1, _⟩ := hM.blk i b hi
          have := lt_of_heap p1
          omega
        · have := (ownBlock_lt hM hq hqg).2
          omega
    · refine SlotSat.put (N := N.setR (b + d) v') (fun t' => ?_) (by rw [hS.size]; exact hdn) ?_
      · refine SV.rel_names _ (hsl t') (fun i _ => rfl) (fun i hi => ?_)
        simp only [Names.setR]
        rw [if_neg]
        intro he
        subst he
        have := anySlots_false hnm.1 t' hi
        cases this
      · simp only [SV.rel, Leaf.rel]
        refine ⟨by simp [Names.setR], ?_⟩
        rcases q1.2 with ⟨e0, _⟩ | ⟨g, cap, cur, e0, _⟩ <;> rw [e0] <;> rfl
theorem rowCall_sound (hE : EnvOk P E) {σ : St} (hS : Sat B w0 h0 b u n σ N h a w) {o : Oper} (hd : ∀ t, o.dst = some t → t < n) {C : RContract} {s : SV} (hc : rowCall E b σ.slots o.op = some (C, s)) {k : St → Prop} {K : Act → World → Prop} {Q : Exit → Act → World → Prop}
    (e : rowCallK C s σ.slots σ.blks σ.rows (dstAt b o.dst) k) (hK : ∀ σ' N' h' a' w', k σ' → Sat B w0 h0 b u n σ' N' h' a' w' → K a' w') : o.wp P a w K Q := by
  unfold rowCall at hc
  split at hc
  rotate_left
  · cases hc
  rename_i c hop
  split at hc
  rotate_left
  · cases hc
  rename_i fv hf
  have hof := evO_rel hS.slots fv
  have hoa : ∀ x ∈ c.args.toList, (evO b σ.slots x).rel N h (a.eval x) := fun x _ => evO_rel hS.slots x
  split at hc
  rotate_left
  · cases hc
  rename_i f hfn
  obtain ⟨vs, hv, hcaps⟩ := asFn_rel hfn hof
  have hvs := LeafRels.nil_iff.1 hcaps
  subst hvs
  split at hc
  rotate_left
  · cases hc
  rename_i C0 hC
  obtain ⟨⟨fn, cd, hfn, hname, hbody⟩, hspec⟩ := hE.rct f C0 hC
  split at hc
  rotate_left
  · cases hc
  rename_i s0 hcut
  injection hc with hc
  injection hc with h1 h2
  subst h1 h2
  obtain ⟨l1, l2⟩ := callArgs_rel hoa hcaps
  simp only [leafSVs, List.append_nil] at l1 l2
  obtain ⟨us, hus, l1, l2⟩ := cutTail_rel hcut l1 l2
  obtain ⟨v, rfl⟩ : ∃ v, us = [v] := by
    match us, l1 with
    | [v], _ => exact ⟨v, rfl⟩
  have hsv : s0.rel N h v := l2 0 s0 v rfl rfl
  have main : ∀ (xs : List C0.t.den) (cs : List Value) (B' : Nat), C0.pre xs → w.ownsRow B C0.e C0.t.size v xs.length cs → RowCells h C0.t xs cs → (∀ g, v.ownBlock = some g → h g = none) →
      (∀ u v' ys cs' w', C0.post xs ys → w'.ownsRow B C0.e C0.t.size v' ys.length cs' → RowCells h C0.t ys cs' → GrownBy w w' v.ownBlock → (∀ g, v'.ownBlock = some g → v.ownBlock = some g ∨ w.heap.size ≤ g) → (match C0.back with | true => u = v' | false => v' = v) → K (a.put o.dst u) w') → o.wp P a w K Q := by
    intro xs cs B' hpre hown hrc hfr fin
    have hcall := hspec xs h w B v cs hpre hS.mem.pin hS.mem.size hown hrc hfr
    unfold Oper.wp
    rw [call_enter (vs := []) hop hf hv hfn hname hbody]
    simp only [List.append_nil] at hus ⊢
    rw [hus]
    refine hcall.mono ?_
    rintro en w' ⟨u, v', ys, cs', rfl, g1, g2, g3, g4, g5, g6⟩
    exact fin u v' ys cs' w' g1 g2 g3 g4 g5 g6
  unfold rowCallK at e
  split at e
  · rename_i r
    simp only [SV.rel, Leaf.rel] at hsv
    obtain ⟨rfl, hone⟩ := hsv
    split at e
    rotate_left
    · exact e.elim
    rename_i R hR
    cases hbe : Nat.beq R.e C0.e with
    | false => rw [hbe] at e; exact e.elim
    | true =>
      have hee := Nat.eq_of_beq_eq_true hbe
      rw [hbe] at e
      simp only [cond_true, popSlK_eq, popSl] at e
      split at e
      rotate_left
      · exact e.elim
      rename_i xs rr hxs
      split at hxs
      rotate_left
      · cases hxs
      rename_i ht
      obtain ⟨T, te, ys0⟩ := R
      simp only at ht hee
      subst ht hee
      injection hxs with hxs
      injection hxs with hxs _
      subst hxs
      obtain ⟨hpre, e⟩ := e
      obtain ⟨cs, hown, hrc⟩ := hS.mem.row r _ hR
      refine main ys0 cs 0 hpre hown hrc (fun g hg => hS.mem.rowh r _ g hR hg) ?_
      intro u v' ys cs' w' g1 g2 g3 g4 g5 g6
      have e := e ys g1
      split at e
      · rename_i hb
        rw [hb] at g6
        simp only at g6
        subst g6
        rw [setRK_eq, putK_eq] at e
        have hbel : Below B w0 w' := hS.mem.below.grown g4 hS.mem.size fun k hk => (ownBlock_lt hS.mem hR hk).1
        have hM := hS.mem.turnRowG (R' := ⟨_, _, ys⟩) hR hbel g4.size (fun k hk hne => g4.block k hk hne) g2 g3
        have hS2 : Sat B w0 h0 b _ n ⟨σ.slots, σ.blks, setR σ.rows r ⟨_, _, ys⟩⟩ N h a w' := ⟨hM, hS.grow, hS.dom, hS.slots, hS.size, hS.defers⟩
        exact hK _ N h _ w' e (hS2.put hd (SV.leaf_iff.2 (by simp only [Leaf.rel])))
      · rename_i hb
        rw [hb] at g6
        simp only at g6
        subst g6
        simp only [fSlots_eq, fBlks_eq, fRows_eq] at e
        obtain ⟨σ', N', p1, p2⟩ := rowBack_sound hS (v := N.V r) hd ((hS.mem.mapBlks (forget_keeps r)).rmRow r) (hS.slots.mapped (forget_keeps r) (PLe.refl h)) (fun g hg => ⟨(ownBlock_lt hS.mem hR hg).1, hS.mem.rowh r _ g hR hg, fun i bb hi => by
          rw [mapBlks_get] at hi
          cases hh : getB σ.blks i with
          | none => rw [hh] at hi; cases hi
          | some b' => exact hS.mem.rowb r _ g i b' hR hg hh, fun q S hq hqg => by
          rw [rmR_get] at hq
          split at hq
          · cases hq
          · rename_i hne
            exact hne (hS.mem.rowr r q _ S g hR hq hg hqg)⟩) e g2 g3 g4 g5
        exact hK _ _ _ _ _ p1 p2
  · simp only [SV.rel, Leaf.rel] at hsv
    subst hsv
    obtain ⟨hpre, e⟩ := e
    refine main [] [] 0 hpre (World.ownsRow_nil w B _ _) rfl (fun g hg => by cases hg) ?_
    intro u v' ys cs' w' g1 g2 g3 g4 g5 g6
    have e := e ys g1
    split at e
    · rw [putK_eq] at e
      have hbel : Below w.heap.size w w' := ⟨g4.os, g4.tape, g4.output, g4.size, fun k hk => g4.block k hk (by simp [Value.ownBlock]), g4.drawn⟩
      have hM := hS.mem.grow (PLe.refl h) (fun k hk => .inl hk) (fun k o hk => (hbel.block k (hS.mem.pin.lt hk)).trans (hS.mem.pin k o hk)) hbel
      have hS2 : Sat B w0 h0 b _ n σ N h a w' := ⟨hM, hS.grow, hS.dom, hS.slots, hS.size, hS.defers⟩
      exact hK _ N h _ w' e (hS2.put hd (SV.leaf_iff.2 (by simp only [Leaf.rel])))
    · rename_i hb
      rw [hb] at g6
      simp only at g6
      subst g6
      obtain ⟨σ', N', p1, p2⟩ := rowBack_sound hS (v := .slice none 0 0) hd hS.mem hS.slots (fun g hg => by cases hg) e g2 g3 g4 g5
      exact hK _ _ _ _ _ p1 p2
  · exact e.elim
theorem seq_sound0 (hE : EnvOk P E) (hG : GlobOk E.gl h0) {σ : St} (hS : Sat B w0 h0 b u n σ N h a w) {o : Oper} (hd : ∀ t, o.dst = some t → t < n) {k : St → Prop} {K : Act → World → Prop} {Q : Exit → Act → World → Prop}
    (e : seqEv0 E b σ.slots σ.blks σ.rows o k) (hK : ∀ σ' N' h' a' w', k σ' → Sat B w0 h0 b u n σ' N' h' a' w' → K a' w') : o.wp P a w K Q := by
  have ho : ∀ x, (evO b σ.slots x).rel N h (a.eval x) := evO_rel hS.slots
  obtain ⟨dst, op, type, pos, after, guard⟩ := o
  unfold seqEv0 at e
  simp only at e hd
  split at e
  · rename_i hdn0
    have hdst : dst = none := by
      cases dst with
      | none => rfl
      | some d => cases hdn0
    subst hdst
    unfold mapOrClear at e
    split at e
    · rename_i put t m x v hme
      simp only at hme
      unfold mapEv at hme
      split at hme
      · injection hme with hme
        injection hme with q1 hme
        injection hme with q2 hme
        injection hme with q3 hme
        injection hme with q4 q5
        subst q1 q2 q3 q4 q5
        simp only at e
        obtain ⟨σ', w', g0, g1, g2⟩ := mapPut_sound hE hS (ho _) (ho _) (ho _) e
        unfold Oper.wp
        simp only [execOp, Sem.run_bind, g0, Result.andThen_ok, Sem.run_pure]
        exact hK _ _ _ _ _ g1 g2
      · rename_i c
        split at hme
        · rename_i hcal
          split at hme
          · rename_i t0 ts hts
            split at hme
            · rename_i m0 x0 hargs
              injection hme with hme
              injection hme with q1 hme
              injection hme with q2 hme
              injection hme with q3 hme
              injection hme with q4 q5
              subst q1 q2 q3 q4 q5
              simp only at e
              have hca : c.args = #[m0, x0] := by
                apply Array.ext'
                exact hargs
              have hct : c.argTypes = (t0 :: ts).toArray := by
                apply Array.ext'
                exact hts
              obtain ⟨σ', w', g0, g1, g2⟩ := mapDel_sound (t' := type) (ts := ts) hE hS (ho _) (ho _) e
              have hrun : (execOp a.eval ⟨none, .call c, type, pos, after, guard⟩).run P w = .ok (.value (.tuple #[])) w' := by
                simp only [execOp, Sem.run_bind, resolve, hcal, hca, hct]
                simp [invoke, builtin, g0]
              unfold Oper.wp
              rw [hrun]
              exact hK _ _ _ _ _ g1 g2
            · cases hme
          · cases hme
        · cases hme
      · cases hme
    · exact clear_sound hE hS rfl e fun σ' w' g1 g2 => hK σ' N h a w' g1 g2
  · rename_i d0 hd0
    obtain ⟨d, rfl, rfl⟩ := dstAt_some hd0
    have hdn := hd d rfl
    split at e
    · rename_i t r
      split at e
      · obtain ⟨ei, K0, V0, hI, e⟩ := mapKV_some hE e
        obtain ⟨σ', N', g1, g2⟩ := newMap_sound hS hdn e
        unfold Oper.wp
        simp only [execOp, Option.map_none, Instr.makeMap, Sem.run_bind, run_newObj, Result.andThen_ok, Sem.run_pure]
        exact hK _ _ _ _ _ g1 g2
      · exact e.elim
    · rename_i t m x ok
      split at e
      · obtain ⟨s, v, g0, g1, g2⟩ := mapLook_sound hE hS (ho _) (ho _) e
        unfold Oper.wp
        simp only [execOp, Sem.run_bind, g0, Result.andThen_ok, Sem.run_pure]
        exact hK _ N h _ _ g2 ⟨hS.mem, hS.grow, hS.dom, hS.slots.put (by rw [hS.size]; exact hdn) g1, by rw [size_put]; exact hS.size, by rw [defers_put]; exact hS.defers⟩
      · exact e.elim
    · rename_i t x lo hi mx
      split at e
      rotate_left
      · exact e.elim
      split at e
      rotate_left
      · exact e.elim
      rename_i r hx
      split at e
      rotate_left
      · exact e.elim
      rename_i R hR
      have hxv := ho x
      rw [hx] at hxv
      simp only [SV.rel, Leaf.rel] at hxv
      unfold rowSliceK at e
      split at e
      rotate_left
      · exact e.elim
      rename_i ti hti
      obtain ⟨dd, hdd, _, hkk⟩ := (hE.tt t ti hti).und
      split at e
      rotate_left
      · exact e.elim
      rename_i te hte
      rw [hte] at hkk
      simp only at hkk
      subst hkk
      split at e
      rotate_left
      · exact e.elim
      rename_i tei htei
      have hTe := hE.tt te tei htei
      cases hb : Nat.beq tei.size R.t.size with
      | false => rw [hb] at e; exact e.elim
      | true =>
        rw [hb] at e
        have b1 : tei.size = R.t.size := Nat.eq_of_beq_eq_true hb
        simp only [cond_true] at e
        cases lo with
        | none =>
          cases hi with
          | none => exact e.elim
          | some y =>
            simp only [Option.map_some, Option.map_none] at e
            split at e
            rotate_left
            · exact e.elim
            rename_i kk m hm
            simp only [fSlots_eq, fBlks_eq, fRows_eq] at e
            obtain ⟨⟨h1, h2⟩, e⟩ := e
            obtain ⟨A, c, L, hV, hL, hmc, σ', N', g1, g2⟩ := cut_sound hS hdn hR (m := m.toNat) (by omega) e
            have hy := asInt_rel hm (ho y)
            have hrun : (Instr.sliceAt t (a.eval x) none (some (a.eval y)) none).run P w = .ok (.slice A m.toNat c) w := by
              have h3 : m ≤ (c : Int) := by omega
              rw [hxv.1, hV, hy]
              cases A <;> simp [Instr.sliceAt, Instr.slice, Instr.sliceBounds, Instr.sliceBound, asIntOf, run_underlying hdd, hTe.size_run, h1, h3, Addr.add]
            unfold Oper.wp
            simp only [execOp, Sem.run_bind, hrun, Result.andThen_ok, Sem.run_pure, Option.map_none, Option.map_some]
            exact hK _ _ _ _ _ g1 g2
        | some y =>
          cases hi with
          | some y' => exact e.elim
          | none =>
            simp only [Option.map_some, Option.map_none] at e
            split at e
            rotate_left
            · exact e.elim
            rename_i kk m hm
            obtain ⟨⟨h1, h2⟩, e⟩ := e
            have hy := asInt_rel hm (ho y)
            obtain ⟨cs, hown, hrc⟩ := hS.mem.row r R hR
            rcases hown.2 with ⟨e0, e1⟩ | ⟨g, cap, cur, e0, f1, f2, f3, f4, f5, f6⟩
            · omega
            · have hrun : (Instr.sliceAt t (a.eval x) (some (a.eval y)) none none).run P w = .ok (.slice (some ⟨g, m.toNat * R.t.size, none⟩) (R.xs.length - m.toNat) (cap - m.toNat)) w := by
                have h3 : ¬ cap = m.toNat := by omega
                have h4 : m ≤ (R.xs.length : Int) := by omega
                rw [hxv.1, e0, hy]
                simp [Instr.sliceAt, Instr.slice, Instr.sliceBounds, Instr.sliceBound, asIntOf, run_underlying hdd, hTe.size_run, h1, h3, h4, b1, add_lit]
              unfold Oper.wp
              simp only [execOp, Sem.run_bind, hrun, Result.andThen_ok, Sem.run_pure, Option.map_none, Option.map_some]
              refine hK _ N h _ _ e ⟨hS.mem, hS.grow, hS.dom, hS.slots.put (by rw [hS.size]; exact hdn) ?_, by rw [size_put]; exact hS.size, by rw [defers_put]; exact hS.defers⟩
              simp only [SV.rel, Leaf.rel]
              exact ⟨g, _, cap, e0, by omega, rfl⟩
    · rename_i op t x y yt
      unfold nilK at e
      split at e
      rotate_left
      · exact e.elim
      rename_i ti hti
      obtain ⟨dd, hdd, _, hkk⟩ := (hE.tt t ti hti).und
      split at e
      rotate_left
      · exact e.elim
      rename_i te hte
      rw [hte] at hkk
      simp only at hkk
      subst hkk
      split at e
      rotate_left
      · exact e.elim
      rename_i hy
      have hyv := ho y
      rw [hy] at hyv
      simp only [SV.rel, Leaf.rel] at hyv
      have hxv := ho x
      have eq : ∀ (A : Option Addr) (l c : Nat), (Op.equal t (.slice A l c) (.slice none 0 0)).run P w = .ok A.isNone w := by
        intro A l c
        have hh : ∀ d : Nat, (Op.equalIn (d + 1) t (.slice A l c) (.slice none 0 0)).run P w = .ok A.isNone w := fun d => by
          cases A <;> simp [Op.equalIn, run_underlying hdd]
        exact hh 9999
      have fin : ∀ (A : Option Addr) (l c : Nat) (s : SV) (q : Bool), a.eval x = .slice A l c → nilB op A.isNone = some q → k ⟨(b + d, s) :: σ.slots, σ.blks, σ.rows⟩ → s.rel N h (.bool q) →
          Oper.wp P ⟨some d, .binOp op t x y yt, type, pos, after, guard⟩ a w K Q := by
        intro A l c s q hx hq hk hr
        have hrun : (do eqGuard op t x y (a.eval x) (a.eval y); binOp op t (a.eval x) (a.eval y) : Sem Value).run P w = .ok (.bool q) w := by
          rw [hx, hyv]
          cases op <;> simp only [nilB] at hq <;> first | (injection hq with hq; subst hq; simp [eqGuard, binOp, eq]; done) | cases hq
        unfold Oper.wp
        have hrun2 : (execOp a.eval ⟨some d, .binOp op t x y yt, type, pos, after, guard⟩).run P w = .ok (.value (.bool q)) w := by
          show ((do pure (.value (← (do eqGuard op t x y (a.eval x) (a.eval y); binOp op t (a.eval x) (a.eval y) : Sem Value))) : Sem Next)).run P w = _
          rw [Sem.run_bind, hrun]
          rfl
        rw [hrun2]
        exact hK _ N h _ _ hk ⟨hS.mem, hS.grow, hS.dom, hS.slots.put (by rw [hS.size]; exact hdn) hr, by rw [size_put]; exact hS.size, by rw [defers_put]; exact hS.defers⟩
      split at e
      · rename_i T xs hx
        rw [hx] at hxv
        obtain ⟨cs, g1, g2⟩ := SV.tv_iff.1 hxv
        obtain ⟨A, c, rfl, g3, g4, g5⟩ := g1
        have e := e A.isNone (fun hn => by
          cases A with
          | none => rw [g4 rfl]; rfl
          | some _ => cases hn)
        split at e
        · rename_i q hq
          exact fin A _ c _ q g2 hq e (mkBool_rel N h q)
        · exact e.elim
      · rename_i r hx
        rw [hx] at hxv
        simp only [SV.rel, Leaf.rel] at hxv
        split at e
        rotate_left
        · exact e.elim
        rename_i R hR
        obtain ⟨cs, hown, hrc⟩ := hS.mem.row r R hR
        have hv : ∃ A c, N.V r = .slice A R.xs.length c ∧ (A = none → R.xs.length = 0) := by
          rcases hown.2 with ⟨e0, e1⟩ | ⟨g, cap, cur, e0, _⟩
          · exact ⟨none, 0, by rw [e0, e1], fun _ => e1⟩
          · exact ⟨_, cap, e0, fun hh => by cases hh⟩
        obtain ⟨A, c, hV, hA⟩ := hv
        have e := e A.isNone (fun hn => by
          cases A with
          | none => exact hA rfl
          | some _ => cases hn)
        split at e
        · rename_i q hq
          exact fin A _ c _ q (by rw [hxv.1, hV]) hq e (mkBool_rel N h q)
        · exact e.elim
      · rename_i hx
        rw [hx] at hxv
        simp only [SV.rel, Leaf.rel] at hxv
        split at e
        · rename_i q hq
          exact fin none 0 0 _ q hxv hq e (by simp only [SV.rel, Leaf.rel])
        · exact e.elim
      · exact e.elim
    · rename_i t
      split at e
      · rename_i ti hti
        have hT := hE.tt t ti hti
        cases hb : Nat.beq ti.zero.length ti.size with
        | false => rw [hb] at e; exact e.elim
        | true =>
          rw [hb] at e
          simp only [cond_true] at e
          obtain ⟨i, hi, hsz, _, hz⟩ := hT.info
          obtain ⟨z, hz1, cs, hz2, hz3, hz4⟩ := hz (Nat.eq_of_beq_eq_true hb)
          obtain ⟨σ', N', g1, g2⟩ := newBlkK_sound hS hdn e (o := .cells cs.toArray t (0, 0)) fun _ _ => BlkSat.cells.2 ⟨cs, rfl, hz3 _ _, hz4⟩
          unfold Oper.wp
          simp only [execOp, Instr.alloc, zeroValue, Sem.run_bind, run_typeInfo_of hi, Result.andThen_ok, hz1, Sem.run_pure, newVar, newRow, run_newObj, hz2]
          exact hK _ _ _ _ _ g1 g2
      · exact e.elim
    · rename_i t x
      split at e
      · rename_i ls hls
        have hex : ∃ cs : List Value, (a.eval x).cells = cs.toArray ∧ (∀ q, usedB σ.slots σ.blks q = false → LeafRels (N.setB q w.heap.size) h ls cs) ∧ ∀ u ∈ cs, u.oneCell' = true := by
          obtain ⟨cs0, g1, g2, g3⟩ := cellsOf_rel hls (ho x)
          refine ⟨cs0, g1, fun q hb' => ?_, g3⟩
          unfold usedB at hb'
          simp only [Bool.or_eq_false_iff] at hb'
          have hx : (evO b σ.slots x).rel (N.setB q w.heap.size) h (a.eval x) := by
            refine SV.rel_names _ (ho x) (fun i hi => ?_) (fun _ _ => rfl)
            simp only [Names.setB]
            rw [if_neg]
            intro he
            subst he
            cases x with
            | tmp t => have := anySlots_false hb'.1 _ hi; cases this
            | const v =>
              simp only [evO, constSV] at hi
              split at hi <;> cases hi
            | global g => cases hi
            | func f => cases hi
          obtain ⟨cs, q1, q2, q3⟩ := cellsOf_rel hls hx
          have : cs = cs0 := by
            rw [q1] at g1
            simpa using g1
          rw [← this]
          exact q2
        obtain ⟨cs, g1, g2, g3⟩ := hex
        obtain ⟨σ', N', p1, p2⟩ := newBlkK_sound hS hdn e (o := .cells cs.toArray t (0, 0)) fun q hb => BlkSat.cells.2 ⟨cs, rfl, g2 q hb, g3⟩
        unfold Oper.wp
        simp only [execOp, Instr.box, newVar, newRow, Sem.run_bind, run_newObj, Result.andThen_ok, Sem.run_pure, g1]
        exact hK _ _ _ _ _ p1 p2
      · exact e.elim
    · rename_i t x
      split at e
      · rename_i ti hti
        split at e
        · rename_i hk
          split at e
          · rename_i s hs
            have hT := hE.tt t ti hti
            obtain ⟨dd, hdd, _, hkk⟩ := hT.und
            rw [hk] at hkk
            simp only at hkk
            subst hkk
            obtain ⟨σ', N', p1, p2⟩ := newBlkK_sound hS hdn e (o := .stringIter s 0) fun _ _ => BlkSat.iter.2 rfl
            have hx := asStr_rel hs (ho x)
            unfold Oper.wp
            have hrun : (Instr.range t (a.eval x)).run P w = .ok (.pointer (some ⟨w.heap.size, 0, none⟩)) (w.alloc (.stringIter s 0)) := by
              rw [hx]
              simp [Instr.range, run_underlying hdd]
            simp only [execOp, Sem.run_bind, hrun, Result.andThen_ok, Sem.run_pure]
            exact hK _ _ _ _ _ p1 p2
          · exact e.elim
        · exact e.elim
      · exact e.elim
    · rename_i x isStr
      split at e
      · split at e
        · rename_i i hx
          split at e
          · rename_i t cs s p hb
            have hxv := ho x
            rw [hx] at hxv
            simp only [SV.rel, Leaf.rel] at hxv
            obtain ⟨o0, q1, q2, q3, q4⟩ := hS.mem.blk i _ hb
            have q2 := BlkSat.iter.1 q2
            subst q2
            by_cases hp : p < s.size
            · have e := e.1 (by simp [hp])
              rw [setBK_eq] at e
              have hrun : (Instr.next (a.eval x) true type).run P w = .ok (.tuple #[.bool true, .int .i64 p, .int .i32 (Utf8.decode s p).1]) ({ w with heap := w.heap.setIfInBounds (N.ρ i) (.stringIter s (p + (Utf8.decode s p).2)) } : World) := by
                rw [hxv]
                simp only [Instr.next, Sem.run_bind, run_getObj_iter q1, Result.andThen_ok]
                simp [hp, goInt, run_setObj_iter q1]
              have hM : MemSat B w0 (setB σ.blks i ⟨t, cs, some (.str s (p + (Utf8.decode s p).2))⟩) σ.rows N h ({ w with heap := w.heap.setIfInBounds (N.ρ i) (.stringIter s (p + (Utf8.decode s p).2)) } : World) := by
                have hother : ∀ k, k ≠ N.ρ i → ({ w with heap := w.heap.setIfInBounds (N.ρ i) (.stringIter s (p + (Utf8.decode s p).2)) } : World).heap[k]? = w.heap[k]? := fun k hk => by
                  simp [Ne.symm hk]
                refine hS.mem.turnBlock hb (hS.mem.below.trans ⟨rfl, rfl, rfl, by simp, fun k hk => hother k (by omega), Nat.le_refl _⟩) (by simp) hother (o := .stringIter s (p + (Utf8.decode s p).2)) ?_ (BlkSat.iter.2 rfl)
                simp [lt_of_heap q1]
              unfold Oper.wp
              simp only [execOp, Sem.run_bind, hrun, Result.andThen_ok, Sem.run_pure]
              refine hK _ N h _ _ e ⟨hM, hS.grow, hS.dom, hS.slots.put (by rw [hS.size]; exact hdn) ?_, by rw [size_put]; exact hS.size, by rw [defers_put]; exact hS.defers⟩
              refine ⟨[.bool true, .int .i64 p, .int .i32 (Utf8.decode s p).1], rfl, ?_⟩
              exact ⟨_, _, rfl, ⟨[_], rfl, rfl⟩, _, _, rfl, ⟨[_], rfl, rfl⟩, _, _, rfl, ⟨[_], rfl, rfl⟩, rfl⟩
            · have e := e.2 (by simp [hp])
              have hrun : (Instr.next (a.eval x) true type).run P w = .ok (.tuple #[.bool false]) w := by
                rw [hxv]
                simp only [Instr.next, Sem.run_bind, run_getObj_iter q1, Result.andThen_ok]
                simp [hp]
              unfold Oper.wp
              simp only [execOp, Sem.run_bind, hrun, Result.andThen_ok, Sem.run_pure]
              refine hK _ N h _ _ e ⟨hS.mem, hS.grow, hS.dom, hS.slots.put (by rw [hS.size]; exact hdn) ?_, by rw [size_put]; exact hS.size, by rw [defers_put]; exact hS.defers⟩
              exact ⟨[.bool false], rfl, _, _, rfl, ⟨[_], rfl, rfl⟩, rfl⟩
          · exact e.elim
        · exact e.elim
      · exact e.elim
    · rename_i c
      split at e
      · rename_i hcal
        split at e
        · rename_i t t' hts
          split at e
          · rename_i s x hargs
            have hca : c.args = #[s, x] := by
              apply Array.ext'
              exact hargs
            have hct : c.argTypes = #[t, t'] := by
              apply Array.ext'
              exact hts
            have done : (∃ v' w' σ' N', (Builtin.append_ #[t, t'] type #[a.eval s, a.eval x]).run P w = .ok v' w' ∧ k σ' ∧ Sat B w0 h0 b u n σ' N' h (a.put (some d) v') w') → Oper.wp P ⟨some d, .call c, type, pos, after, guard⟩ a w K Q := by
              rintro ⟨v', w', σ', N', hr, g1, g2⟩
              have hrun : (execOp a.eval ⟨some d, .call c, type, pos, after, guard⟩).run P w = .ok (.value v') w' := by
                simp only [execOp, Sem.run_bind, resolve, hcal, hca, hct]
                simp [invoke, builtin, hr]
              unfold Oper.wp
              rw [hrun]
              exact hK _ _ _ _ _ g1 g2
            split at e
            · rename_i htt
              have htt' := Nat.eq_of_beq_eq_true htt
              subst htt'
              refine done (append_sound hE hS hdn e ?_)
              intro T te tei K' htei hund b1 b2 b3 hsrc
              rw [appendSrcK_eq] at hsrc
              split at hsrc
              · rename_i ys hys
                refine ⟨ys, hsrc, fun xs v cs _ hown hrc e1 e2 => ?_⟩
                have hu : vrep h (.sl T) ys (a.eval x) := by
                  have hx := ho x
                  unfold appendSrc at hys
                  split at hys
                  · rename_i l hl
                    rw [hl] at hx
                    cases hp : popSl T [l] with
                    | none => rw [hp] at hys; cases hys
                    | some p =>
                      obtain ⟨y, rr⟩ := p
                      rw [hp] at hys
                      injection hys with hys; subst hys
                      obtain ⟨c1, c2, q1, q2, q3⟩ := implode_rel (.sl T) [l] y rr (by simpa only [implode] using hp) [a.eval x] (LeafRels.cons (SV.leaf_iff.1 hx) (LeafRels.nil N h))
                      have hl1 := rep_len _ _ _ q2
                      match c1, hl1 with
                      | [v], _ =>
                        injection q1 with q1 _
                        exact ⟨[v], q2, q1⟩
                  · cases hys
                obtain ⟨v', w', cs', hr, q⟩ := append_run (ty := type) (hE.tt te tei htei) hund b2 b3 b1 hS.mem.size hown hrc hS.mem.pin hu e1 e2
                exact ⟨v', w', cs', hr, q⟩
              · exact hsrc.elim
            · split at e
              · rename_i ti' hti'
                split at e
                · rename_i hk'
                  obtain ⟨dd, hdd, _, hkk⟩ := (hE.tt t' ti' hti').und
                  rw [hk'] at hkk
                  simp only at hkk
                  subst hkk
                  refine done (append_sound hE hS hdn e ?_)
                  intro T te tei K' htei hund b1 b2 b3 hsrc
                  unfold strSrcK at hsrc
                  split at hsrc
                  · rename_i kk
                    split at hsrc
                    · rename_i s' hs'
                      refine ⟨strBytes s', hsrc, fun xs v cs _ hown hrc e1 e2 => ?_⟩
                      rw [asStr_rel hs' (ho x)]
                      exact append_str_run (hE.tt te tei htei) hund hdd b2 b1 hS.mem.size hown hrc s' e1 e2 type
                    · exact hsrc.elim
                  · exact hsrc.elim
                · rename_i kn hk'
                  obtain ⟨dd, hdd, _, hkk⟩ := (hE.tt t' ti' hti').und
                  rw [hk'] at hkk
                  simp only at hkk
                  subst hkk
                  refine done (append_sound hE hS hdn e ?_)
                  intro T te tei K' htei hund b1 b2 b3 hsrc
                  unfold zeroSrcK at hsrc
                  split at hsrc
                  rotate_left
                  · exact hsrc.elim
                  rename_i hsv
                  have hsv2 := ho s
                  rw [hsv] at hsv2
                  simp only [SV.rel, Leaf.rel] at hsv2
                  split at hsrc
                  rotate_left
                  · exact hsrc.elim
                  rename_i ti hti
                  obtain ⟨d2, hd2, _, hkk2⟩ := (hE.tt t ti hti).und
                  split at hsrc
                  rotate_left
                  · exact hsrc.elim
                  rename_i te2 hte2
                  rw [hte2] at hkk2
                  simp only at hkk2
                  subst hkk2
                  rw [hund] at hd2
                  injection hd2 with hd2
                  injection hd2 with hd2
                  subst hd2
                  split at hsrc
                  rotate_left
                  · exact hsrc.elim
                  rename_i tei2 htei2
                  rw [htei] at htei2
                  injection htei2 with htei2
                  subst htei2
                  rw [implodeK_eq] at hsrc
                  split at hsrc
                  rotate_left
                  · exact hsrc.elim
                  rename_i z rz hz
                  split at hsrc
                  rotate_left
                  · exact hsrc.elim
                  split at hsrc
                  rotate_left
                  · exact hsrc.elim
                  rename_i kz m hm
                  obtain ⟨⟨m1, m2⟩, hsrc⟩ := hsrc
                  refine ⟨_, hsrc, fun xs v cs hsv3 hown hrc e1 e2 => ?_⟩
                  rw [hsv2] at hsv3
                  subst hsv3
                  rw [asInt_rel hm (ho x)]
                  have hx0 : xs = [] := by
                    rcases hown.2 with ⟨_, e0⟩ | ⟨g, cap, cur, e0, _⟩
                    · exact List.eq_nil_of_length_eq_zero e0
                    · cases e0
                  subst hx0
                  obtain ⟨m', rfl⟩ : ∃ m' : Nat, m = (m' : Int) := ⟨m.toNat, by omega⟩
                  simp only [Int.toNat_natCast, List.length_replicate, List.length_nil, Nat.zero_add, List.nil_append] at e1 e2 ⊢
                  exact append_zeros_run (hE.tt te tei htei) hund hdd b2 b3 b1 hz hS.mem.size e1 e2 type
                · exact e.elim
              · exact e.elim
          · exact e.elim
        · exact e.elim
      · exact ownCall_sound hE hG hS rfl hdn e fun v σ' N' h' w' g1 g2 => hK σ' N' h' _ w' g1 g2
      · exact e.elim
    · exact e.elim
theorem madeRow_sound {σ : St} (hS : Sat B w0 h0 b u n σ N h a w) {d : Nat} (hdn : d < n) {w' : World} {v : Value} {t : Ty} {te : TypeId} {xs : List t.den} {cs : List Value} {k : St → Prop} (e : newRowK σ.slots σ.blks σ.rows (b + d) ⟨t, te, xs⟩ k)
    (hown : w'.ownsRow B te t.size v xs.length cs) (hrc : RowCells h t xs cs) (hg : GrownBy w w' none) (hb : v.ownBlock = none ∨ v.ownBlock = some w.heap.size) : ∃ σ' N', k σ' ∧ Sat B w0 h0 b u n σ' N' h (a.put (some d) v) w' := by
  unfold newRowK at e
  cases hnm : (anySlots (Leaf.namesR (b + d)) σ.slots || anyBlks (Leaf.namesR (b + d)) σ.blks) with
  | true => rw [hnm] at e; exact e.elim
  | false =>
    rw [hnm] at e
    simp only [cond_false] at e
    simp only [Bool.or_eq_false_iff] at hnm
    refine ⟨_, N.setR (b + d) v, e, ⟨?_, hS.grow, hS.dom, ?_, by rw [size_put]; exact hS.size, by rw [defers_put]; exact hS.defers⟩⟩
    · refine hS.mem.newR (R := ⟨t, te, xs⟩) (row := none) (hS.mem.below.grown hg hS.mem.size fun k hk => by cases hk) hg.size (fun k hk hne => hg.block k hk hne) hown hrc ?_ hnm.2
      intro g hgb
      have hge : g = w.heap.size := by
        rcases hgb with hgb | hgb
        · rcases hb with hb | hb
          · rw [hb] at hgb; cases hgb
          · rw [hb] at hgb; injection hgb with hgb; exact hgb.symm
        · cases hgb
      subst hge
      refine ⟨?_, fun i bb hi => ?_, fun q S hq hqg => ?_⟩
      · cases hh : h w.heap.size with
        | none => rfl
        | some o => exact absurd (hS.mem.pin.lt hh) (by omega)
      · obtain ⟨ds, p1, _⟩ := hS.mem.blk i bb hi
        have := lt_of_heap p1
        omega
      · have := (ownBlock_lt hS.mem hq hqg).2
        omega
    · refine SlotSat.put (N := N.setR (b + d) _) (fun t' => ?_) (by rw [hS.size]; exact hdn) ?_
      · refine SV.rel_names _ (hS.slots t') (fun i _ => rfl) (fun i hi => ?_)
        simp only [Names.setR]
        rw [if_neg]
        intro he
        subst he
        have := anySlots_false hnm.1 t' hi
        cases this
      · simp only [SV.rel, Leaf.rel]
        have hvs : ∃ A c, v = .slice A xs.length c := by
          rcases hown.2 with ⟨e0, e1⟩ | ⟨g, cap, cur, e0, _⟩
          · exact ⟨none, 0, by rw [e0, e1]⟩
          · exact ⟨_, _, e0⟩
        obtain ⟨A, cc, hvs⟩ := hvs
        subst hvs
        exact ⟨by simp [Names.setR], rfl⟩
theorem seq_sound (hE : EnvOk P E) (hG : GlobOk E.gl h0) {σ : St} (hS : Sat B w0 h0 b u n σ N h a w) {o : Oper} (hd : ∀ t, o.dst = some t → t < n) {k : St → Prop} {K : Act → World → Prop} {Q : Exit → Act → World → Prop}
    (e : seqEv E b σ.slots σ.blks σ.rows o k) (hK : ∀ σ' N' h' a' w', k σ' → Sat B w0 h0 b u n σ' N' h' a' w' → K a' w') : o.wp P a w K Q := by
  have ho : ∀ x, (evO b σ.slots x).rel N h (a.eval x) := evO_rel hS.slots
  unfold seqEv at e
  split at e
  · rename_i t l c hop
    split at e
    rotate_left
    · exact e.elim
    rename_i d0 hd0
    obtain ⟨d, hdst, rfl⟩ := dstAt_some hd0
    unfold makeSliceK at e
    split at e
    rotate_left
    · exact e.elim
    rename_i ti hti
    obtain ⟨dd, hdd, _, hkk⟩ := (hE.tt t ti hti).und
    split at e
    rotate_left
    · exact e.elim
    rename_i te hte
    rw [hte] at hkk
    simp only at hkk
    subst hkk
    split at e
    rotate_left
    · exact e.elim
    rename_i tei htei
    split at e
    rotate_left
    · exact e.elim
    rename_i T hT
    cases hb : (Nat.beq tei.size T.size && Nat.beq tei.zero.length tei.size && Nat.ble 1 tei.size) with
    | false => rw [hb] at e; exact e.elim
    | true =>
      rw [hb] at e
      simp only [cond_true, implodeK_eq] at e
      simp only [Bool.and_eq_true] at hb
      have b1 : tei.size = T.size := Nat.eq_of_beq_eq_true hb.1.1
      have b2 : tei.zero.length = tei.size := Nat.eq_of_beq_eq_true hb.1.2
      have b3 : 1 ≤ tei.size := Nat.le_of_ble_eq_true hb.2
      split at e
      rotate_left
      · exact e.elim
      rename_i z r hz
      split at e
      rotate_left
      · exact e.elim
      split at e
      rotate_left
      · exact e.elim
      rename_i k1 m hm
      split at e
      rotate_left
      · exact e.elim
      rename_i k2 c' hc'
      obtain ⟨⟨q1, q2, q3, q4⟩, e⟩ := e
      have v1 := asInt_rel hm (ho l)
      have v2 := asInt_rel hc' (ho c)
      obtain ⟨m, rfl⟩ : ∃ q : Nat, m = (q : Int) := ⟨m.toNat, by omega⟩
      obtain ⟨c', rfl⟩ : ∃ q : Nat, c' = (q : Int) := ⟨c'.toNat, by omega⟩
      have q3' : c' * tei.bytes ≤ 140737488355328 := by
        rw [← Int.natCast_mul] at q3
        omega
      obtain ⟨v, w', cs', hrun, g1, g2, g3, g4⟩ := makeSlice_run (P := P) (w := w) (h := h) (k := k1) (k' := k2) (hE.tt te tei htei) hdd b2 b3 b1 hz hS.mem.size (show m ≤ c' by omega) q3' (by omega)
      obtain ⟨dst, op, type, pos, after, guard⟩ := o
      simp only at hop hdst
      subst hop hdst
      obtain ⟨σ', N', p1, p2⟩ := madeRow_sound hS (hd d rfl) e (by rw [List.length_replicate]; exact g1) g2 g3 (.inr g4)
      unfold Oper.wp
      simp only [execOp, v1, v2, Sem.run_bind, hrun, Result.andThen_ok, Sem.run_pure]
      exact hK _ _ _ _ _ p1 p2
  · rename_i c hop
    split at e
    · rename_i hcal
      unfold copyK at e
      split at e
      rotate_left
      · exact e.elim
      rename_i t ts hts
      split at e
      rotate_left
      · exact e.elim
      rename_i x y hargs
      split at e
      rotate_left
      · exact e.elim
      rename_i r hx
      split at e
      rotate_left
      · exact e.elim
      rename_i R hR
      split at e
      rotate_left
      · exact e.elim
      rename_i ti hti
      obtain ⟨dd, hdd, _, hkk⟩ := (hE.tt t ti hti).und
      split at e
      rotate_left
      · exact e.elim
      rename_i te hte
      rw [hte] at hkk
      simp only at hkk
      subst hkk
      split at e
      rotate_left
      · exact e.elim
      rename_i tei htei
      cases hb : Nat.beq tei.size R.t.size with
      | false => rw [hb] at e; exact e.elim
      | true =>
        rw [hb] at e
        have b1 : tei.size = R.t.size := Nat.eq_of_beq_eq_true hb
        simp only [cond_true, appendSrcK_eq, setRK_eq, putK_eq] at e
        split at e
        rotate_left
        · exact e.elim
        rename_i ys hys
        have hyv := ho y
        have hyr : vrep h (.sl R.t) ys (a.eval y) := by
          unfold appendSrc at hys
          split at hys
          · rename_i l hl
            split at hys
            · rename_i x' r' hx'
              injection hys with hys
              subst hys
              rw [hl] at hyv
              obtain ⟨c1, c2, p1, p2, p3⟩ := implode_rel (.sl R.t) [l] x' r' (by simp only [implode]; exact hx') [a.eval y] (LeafRels.cons (SV.leaf_iff.1 hyv) (LeafRels.nil N h))
              have hl1 := rep_len (.sl R.t) _ _ p2
              have : c2 = [] := by
                have := congrArg List.length p1
                simp only [List.length_append, List.length_singleton, hl1, Ty.size] at this
                exact List.eq_nil_of_length_eq_zero (by omega)
              subst this
              rw [List.append_nil] at p1
              subst p1
              exact ⟨_, p2, rfl⟩
            · cases hys
          · cases hys
        have hxv := ho x
        rw [hx] at hxv
        simp only [SV.rel, Leaf.rel] at hxv
        obtain ⟨cs, hown, hrc⟩ := hS.mem.row r R hR
        have hca : c.args = #[x, y] := by
          apply Array.ext'
          exact hargs
        have hct : c.argTypes[0]? = some t := by rw [← Array.getElem?_toList, hts]; rfl
        obtain ⟨dst, op, type, pos, after, guard⟩ := o
        simp only at hop
        subst hop
        obtain ⟨w', cs', hrun, g1, g2, g3⟩ := copy_run (P := P) (w := w) (h := h) (hE.tt te tei htei) hdd b1 hct hown hrc hS.mem.pin hyr type
        have hbel : Below B w0 w' := hS.mem.below.grown g3 hS.mem.size fun k hk => (hown.lt k hk).1
        have hM := hS.mem.turnRowG (R' := ⟨R.t, R.e, ys.take R.xs.length ++ R.xs.drop ys.length⟩) hR hbel g3.size (fun k hk hne => g3.block k hk hne) g1 g2
        have hS' : Sat B w0 h0 b u n ⟨σ.slots, σ.blks, setR σ.rows r ⟨R.t, R.e, ys.take R.xs.length ++ R.xs.drop ys.length⟩⟩ N h a w' := ⟨hM, hS.grow, hS.dom, hS.slots, hS.size, hS.defers⟩
        have hrun2 : (execOp a.eval ⟨dst, .call c, type, pos, after, guard⟩).run P w = .ok (.value (.int .i64 ((min ys.length R.xs.length : Nat) : Int))) w' := by
          simp only [execOp, Sem.run_bind, resolve, hcal, hca]
          rw [← hxv.1] at hrun
          simp [invoke, builtin, hrun]
        unfold Oper.wp
        rw [hrun2]
        exact hK _ _ _ _ _ e (hS'.put hd (mkInt_rel N h _ _))
    · rename_i hcal
      exact seq_sound0 hE hG hS hd e hK
  · exact seq_sound0 hE hG hS hd e hK
end
end Go.Fr
namespace Go.Fr
open Go Go.RowKit
universe u
section
variable {P : Program} {E : Env} {B : Nat} {w0 w : World} {N : Names} {h0 h : PHeap} {b : Nat} {u : Nat → Value} {a : Act} {n : Nat}
theorem Sat.after {σ : St} (hS : Sat B w0 h0 b u n σ N h a w) {h' : PHeap} {w' : World} (h1 : PLe h h') (h2 : ∀ k, h' k ≠ none → h k ≠ none ∨ w.heap.size ≤ k) (hM : MemSat B w0 σ.blks σ.rows N h' w') : Sat B w0 h0 b u n σ N h' a w' :=
  ⟨hM, hS.grow.trans h1, fun k hk => by
    rcases h2 k hk with g | g
    · exact hS.dom k g
    · exact .inr (Nat.le_trans hS.mem.size g), hS.slots.mono h1, hS.size, hS.defers⟩
def InlSound (P : Program) (E : Env) (J : Inliner) : Prop :=
  ∀ (f : FuncId) (top : Nat) (args : List SV) (σ : St) (k : SV → St → Prop), J f top args σ k → ∀ (B : Nat) (w0 : World) (h0 : PHeap) (N : Names) (h : PHeap) (w : World) (v : Nat → Value) (vs : List Value), GlobOk E.gl h0 → SatV B w0 h0 σ N h v w →
    args.length = vs.length → (∀ (i : Nat) s x, args[i]? = some s → vs[i]? = some x → s.rel N h x) →
    (∃ fn cd, P.funcs[f]? = some fn ∧ fn.name ≠ "runtime.NumGoroutine" ∧ fn.body = some cd) ∧
    Calls P f vs.toArray w fun e w' => ∃ r s σ' N' h', e = .returned r ∧ k s σ' ∧ s.rel N' h' r ∧ SatV B w0 h0 σ' N' h' v w'
theorem frz_keeps {r : Nat} {t : Ty} {xs : List t.den} {h' : PHeap} (hv : vrep h' (.sl t) xs (N.V r)) : Keeps N h h' (frz r t xs) := by
  intro i l hl v hvi
  unfold frz at hl
  cases hb : Nat.beq i r with
  | true =>
    have := Nat.eq_of_beq_eq_true hb
    subst this
    rw [hb] at hl
    injection hl with hl; subst hl
    simp only [Leaf.rel]
    rw [hvi.1]
    exact hv
  | false => rw [hb] at hl; cases hl
theorem freeze_sound {σ : St} (hS : Sat B w0 h0 b u n σ N h a w) (r : Nat) : ∃ h', Sat B w0 h0 b u n (freeze σ r) N h' a w ∧ PLe h h' ∧ ∀ R, getR σ.rows r = some R → vrep h' (.sl R.t) R.xs (N.V r) := by
  unfold freeze
  split
  · rename_i R hR
    obtain ⟨cs, ho, hc⟩ := hS.mem.row r R hR
    have hrm := hS.mem.rmRow r
    rcases ho.2 with ⟨e0, e1⟩ | ⟨g, cap, cur, e0, e1, e2, e3, e4, e5, e6⟩
    · -- nil: no block
      have hx : R.xs = [] := List.eq_nil_of_length_eq_zero e1
      have hv : vrep h (.sl R.t) R.xs (N.V r) := ⟨[.slice none 0 0], ⟨none, 0, by rw [hx]; rfl, by rw [hx]; exact Nat.le_refl _, fun _ => hx, fun i x ad hh _ => by rw [hx] at hh; simp at hh⟩, e0⟩
      have hk : Keeps N h h (frz r R.t R.xs) := frz_keeps hv
      exact ⟨h, ⟨hrm.mapBlks hk, hS.grow, hS.dom, hS.slots.mapped hk (PLe.refl h), hS.size, hS.defers⟩, PLe.refl h, fun R1 hR1 => by rw [hR] at hR1; injection hR1 with hR1; subst hR1; exact hv⟩
    · have hgn : h g = none := hS.mem.rowh r R g hR (by rw [e0]; rfl)
      have hle := hnew_le (o := .cells cur R.e (0, 0)) hgn
      have hv : vrep (hnew h g (.cells cur R.e (0, 0))) (.sl R.t) R.xs (N.V r) := by
        refine ⟨[.slice (some ⟨g, 0, none⟩) R.xs.length cap], ⟨some ⟨g, 0, none⟩, cap, rfl, e3, (fun hh => by cases hh), ?_⟩, e0⟩
        intro i x ad hx had
        injection had with had
        subst had
        obtain ⟨ds, p1, p2⟩ := RowCells_at R.t R.xs cs hc i x hx
        refine ⟨ds, rep_mono hle _ _ _ p1, fun j u hu => ?_⟩
        have := p2 j u hu
        rw [← e6, List.getElem?_take] at this
        split at this
        · rw [add_add, add_lit, Nat.zero_add]
          simp only [hcell, hnew, if_true, Option.isSome_none, Bool.false_eq_true, if_false]
          simpa using this
        · cases this
      have hk : Keeps N h (hnew h g (.cells cur R.e (0, 0))) (frz r R.t R.xs) := frz_keeps hv
      have hpin : PIn (hnew h g (.cells cur R.e (0, 0))) w := hnew_in hS.mem.pin e2
      -- the memory, with that block among what stays
      have hM : MemSat B w0 σ.blks (rmR σ.rows r) N (hnew h g (.cells cur R.e (0, 0))) w := by
        have hne : ∀ k, k ≠ g → h k = none → hnew h g (.cells cur R.e (0, 0)) k = none := fun k hk hn => by unfold hnew; rw [if_neg hk]; exact hn
        refine ⟨hrm.below, hrm.size, hpin, ?_, hrm.inj, ?_, ?_, hrm.rowb, hrm.rowr⟩
        · intro i b hi
          obtain ⟨o, q1, q2, q4, q5⟩ := hrm.blk i b hi
          exact ⟨o, q1, q2.mono hle, q4, hne _ (hS.mem.rowb r R g i b hR (by rw [e0]; rfl) hi) q5⟩
        · intro q S hq
          obtain ⟨ds, q1, q2⟩ := hrm.row q S hq
          exact ⟨ds, q1, RowCells_mono hle _ _ _ q2⟩
        · intro q S k hq hqk
          refine hne k (fun hh => ?_) (hrm.rowh q S k hq hqk)
          rw [hh] at hqk
          rw [rmR_get] at hq
          split at hq
          · cases hq
          · rename_i hrq
            exact hrq (hS.mem.rowr r q R S g hR hq (by rw [e0]; rfl) hqk)
      refine ⟨_, ⟨?_, hS.grow.trans hle, ?_, hS.slots.mapped hk hle, hS.size, hS.defers⟩, hle, fun R1 hR1 => by rw [hR] at hR1; injection hR1 with hR1; subst hR1; exact hv⟩
      · -- the blocks' cells
        have hget : ∀ i b, getB (mapBlks (frz r R.t R.xs) σ.blks) i = some b → ∃ c, getB σ.blks i = some c ∧ b = ⟨c.ty, subs (frz r R.t R.xs) c.cells, c.it⟩ := by
          intro i b hb
          rw [mapBlks_get] at hb
          cases hc : getB σ.blks i with
          | none => rw [hc] at hb; cases hb
          | some c => rw [hc] at hb; injection hb with hb; exact ⟨c, rfl, hb.symm⟩
        refine ⟨hM.below, hM.size, hM.pin, ?_, ?_, hM.row, hM.rowh, ?_, hM.rowr⟩
        · intro i b hb
          obtain ⟨c, hcc, rfl⟩ := hget i b hb
          obtain ⟨o, q1, q2, q4, q5⟩ := hS.mem.blk i c hcc
          obtain ⟨_, _, _, _, q6⟩ := hM.blk i c hcc
          exact ⟨o, q1, q2.mapped hk hle, q4, q6⟩
        · intro i j b c hb hc he
          obtain ⟨b', hb', _⟩ := hget i b hb
          obtain ⟨c', hc', _⟩ := hget j c hc
          exact hM.inj i j b' c' hb' hc' he
        · intro q S k i b hq hk hb
          obtain ⟨b', hb', _⟩ := hget i b hb
          exact hM.rowb q S k i b' hq hk hb'
      · intro k hk
        unfold hnew at hk
        split at hk
        · rename_i hkg; subst hkg; exact .inr e1
        · exact hS.dom k hk
  · rename_i hn
    exact ⟨h, hS, PLe.refl h, fun R hR => by rw [hn] at hR; cases hR⟩
theorem freezeRows_sound : (rs : List Nat) → {σ : St} → {h : PHeap} → Sat B w0 h0 b u n σ N h a w → ∃ h', Sat B w0 h0 b u n (freezeRows rs σ) N h' a w
  | [], _, h, hS => ⟨h, hS⟩
  | r :: rs, _, _, hS => by
    obtain ⟨h1, hS1, _⟩ := freeze_sound hS r
    exact freezeRows_sound rs hS1
theorem freezeAt_sound : (ts : List Nat) → {σ : St} → {h : PHeap} → Sat B w0 h0 b u n σ N h a w → ∃ h', Sat B w0 h0 b u n (freezeAt ts σ) N h' a w
  | [], _, h, hS => ⟨h, hS⟩
  | t :: ts, _, _, hS => by
    obtain ⟨h1, hS1⟩ := freezeRows_sound _ hS
    exact freezeAt_sound ts hS1
theorem freezeBehind_sound : (ts : List Nat) → {σ : St} → {h : PHeap} → Sat B w0 h0 b u n σ N h a w → ∃ h', Sat B w0 h0 b u n (freezeBehind ts σ) N h' a w
  | [], _, h, hS => ⟨h, hS⟩
  | t :: ts, _, _, hS => by
    obtain ⟨h1, hS1⟩ := freezeRows_sound _ hS
    exact freezeBehind_sound ts hS1
theorem fzK_sound {o : Oper} {σ : St} (hS : Sat B w0 h0 b u n σ N h a w) {k : St → Prop} (e : fzK E b o σ k) : ∃ σ' h', k σ' ∧ Sat B w0 h0 b u n σ' N h' a w := by
  unfold fzK at e
  split at e
  · split at e
    · split at e
      · split at e
        · exact ⟨_, _, e, hS⟩
        · rename_i r rs _
          rw [fSt_eq] at e
          obtain ⟨h1, hS1⟩ := freezeRows_sound (r :: rs) hS
          exact ⟨_, _, e, hS1⟩
      · exact ⟨_, _, e, hS⟩
    · exact ⟨_, _, e, hS⟩
  · exact ⟨_, _, e, hS⟩
theorem exec1_sound (hE : EnvOk P E) {J : Inliner} (hJ : InlSound P E J) (hG : GlobOk E.gl h0) {top : Nat} {σ : St} (hS : Sat B w0 h0 b u n σ N h a w) {o : Oper} (hd : ∀ t, o.dst = some t → t < n) {k : St → Prop} {K : Act → World → Prop} {Q : Exit → Act → World → Prop}
    (e : exec1 E J b top o σ k) (hK : ∀ σ' N' h' a' w', k σ' → Sat B w0 h0 b u n σ' N' h' a' w' → K a' w') : o.wp P a w K Q := by
  unfold exec1 at e
  obtain ⟨σ, h, e, hS⟩ := fzK_sound hS e
  obtain ⟨sl, bs, rs⟩ := σ
  have ho : ∀ x ∈ o.op.operands.toList, (evO b sl x).rel N h (a.eval x) := fun x _ => evO_rel hS.slots x
  simp only at e
  split at e
  · rename_i d t len ps hob
    obtain ⟨parts, kk, hop, hdst, rfl, rfl⟩ := ownBuild_some hob
    have ho' : ∀ q ∈ parts.toList, (evO b sl q.2).rel N h (a.eval q.2) := fun q hq => ho q.2 (by
      rw [hop]
      simp only [Op.operands]
      exact List.mem_map.2 ⟨q, hq, rfl⟩)
    obtain ⟨v', w', σ', N', hrun, hk', hS'⟩ := buildRow_sound hE hS (hd kk hdst) e ho'
    unfold Oper.wp execOp
    rw [hop]
    simp only [Sem.run_bind, hrun, Result.andThen_ok, Sem.run_pure]
    show K (a.put o.dst v') w'
    rw [hdst]
    exact hK _ _ _ _ _ hk' hS'
  split at e
  · rename_i r p hr
    obtain ⟨hp, e⟩ := oblige_some e
    have e := nameK_at e
    rw [putK_eq] at e
    refine pure_sound hE hS.mem (hG.mono hS.grow) hr hp ho fun v h' w' h1 h2 _ hM hv => ?_
    exact hK _ _ _ _ _ e ((hS.after h1 h2 hM).put hd hv)
  · split at e
    · rename_i i t cs it hst
      split at e
      · rename_i hdst
        rw [fLs_eq, setBK_eq] at e
        refine store_sound hE hst ho hS.mem fun w' hM => ?_
        rw [hdst]
        exact hK _ N h a w' e ⟨hM, hS.grow, hS.dom, hS.slots, hS.size, hS.defers⟩
      · exact e.elim
    · split at e
      · rename_i r t te xs hst
        split at e
        · rename_i hdst
          rw [setRK_eq] at e
          refine rowStore_sound hE hst ho hS.mem fun w' hM => ?_
          rw [hdst]
          exact hK _ N h a w' e ⟨hM, hS.grow, hS.dom, hS.slots, hS.size, hS.defers⟩
        · exact e.elim
      · split at e
        · rename_i f args hin
          -- the call
          unfold inlEv at hin
          split at hin
          · rename_i c hc
            split at hin
            · rename_i fv hfv
              split at hin
              · rename_i f' caps hfn
                split at hin
                · injection hin with hin; injection hin with e1 e2; subst e1 e2
                  have hoc : ∀ x ∈ c.operands.toList, (evO b sl x).rel N h (a.eval x) := fun x hx => ho x (by rw [hc]; simpa only [Op.operands] using hx)
                  have hoa : ∀ x ∈ c.args.toList, (evO b sl x).rel N h (a.eval x) := fun x hx => hoc x (by simp only [Call.operands]; simp; exact .inr (by simpa using hx))
                  obtain ⟨vs, hv, hcaps⟩ := asFn_rel hfn (hoc fv (by simp only [Call.operands, hfv]; simp))
                  obtain ⟨l1, l2⟩ := callArgs_rel hoa hcaps
                  obtain ⟨⟨fn, cd, g1, g2, g3⟩, hcall⟩ := hJ _ _ _ _ _ e B w0 h0 N h w (vals b u a) _ hG hS.v l1 l2
                  unfold Oper.wp
                  rw [call_enter hc hfv hv g1 g2 g3]
                  refine hcall.mono ?_
                  rintro e w' ⟨r, s, ⟨sl', bs', rs'⟩, N', h', rfl, hk, hr, hS'⟩
                  simp only [putK_eq] at hk
                  exact hK _ _ _ _ _ hk (Sat.put ⟨hS'.mem, hS'.grow, hS'.dom, hS'.slots, hS.size, hS.defers⟩ hd hr)
                · cases hin
              · cases hin
            · cases hin
          · cases hin
        · split at e
          · rename_i C s hrc
            exact rowCall_sound hE hS hd hrc e hK
          · exact seq_sound hE hG hS hd e hK
theorem execOps_sound (hE : EnvOk P E) {J : Inliner} (hJ : InlSound P E J) (hG : GlobOk E.gl h0) {top : Nat} (ops : Array Oper) {Q : Exit → Act → World → Prop} {k : St → Prop}
    (hd : ∀ o ∈ ops.toList, ∀ t, o.dst = some t → t < n) (hQ : ∀ σ' N' h' a' w', k σ' → Sat B w0 h0 b u n σ' N' h' a' w' → Q .normal a' w') :
    ∀ (l : List Oper) (i : Nat) (σ : St) (N : Names) (h : PHeap) (a : Act) (w : World), ops.toList.drop i = l → execOps E J b top ops.toList l σ k → Sat B w0 h0 b u n σ N h a w → wpOps P ops Q (List.range' i l.length) a w := by
  intro l
  induction l with
  | nil =>
    intro i σ N h a w _ e hS
    exact hQ σ N h a w e hS
  | cons o l ih =>
    intro i σ N h a w hl e hS
    have hi : ops.toList[i]? = some o := by
      have : (ops.toList.drop i)[0]? = some o := by rw [hl]; rfl
      rwa [List.getElem?_drop, Nat.add_zero] at this
    have hoi : ops[i]? = some o := by rw [← hi]; simp
    have hdo := hd o (List.mem_of_getElem? hi)
    have hl' : ops.toList.drop (i + 1) = l := by
      rw [← List.drop_drop, hl]
      rfl
    simp only [List.length_cons, List.range'_succ]
    rw [wpOps_cons]
    have run : ∀ (σ : St) (N : Names) (h : PHeap) (a : Act) (w : World), Sat B w0 h0 b u n σ N h a w → Region.wanted o (yielded ops a.tmps) = true → exec1 E J b top o σ (fun σ' => execOps E J b top ops.toList l σ' k) →
        wpOp P ops Q i (wpOps P ops Q (List.range' (i + 1) l.length)) a w := by
      intro σ N h a w hS hw e
      unfold wpOp
      rw [hoi]
      simp only [hw, if_true]
      exact .inl (exec1_sound hE hJ hG hS hdo e fun σ' N' h' a' w' hk hS' => ih (i + 1) σ' N' h' a' w' hl' hk hS')
    have skip : ∀ (σ : St) (N : Names) (h : PHeap) (a : Act) (w : World), Sat B w0 h0 b u n σ N h a w → Region.wanted o (yielded ops a.tmps) = false → setK σ (dstAt b o.dst) (.leaf .undef) (fun σ' => execOps E J b top ops.toList l σ' k) →
        wpOp P ops Q i (wpOps P ops Q (List.range' (i + 1) l.length)) a w := by
      intro σ N h a w hS hw e
      rw [setK_eq] at e
      unfold wpOp
      rw [hoi]
      simp only [hw, Bool.false_eq_true, if_false]
      exact ih (i + 1) _ N h _ w hl' e (hS.put hdo (SV.leaf_iff.2 (by simp only [Leaf.rel])))
    unfold execOps at e
    split at e
    · rename_i hg
      exact run σ N h a w hS (by simp [Region.wanted, hg]) e
    · rename_i j wt hg
      split at e
      · exact e.elim
      · rename_i t ht
        have hyield : yielded ops a.tmps j = match a.tmps.getD t undef with | .bool b => some b | _ => none := by
          unfold dstOf at ht
          split at ht
          · rename_i oj hoj
            have : ops[j]? = some oj := by rw [← hoj]; simp
            have htn : t < a.tmps.size := by rw [hS.size]; exact hd oj (List.mem_of_getElem? hoj) t ht
            have e1 : ((ops[j]?).bind (·.dst)).bind (a.tmps[·]?) = some (a.tmps.getD t undef) := by
              rw [this]
              simp only [Option.bind_some, ht]
              rw [Array.getElem?_eq_getElem htn, Array.getD_eq_getD_getElem?, Array.getElem?_eq_getElem htn]
              rfl
            unfold yielded
            rw [e1]
            cases a.tmps.getD t undef <;> rfl
          · cases ht
        have hwant : ∀ b, a.tmps.getD t undef = .bool b → Region.wanted o (yielded ops a.tmps) = (b == wt) := by
          intro b hb
          simp [Region.wanted, hg, hyield, hb]
        have hslot := hS.slots (b + t)
        rw [vals_at] at hslot
        have gd : ∀ (c : Bool) (σ : St) (N : Names) (h : PHeap), Sat B w0 h0 b u n σ N h a w → a.tmps.getD t undef = .bool c → guarded wt c (exec1 E J b top o σ fun σ' => execOps E J b top ops.toList l σ' k) (setK σ (dstAt b o.dst) (.leaf .undef) fun σ' => execOps E J b top ops.toList l σ' k) →
            wpOp P ops Q i (wpOps P ops Q (List.range' (i + 1) l.length)) a w := by
          intro c σ N h hS hb e
          have hw := hwant c hb
          cases c <;> cases wt <;> simp only [guarded] at e
          · exact run σ N h a w hS (by rw [hw]; rfl) e
          · exact skip σ N h a w hS (by rw [hw]; rfl) e
          · exact skip σ N h a w hS (by rw [hw]; rfl) e
          · exact run σ N h a w hS (by rw [hw]; rfl) e
        split at e
        · rename_i c hb
          rw [hb] at hslot
          simp only [SV.rel, Leaf.rel] at hslot
          exact gd c σ N h hS hslot e
        · rename_i c hb
          rw [hb] at hslot
          have hval : a.tmps.getD t undef = .bool c := by
            obtain ⟨cs, q1, q2⟩ := SV.tv_iff.1 hslot
            simp only [rep] at q1
            subst q1
            exact q2
          have known : ∀ c' : Bool, c = c' → Sat B w0 h0 b u n (σ.put (some (b + t)) (.leaf (.blit c'))) N h a w := by
            intro c' hc
            subst hc
            refine ⟨hS.mem, hS.grow, hS.dom, fun t' => ?_, hS.size, hS.defers⟩
            show (getS ((b + t, SV.leaf (Leaf.blit c)) :: σ.slots) t').rel N h (vals b u a t')
            rw [getS_cons]
            split
            · rename_i e; subst e; rw [vals_at]; exact SV.leaf_iff.2 (by simp only [Leaf.rel]; exact hval)
            · exact hS.slots t'
          cases c with
          | true =>
            have e := e.1 rfl
            rw [setK_eq] at e
            exact gd true _ N h (known true rfl) hval e
          | false =>
            have e := e.2 rfl
            rw [setK_eq] at e
            exact gd false _ N h (known false rfl) hval e
        · rename_i hu
          rw [hu] at hslot
          have hw : Region.wanted o (yielded ops a.tmps) = false := by
            have : a.tmps.getD t undef = undef := by simpa only [SV.rel, Leaf.rel] using hslot
            have hn : yielded ops a.tmps j = none := by rw [hyield, this]; rfl
            unfold Region.wanted
            rw [hg]
            simp only
            rw [hn]
            rfl
          exact skip σ N h a w hS hw e
        · exact e.elim
theorem freezeK_sound {nm : Nat → Bool} {b' : Nat} {ops : List Oper} {σ : St} (hS : Sat B w0 h0 b u n σ N h a w) {k : St → Prop} (e : freezeK nm b' ops σ k) : ∃ σ' h', k σ' ∧ Sat B w0 h0 b u n σ' N h' a w := by
  unfold freezeK at e
  split at e
  · exact ⟨_, _, e, hS⟩
  · rw [fSt_eq] at e
    obtain ⟨h1, hS1⟩ := freezeAt_sound (addAll b' (toFreeze nm b' ops)) hS
    obtain ⟨h2, hS2⟩ := freezeBehind_sound (addAll b' ((toFreeze nm b' ops).flatMap (loadsTo ops ops))) hS1
    exact ⟨_, _, e, hS2⟩
end
end Go.Fr
namespace Go.Fr
open Go Go.RowKit
universe u
section
variable {B : Nat} {w0 w : World} {N : Names} {h0 h : PHeap} {b : Nat} {u : Nat → Value} {a : Act} {n : Nat} {m : Nat → Option Nat}
def Names.via (N : Names) (m : Nat → Option Nat) : Names := { ρ := N.ρ, V := fun X => match m X with | some r => N.V r | none => .slice none 0 0 }
theorem holds_true {b : Bool} (e : holds b) : b = true := by cases b <;> first | exact e.elim | rfl
mutual
theorem entLeaf_rel : (l l' : Leaf) → entLeaf m l l' → {v : Value} → l.rel N h v → l'.rel (N.via m) h v
  | _, .any, _, _, _ => by simp only [Leaf.rel]
  | l, .tv t x, e, v, hr => by
    simp only [entLeaf, argValK_eq] at e
    split at e
    · rename_i y hy
      subst e
      simp only [Leaf.rel]
      exact argVal_rel (s := .leaf l) hy (SV.leaf_iff.2 hr)
    · exact e.elim
  | l, .blit b, e, v, hr => by
    unfold entLeaf at e
    split at e
    · subst e; simp only [Leaf.rel] at hr ⊢; exact hr
    · subst e
      obtain ⟨cs, q1, q2⟩ := tv_rel.1 hr
      simp only [rep] at q1
      subst q1
      simp only [Leaf.rel]
      exact q2
    · exact e.elim
  | l, .raw u, e, v, hr => by
    unfold entLeaf at e
    split at e
    · subst e; simp only [Leaf.rel] at hr ⊢; exact hr
    · exact e.elim
  | l, .ptr i off, e, v, hr => by
    unfold entLeaf at e
    split at e
    · have := holds_true e
      simp only [Bool.and_eq_true] at this
      simp only [Leaf.rel] at hr ⊢
      rw [Nat.eq_of_beq_eq_true this.1, Nat.eq_of_beq_eq_true this.2]
      exact hr
    · exact e.elim
  | l, .mref i, e, v, hr => by
    unfold entLeaf at e
    split at e
    · have := Nat.eq_of_beq_eq_true (holds_true e)
      simp only [Leaf.rel] at hr ⊢
      rw [this]
      exact hr
    · exact e.elim
  | l, .row X, e, v, hr => by
    unfold entLeaf at e
    split at e
    · rename_i r hmr
      split at e
      · have := Nat.eq_of_beq_eq_true (holds_true e)
        subst this
        simp only [Leaf.rel, Names.via, hmr] at hr ⊢
        exact hr
      · exact e.elim
    · rename_i hmr
      split at e
      · simp only [Leaf.rel, Names.via, hmr] at hr ⊢
        exact ⟨hr, by rw [hr]; rfl⟩
      · exact e.elim
  | l, .clo f caps, e, v, hr => by
    unfold entLeaf at e
    split at e
    · rename_i f' caps'
      split at e
      · rename_i hf
        have := Nat.eq_of_beq_eq_true hf
        subst this
        simp only [Leaf.rel] at hr ⊢
        obtain ⟨vs, e1, e2⟩ := hr
        exact ⟨vs, e1, entLeaves_rel caps' caps e e2⟩
      · exact e.elim
    · exact e.elim
  | _, .undef, e, _, _ => by simp only [entLeaf] at e
  | _, .eptr _ _ _ _, e, _, _ => by simp only [entLeaf] at e
  | _, .rptr _ _ _ _, e, _, _ => by simp only [entLeaf] at e
  | _, .rsub _ _ _, e, _, _ => by simp only [entLeaf] at e
theorem entLeaves_rel : (ls ls' : List Leaf) → entLeaves m ls ls' → {vs : List Value} → LeafRels N h ls vs → LeafRels (N.via m) h ls' vs
  | ls, [], e, vs, hr => by
    unfold entLeaves at e
    split at e
    · rw [LeafRels.nil_iff] at hr ⊢; exact hr
    · exact e.elim
  | ls, l' :: r', e, vs, hr => by
    unfold entLeaves at e
    split at e
    · exact e.elim
    · rename_i l r
      obtain ⟨c, cs, rfl, h1, h2⟩ := rels_cons hr
      split at e
      · split at e
        · rw [LeafRels.nil_iff] at h2
          subst h2
          exact LeafRels.cons (entLeaf_rel l l' e h1) (LeafRels.nil _ _)
        · exact e.elim
      · exact LeafRels.cons (entLeaf_rel l l' e.1 h1) (entLeaves_rel r _ e.2 h2)
end
theorem entSV_rel {s s' : SV} (e : entSV m s s') {v : Value} (hr : s.rel N h v) : s'.rel (N.via m) h v := by
  unfold entSV at e
  split at e
  · exact SV.leaf_iff.2 (by simp only [Leaf.rel])
  · rw [argValK_eq] at e
    split at e
    · rename_i y hy
      subst e
      exact SV.tv_iff.2 (argVal_rel hy hr)
    · exact e.elim
  · split at e
    · exact SV.leaf_iff.2 (entLeaf_rel _ _ e (SV.leaf_iff.1 hr))
    · exact e.elim
  · rename_i ls'
    split at e
    · rename_i ls hls
      obtain ⟨cs, q1, q2, q3⟩ := aggOf_rel hls hr
      exact ⟨cs, q1, entLeaves_rel _ _ e q2, q3⟩
    · exact e.elim
  · exact e.elim
theorem entSlots_sat {v : Nat → Value} {src : Slots} (hs : SlotSat src N h v) : (tgt : Slots) → entSlots m src tgt → SlotSat tgt (N.via m) h v
  | [], _, t => SV.leaf_iff.2 (by simp only [Leaf.rel])
  | [(k, s')], e, t => by
    simp only [entSlots] at e
    rw [getS_cons]
    split
    · rename_i hk; subst hk; exact entSV_rel e (hs k)
    · exact SV.leaf_iff.2 (by simp only [Leaf.rel])
  | (k, s') :: p :: r, e, t => by
    simp only [entSlots] at e
    rw [getS_cons]
    split
    · rename_i hk; subst hk; exact entSV_rel e.1 (hs k)
    · exact entSlots_sat hs (p :: r) e.2 t
theorem entIt_eq {cs : List Leaf} {x y : Option It} (e : entIt cs x y) : x = y ∧ (y = some .map → isTv cs) := by
  unfold entIt at e
  split at e
  · exact ⟨rfl, fun h => by cases h⟩
  · obtain ⟨rfl, rfl⟩ := e; exact ⟨rfl, fun h => by cases h⟩
  · exact ⟨rfl, fun _ => e⟩
  · exact e.elim
theorem entBlk_get {src : Blks} {n : Nat} {c : Blk} (e : entBlk m src n c) : ∃ b, getB src n = some b ∧ b.ty = c.ty ∧ entLeaves m b.cells c.cells ∧ b.it = c.it ∧ (c.it = some .map → isTv c.cells) := by
  obtain ⟨t', cs', it'⟩ := c
  unfold entBlk at e
  simp only at e
  split at e
  · rename_i t cs it hg
    split at e
    · rename_i ht
      split at e
      · split at e
        · exact ⟨_, hg, Nat.eq_of_beq_eq_true ht, e, rfl, fun h => by cases h⟩
        · exact e.elim
      · exact ⟨_, hg, Nat.eq_of_beq_eq_true ht, e.1, entIt_eq e.2⟩
    · exact e.elim
  · exact e.elim
theorem entBlks_get {src : Blks} : (tgt : Blks) → entBlks m src tgt → ∀ i b', getB tgt i = some b' → ∃ b, getB src i = some b ∧ b.ty = b'.ty ∧ entLeaves m b.cells b'.cells ∧ b.it = b'.it ∧ (b'.it = some .map → isTv b'.cells)
  | [], _, i, b', hb => by cases hb
  | (k, c) :: r, e, i, b', hb => by
    unfold entBlks at e
    rw [getB_cons] at hb
    split at e
    · by_cases hk : k = i
      · subst hk
        rw [if_pos rfl] at hb
        injection hb with hb; subst hb
        exact entBlk_get e
      · rw [if_neg hk] at hb; cases hb
    · by_cases hk : k = i
      · subst hk
        rw [if_pos rfl] at hb
        injection hb with hb; subst hb
        exact entBlk_get e.1
      · rw [if_neg hk] at hb
        exact entBlks_get _ e.2 i b' hb
theorem holdsNil_eq {α : Type} {xs : List α} (e : holdsNil xs) : xs = [] := by
  cases xs with
  | nil => rfl
  | cons _ _ => exact e.elim
theorem entRows_get {src : Rows} : (tgt : Rows) → entRows m src tgt → ∀ X R', getR tgt X = some R' → (∃ y R, m X = some y ∧ getR src y = some R ∧ R.e = R'.e ∧ ∃ ht : R.t = R'.t, ht ▸ R.xs = R'.xs) ∨ (m X = none ∧ R'.xs = [])
  | [], _, X, R', hR => by cases hR
  | (k, S) :: r, e, X, R', hR => by
    simp only [entRows] at e
    rw [getR_cons] at hR
    split at e
    · rename_i y hy
      split at e
      · rename_i R hg
        split at e
        · rename_i hee
          rw [popSlK_eq] at e
          split at e
          · rename_i xs rr hp
            by_cases hk : k = X
            · subst hk
              rw [if_pos rfl] at hR
              injection hR with hR; subst hR
              refine .inl ⟨y, R, hy, hg, Nat.eq_of_beq_eq_true hee, ?_⟩
              have hp' : (if e : R.t = S.t then some ((e ▸ R.xs : List S.t.den), ([] : List Leaf)) else none) = some (xs, rr) := hp
              by_cases ht : R.t = S.t
              · rw [dif_pos ht] at hp'
                injection hp' with hp'
                injection hp' with hp1 hp2
                refine ⟨ht, ?_⟩
                rw [← e.1, ← hp1]
              · rw [dif_neg ht] at hp'
                cases hp'
            · rw [if_neg hk] at hR
              exact entRows_get r e.2 X R' hR
          · exact e.elim
        · exact e.elim
      · exact e.elim
    · rename_i hy
      by_cases hk : k = X
      · subst hk
        rw [if_pos rfl] at hR
        injection hR with hR; subst hR
        exact .inr ⟨hy, holdsNil_eq e.1⟩
      · rw [if_neg hk] at hR
        exact entRows_get r e.2 X R' hR
theorem getR_mem {rs : Rows} {X : Nat} {R : RowS} (hR : getR rs X = some R) : (X, R) ∈ rs := by
  induction rs with
  | nil => cases hR
  | cons p r ih =>
    obtain ⟨k, S⟩ := p
    rw [getR_cons] at hR
    split at hR
    · rename_i hk; subst hk; injection hR with hR; subst hR; exact List.mem_cons_self ..
    · exact List.mem_cons_of_mem _ (ih hR)
theorem rowsApart_inj : (rs : Rows) → rowsApart m rs = true → ∀ X Y R S y, getR rs X = some R → getR rs Y = some S → m X = some y → m Y = some y → X = Y
  | [], _, X, Y, R, S, y, hX, _, _, _ => by cases hX
  | (k, T) :: r, e, X, Y, R, S, y, hX, hY, h1, h2 => by
    simp only [rowsApart, Bool.and_eq_true] at e
    rw [getR_cons] at hX hY
    have key : ∀ Z U, getR r Z = some U → m k = some y → m Z = some y → False := by
      intro Z U hZ hk hz
      have e1 := e.1
      rw [hk] at e1
      simp only [Bool.not_eq_true', List.any_eq_false] at e1
      have := e1 _ (getR_mem hZ)
      rw [hz] at this
      exact this (Nat.beq_refl y)
    by_cases kx : k = X
    · by_cases ky : k = Y
      · rw [← kx, ← ky]
      · rw [if_neg ky] at hY
        subst kx
        exact (key Y S hY h1 h2).elim
    · rw [if_neg kx] at hX
      by_cases ky : k = Y
      · subst ky
        exact (key X R hX h2 h1).elim
      · rw [if_neg ky] at hY
        exact rowsApart_inj r e.2 X Y R S y hX hY h1 h2
theorem entAt_sat {sl sl' : Slots} {bs bs' : Blks} {rs rs' : Rows} (hS : Sat B w0 h0 b u n ⟨sl, bs, rs⟩ N h a w) (e : entAt m sl bs rs sl' bs' rs') : Sat B w0 h0 b u n ⟨sl', bs', rs'⟩ (N.via m) h a w := by
  unfold entAt at e
  split at e
  · rename_i hap
    simp only [Bool.and_eq_true] at hap
    have parts : entSlots m sl sl' ∧ entBlks m bs bs' ∧ entRows m rs rs' := by
      split at e
      · exact ⟨e, trivial, trivial⟩
      · exact ⟨e.1, e.2, trivial⟩
      · exact ⟨e.1, trivial, e.2⟩
      · exact e
    obtain ⟨e1, e2, e3⟩ := parts
    have hM := hS.mem
    refine ⟨⟨hM.below, hM.size, hM.pin, ?_, ?_, ?_, ?_, ?_, ?_⟩, hS.grow, hS.dom, entSlots_sat hS.slots sl' e1, hS.size, hS.defers⟩
    · intro i b' hb
      obtain ⟨⟨t, ls, it⟩, g1, g2, g3, g4⟩ := entBlks_get bs' e2 i b' hb
      obtain ⟨t', ls', it'⟩ := b'
      simp only at g2 g3 g4
      obtain ⟨g4, g5⟩ := g4
      subst g2 g4
      obtain ⟨o, q1, q2, q3⟩ := hM.blk i _ g1
      refine ⟨o, q1, ?_, q3⟩
      cases it with
      | none =>
        obtain ⟨cs, p1, p2, p3⟩ := BlkSat.cells.1 q2
        exact BlkSat.cells.2 ⟨cs, p1, entLeaves_rel _ _ g3 p2, p3⟩
      | some p =>
        cases p with
        | str s p => exact q2
        | map =>
          obtain ⟨K, V, xs, es, cl, p1, p2, p3⟩ := BlkSat.map.1 q2
          subst p1
          have g5 := g5 rfl
          refine BlkSat.map.2 ?_
          have hls : ∃ T x, ls' = [.tv T x] := by
            unfold isTv at g5
            split at g5
            · exact ⟨_, _, rfl⟩
            · exact g5.elim
          obtain ⟨T, x, rfl⟩ := hls
          · simp only [entLeaves, entLeaf, argValK_eq] at g3
            unfold argVal at g3
            simp only at g3
            by_cases ht : mapT K V = T
            · subst ht
              rw [dif_pos rfl] at g3
              subst g3
              exact ⟨K, V, xs, es, cl, rfl, p2, p3⟩
            · rw [dif_neg ht] at g3
              exact g3.elim
    · intro i j b c hb hc he
      obtain ⟨b1, g1, _⟩ := entBlks_get bs' e2 i b hb
      obtain ⟨c1, g2, _⟩ := entBlks_get bs' e2 j c hc
      exact hM.inj i j b1 c1 g1 g2 he
    · intro X R' hX
      rcases entRows_get rs' e3 X R' hX with ⟨y, R, g1, g2, g3, g4, g5⟩ | ⟨g1, g2⟩
      · obtain ⟨cs, q1, q2⟩ := hM.row y R g2
        obtain ⟨t, te, xs⟩ := R
        obtain ⟨t', te', xs'⟩ := R'
        simp only at g3 g4 g5 q1 q2
        subst g3 g4 g5
        refine ⟨cs, ?_, q2⟩
        simp only [Names.via, g1]
        exact q1
      · refine ⟨[], ?_, by rw [g2]; rfl⟩
        rw [g2]
        simp only [Names.via, g1]
        exact World.ownsRow_nil w B _ _
    · intro X R' g hX hg
      rcases entRows_get rs' e3 X R' hX with ⟨y, R, g1, g2, _⟩ | ⟨g1, _⟩
      · simp only [Names.via, g1] at hg
        exact hM.rowh y R g g2 hg
      · simp only [Names.via, g1] at hg
        cases hg
    · intro X R' g i b hX hg hb
      obtain ⟨b1, p1, _⟩ := entBlks_get bs' e2 i b hb
      rcases entRows_get rs' e3 X R' hX with ⟨y, R, g1, g2, _⟩ | ⟨g1, _⟩
      · simp only [Names.via, g1] at hg
        exact hM.rowb y R g i b1 g2 hg p1
      · simp only [Names.via, g1] at hg
        cases hg
    · intro X Y R' S' g hX hY hx hy
      rcases entRows_get rs' e3 X R' hX with ⟨y, R, g1, g2, _⟩ | ⟨g1, _⟩
      · rcases entRows_get rs' e3 Y S' hY with ⟨z, S, k1, k2, _⟩ | ⟨k1, _⟩
        · simp only [Names.via, g1] at hx
          simp only [Names.via, k1] at hy
          have := hM.rowr y z R S g g2 k2 hx hy
          subst this
          exact rowsApart_inj rs' hap.1 X Y R' S' y hX hY g1 k1
        · simp only [Names.via, k1] at hy
          cases hy
      · simp only [Names.via, g1] at hx
        cases hx
  · exact e.elim
theorem entH_sat {hh : Hint} {σ0 σ : St} {x : varsDen hh.vars} (hS : Sat B w0 h0 b u n σ N h a w) (e : entH hh σ0 σ x) : ∃ N', Sat B w0 h0 b u n (atHead hh σ0 x) N' h a w := by
  unfold entH at e
  split at e
  rename_i sl' bs' rs' hat
  rw [hat]
  exact ⟨_, entAt_sat hS e⟩
end
end Go.Fr
