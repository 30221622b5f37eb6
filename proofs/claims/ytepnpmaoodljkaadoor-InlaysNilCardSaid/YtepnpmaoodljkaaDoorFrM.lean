/-
  One operation that stores, or makes what has a name. Conditions: none.
-/
import Derived.Test.YtepnpmaoodljkaaDoorFrM2
namespace Go.Fr
open Go Go.RowKit
universe u

section
variable {P : Program} {E : Env} {B : Nat} {w0 w : World} {N : Names} {h0 h : PHeap} {b : Nat} {u : Nat → Value} {a : Act} {n : Nat}

theorem oblige_some {p : Option Prop} {k : Prop} (e : oblige p k) : (∀ q, p = some q → q) ∧ k := by
  cases p with
  | none => exact ⟨fun q hq => (by cases hq), e⟩
  | some q => exact ⟨fun r hr => (by injection hr with hr; subst hr; exact e.1), e.2⟩

/-- A store. -/
theorem store_sound (hE : EnvOk P E) {σ : St} {o : Oper} {K : Act → World → Prop} {Q : Exit → Act → World → Prop} {i : Nat} {c : Blk}
    (e : storeEv E b σ.slots σ.blks o.op = some (i, c)) (ho : ∀ x ∈ o.op.operands.toList, (evO b σ.slots x).rel N h (a.eval x)) (hM : MemSat B w0 σ.blks σ.rows N h w)
    (hK : ∀ w', MemSat B w0 (setB σ.blks i c) σ.rows N h w' → K (a.put o.dst undef) w') : o.wp P a w K Q := by
  obtain ⟨dst, op, type, pos, after, guard⟩ := o
  cases op <;> try (cases e; done)
  case store t x y =>
    simp only [storeEv] at e
    split at e
    · rename_i ti hti
      have hT := hE.tt t ti hti
      have hx := ho x (by simp [Op.operands])
      have hy := ho y (by simp [Op.operands])
      split at e
      · rename_i i' off hxx
        rw [hxx] at hx
        split at e
        · rename_i bt bc hb
          split at e
          · rename_i ls hls
            cases hbb : (Nat.beq ls.length ti.size && Nat.ble (off + ti.size) bc.length) with
            | false => rw [hbb] at e; cases e
            | true =>
              rw [hbb] at e
              simp only [cond_true] at e
              simp only [Bool.and_eq_true] at hbb
              have b1 : ls.length = ti.size := Nat.eq_of_beq_eq_true hbb.1
              have b2 : off + ti.size ≤ bc.length := Nat.le_of_ble_eq_true hbb.2
              injection e with e; injection e with e1 e2; subst e1 e2
              obtain ⟨o0, q1, q2, _⟩ := hM.blk i' _ hb
              obtain ⟨cs, rfl, q2, q3⟩ := BlkSat.cells.1 q2
              obtain ⟨ds, g1, g2, g3⟩ := cellsOf_rel hls hy
              have l1 := LeafRels.length _ _ q2
              have l2 := LeafRels.length _ _ g2
              simp only [SV.rel, Leaf.rel] at hx
              have hrun : (Instr.storeAt t (a.eval x) (a.eval y)).run P w = .ok () (w.setRow (N.ρ i') (cs.take off ++ ds ++ cs.drop (off + ds.length)).toArray) := by
                have hst := run_storeCells_at P (N.ρ i') off bt ds 0 cs.toArray w q1 (by simp; omega) g3
                simp only [Nat.add_zero] at hst
                simp only [Instr.storeAt, hx, Instr.sureAddr, storeVar, Sem.run_bind, Sem.run_pure, Result.andThen_ok, hT.size_run, g1]
                rw [if_neg (by simp; omega)]
                simpa using hst
              unfold Oper.wp
              simp only [execOp, Sem.run_bind, hrun, Result.andThen_ok, Sem.run_pure]
              exact hK _ (hM.store hb (splice_rel q2 g2 off) (splice_one q3 g3 off _))
          · cases e
        · cases e
      · cases e
    · cases e

/-- A store into a row's element. -/
theorem rowStore_sound (hE : EnvOk P E) {σ : St} {o : Oper} {K : Act → World → Prop} {Q : Exit → Act → World → Prop} {i : Nat} {c : RowS}
    (e : rowStoreEv E b σ.slots σ.rows o.op = some (i, c)) (ho : ∀ x ∈ o.op.operands.toList, (evO b σ.slots x).rel N h (a.eval x)) (hM : MemSat B w0 σ.blks σ.rows N h w)
    (hK : ∀ w', MemSat B w0 σ.blks (setR σ.rows i c) N h w' → K (a.put o.dst undef) w') : o.wp P a w K Q := by
  obtain ⟨dst, op, type, pos, after, guard⟩ := o
  cases op <;> try (cases e; done)
  case store t x y =>
    simp only [rowStoreEv] at e
    split at e
    · rename_i ti hti
      have hT := hE.tt t ti hti
      have hx := ho x (by simp [Op.operands])
      have hy := ho y (by simp [Op.operands])
      split at e
      · rename_i r sz j off hxx
        rw [hxx] at hx
        split at e
        · rename_i R hR
          split at e
          · rename_i ls hls
            cases hbb : (Nat.beq sz R.t.size && Nat.beq ls.length ti.size && Nat.ble (off + ti.size) R.t.size) with
            | false => rw [hbb] at e; cases e
            | true =>
              rw [hbb] at e
              simp only [cond_true, implodeK_eq] at e
              simp only [Bool.and_eq_true] at hbb
              have b0 : sz = R.t.size := Nat.eq_of_beq_eq_true hbb.1.1
              have b1 : ls.length = ti.size := Nat.eq_of_beq_eq_true hbb.1.2
              have b2 : off + ti.size ≤ R.t.size := Nat.le_of_ble_eq_true hbb.2
              split at e
              · rename_i z rest himp
                cases rest with
                | cons _ _ => cases e
                | nil =>
                  simp only at e
                  injection e with e; injection e with e1 e2; subst e1 e2
                  simp only [SV.rel, Leaf.rel] at hx
                  obtain ⟨g, len, cap, hV, hj, hx⟩ := hx
                  obtain ⟨cs, how, hrc⟩ := hM.row r R hR
                  have hown := how
                  rcases how.2 with ⟨e0, _⟩ | ⟨g', cap', cur, e0, f1, f2, f3, f4, f5, f6⟩
                  · rw [hV] at e0; cases e0
                  · rw [hV] at e0
                    injection e0 with e0 e0' e0''
                    injection e0 with e0
                    injection e0 with e0
                    subst e0 e0' e0''
                    obtain ⟨ds, g1, g2, g3⟩ := cellsOf_rel hls hy
                    have l2 := LeafRels.length _ _ g2
                    obtain ⟨es, p1, p2⟩ := RowCells_at R.t R.xs cs hrc j _ (getD_of_lt (d := R.t.dflt) hj)
                    have les := rep_len _ _ _ p1
                    have hcl := RowCells_len R.t R.xs cs hrc
                    -- the element, anew
                    have hnew : rep h R.t z (es.take off ++ ds ++ es.drop (off + ds.length)) := implode_all himp (splice_rel (explode_rel R.t _ es p1) g2 off)
                    have lnew := rep_len _ _ _ hnew
                    have hsz : j * R.t.size + R.t.size ≤ R.xs.length * R.t.size := by
                      have : (j + 1) * R.t.size ≤ R.xs.length * R.t.size := Nat.mul_le_mul_right _ hj
                      rw [Nat.add_mul] at this
                      omega
                    have hcap : R.xs.length * R.t.size ≤ cur.size := by rw [f5]; exact Nat.mul_le_mul_right _ f3
                    have hfit : j * sz + off + ds.length ≤ cur.size := by rw [b0]; omega
                    have hrun : (Instr.storeAt t (a.eval x) (a.eval y)).run P w = .ok () (w.setRow g (cur.toList.take (j * sz + off) ++ ds ++ cur.toList.drop (j * sz + off + ds.length)).toArray) := by
                      have hst := run_storeCells_at P g (j * sz + off) R.e ds 0 cur w f2 (by omega) g3
                      simp only [Nat.add_zero] at hst
                      simp only [Instr.storeAt, hx, Instr.sureAddr, storeVar, Sem.run_bind, Sem.run_pure, Result.andThen_ok, hT.size_run, g1]
                      rw [if_neg (by simp; omega)]
                      simpa using hst
                    unfold Oper.wp
                    simp only [execOp, Sem.run_bind, hrun, Result.andThen_ok, Sem.run_pure]
                    refine hK _ (hM.turnRow (R' := ⟨R.t, R.e, R.xs.set j z⟩) (g := g) (cs := cs.take (j * R.t.size) ++ (es.take off ++ ds ++ es.drop (off + ds.length)) ++ cs.drop (j * R.t.size + R.t.size)) hR (by rw [hV]; rfl)
                      (hM.below.trans ⟨rfl, rfl, rfl, by simp, fun k hk => setRow_other w g k _ (by omega), Nat.le_refl _⟩) (by simp) (fun k hk => setRow_other w g k _ hk) ?_ (RowCells_set R.t R.xs cs hrc j z _ hj hnew))
                    -- its cells
                    have hcur : cur.toList.take (R.xs.length * R.t.size) = cs := f6
                    have hlen' : (cs.take (j * R.t.size) ++ (es.take off ++ ds ++ es.drop (off + ds.length)) ++ cs.drop (j * R.t.size + R.t.size)).length = R.xs.length * R.t.size := by
                      simp only [List.length_append, List.length_take, List.length_drop] at lnew ⊢
                      omega
                    have hes : es = (cs.drop (j * R.t.size)).take R.t.size := by
                      apply List.ext_getElem?
                      intro m
                      by_cases hm : m < R.t.size
                      · rw [List.getElem?_take, if_pos hm, List.getElem?_drop]
                        rw [List.getElem?_eq_getElem (by omega)]
                        exact (p2 m _ (List.getElem?_eq_getElem (by omega))).symm
                      · rw [List.getElem?_eq_none (by omega), List.getElem?_eq_none (by simp; omega)]
                    refine ⟨by simpa using hlen', .inr ⟨g, cap, _, by simpa using hV, f1, setRow_heap w g cur _ R.e (0, 0) f2, by simpa using f3, f4, ?_, ?_⟩⟩
                    · simp only [List.size_toArray, List.length_append, List.length_take, List.length_drop, Array.length_toList]
                      rw [← f5]
                      omega
                    · simp only [List.length_set]
                      apply List.ext_getElem?
                      intro m
                      have hcm : ∀ m, m < R.xs.length * R.t.size → cs[m]? = cur.toList[m]? := by
                        intro m hm
                        rw [← hcur, List.getElem?_take, if_pos hm]
                      rw [List.getElem?_take]
                      by_cases hm : m < R.xs.length * R.t.size
                      · rw [if_pos hm]
                        subst b0
                        have el : es.length = R.t.size := les
                        by_cases h1 : m < j * R.t.size
                        · rw [List.append_assoc, List.append_assoc, List.append_assoc, List.append_assoc, List.getElem?_append_left (by simp; omega), List.getElem?_append_left (by simp; omega), List.getElem?_take, List.getElem?_take, if_pos (by omega), if_pos h1, hcm m hm]
                        · by_cases h2 : m < j * R.t.size + R.t.size
                          · -- within the element
                            have e2 : (cs.take (j * R.t.size) ++ (es.take off ++ ds ++ es.drop (off + ds.length)) ++ cs.drop (j * R.t.size + R.t.size))[m]? = (es.take off ++ ds ++ es.drop (off + ds.length))[m - j * R.t.size]? := by
                              rw [List.append_assoc, List.getElem?_append_right (by simp; omega), List.getElem?_append_left (by simp at lnew ⊢; omega)]
                              congr 1
                              simp
                              omega
                            rw [e2]
                            by_cases h3 : m < j * R.t.size + off
                            · rw [List.append_assoc, List.append_assoc, List.getElem?_append_left (by simp; omega), List.getElem?_append_left (by simp; omega), List.getElem?_take, List.getElem?_take, if_pos (by omega), if_pos (by omega), hes, List.getElem?_take, if_pos (by omega), List.getElem?_drop, hcm _ (by omega)]
                              congr 1
                              omega
                            · by_cases h4 : m < j * R.t.size + off + ds.length
                              · rw [List.append_assoc, List.append_assoc, List.getElem?_append_right (by simp; omega), List.getElem?_append_left (by simp; omega), List.getElem?_append_right (by simp; omega), List.getElem?_append_left (by simp; omega)]
                                congr 1
                                simp
                                omega
                              · rw [List.getElem?_append_right (by simp; omega), List.getElem?_append_right (by simp; omega), List.getElem?_drop, List.getElem?_drop, hes, List.getElem?_take, if_pos (by simp; omega), List.getElem?_drop, hcm _ (by simp; omega)]
                                congr 1
                                simp
                                omega
                          · have e2 : (cs.take (j * R.t.size) ++ (es.take off ++ ds ++ es.drop (off + ds.length)) ++ cs.drop (j * R.t.size + R.t.size))[m]? = cs[m]? := by
                              rw [List.getElem?_append_right (by simp at lnew ⊢; omega), List.getElem?_drop]
                              congr 1
                              simp at lnew ⊢
                              omega
                            rw [e2, List.getElem?_append_right (by simp; omega), List.getElem?_drop, hcm m hm]
                            congr 1
                            simp
                            omega
                      · rw [if_neg hm, List.getElem?_eq_none]
                        rw [hlen']
                        omega
              · cases e
          · cases e
        · cases e
      · cases e
    · cases e

/-- A new block under a name. -/
theorem newB_sat {σ : St} (hS : Sat B w0 h0 b u n σ N h a w) {d : Nat} (hd : d < n) {q : Nat} {t : TypeId} {ls : List Leaf} {it : Option It} {o : Obj} (hr : BlkSat (N.setB q w.heap.size) h ⟨t, ls, it⟩ o)
    (hn : usedB σ.slots σ.blks q = false) :
    Sat B w0 h0 b u n ⟨(b + d, .leaf (.ptr q 0)) :: σ.slots, (q, ⟨t, ls, it⟩) :: σ.blks, σ.rows⟩ (N.setB q w.heap.size) h (a.put (some d) (.pointer (some ⟨w.heap.size, 0, none⟩))) (w.alloc o) := by
  unfold usedB at hn
  simp only [Bool.or_eq_false_iff] at hn
  refine ⟨hS.mem.newB (b := ⟨t, ls, it⟩) hr hn.2, hS.grow, hS.dom, ?_, by rw [size_put]; exact hS.size, by rw [defers_put]; exact hS.defers⟩
  refine SlotSat.put (N := N.setB q w.heap.size) (fun t' => ?_) (by rw [hS.size]; exact hd) (by simp [SV.rel, Leaf.rel, Names.setB])
  refine SV.rel_names _ (hS.slots t') (fun i hi => ?_) (fun i _ => rfl)
  simp only [Names.setB]
  rw [if_neg]
  intro e
  subst e
  have := anySlots_false hn.1 t' hi
  cases this

theorem newBlkQ_sound {σ : St} (hS : Sat B w0 h0 b u n σ N h a w) {d : Nat} (hd : d < n) {q1 q2 q3 : Nat} {t : TypeId} {ls : List Leaf} {it : Option It} {k : St → Prop} (e : newBlkQ σ.slots σ.blks σ.rows (b + d) q1 q2 q3 t ls it k) {o : Obj}
    (hr : ∀ q, usedB σ.slots σ.blks q = false → BlkSat (N.setB q w.heap.size) h ⟨t, ls, it⟩ o) : ∃ σ' N', k σ' ∧ Sat B w0 h0 b u n σ' N' h (a.put (some d) (.pointer (some ⟨w.heap.size, 0, none⟩))) (w.alloc o) := by
  have fin : ∀ q, usedB σ.slots σ.blks q = false → mkBlkK σ.slots σ.blks σ.rows (b + d) q t ls it k → ∃ σ' N', k σ' ∧ Sat B w0 h0 b u n σ' N' h (a.put (some d) (.pointer (some ⟨w.heap.size, 0, none⟩))) (w.alloc o) := by
    intro q hb e
    unfold mkBlkK at e
    simp only [fLs_eq] at e
    exact ⟨_, _, e, newB_sat hS hd (hr q hb) hb⟩
  unfold newBlkQ at e
  cases h1 : usedB σ.slots σ.blks (b + d) with
  | false => rw [h1] at e; exact fin _ h1 e
  | true =>
    rw [h1] at e
    simp only [cond_true] at e
    cases h2 : usedB σ.slots σ.blks q1 with
    | false => rw [h2] at e; exact fin _ h2 e
    | true =>
      rw [h2] at e
      simp only [cond_true] at e
      cases h3 : usedB σ.slots σ.blks q2 with
      | false => rw [h3] at e; exact fin _ h3 e
      | true =>
        rw [h3] at e
        simp only [cond_true] at e
        cases h4 : usedB σ.slots σ.blks q3 with
        | false => rw [h4] at e; exact fin _ h4 e
        | true => rw [h4] at e; exact e.elim
theorem newBlkK_sound {σ : St} (hS : Sat B w0 h0 b u n σ N h a w) {d : Nat} (hd : d < n) {t : TypeId} {ls : List Leaf} {it : Option It} {k : St → Prop} (e : newBlkK σ.slots σ.blks σ.rows (b + d) t ls it k) {o : Obj}
    (hr : ∀ q, usedB σ.slots σ.blks q = false → BlkSat (N.setB q w.heap.size) h ⟨t, ls, it⟩ o) : ∃ σ' N', k σ' ∧ Sat B w0 h0 b u n σ' N' h (a.put (some d) (.pointer (some ⟨w.heap.size, 0, none⟩))) (w.alloc o) :=
  newBlkQ_sound hS hd e hr

/-- An append: the row is owned, what comes is known. -/
theorem append_sound (hE : EnvOk P E) {σ : St} (hS : Sat B w0 h0 b u n σ N h a w) {d : Nat} (hdn : d < n) {t t' type : TypeId} {s x : Operand} {src : (T : Ty) → (List T.den → Prop) → Prop} {k : St → Prop}
    (e : appendK E σ.slots σ.blks σ.rows (b + d) t (evO b σ.slots s) src k)
    (hsrc : ∀ (T : Ty) (te : TypeId) (tei : TI) (K : List T.den → Prop), E.tt te = some tei → P.underlying t = some (.slice te) → tei.size = T.size → tei.zero.length = tei.size → 1 ≤ tei.size → src T K → ∃ ys, K ys ∧
      ∀ (xs : List T.den) (v : Value) (cs : List Value), a.eval s = v → w.ownsRow B te T.size v xs.length cs → RowCells h T xs cs → (xs.length + ys.length) * tei.bytes ≤ 140737488355328 → xs.length + ys.length ≤ maxLen →
        ∃ v' w' cs', (Builtin.append_ #[t, t'] type #[v, a.eval x]).run P w = .ok v' w' ∧ w'.ownsRow B te T.size v' (xs ++ ys).length cs' ∧ RowCells h T (xs ++ ys) cs' ∧ GrownBy w w' v.ownBlock ∧ (v'.ownBlock = v.ownBlock ∨ v'.ownBlock = some w.heap.size)) :
    ∃ v' w' σ' N', (Builtin.append_ #[t, t'] type #[a.eval s, a.eval x]).run P w = .ok v' w' ∧ k σ' ∧ Sat B w0 h0 b u n σ' N' h (a.put (some d) v') w' := by
  have hs : (evO b σ.slots s).rel N h (a.eval s) := evO_rel hS.slots s
  unfold appendK at e
  split at e
  · rename_i r R hrow
    split at e
    · rename_i tei htei
      cases hb : (Nat.beq tei.size R.t.size && Nat.beq tei.zero.length tei.size && Nat.ble 1 tei.size) with
      | false => rw [hb] at e; exact e.elim
      | true =>
        rw [hb] at e
        simp only [cond_true] at e
        simp only [Bool.and_eq_true] at hb
        have b1 : tei.size = R.t.size := Nat.eq_of_beq_eq_true hb.1.1
        have b2 : tei.zero.length = tei.size := Nat.eq_of_beq_eq_true hb.1.2
        have b3 : 1 ≤ tei.size := Nat.le_of_ble_eq_true hb.2
        -- the row
        have hown : ∃ (v : Value) (cs : List Value) (te : TypeId), a.eval s = v ∧ P.underlying t = some (.slice te) ∧ te = R.e ∧ w.ownsRow B R.e R.t.size v R.xs.length cs ∧ RowCells h R.t R.xs cs ∧
            (∀ g, v.ownBlock = some g → h g = none ∧ (∀ i b, getB σ.blks i = some b → N.ρ i ≠ g) ∧ (∀ q S, getR σ.rows q = some S → (N.V q).ownBlock = some g → r = some q)) := by
          unfold appendRow at hrow
          split at hrow
          · cases hrow
          · rename_i ti hti
            have hT := hE.tt t ti hti
            obtain ⟨dd, hdd, _, hkk⟩ := hT.und
            split at hrow
            · rename_i te hte
              rw [hte] at hkk
              simp only at hkk
              subst hkk
              split at hrow
              · rename_i r0 hsr
                rw [hsr] at hs
                split at hrow
                · rename_i R0 hR0
                  cases hbe : Nat.beq R0.e te with
                  | false => rw [hbe] at hrow; cases hrow
                  | true =>
                    rw [hbe] at hrow
                    simp only [cond_true] at hrow
                    injection hrow with hrow
                    injection hrow with h1 h2
                    subst h1 h2
                    simp only [SV.rel, Leaf.rel] at hs
                    obtain ⟨cs, p1, p2⟩ := hS.mem.row r0 R0 hR0
                    refine ⟨_, cs, te, hs.1, hdd, (Nat.eq_of_beq_eq_true hbe).symm, p1, p2, fun g hg => ⟨hS.mem.rowh r0 R0 g hR0 hg, fun i b hi => hS.mem.rowb r0 R0 g i b hR0 hg hi, fun q S hq hqg => ?_⟩⟩
                    rw [hS.mem.rowr r0 q R0 S g hR0 hq hg hqg]
                · cases hrow
              · rename_i hsr
                rw [hsr] at hs
                split at hrow
                · rename_i tei' htei'
                  split at hrow
                  · rename_i T hT'
                    injection hrow with hrow
                    injection hrow with h1 h2
                    subst h1 h2
                    simp only [SV.rel, Leaf.rel] at hs
                    refine ⟨_, [], te, hs, hdd, rfl, World.ownsRow_nil w B te _, rfl, fun g hg => by cases hg⟩
                  · cases hrow
                · cases hrow
              · cases hrow
            · cases hrow
        obtain ⟨v, cs, te, hv, hund, hte, hown, hrc, hfree⟩ := hown
        obtain ⟨ys, e', hrun⟩ := hsrc R.t R.e tei _ htei (by rw [← hte]; exact hund) b1 b2 b3 e
        obtain ⟨e1, e2, e3⟩ := e'
        obtain ⟨v', w', cs', hr, q1, q2, q3, q4⟩ := hrun R.xs v cs hv hown hrc e1 e2
        have hbel : Below B w0 w' := hS.mem.below.grown q3 hS.mem.size fun k hk => (hown.lt k hk).1
        have fin : ∀ (sl : Slots) (bs : Blks) (rs : Rows), MemSat B w0 bs rs N h w → SlotSat sl N h (vals b u a) → (∀ q S, getR rs q = some S → r ≠ some q ∧ getR σ.rows q = some S) → (∀ i b, getB bs i = some b → ∃ b', getB σ.blks i = some b') →
            newRowK sl bs rs (b + d) ⟨R.t, R.e, R.xs ++ ys⟩ k → ∃ σ' N', k σ' ∧ Sat B w0 h0 b u n σ' N' h (a.put (some d) v') w' := by
          intro sl bs rs hM hsl hrs hbs hk
          unfold newRowK at hk
          cases hnm : (anySlots (Leaf.namesR (b + d)) sl || anyBlks (Leaf.namesR (b + d)) bs) with
          | true => rw [hnm] at hk; exact hk.elim
          | false =>
            rw [hnm] at hk
            simp only [cond_false] at hk
            simp only [Bool.or_eq_false_iff] at hnm
            refine ⟨_, N.setR (b + d) v', hk, ⟨?_, hS.grow, hS.dom, ?_, by rw [size_put]; exact hS.size, by rw [defers_put]; exact hS.defers⟩⟩
            · refine hM.newR (R := ⟨R.t, R.e, R.xs ++ ys⟩) (row := v.ownBlock) hbel q3.size (fun k hk hne => q3.block k hk hne) q1 q2 ?_ hnm.2
              intro g hg
              have hg' : v.ownBlock = some g ∨ g = w.heap.size := by
                rcases hg with hg | hg
                · rcases q4 with q4 | q4
                  · rw [q4] at hg; exact .inl hg
                  · rw [q4] at hg; injection hg with hg; exact .inr hg.symm
                · exact .inl hg
              rcases hg' with hg | hg
              · obtain ⟨f1, f2, f3⟩ := hfree g hg
                refine ⟨f1, fun i b hi => ?_, fun q S hq hqg => ?_⟩
                · obtain ⟨b', hb'⟩ := hbs i b hi
                  exact f2 i b' hb'
                · obtain ⟨p1, p2⟩ := hrs q S hq
                  exact p1 (f3 q S p2 hqg)
              · subst hg
                refine ⟨?_, fun i b hi => ?_, fun q S hq hqg => ?_⟩
                · cases hh : h w.heap.size with
                  | none => rfl
                  | some o => exact absurd (hM.pin.lt hh) (by omega)
                · obtain ⟨ds, p1, _⟩ := hM.blk i b hi
                  have := lt_of_heap p1
                  omega
                · have := (ownBlock_lt hM hq hqg).2
                  omega
            · refine SlotSat.put (N := N.setR (b + d) v') (fun t' => ?_) (by rw [hS.size]; exact hdn) ?_
              · refine SV.rel_names _ (hsl t') (fun i _ => rfl) (fun i hi => ?_)
                simp only [Names.setR]
                rw [if_neg]
                intro he
                subst he
                have := anySlots_false hnm.1 t' hi
                cases this
              · simp only [SV.rel, Leaf.rel]
                refine ⟨by simp [Names.setR], ?_⟩
                rcases q1.2 with ⟨e0, _⟩ | ⟨g, cap, cur, e0, _⟩ <;> rw [e0] <;> rfl
        rw [hv]
        cases r with
        | none =>
          obtain ⟨σ', N', g1, g2⟩ := fin σ.slots σ.blks σ.rows hS.mem hS.slots (fun q S hq => ⟨by simp, hq⟩) (fun i b hi => ⟨b, hi⟩) e3
          exact ⟨v', w', σ', N', hr, g1, g2⟩
        | some r0 =>
          simp only [fSlots_eq, fBlks_eq, fRows_eq] at e3
          obtain ⟨σ', N', g1, g2⟩ := fin _ _ _ ((hS.mem.mapBlks (forget_keeps r0)).rmRow r0) (hS.slots.mapped (forget_keeps r0) (PLe.refl h)) (fun q S hq => by
            rw [rmR_get] at hq
            split at hq
            · cases hq
            · rename_i hne; exact ⟨by simpa using hne, hq⟩) (fun i b hi => by
            rw [mapBlks_get] at hi
            cases hh : getB σ.blks i with
            | none => rw [hh] at hi; cases hi
            | some b' => exact ⟨b', rfl⟩) e3
          exact ⟨v', w', σ', N', hr, g1, g2⟩
    · exact e.elim
  · exact e.elim

theorem ownBuild_some {o : Oper} {d t len ps} (e : ownBuild E b o = some (d, t, len, ps)) : ∃ parts k, o.op = .buildSlice t len parts ∧ o.dst = some k ∧ d = b + k ∧ ps = parts.toList := by
  unfold ownBuild at e
  split at e
  · rename_i t' n' parts hop
    cases hd : o.dst with
    | none => rw [hd] at e; simp [dstAt] at e
    | some k =>
      rw [hd] at e
      simp only [dstAt] at e
      cases hb : E.nm (1000000000 + (b + k)) with
      | false => rw [hb] at e; cases e
      | true =>
        rw [hb] at e
        simp only [cond_true, Option.some.injEq, Prod.mk.injEq] at e
        obtain ⟨rfl, rfl, rfl, rfl⟩ := e
        exact ⟨parts, k, hop, rfl, rfl, rfl⟩
  · cases e
/-- A slice built of what is told, as the call's own row. -/
theorem buildRow_sound (hE : EnvOk P E) {σ : St} (hS : Sat B w0 h0 b u n σ N h a w) {d : Nat} (hdn : d < n) {t : TypeId} {len : Nat} {ps : Array (Nat × Operand)} {k : St → Prop}
    (e : buildRowK E b σ.slots σ.blks σ.rows (b + d) t len ps.toList k) (ho : ∀ q ∈ ps.toList, (evO b σ.slots q.2).rel N h (a.eval q.2)) :
    ∃ v' w' σ' N', (Instr.buildSlice t len (ps.map fun (i, x) => (i, a.eval x))).run P w = .ok v' w' ∧ k σ' ∧ Sat B w0 h0 b u n σ' N' h (a.put (some d) v') w' := by
  unfold buildRowK at e
  split at e
  · exact e.elim
  rename_i ti hti
  have hT := hE.tt t ti hti
  obtain ⟨dd, hd, _, hk⟩ := hT.und
  split at e
  case h_2 => exact e.elim
  rename_i te hte
  rw [hte] at hk
  simp only at hk
  subst hk
  split at e
  · exact e.elim
  rename_i tei htei
  have hTe := hE.tt te tei htei
  split at e
  · exact e.elim
  rename_i T hTy
  cases hb : (Nat.beq ps.toList.length len && Nat.ble (len * tei.size) 16777216 && Nat.beq tei.zero.length tei.size && Nat.beq tei.size T.size && Nat.ble 1 T.size) with
  | false => rw [hb] at e; exact e.elim
  | true =>
    rw [hb] at e
    simp only [cond_true, buildElemsK_eq] at e
    simp only [Bool.and_eq_true] at hb
    obtain ⟨⟨⟨⟨b1, b2⟩, b3⟩, b4⟩, b5⟩ := hb
    have b1 : ps.toList.length = len := Nat.eq_of_beq_eq_true b1
    have b2 : len * tei.size ≤ 16777216 := Nat.le_of_ble_eq_true b2
    have b4 : tei.size = T.size := Nat.eq_of_beq_eq_true b4
    have b5 : 1 ≤ T.size := Nat.le_of_ble_eq_true b5
    obtain ⟨ie, hie, hsz, _, hz⟩ := hTe.info
    obtain ⟨z, hz1, zcs, hz2, _⟩ := hz (Nat.eq_of_beq_eq_true b3)
    split at e
    case h_2 => exact e.elim
    rename_i xs hxs
    obtain ⟨css, q1, q2, q3, q4, hrun⟩ := buildSlice_core (w := w) hd hTe hie hsz hz1 b1 b2 b4 b5 hxs ho
    have hfl : css.flatten.length = css.length * T.size := by
      have go : ∀ l : List (List Value), (∀ c ∈ l, c.length = T.size) → l.flatten.length = l.length * T.size := by
        intro l
        induction l with
        | nil => intro _; simp
        | cons c l ih =>
          intro hl
          rw [List.flatten_cons, List.length_append, ih (fun c hc => hl c (List.mem_cons_of_mem _ hc)), hl c (List.mem_cons_self ..), List.length_cons, Nat.succ_mul]
          omega
      exact go css q4
    have hle : len * T.size ≤ 16777216 := by rw [← b4]; exact b2
    have hlen : len ≤ len * T.size := Nat.le_mul_of_pos_right _ b5
    have hown : (w.alloc (.cells css.flatten.toArray te)).ownsRow B te T.size (.slice (some ⟨w.heap.size, 0, none⟩) len len) xs.length css.flatten := by
      refine ⟨by rw [hfl, q1, q2], .inr ⟨w.heap.size, len, css.flatten.toArray, by rw [q2, b1], hS.mem.size, heap_alloc_new w _, by rw [q2, b1]; exact Nat.le_refl _, by have : maxLen = 9223372036854775807 := rfl; omega, ?_, ?_⟩⟩
      · simp only [List.size_toArray]
        rw [hfl, q1, b1]
      · have e1 : xs.length * T.size = css.flatten.length := by rw [hfl, q1, q2]
        show List.take (xs.length * T.size) css.flatten.toArray.toList = css.flatten
        rw [e1]
        exact List.take_length
    have hrc : RowCells h T xs css.flatten := rowCells_of xs css (by rw [q1, q2]) q3
    unfold newRowK at e
    cases hnm : (anySlots (Leaf.namesR (b + d)) σ.slots || anyBlks (Leaf.namesR (b + d)) σ.blks) with
    | true => rw [hnm] at e; exact e.elim
    | false =>
      rw [hnm] at e
      simp only [cond_false] at e
      simp only [Bool.or_eq_false_iff] at hnm
      refine ⟨_, _, _, N.setR (b + d) (.slice (some ⟨w.heap.size, 0, none⟩) len len), hrun, e, ⟨?_, hS.grow, hS.dom, ?_, by rw [size_put]; exact hS.size, by rw [defers_put]; exact hS.defers⟩⟩
      · refine hS.mem.newR (R := ⟨T, te, xs⟩) (row := none) (hS.mem.below.alloc hS.mem.size _) (Nat.le_of_lt (lt_of_heap (heap_alloc_new w _))) (fun k hk _ => Below.heap_alloc _ _ _ hk) hown hrc ?_ hnm.2
        intro g hg
        have hg : g = w.heap.size := by
          rcases hg with hg | hg
          · simp only [Value.ownBlock, Option.some.injEq] at hg
            exact hg.symm
          · cases hg
        subst hg
        refine ⟨?_, fun i b hi => ?_, fun q S hq hqg => ?_⟩
        · cases hh : h w.heap.size with
          | none => rfl
          | some o => exact absurd (hS.mem.pin.lt hh) (by omega)
        · obtain ⟨ds, p1, _⟩ := hS.mem.blk i b hi
          have := lt_of_heap p1
          omega
        · have := (ownBlock_lt hS.mem hq hqg).2
          omega
      · refine SlotSat.put (N := N.setR (b + d) _) (fun t' => ?_) (by rw [hS.size]; exact hdn) ?_
        · refine SV.rel_names _ (hS.slots t') (fun i _ => rfl) (fun i hi => ?_)
          simp only [Names.setR]
          rw [if_neg]
          intro he
          subst he
          have := anySlots_false hnm.1 t' hi
          cases this
        · simp only [SV.rel, Leaf.rel]
          exact ⟨by simp [Names.setR], rfl⟩

theorem dstAt_some {d : Option Nat} {t : Nat} (e : dstAt b d = some t) : ∃ k, d = some k ∧ t = b + k := by
  cases d with
  | none => cases e
  | some k => injection e with e; exact ⟨k, rfl, e.symm⟩

theorem run_getObj_iter {g : Nat} {s : ByteArray} {p : Nat} (q : w.heap[g]? = some (.stringIter s p)) : (getObj g).run P w = .ok (.stringIter s p) w := by
  simp [getObj, Sem.run, q]
theorem run_setObj_iter {g : Nat} {s : ByteArray} {p : Nat} (q : w.heap[g]? = some (.stringIter s p)) (o : Obj) : (setObj g o).run P w = .ok () { w with heap := w.heap.setIfInBounds g o } := by
  simp [setObj, Sem.run, q]

theorem ownK_some : {T : Ty} → {x : T.den} → {k : (t : Ty) → List t.den → Prop} → ownK T x k → ∃ (t : Ty) (xs : List t.den), k t xs ∧ ∀ {B : Nat} {w : World} {h : PHeap} {e : TypeId} {v : Value}, ownRep B w h e T x v → (∃ cs, w.ownsRow B e t.size v xs.length cs ∧ RowCells h t xs cs) ∧ ∀ g, v.ownBlock = some g → h g = none
  | .sl t, xs, _, e => ⟨t, xs, e, fun hh => hh⟩
  | .bool, _, _, e => e.elim
  | .int _, _, _, e => e.elim
  | .str, _, _, e => e.elim
  | .unit, _, _, e => e.elim
  | .opt _, _, _, e => e.elim
  | .mp _ _, _, _, e => e.elim
  | .nd _ _ _ _, _, _, e => e.elim
  | .pair _ _, _, _, e => e.elim
theorem ownsRow_base {W : World} {base base' : Nat} {e : TypeId} {size : Nat} {v : Value} {k : Nat} {xs : List Value} (h : W.ownsRow base e size v k xs) (hb : base' ≤ base) : W.ownsRow base' e size v k xs := by
  refine ⟨h.1, ?_⟩
  rcases h.2 with h0 | ⟨g, cap, cur, e1, e2, e3, e4⟩
  · exact .inl h0
  · exact .inr ⟨g, cap, cur, e1, by omega, e3, e4⟩
/-- A call that hands back a slice of its own. -/
theorem ownCall_sound (hE : EnvOk P E) (hG : GlobOk E.gl h0) {σ : St} (hS : Sat B w0 h0 b u n σ N h a w) {o : Oper} {c : Call} (hop : o.op = .call c) {d : Nat} (hdn : d < n) {k : St → Prop} {K : Act → World → Prop} {Q : Exit → Act → World → Prop}
    (e : ownCall E b σ.slots c fun t e xs => newRowK σ.slots σ.blks σ.rows (b + d) ⟨t, e, xs⟩ k) (hK : ∀ v σ' N' h' w', k σ' → Sat B w0 h0 b u n σ' N' h' (a.put (some d) v) w' → K (a.put o.dst v) w') : o.wp P a w K Q := by
  have hoa : ∀ x ∈ c.args.toList, (evO b σ.slots x).rel N h (a.eval x) := fun x _ => evO_rel hS.slots x
  unfold ownCall at e
  split at e
  rotate_left
  · exact e.elim
  rename_i fv hf
  have hof := evO_rel hS.slots fv
  split at e
  rotate_left
  · exact e.elim
  rename_i f caps hfn
  obtain ⟨vs, hv, hcaps⟩ := asFn_rel hfn hof
  split at e
  rotate_left
  · exact e.elim
  rename_i C hC
  obtain ⟨⟨fn, cd, hfn, hname, hbody⟩, hspec⟩ := hE.ct f C hC
  split at e
  rotate_left
  · exact e.elim
  rename_i te hown
  split at e
  rotate_left
  · exact e.elim
  rename_i ss' hcut
  rw [argsK_eq] at e
  split at e
  rotate_left
  · exact e.elim
  rename_i x hx
  obtain ⟨l1, l2⟩ := callArgs_rel hoa hcaps
  obtain ⟨us, hus, l1, l2⟩ := cutTail_rel hcut l1 l2
  have hargs : trep h C.arg x us := argsOf_rel C.arg _ x hx _ l1 l2
  obtain ⟨hpre, e⟩ := e
  obtain ⟨t, xs, e, hrep⟩ := ownK_some e
  have hcall := hspec x h w _ hpre hargs hS.mem.pin (hG.mono hS.grow)
  unfold Oper.wp
  rw [call_enter hop hf hv hfn hname hbody, hus]
  refine hcall.mono ?_
  rintro en w' ⟨v, h', rfl, h1, h2, h3, h4, h5⟩
  unfold resOr at h4
  rw [hown] at h4
  simp only at h4
  obtain ⟨⟨cs, hrow, hrc⟩, hfr⟩ := hrep h4
  have hM := hS.mem.grow h1 h2 h3 h5
  have hsz := h5.size
  have hBw := hS.mem.size
  unfold newRowK at e
  cases hnm : (anySlots (Leaf.namesR (b + d)) σ.slots || anyBlks (Leaf.namesR (b + d)) σ.blks) with
  | true => rw [hnm] at e; exact e.elim
  | false =>
    rw [hnm] at e
    simp only [cond_false] at e
    simp only [Bool.or_eq_false_iff] at hnm
    refine hK v _ (N.setR (b + d) v) h' w' e ⟨?_, hS.grow.trans h1, ?_, ?_, by rw [size_put]; exact hS.size, by rw [defers_put]; exact hS.defers⟩
    · refine hM.newR (R := ⟨t, te, xs⟩) (row := none) hM.below (Nat.le_refl _) (fun k _ _ => rfl) (ownsRow_base hrow hBw) hrc ?_ hnm.2
      intro g hg
      have hg : v.ownBlock = some g := by
        rcases hg with hg | hg
        · exact hg
        · cases hg
      have hge := (hrow.lt g hg).1
      refine ⟨hfr g hg, fun i bb hi => ?_, fun q S hq hqg => ?_⟩
      · obtain ⟨ds, p1, _⟩ := hS.mem.blk i bb hi
        have := lt_of_heap p1
        omega
      · have := (ownBlock_lt hS.mem hq hqg).2
        omega
    · intro k hk
      rcases h2 k hk with g | g
      · exact hS.dom k g
      · exact .inr (by omega)
    · refine SlotSat.put (N := N.setR (b + d) _) (fun t' => ?_) (by rw [hS.size]; exact hdn) ?_
      · refine SV.rel_names _ (SV.rel_mono h1 _ _ (hS.slots t')) (fun i _ => rfl) (fun i hi => ?_)
        simp only [Names.setR]
        rw [if_neg]
        intro he
        subst he
        have := anySlots_false hnm.1 t' hi
        cases this
      · simp only [SV.rel, Leaf.rel]
        have hvs : ∃ A c, v = .slice A xs.length c := by
          rcases hrow.2 with ⟨e0, e1⟩ | ⟨g, cap, cur, e0, _⟩
          · exact ⟨none, 0, by rw [e0, e1]⟩
          · exact ⟨_, _, e0⟩
        obtain ⟨A, cc, hvs⟩ := hvs
        subst hvs
        exact ⟨by simp [Names.setR], rfl⟩
/-- A row's first elements are a row. -/
theorem cut_sound {σ : St} (hS : Sat B w0 h0 b u n σ N h a w) {d : Nat} (hdn : d < n) {r : Nat} {R : RowS} (hR : getR σ.rows r = some R) {m : Nat} (hm : m ≤ R.xs.length) {k : St → Prop}
    (e : newRowK (mapSlots (forget r) σ.slots) (mapBlks (forget r) σ.blks) (rmR σ.rows r) (b + d) ⟨R.t, R.e, R.xs.take m⟩ k) :
    ∃ A c L, N.V r = .slice A L c ∧ L = R.xs.length ∧ m ≤ c ∧ ∃ σ' N', k σ' ∧ Sat B w0 h0 b u n σ' N' h (a.put (some d) (.slice A m c)) w := by
  obtain ⟨cs, hown, hrc⟩ := hS.mem.row r R hR
  have hM := (hS.mem.mapBlks (forget_keeps r)).rmRow r
  have hsl : SlotSat (mapSlots (forget r) σ.slots) N h (vals b u a) := hS.slots.mapped (forget_keeps r) (PLe.refl h)
  have hcl := RowCells_len R.t R.xs cs hrc
  have htk : RowCells h R.t (R.xs.take m) (cs.take (m * R.t.size)) := by
    have key : ∀ (xs : List R.t.den) (cs : List Value) (m : Nat), RowCells h R.t xs cs → RowCells h R.t (xs.take m) (cs.take (m * R.t.size)) := by
      intro xs
      induction xs with
      | nil => intro cs m hc; simp only [RowCells] at hc; subst hc; simp [RowCells]
      | cons x xs ih =>
        rintro cs m ⟨d, q, rfl, g1, g2⟩
        cases m with
        | zero => simp [RowCells]
        | succ m =>
          have hd := rep_len R.t x d g1
          refine ⟨d, q.take (m * R.t.size), ?_, g1, ih q m g2⟩
          rw [show (m + 1) * R.t.size = d.length + m * R.t.size by rw [hd, Nat.add_mul]; omega, List.take_length_add_append]
    exact key R.xs cs m hrc
  have hlt : (R.xs.take m).length = m := by simp; omega
  have hms : m * R.t.size ≤ R.xs.length * R.t.size := Nat.mul_le_mul_right _ hm
  have hv : ∃ A c, N.V r = .slice A R.xs.length c ∧ m ≤ c ∧ w.ownsRow B R.e R.t.size (.slice A m c) m (cs.take (m * R.t.size)) := by
    rcases hown.2 with ⟨e0, e1⟩ | ⟨g, cap, cur, e0, f1, f2, f3, f4, f5, f6⟩
    · have : m = 0 := by omega
      subst this
      exact ⟨none, 0, by rw [e0, e1], Nat.le_refl _, by simp, .inl ⟨rfl, rfl⟩⟩
    · refine ⟨_, cap, e0, by omega, by rw [List.length_take, hcl]; omega, .inr ⟨g, cap, cur, rfl, f1, f2, by omega, f4, f5, ?_⟩⟩
      rw [← f6, List.take_take, Nat.min_eq_left hms]
  obtain ⟨A, c, hV, hmc, hown'⟩ := hv
  have hob : (Value.slice A m c).ownBlock = (N.V r).ownBlock := by rw [hV]; cases A <;> rfl
  refine ⟨A, c, R.xs.length, hV, rfl, hmc, ?_⟩
  unfold newRowK at e
  cases hnm : (anySlots (Leaf.namesR (b + d)) (mapSlots (forget r) σ.slots) || anyBlks (Leaf.namesR (b + d)) (mapBlks (forget r) σ.blks)) with
  | true => rw [hnm] at e; exact e.elim
  | false =>
    rw [hnm] at e
    simp only [cond_false] at e
    simp only [Bool.or_eq_false_iff] at hnm
    refine ⟨_, N.setR (b + d) (.slice A m c), e, ⟨?_, hS.grow, hS.dom, ?_, by rw [size_put]; exact hS.size, by rw [defers_put]; exact hS.defers⟩⟩
    · refine hM.newR (R := ⟨R.t, R.e, R.xs.take m⟩) (row := none) hS.mem.below (Nat.le_refl _) (fun k hk hne => rfl) (by rw [hlt]; exact hown') htk ?_ hnm.2
      intro g hg
      have hg : (N.V r).ownBlock = some g := by
        rcases hg with hg | hg
        · rw [hob] at hg; exact hg
        · cases hg
      refine ⟨hS.mem.rowh r R g hR hg, fun i bb hi => ?_, fun q S hq hqg => ?_⟩
      · rw [mapBlks_get] at hi
        cases hh : getB σ.blks i with
        | none => rw [hh] at hi; cases hi
        | some b' => exact hS.mem.rowb r R g i b' hR hg hh
      · rw [rmR_get] at hq
        split at hq
        · cases hq
        · rename_i hne
          exact hne (hS.mem.rowr r q R S g hR hq hg hqg)
    · refine SlotSat.put (N := N.setR (b + d) _) (fun t' => ?_) (by rw [hS.size]; exact hdn) ?_
      · refine SV.rel_names _ (hsl t') (fun i _ => rfl) (fun i hi => ?_)
        simp only [Names.setR]
        rw [if_neg]
        intro he
        subst he
        have := anySlots_false hnm.1 t' hi
        cases this
      · simp only [SV.rel, Leaf.rel]
        exact ⟨by simp [Names.setR], rfl⟩
/-- A row's last elements are set to zero. -/
theorem clear_sound (hE : EnvOk P E) {σ : St} (hS : Sat B w0 h0 b u n σ N h a w) {o : Oper} (hdst : o.dst = none) {k : St → Prop} {K : Act → World → Prop} {Q : Exit → Act → World → Prop}
    (e : clearK E b σ.slots σ.blks σ.rows o k) (hK : ∀ σ' w', k σ' → Sat B w0 h0 b u n σ' N h a w' → K a w') : o.wp P a w K Q := by
  have ho : ∀ x, (evO b σ.slots x).rel N h (a.eval x) := evO_rel hS.slots
  obtain ⟨dst, op, type, pos, after, guard⟩ := o
  simp only at hdst
  subst hdst
  unfold clearK at e
  simp only at e
  split at e
  rotate_left
  · exact e.elim
  rename_i c
  split at e
  rotate_left
  · exact e.elim
  rename_i hcal
  split at e
  rotate_left
  · exact e.elim
  rename_i t hts
  split at e
  rotate_left
  · exact e.elim
  rename_i x hargs
  split at e
  rotate_left
  · exact e.elim
  rename_i r sz i hx
  split at e
  rotate_left
  · exact e.elim
  rename_i R hR
  split at e
  rotate_left
  · exact e.elim
  rename_i ti hti
  split at e
  rotate_left
  · exact e.elim
  rename_i te hte
  split at e
  rotate_left
  · exact e.elim
  rename_i tei htei
  cases hb : (Nat.beq sz R.t.size && Nat.beq tei.size R.t.size && Nat.beq tei.zero.length tei.size && Nat.ble 1 tei.size) with
  | false => rw [hb] at e; exact e.elim
  | true =>
    rw [hb] at e
    simp only [cond_true, implodeK_eq] at e
    simp only [Bool.and_eq_true] at hb
    have b0 : sz = R.t.size := Nat.eq_of_beq_eq_true hb.1.1.1
    have b1 : tei.size = R.t.size := Nat.eq_of_beq_eq_true hb.1.1.2
    have b2 : tei.zero.length = tei.size := Nat.eq_of_beq_eq_true hb.1.2
    split at e
    rotate_left
    · exact e.elim
    rename_i z r' hz
    split at e
    rotate_left
    · exact e.elim
    rw [setRK_eq] at e
    have hca : c.args = #[x] := by
      apply Array.ext'
      exact hargs
    have hct : c.argTypes = #[t] := by
      apply Array.ext'
      exact hts
    obtain ⟨dd, hdd, _, hkk⟩ := (hE.tt t ti hti).und
    rw [hte] at hkk
    simp only at hkk
    subst hkk
    have hxv := ho x
    rw [hx] at hxv
    simp only [SV.rel, Leaf.rel] at hxv
    obtain ⟨g, len, cap, hV, hi, hxv⟩ := hxv
    obtain ⟨cs, hown, hrc⟩ := hS.mem.row r R hR
    have hcl := RowCells_len R.t R.xs cs hrc
    rcases hown.2 with ⟨e0, e1⟩ | ⟨g', cap', cur, e0, f1, f2, f3, f4, f5, f6⟩
    · rw [hV] at e0; cases e0
    rw [hV] at e0
    injection e0 with q1 q2 q3
    injection q1 with q1
    injection q1 with q1
    subst q1 q2 q3 b0
    obtain ⟨zs, hrz, hrun⟩ := clear_run (P := P) (w := w) (h := h) (hE.tt te tei htei) hdd b2 b1 hz f2 f5 f3 hi (cap - i) type
    have hzl : zs.length = R.t.size := rep_len R.t z zs hrz
    have hrun2 : (execOp a.eval ⟨none, .call c, type, pos, after, guard⟩).run P w = .ok (.value (.tuple #[])) (w.setRow g (cur.toList.take (i * R.t.size) ++ (List.replicate (R.xs.length - i) zs).flatten ++ cur.toList.drop (i * R.t.size + (R.xs.length - i) * R.t.size)).toArray) := by
      simp only [execOp, Sem.run_bind, resolve, hcal, hca, hct]
      simp [invoke, builtin, hxv]
      rw [hrun]
      simp
    unfold Oper.wp
    rw [hrun2]
    have hfl : (List.replicate (R.xs.length - i) zs).flatten.length = (R.xs.length - i) * R.t.size := by simp [hzl]
    have hsplit : i * R.t.size + (R.xs.length - i) * R.t.size = R.xs.length * R.t.size := by rw [← Nat.add_mul]; congr 1; omega
    have hcapn : R.xs.length * R.t.size ≤ cap * R.t.size := Nat.mul_le_mul_right _ f3
    have hcur : cur.toList.length = cap * R.t.size := by simpa using f5
    have htake : RowCells h R.t (R.xs.take i) (cs.take (i * R.t.size)) := by
      have key : ∀ (xs : List R.t.den) (cs : List Value) (m : Nat), RowCells h R.t xs cs → RowCells h R.t (xs.take m) (cs.take (m * R.t.size)) := by
        intro xs
        induction xs with
        | nil => intro cs m hc; simp only [RowCells] at hc; subst hc; simp [RowCells]
        | cons x xs ih =>
          rintro cs m ⟨d, q, rfl, g1, g2⟩
          cases m with
          | zero => simp [RowCells]
          | succ m =>
            have hd := rep_len R.t x d g1
            refine ⟨d, q.take (m * R.t.size), ?_, g1, ih q m g2⟩
            rw [show (m + 1) * R.t.size = d.length + m * R.t.size by rw [hd, Nat.add_mul]; omega, List.take_length_add_append]
      exact key R.xs cs i hrc
    refine hK _ _ e ⟨?_, hS.grow, hS.dom, hS.slots, hS.size, hS.defers⟩
    have hit : cs.take (i * R.t.size) = cur.toList.take (i * R.t.size) := by
      rw [← f6, List.take_take, Nat.min_eq_left (by omega)]
    have hlen : (R.xs.take i ++ List.replicate (R.xs.length - i) z).length = R.xs.length := by simp; omega
    refine hS.mem.turnRow (R' := ⟨R.t, R.e, R.xs.take i ++ List.replicate (R.xs.length - i) z⟩) (g := g) (cs := cs.take (i * R.t.size) ++ (List.replicate (R.xs.length - i) zs).flatten) hR (by rw [hV]; rfl)
      (hS.mem.below.trans ⟨rfl, rfl, rfl, by simp, fun k hk => setRow_other w g k _ (by omega), Nat.le_refl _⟩) (by simp) (fun k hk => setRow_other w g k _ hk) ?_ (RowCells_append R.t _ _ _ _ htake (RowCells_replicate R.t hrz _))
    refine ⟨?_, .inr ⟨g, cap, _, by rw [hlen]; exact hV, f1, setRow_heap w g cur _ R.e (0, 0) f2, by rw [hlen]; exact f3, f4, ?_, ?_⟩⟩
    · rw [hlen, List.length_append, hfl, List.length_take, hcl]
      show _ = R.xs.length * R.t.size
      omega
    · simp only [List.size_toArray, List.length_append, hfl, List.length_take, List.length_drop, hcur]
      omega
    · rw [hlen, hit]
      simp only
      have hl2 : (cur.toList.take (i * R.t.size) ++ (List.replicate (R.xs.length - i) zs).flatten).length = R.xs.length * R.t.size := by
        rw [List.length_append, hfl, List.length_take, hcur]
        omega
      rw [← hl2]
      exact List.take_left
/-- What was known of a world where no row is, is known where the memory grew beside. -/
theorem rowBack_sound {σ : St} (hS : Sat B w0 h0 b u n σ N h a w) {w' : World} {v v' : Value} {sl : Slots} {bs : Blks} {rs : Rows} {d : Option Nat} (hd : ∀ t, d = some t → t < n) {R : RowS} {cs' : List Value} {k : St → Prop}
    (hM : MemSat B w0 bs rs N h w) (hsl : SlotSat sl N h (vals b u a)) (hfree : ∀ g, v.ownBlock = some g → B ≤ g ∧ h g = none ∧ (∀ i b, getB bs i = some b → N.ρ i ≠ g) ∧ (∀ s S, getR rs s = some S → (N.V s).ownBlock ≠ some g))
    (e : rowBackK sl bs rs (dstAt b d) R k) (q1 : w'.ownsRow B R.e R.t.size v' R.xs.length cs') (q2 : RowCells h R.t R.xs cs') (q3 : GrownBy w w' v.ownBlock) (q4 : ∀ g, v'.ownBlock = some g → v.ownBlock = some g ∨ w.heap.size ≤ g) :
    ∃ σ' N', k σ' ∧ Sat B w0 h0 b u n σ' N' h (a.put d v') w' := by
  unfold rowBackK at e
  split at e
  rotate_left
  · exact e.elim
  rename_i d0 hd0
  obtain ⟨d, rfl, rfl⟩ := dstAt_some hd0
  have hdn := hd d rfl
  have hbel : Below B w0 w' := hS.mem.below.grown q3 hS.mem.size fun k hk => (hfree k hk).1
  unfold newRowK at e
  cases hnm : (anySlots (Leaf.namesR (b + d)) sl || anyBlks (Leaf.namesR (b + d)) bs) with
  | true => rw [hnm] at e; exact e.elim
  | false =>
    rw [hnm] at e
    simp only [cond_false] at e
    simp only [Bool.or_eq_false_iff] at hnm
    refine ⟨_, N.setR (b + d) v', e, ⟨?_, hS.grow, hS.dom, ?_, by rw [size_put]; exact hS.size, by rw [defers_put]; exact hS.defers⟩⟩
    · refine hM.newR (row := v.ownBlock) hbel q3.size (fun k hk hne => q3.block k hk hne) q1 q2 ?_ hnm.2
      intro g hg
      have hg' : v.ownBlock = some g ∨ w.heap.size ≤ g := by
        rcases hg with hg | hg
        · exact q4 g hg
        · exact .inl hg
      rcases hg' with hg | hg
      · exact (hfree g hg).2
      · refine ⟨?_, fun i b hi => ?_, fun q S hq hqg => ?_⟩
        · cases hh : h g with
          | none => rfl
          | some o => exact absurd (hM.pin.lt hh) (by omega)
        · obtain ⟨ds, p1, _⟩ := hM.blk i b hi
          have := lt_of_heap p1
          omega
        · have := (ownBlock_lt hM hq hqg).2
          omega
    · refine SlotSat.put (N := N.setR (b + d) v') (fun t' => ?_) (by rw [hS.size]; exact hdn) ?_
      · refine SV.rel_names _ (hsl t') (fun i _ => rfl) (fun i hi => ?_)
        simp only [Names.setR]
        rw [if_neg]
        intro he
        subst he
        have := anySlots_false hnm.1 t' hi
        cases this
      · simp only [SV.rel, Leaf.rel]
        refine ⟨by simp [Names.setR], ?_⟩
        rcases q1.2 with ⟨e0, _⟩ | ⟨g, cap, cur, e0, _⟩ <;> rw [e0] <;> rfl

/-- A call that is handed a row. -/
theorem rowCall_sound (hE : EnvOk P E) {σ : St} (hS : Sat B w0 h0 b u n σ N h a w) {o : Oper} (hd : ∀ t, o.dst = some t → t < n) {C : RContract} {s : SV} (hc : rowCall E b σ.slots o.op = some (C, s)) {k : St → Prop} {K : Act → World → Prop} {Q : Exit → Act → World → Prop}
    (e : rowCallK C s σ.slots σ.blks σ.rows (dstAt b o.dst) k) (hK : ∀ σ' N' h' a' w', k σ' → Sat B w0 h0 b u n σ' N' h' a' w' → K a' w') : o.wp P a w K Q := by
  unfold rowCall at hc
  split at hc
  rotate_left
  · cases hc
  rename_i c hop
  split at hc
  rotate_left
  · cases hc
  rename_i fv hf
  have hof := evO_rel hS.slots fv
  have hoa : ∀ x ∈ c.args.toList, (evO b σ.slots x).rel N h (a.eval x) := fun x _ => evO_rel hS.slots x
  split at hc
  rotate_left
  · cases hc
  rename_i f hfn
  obtain ⟨vs, hv, hcaps⟩ := asFn_rel hfn hof
  have hvs := LeafRels.nil_iff.1 hcaps
  subst hvs
  split at hc
  rotate_left
  · cases hc
  rename_i C0 hC
  obtain ⟨⟨fn, cd, hfn, hname, hbody⟩, hspec⟩ := hE.rct f C0 hC
  split at hc
  rotate_left
  · cases hc
  rename_i s0 hcut
  injection hc with hc
  injection hc with h1 h2
  subst h1 h2
  obtain ⟨l1, l2⟩ := callArgs_rel hoa hcaps
  simp only [leafSVs, List.append_nil] at l1 l2
  obtain ⟨us, hus, l1, l2⟩ := cutTail_rel hcut l1 l2
  obtain ⟨v, rfl⟩ : ∃ v, us = [v] := by
    match us, l1 with
    | [v], _ => exact ⟨v, rfl⟩
  have hsv : s0.rel N h v := l2 0 s0 v rfl rfl
  have main : ∀ (xs : List C0.t.den) (cs : List Value) (B' : Nat), C0.pre xs → w.ownsRow B C0.e C0.t.size v xs.length cs → RowCells h C0.t xs cs → (∀ g, v.ownBlock = some g → h g = none) →
      (∀ u v' ys cs' w', C0.post xs ys → w'.ownsRow B C0.e C0.t.size v' ys.length cs' → RowCells h C0.t ys cs' → GrownBy w w' v.ownBlock → (∀ g, v'.ownBlock = some g → v.ownBlock = some g ∨ w.heap.size ≤ g) → (match C0.back with | true => u = v' | false => v' = v) → K (a.put o.dst u) w') → o.wp P a w K Q := by
    intro xs cs B' hpre hown hrc hfr fin
    have hcall := hspec xs h w B v cs hpre hS.mem.pin hS.mem.size hown hrc hfr
    unfold Oper.wp
    rw [call_enter (vs := []) hop hf hv hfn hname hbody]
    simp only [List.append_nil] at hus ⊢
    rw [hus]
    refine hcall.mono ?_
    rintro en w' ⟨u, v', ys, cs', rfl, g1, g2, g3, g4, g5, g6⟩
    exact fin u v' ys cs' w' g1 g2 g3 g4 g5 g6
  unfold rowCallK at e
  split at e
  · rename_i r
    simp only [SV.rel, Leaf.rel] at hsv
    obtain ⟨rfl, hone⟩ := hsv
    split at e
    rotate_left
    · exact e.elim
    rename_i R hR
    cases hbe : Nat.beq R.e C0.e with
    | false => rw [hbe] at e; exact e.elim
    | true =>
      have hee := Nat.eq_of_beq_eq_true hbe
      rw [hbe] at e
      simp only [cond_true, popSlK_eq, popSl] at e
      split at e
      rotate_left
      · exact e.elim
      rename_i xs rr hxs
      split at hxs
      rotate_left
      · cases hxs
      rename_i ht
      obtain ⟨T, te, ys0⟩ := R
      simp only at ht hee
      subst ht hee
      injection hxs with hxs
      injection hxs with hxs _
      subst hxs
      obtain ⟨hpre, e⟩ := e
      obtain ⟨cs, hown, hrc⟩ := hS.mem.row r _ hR
      refine main ys0 cs 0 hpre hown hrc (fun g hg => hS.mem.rowh r _ g hR hg) ?_
      intro u v' ys cs' w' g1 g2 g3 g4 g5 g6
      have e := e ys g1
      split at e
      · rename_i hb
        rw [hb] at g6
        simp only at g6
        subst g6
        rw [setRK_eq, putK_eq] at e
        have hbel : Below B w0 w' := hS.mem.below.grown g4 hS.mem.size fun k hk => (ownBlock_lt hS.mem hR hk).1
        have hM := hS.mem.turnRowG (R' := ⟨_, _, ys⟩) hR hbel g4.size (fun k hk hne => g4.block k hk hne) g2 g3
        have hS2 : Sat B w0 h0 b _ n ⟨σ.slots, σ.blks, setR σ.rows r ⟨_, _, ys⟩⟩ N h a w' := ⟨hM, hS.grow, hS.dom, hS.slots, hS.size, hS.defers⟩
        exact hK _ N h _ w' e (hS2.put hd (SV.leaf_iff.2 (by simp only [Leaf.rel])))
      · rename_i hb
        rw [hb] at g6
        simp only at g6
        subst g6
        simp only [fSlots_eq, fBlks_eq, fRows_eq] at e
        obtain ⟨σ', N', p1, p2⟩ := rowBack_sound hS (v := N.V r) hd ((hS.mem.mapBlks (forget_keeps r)).rmRow r) (hS.slots.mapped (forget_keeps r) (PLe.refl h)) (fun g hg => ⟨(ownBlock_lt hS.mem hR hg).1, hS.mem.rowh r _ g hR hg, fun i bb hi => by
          rw [mapBlks_get] at hi
          cases hh : getB σ.blks i with
          | none => rw [hh] at hi; cases hi
          | some b' => exact hS.mem.rowb r _ g i b' hR hg hh, fun q S hq hqg => by
          rw [rmR_get] at hq
          split at hq
          · cases hq
          · rename_i hne
            exact hne (hS.mem.rowr r q _ S g hR hq hg hqg)⟩) e g2 g3 g4 g5
        exact hK _ _ _ _ _ p1 p2
  · simp only [SV.rel, Leaf.rel] at hsv
    subst hsv
    obtain ⟨hpre, e⟩ := e
    refine main [] [] 0 hpre (World.ownsRow_nil w B _ _) rfl (fun g hg => by cases hg) ?_
    intro u v' ys cs' w' g1 g2 g3 g4 g5 g6
    have e := e ys g1
    split at e
    · rw [putK_eq] at e
      have hbel : Below w.heap.size w w' := ⟨g4.os, g4.tape, g4.output, g4.size, fun k hk => g4.block k hk (by simp [Value.ownBlock]), g4.drawn⟩
      have hM := hS.mem.grow (PLe.refl h) (fun k hk => .inl hk) (fun k o hk => (hbel.block k (hS.mem.pin.lt hk)).trans (hS.mem.pin k o hk)) hbel
      have hS2 : Sat B w0 h0 b _ n σ N h a w' := ⟨hM, hS.grow, hS.dom, hS.slots, hS.size, hS.defers⟩
      exact hK _ N h _ w' e (hS2.put hd (SV.leaf_iff.2 (by simp only [Leaf.rel])))
    · rename_i hb
      rw [hb] at g6
      simp only at g6
      subst g6
      obtain ⟨σ', N', p1, p2⟩ := rowBack_sound hS (v := .slice none 0 0) hd hS.mem hS.slots (fun g hg => by cases hg) e g2 g3 g4 g5
      exact hK _ _ _ _ _ p1 p2
  · exact e.elim
/-- An operation that makes what has a name. -/
theorem seq_sound0 (hE : EnvOk P E) (hG : GlobOk E.gl h0) {σ : St} (hS : Sat B w0 h0 b u n σ N h a w) {o : Oper} (hd : ∀ t, o.dst = some t → t < n) {k : St → Prop} {K : Act → World → Prop} {Q : Exit → Act → World → Prop}
    (e : seqEv0 E b σ.slots σ.blks σ.rows o k) (hK : ∀ σ' N' h' a' w', k σ' → Sat B w0 h0 b u n σ' N' h' a' w' → K a' w') : o.wp P a w K Q := by
  have ho : ∀ x, (evO b σ.slots x).rel N h (a.eval x) := evO_rel hS.slots
  obtain ⟨dst, op, type, pos, after, guard⟩ := o
  unfold seqEv0 at e
  simp only at e hd
  split at e
  · rename_i hdn0
    have hdst : dst = none := by
      cases dst with
      | none => rfl
      | some d => cases hdn0
    subst hdst
    unfold mapOrClear at e
    split at e
    · rename_i put t m x v hme
      simp only at hme
      unfold mapEv at hme
      split at hme
      · injection hme with hme
        injection hme with q1 hme
        injection hme with q2 hme
        injection hme with q3 hme
        injection hme with q4 q5
        subst q1 q2 q3 q4 q5
        simp only at e
        obtain ⟨σ', w', g0, g1, g2⟩ := mapPut_sound hE hS (ho _) (ho _) (ho _) e
        unfold Oper.wp
        simp only [execOp, Sem.run_bind, g0, Result.andThen_ok, Sem.run_pure]
        exact hK _ _ _ _ _ g1 g2
      · rename_i c
        split at hme
        · rename_i hcal
          split at hme
          · rename_i t0 ts hts
            split at hme
            · rename_i m0 x0 hargs
              injection hme with hme
              injection hme with q1 hme
              injection hme with q2 hme
              injection hme with q3 hme
              injection hme with q4 q5
              subst q1 q2 q3 q4 q5
              simp only at e
              have hca : c.args = #[m0, x0] := by
                apply Array.ext'
                exact hargs
              have hct : c.argTypes = (t0 :: ts).toArray := by
                apply Array.ext'
                exact hts
              obtain ⟨σ', w', g0, g1, g2⟩ := mapDel_sound (t' := type) (ts := ts) hE hS (ho _) (ho _) e
              have hrun : (execOp a.eval ⟨none, .call c, type, pos, after, guard⟩).run P w = .ok (.value (.tuple #[])) w' := by
                simp only [execOp, Sem.run_bind, resolve, hcal, hca, hct]
                simp [invoke, builtin, g0]
              unfold Oper.wp
              rw [hrun]
              exact hK _ _ _ _ _ g1 g2
            · cases hme
          · cases hme
        · cases hme
      · cases hme
    · exact clear_sound hE hS rfl e fun σ' w' g1 g2 => hK σ' N h a w' g1 g2
  · rename_i d0 hd0
    obtain ⟨d, rfl, rfl⟩ := dstAt_some hd0
    have hdn := hd d rfl
    split at e
    · rename_i t r
      split at e
      · obtain ⟨ei, K0, V0, hI, e⟩ := mapKV_some hE e
        obtain ⟨σ', N', g1, g2⟩ := newMap_sound hS hdn e
        unfold Oper.wp
        simp only [execOp, Option.map_none, Instr.makeMap, Sem.run_bind, run_newObj, Result.andThen_ok, Sem.run_pure]
        exact hK _ _ _ _ _ g1 g2
      · exact e.elim
    · rename_i t m x ok
      split at e
      · obtain ⟨s, v, g0, g1, g2⟩ := mapLook_sound hE hS (ho _) (ho _) e
        unfold Oper.wp
        simp only [execOp, Sem.run_bind, g0, Result.andThen_ok, Sem.run_pure]
        exact hK _ N h _ _ g2 ⟨hS.mem, hS.grow, hS.dom, hS.slots.put (by rw [hS.size]; exact hdn) g1, by rw [size_put]; exact hS.size, by rw [defers_put]; exact hS.defers⟩
      · exact e.elim
    · rename_i t x lo hi mx
      split at e
      rotate_left
      · exact e.elim
      split at e
      rotate_left
      · exact e.elim
      rename_i r hx
      split at e
      rotate_left
      · exact e.elim
      rename_i R hR
      have hxv := ho x
      rw [hx] at hxv
      simp only [SV.rel, Leaf.rel] at hxv
      unfold rowSliceK at e
      split at e
      rotate_left
      · exact e.elim
      rename_i ti hti
      obtain ⟨dd, hdd, _, hkk⟩ := (hE.tt t ti hti).und
      split at e
      rotate_left
      · exact e.elim
      rename_i te hte
      rw [hte] at hkk
      simp only at hkk
      subst hkk
      split at e
      rotate_left
      · exact e.elim
      rename_i tei htei
      have hTe := hE.tt te tei htei
      cases hb : Nat.beq tei.size R.t.size with
      | false => rw [hb] at e; exact e.elim
      | true =>
        rw [hb] at e
        have b1 : tei.size = R.t.size := Nat.eq_of_beq_eq_true hb
        simp only [cond_true] at e
        cases lo with
        | none =>
          cases hi with
          | none => exact e.elim
          | some y =>
            simp only [Option.map_some, Option.map_none] at e
            split at e
            rotate_left
            · exact e.elim
            rename_i kk m hm
            simp only [fSlots_eq, fBlks_eq, fRows_eq] at e
            obtain ⟨⟨h1, h2⟩, e⟩ := e
            obtain ⟨A, c, L, hV, hL, hmc, σ', N', g1, g2⟩ := cut_sound hS hdn hR (m := m.toNat) (by omega) e
            have hy := asInt_rel hm (ho y)
            have hrun : (Instr.sliceAt t (a.eval x) none (some (a.eval y)) none).run P w = .ok (.slice A m.toNat c) w := by
              have h3 : m ≤ (c : Int) := by omega
              rw [hxv.1, hV, hy]
              cases A <;> simp [Instr.sliceAt, Instr.slice, Instr.sliceBounds, Instr.sliceBound, asIntOf, run_underlying hdd, hTe.size_run, h1, h3, Addr.add]
            unfold Oper.wp
            simp only [execOp, Sem.run_bind, hrun, Result.andThen_ok, Sem.run_pure, Option.map_none, Option.map_some]
            exact hK _ _ _ _ _ g1 g2
        | some y =>
          cases hi with
          | some y' => exact e.elim
          | none =>
            simp only [Option.map_some, Option.map_none] at e
            split at e
            rotate_left
            · exact e.elim
            rename_i kk m hm
            obtain ⟨⟨h1, h2⟩, e⟩ := e
            have hy := asInt_rel hm (ho y)
            obtain ⟨cs, hown, hrc⟩ := hS.mem.row r R hR
            rcases hown.2 with ⟨e0, e1⟩ | ⟨g, cap, cur, e0, f1, f2, f3, f4, f5, f6⟩
            · omega
            · have hrun : (Instr.sliceAt t (a.eval x) (some (a.eval y)) none none).run P w = .ok (.slice (some ⟨g, m.toNat * R.t.size, none⟩) (R.xs.length - m.toNat) (cap - m.toNat)) w := by
                have h3 : ¬ cap = m.toNat := by omega
                have h4 : m ≤ (R.xs.length : Int) := by omega
                rw [hxv.1, e0, hy]
                simp [Instr.sliceAt, Instr.slice, Instr.sliceBounds, Instr.sliceBound, asIntOf, run_underlying hdd, hTe.size_run, h1, h3, h4, b1, add_lit]
              unfold Oper.wp
              simp only [execOp, Sem.run_bind, hrun, Result.andThen_ok, Sem.run_pure, Option.map_none, Option.map_some]
              refine hK _ N h _ _ e ⟨hS.mem, hS.grow, hS.dom, hS.slots.put (by rw [hS.size]; exact hdn) ?_, by rw [size_put]; exact hS.size, by rw [defers_put]; exact hS.defers⟩
              simp only [SV.rel, Leaf.rel]
              exact ⟨g, _, cap, e0, by omega, rfl⟩
    · rename_i op t x y yt
      unfold nilK at e
      split at e
      rotate_left
      · exact e.elim
      rename_i ti hti
      obtain ⟨dd, hdd, _, hkk⟩ := (hE.tt t ti hti).und
      split at e
      rotate_left
      · exact e.elim
      rename_i te hte
      rw [hte] at hkk
      simp only at hkk
      subst hkk
      split at e
      rotate_left
      · exact e.elim
      rename_i hy
      have hyv := ho y
      rw [hy] at hyv
      simp only [SV.rel, Leaf.rel] at hyv
      have hxv := ho x
      have eq : ∀ (A : Option Addr) (l c : Nat), (Op.equal t (.slice A l c) (.slice none 0 0)).run P w = .ok A.isNone w := by
        intro A l c
        have hh : ∀ d : Nat, (Op.equalIn (d + 1) t (.slice A l c) (.slice none 0 0)).run P w = .ok A.isNone w := fun d => by
          cases A <;> simp [Op.equalIn, run_underlying hdd]
        exact hh 9999
      have fin : ∀ (A : Option Addr) (l c : Nat) (s : SV) (q : Bool), a.eval x = .slice A l c → nilB op A.isNone = some q → k ⟨(b + d, s) :: σ.slots, σ.blks, σ.rows⟩ → s.rel N h (.bool q) →
          Oper.wp P ⟨some d, .binOp op t x y yt, type, pos, after, guard⟩ a w K Q := by
        intro A l c s q hx hq hk hr
        have hrun : (do eqGuard op t x y (a.eval x) (a.eval y); binOp op t (a.eval x) (a.eval y) : Sem Value).run P w = .ok (.bool q) w := by
          rw [hx, hyv]
          cases op <;> simp only [nilB] at hq <;> first | (injection hq with hq; subst hq; simp [eqGuard, binOp, eq]; done) | cases hq
        unfold Oper.wp
        have hrun2 : (execOp a.eval ⟨some d, .binOp op t x y yt, type, pos, after, guard⟩).run P w = .ok (.value (.bool q)) w := by
          show ((do pure (.value (← (do eqGuard op t x y (a.eval x) (a.eval y); binOp op t (a.eval x) (a.eval y) : Sem Value))) : Sem Next)).run P w = _
          rw [Sem.run_bind, hrun]
          rfl
        rw [hrun2]
        exact hK _ N h _ _ hk ⟨hS.mem, hS.grow, hS.dom, hS.slots.put (by rw [hS.size]; exact hdn) hr, by rw [size_put]; exact hS.size, by rw [defers_put]; exact hS.defers⟩
      split at e
      · rename_i T xs hx
        rw [hx] at hxv
        obtain ⟨cs, g1, g2⟩ := SV.tv_iff.1 hxv
        obtain ⟨A, c, rfl, g3, g4, g5⟩ := g1
        have e := e A.isNone (fun hn => by
          cases A with
          | none => rw [g4 rfl]; rfl
          | some _ => cases hn)
        split at e
        · rename_i q hq
          exact fin A _ c _ q g2 hq e (mkBool_rel N h q)
        · exact e.elim
      · rename_i r hx
        rw [hx] at hxv
        simp only [SV.rel, Leaf.rel] at hxv
        split at e
        rotate_left
        · exact e.elim
        rename_i R hR
        obtain ⟨cs, hown, hrc⟩ := hS.mem.row r R hR
        have hv : ∃ A c, N.V r = .slice A R.xs.length c ∧ (A = none → R.xs.length = 0) := by
          rcases hown.2 with ⟨e0, e1⟩ | ⟨g, cap, cur, e0, _⟩
          · exact ⟨none, 0, by rw [e0, e1], fun _ => e1⟩
          · exact ⟨_, cap, e0, fun hh => by cases hh⟩
        obtain ⟨A, c, hV, hA⟩ := hv
        have e := e A.isNone (fun hn => by
          cases A with
          | none => exact hA rfl
          | some _ => cases hn)
        split at e
        · rename_i q hq
          exact fin A _ c _ q (by rw [hxv.1, hV]) hq e (mkBool_rel N h q)
        · exact e.elim
      · rename_i hx
        rw [hx] at hxv
        simp only [SV.rel, Leaf.rel] at hxv
        split at e
        · rename_i q hq
          exact fin none 0 0 _ q hxv hq e (by simp only [SV.rel, Leaf.rel])
        · exact e.elim
      · exact e.elim
    · rename_i t
      split at e
      · rename_i ti hti
        have hT := hE.tt t ti hti
        cases hb : Nat.beq ti.zero.length ti.size with
        | false => rw [hb] at e; exact e.elim
        | true =>
          rw [hb] at e
          simp only [cond_true] at e
          obtain ⟨i, hi, hsz, _, hz⟩ := hT.info
          obtain ⟨z, hz1, cs, hz2, hz3, hz4⟩ := hz (Nat.eq_of_beq_eq_true hb)
          obtain ⟨σ', N', g1, g2⟩ := newBlkK_sound hS hdn e (o := .cells cs.toArray t (0, 0)) fun _ _ => BlkSat.cells.2 ⟨cs, rfl, hz3 _ _, hz4⟩
          unfold Oper.wp
          simp only [execOp, Instr.alloc, zeroValue, Sem.run_bind, run_typeInfo_of hi, Result.andThen_ok, hz1, Sem.run_pure, newVar, newRow, run_newObj, hz2]
          exact hK _ _ _ _ _ g1 g2
      · exact e.elim
    · rename_i t x
      split at e
      · rename_i ls hls
        have hex : ∃ cs : List Value, (a.eval x).cells = cs.toArray ∧ (∀ q, usedB σ.slots σ.blks q = false → LeafRels (N.setB q w.heap.size) h ls cs) ∧ ∀ u ∈ cs, u.oneCell' = true := by
          obtain ⟨cs0, g1, g2, g3⟩ := cellsOf_rel hls (ho x)
          refine ⟨cs0, g1, fun q hb' => ?_, g3⟩
          unfold usedB at hb'
          simp only [Bool.or_eq_false_iff] at hb'
          have hx : (evO b σ.slots x).rel (N.setB q w.heap.size) h (a.eval x) := by
            refine SV.rel_names _ (ho x) (fun i hi => ?_) (fun _ _ => rfl)
            simp only [Names.setB]
            rw [if_neg]
            intro he
            subst he
            cases x with
            | tmp t => have := anySlots_false hb'.1 _ hi; cases this
            | const v =>
              simp only [evO, constSV] at hi
              split at hi <;> cases hi
            | global g => cases hi
            | func f => cases hi
          obtain ⟨cs, q1, q2, q3⟩ := cellsOf_rel hls hx
          have : cs = cs0 := by
            rw [q1] at g1
            simpa using g1
          rw [← this]
          exact q2
        obtain ⟨cs, g1, g2, g3⟩ := hex
        obtain ⟨σ', N', p1, p2⟩ := newBlkK_sound hS hdn e (o := .cells cs.toArray t (0, 0)) fun q hb => BlkSat.cells.2 ⟨cs, rfl, g2 q hb, g3⟩
        unfold Oper.wp
        simp only [execOp, Instr.box, newVar, newRow, Sem.run_bind, run_newObj, Result.andThen_ok, Sem.run_pure, g1]
        exact hK _ _ _ _ _ p1 p2
      · exact e.elim
    · rename_i t x
      split at e
      · rename_i ti hti
        split at e
        · rename_i hk
          split at e
          · rename_i s hs
            have hT := hE.tt t ti hti
            obtain ⟨dd, hdd, _, hkk⟩ := hT.und
            rw [hk] at hkk
            simp only at hkk
            subst hkk
            obtain ⟨σ', N', p1, p2⟩ := newBlkK_sound hS hdn e (o := .stringIter s 0) fun _ _ => BlkSat.iter.2 rfl
            have hx := asStr_rel hs (ho x)
            unfold Oper.wp
            have hrun : (Instr.range t (a.eval x)).run P w = .ok (.pointer (some ⟨w.heap.size, 0, none⟩)) (w.alloc (.stringIter s 0)) := by
              rw [hx]
              simp [Instr.range, run_underlying hdd]
            simp only [execOp, Sem.run_bind, hrun, Result.andThen_ok, Sem.run_pure]
            exact hK _ _ _ _ _ p1 p2
          · exact e.elim
        · exact e.elim
      · exact e.elim
    · rename_i x isStr
      split at e
      · split at e
        · rename_i i hx
          split at e
          · rename_i t cs s p hb
            have hxv := ho x
            rw [hx] at hxv
            simp only [SV.rel, Leaf.rel] at hxv
            obtain ⟨o0, q1, q2, q3, q4⟩ := hS.mem.blk i _ hb
            have q2 := BlkSat.iter.1 q2
            subst q2
            by_cases hp : p < s.size
            · have e := e.1 (by simp [hp])
              rw [setBK_eq] at e
              have hrun : (Instr.next (a.eval x) true type).run P w = .ok (.tuple #[.bool true, .int .i64 p, .int .i32 (Utf8.decode s p).1]) ({ w with heap := w.heap.setIfInBounds (N.ρ i) (.stringIter s (p + (Utf8.decode s p).2)) } : World) := by
                rw [hxv]
                simp only [Instr.next, Sem.run_bind, run_getObj_iter q1, Result.andThen_ok]
                simp [hp, goInt, run_setObj_iter q1]
              have hM : MemSat B w0 (setB σ.blks i ⟨t, cs, some (.str s (p + (Utf8.decode s p).2))⟩) σ.rows N h ({ w with heap := w.heap.setIfInBounds (N.ρ i) (.stringIter s (p + (Utf8.decode s p).2)) } : World) := by
                have hother : ∀ k, k ≠ N.ρ i → ({ w with heap := w.heap.setIfInBounds (N.ρ i) (.stringIter s (p + (Utf8.decode s p).2)) } : World).heap[k]? = w.heap[k]? := fun k hk => by
                  simp [Array.getElem?_setIfInBounds, Ne.symm hk]
                refine hS.mem.turnBlock hb (hS.mem.below.trans ⟨rfl, rfl, rfl, by simp, fun k hk => hother k (by omega), Nat.le_refl _⟩) (by simp) hother (o := .stringIter s (p + (Utf8.decode s p).2)) ?_ (BlkSat.iter.2 rfl)
                simp [lt_of_heap q1]
              unfold Oper.wp
              simp only [execOp, Sem.run_bind, hrun, Result.andThen_ok, Sem.run_pure]
              refine hK _ N h _ _ e ⟨hM, hS.grow, hS.dom, hS.slots.put (by rw [hS.size]; exact hdn) ?_, by rw [size_put]; exact hS.size, by rw [defers_put]; exact hS.defers⟩
              refine ⟨[.bool true, .int .i64 p, .int .i32 (Utf8.decode s p).1], rfl, ?_⟩
              exact ⟨_, _, rfl, ⟨[_], rfl, rfl⟩, _, _, rfl, ⟨[_], rfl, rfl⟩, _, _, rfl, ⟨[_], rfl, rfl⟩, rfl⟩
            · have e := e.2 (by simp [hp])
              have hrun : (Instr.next (a.eval x) true type).run P w = .ok (.tuple #[.bool false]) w := by
                rw [hxv]
                simp only [Instr.next, Sem.run_bind, run_getObj_iter q1, Result.andThen_ok]
                simp [hp]
              unfold Oper.wp
              simp only [execOp, Sem.run_bind, hrun, Result.andThen_ok, Sem.run_pure]
              refine hK _ N h _ _ e ⟨hS.mem, hS.grow, hS.dom, hS.slots.put (by rw [hS.size]; exact hdn) ?_, by rw [size_put]; exact hS.size, by rw [defers_put]; exact hS.defers⟩
              exact ⟨[.bool false], rfl, _, _, rfl, ⟨[_], rfl, rfl⟩, rfl⟩
          · exact e.elim
        · exact e.elim
      · exact e.elim
    · rename_i c
      split at e
      · rename_i hcal
        split at e
        · rename_i t t' hts
          split at e
          · rename_i s x hargs
            have hca : c.args = #[s, x] := by
              apply Array.ext'
              exact hargs
            have hct : c.argTypes = #[t, t'] := by
              apply Array.ext'
              exact hts
            have done : (∃ v' w' σ' N', (Builtin.append_ #[t, t'] type #[a.eval s, a.eval x]).run P w = .ok v' w' ∧ k σ' ∧ Sat B w0 h0 b u n σ' N' h (a.put (some d) v') w') → Oper.wp P ⟨some d, .call c, type, pos, after, guard⟩ a w K Q := by
              rintro ⟨v', w', σ', N', hr, g1, g2⟩
              have hrun : (execOp a.eval ⟨some d, .call c, type, pos, after, guard⟩).run P w = .ok (.value v') w' := by
                simp only [execOp, Sem.run_bind, resolve, hcal, hca, hct]
                simp [invoke, builtin, hr]
              unfold Oper.wp
              rw [hrun]
              exact hK _ _ _ _ _ g1 g2
            split at e
            · rename_i htt
              have htt' := Nat.eq_of_beq_eq_true htt
              subst htt'
              refine done (append_sound hE hS hdn e ?_)
              intro T te tei K' htei hund b1 b2 b3 hsrc
              rw [appendSrcK_eq] at hsrc
              split at hsrc
              · rename_i ys hys
                refine ⟨ys, hsrc, fun xs v cs _ hown hrc e1 e2 => ?_⟩
                have hu : vrep h (.sl T) ys (a.eval x) := by
                  have hx := ho x
                  unfold appendSrc at hys
                  split at hys
                  · rename_i l hl
                    rw [hl] at hx
                    cases hp : popSl T [l] with
                    | none => rw [hp] at hys; cases hys
                    | some p =>
                      obtain ⟨y, rr⟩ := p
                      rw [hp] at hys
                      injection hys with hys; subst hys
                      obtain ⟨c1, c2, q1, q2, q3⟩ := implode_rel (.sl T) [l] y rr (by simpa only [implode] using hp) [a.eval x] (LeafRels.cons (SV.leaf_iff.1 hx) (LeafRels.nil N h))
                      have hl1 := rep_len _ _ _ q2
                      match c1, hl1 with
                      | [v], _ =>
                        injection q1 with q1 _
                        exact ⟨[v], q2, q1⟩
                  · cases hys
                obtain ⟨v', w', cs', hr, q⟩ := append_run (ty := type) (hE.tt te tei htei) hund b2 b3 b1 hS.mem.size hown hrc hS.mem.pin hu e1 e2
                exact ⟨v', w', cs', hr, q⟩
              · exact hsrc.elim
            · split at e
              · rename_i ti' hti'
                split at e
                · rename_i hk'
                  obtain ⟨dd, hdd, _, hkk⟩ := (hE.tt t' ti' hti').und
                  rw [hk'] at hkk
                  simp only at hkk
                  subst hkk
                  refine done (append_sound hE hS hdn e ?_)
                  intro T te tei K' htei hund b1 b2 b3 hsrc
                  unfold strSrcK at hsrc
                  split at hsrc
                  · rename_i kk
                    split at hsrc
                    · rename_i s' hs'
                      refine ⟨strBytes s', hsrc, fun xs v cs _ hown hrc e1 e2 => ?_⟩
                      rw [asStr_rel hs' (ho x)]
                      exact append_str_run (hE.tt te tei htei) hund hdd b2 b1 hS.mem.size hown hrc s' e1 e2 type
                    · exact hsrc.elim
                  · exact hsrc.elim
                · rename_i kn hk'
                  obtain ⟨dd, hdd, _, hkk⟩ := (hE.tt t' ti' hti').und
                  rw [hk'] at hkk
                  simp only at hkk
                  subst hkk
                  refine done (append_sound hE hS hdn e ?_)
                  intro T te tei K' htei hund b1 b2 b3 hsrc
                  unfold zeroSrcK at hsrc
                  split at hsrc
                  rotate_left
                  · exact hsrc.elim
                  rename_i hsv
                  have hsv2 := ho s
                  rw [hsv] at hsv2
                  simp only [SV.rel, Leaf.rel] at hsv2
                  split at hsrc
                  rotate_left
                  · exact hsrc.elim
                  rename_i ti hti
                  obtain ⟨d2, hd2, _, hkk2⟩ := (hE.tt t ti hti).und
                  split at hsrc
                  rotate_left
                  · exact hsrc.elim
                  rename_i te2 hte2
                  rw [hte2] at hkk2
                  simp only at hkk2
                  subst hkk2
                  rw [hund] at hd2
                  injection hd2 with hd2
                  injection hd2 with hd2
                  subst hd2
                  split at hsrc
                  rotate_left
                  · exact hsrc.elim
                  rename_i tei2 htei2
                  rw [htei] at htei2
                  injection htei2 with htei2
                  subst htei2
                  rw [implodeK_eq] at hsrc
                  split at hsrc
                  rotate_left
                  · exact hsrc.elim
                  rename_i z rz hz
                  split at hsrc
                  rotate_left
                  · exact hsrc.elim
                  split at hsrc
                  rotate_left
                  · exact hsrc.elim
                  rename_i kz m hm
                  obtain ⟨⟨m1, m2⟩, hsrc⟩ := hsrc
                  refine ⟨_, hsrc, fun xs v cs hsv3 hown hrc e1 e2 => ?_⟩
                  rw [hsv2] at hsv3
                  subst hsv3
                  rw [asInt_rel hm (ho x)]
                  have hx0 : xs = [] := by
                    rcases hown.2 with ⟨_, e0⟩ | ⟨g, cap, cur, e0, _⟩
                    · exact List.eq_nil_of_length_eq_zero e0
                    · cases e0
                  subst hx0
                  obtain ⟨m', rfl⟩ : ∃ m' : Nat, m = (m' : Int) := ⟨m.toNat, by omega⟩
                  simp only [Int.toNat_natCast, List.length_replicate, List.length_nil, Nat.zero_add, List.nil_append] at e1 e2 ⊢
                  exact append_zeros_run (hE.tt te tei htei) hund hdd b2 b3 b1 hz hS.mem.size e1 e2 type
                · exact e.elim
              · exact e.elim
          · exact e.elim
        · exact e.elim
      · exact ownCall_sound hE hG hS rfl hdn e fun v σ' N' h' w' g1 g2 => hK σ' N' h' _ w' g1 g2
      · exact e.elim
    · exact e.elim
/-- A row that is new, in whatever memory has grown. -/
theorem madeRow_sound {σ : St} (hS : Sat B w0 h0 b u n σ N h a w) {d : Nat} (hdn : d < n) {w' : World} {v : Value} {t : Ty} {te : TypeId} {xs : List t.den} {cs : List Value} {k : St → Prop} (e : newRowK σ.slots σ.blks σ.rows (b + d) ⟨t, te, xs⟩ k)
    (hown : w'.ownsRow B te t.size v xs.length cs) (hrc : RowCells h t xs cs) (hg : GrownBy w w' none) (hb : v.ownBlock = none ∨ v.ownBlock = some w.heap.size) : ∃ σ' N', k σ' ∧ Sat B w0 h0 b u n σ' N' h (a.put (some d) v) w' := by
  unfold newRowK at e
  cases hnm : (anySlots (Leaf.namesR (b + d)) σ.slots || anyBlks (Leaf.namesR (b + d)) σ.blks) with
  | true => rw [hnm] at e; exact e.elim
  | false =>
    rw [hnm] at e
    simp only [cond_false] at e
    simp only [Bool.or_eq_false_iff] at hnm
    refine ⟨_, N.setR (b + d) v, e, ⟨?_, hS.grow, hS.dom, ?_, by rw [size_put]; exact hS.size, by rw [defers_put]; exact hS.defers⟩⟩
    · refine hS.mem.newR (R := ⟨t, te, xs⟩) (row := none) (hS.mem.below.grown hg hS.mem.size fun k hk => by cases hk) hg.size (fun k hk hne => hg.block k hk hne) hown hrc ?_ hnm.2
      intro g hgb
      have hge : g = w.heap.size := by
        rcases hgb with hgb | hgb
        · rcases hb with hb | hb
          · rw [hb] at hgb; cases hgb
          · rw [hb] at hgb; injection hgb with hgb; exact hgb.symm
        · cases hgb
      subst hge
      refine ⟨?_, fun i bb hi => ?_, fun q S hq hqg => ?_⟩
      · cases hh : h w.heap.size with
        | none => rfl
        | some o => exact absurd (hS.mem.pin.lt hh) (by omega)
      · obtain ⟨ds, p1, _⟩ := hS.mem.blk i bb hi
        have := lt_of_heap p1
        omega
      · have := (ownBlock_lt hS.mem hq hqg).2
        omega
    · refine SlotSat.put (N := N.setR (b + d) _) (fun t' => ?_) (by rw [hS.size]; exact hdn) ?_
      · refine SV.rel_names _ (hS.slots t') (fun i _ => rfl) (fun i hi => ?_)
        simp only [Names.setR]
        rw [if_neg]
        intro he
        subst he
        have := anySlots_false hnm.1 t' hi
        cases this
      · simp only [SV.rel, Leaf.rel]
        have hvs : ∃ A c, v = .slice A xs.length c := by
          rcases hown.2 with ⟨e0, e1⟩ | ⟨g, cap, cur, e0, _⟩
          · exact ⟨none, 0, by rw [e0, e1]⟩
          · exact ⟨_, _, e0⟩
        obtain ⟨A, cc, hvs⟩ := hvs
        subst hvs
        exact ⟨by simp [Names.setR], rfl⟩

theorem seq_sound (hE : EnvOk P E) (hG : GlobOk E.gl h0) {σ : St} (hS : Sat B w0 h0 b u n σ N h a w) {o : Oper} (hd : ∀ t, o.dst = some t → t < n) {k : St → Prop} {K : Act → World → Prop} {Q : Exit → Act → World → Prop}
    (e : seqEv E b σ.slots σ.blks σ.rows o k) (hK : ∀ σ' N' h' a' w', k σ' → Sat B w0 h0 b u n σ' N' h' a' w' → K a' w') : o.wp P a w K Q := by
  have ho : ∀ x, (evO b σ.slots x).rel N h (a.eval x) := evO_rel hS.slots
  unfold seqEv at e
  split at e
  · rename_i t l c hop
    split at e
    rotate_left
    · exact e.elim
    rename_i d0 hd0
    obtain ⟨d, hdst, rfl⟩ := dstAt_some hd0
    unfold makeSliceK at e
    split at e
    rotate_left
    · exact e.elim
    rename_i ti hti
    obtain ⟨dd, hdd, _, hkk⟩ := (hE.tt t ti hti).und
    split at e
    rotate_left
    · exact e.elim
    rename_i te hte
    rw [hte] at hkk
    simp only at hkk
    subst hkk
    split at e
    rotate_left
    · exact e.elim
    rename_i tei htei
    split at e
    rotate_left
    · exact e.elim
    rename_i T hT
    cases hb : (Nat.beq tei.size T.size && Nat.beq tei.zero.length tei.size && Nat.ble 1 tei.size) with
    | false => rw [hb] at e; exact e.elim
    | true =>
      rw [hb] at e
      simp only [cond_true, implodeK_eq] at e
      simp only [Bool.and_eq_true] at hb
      have b1 : tei.size = T.size := Nat.eq_of_beq_eq_true hb.1.1
      have b2 : tei.zero.length = tei.size := Nat.eq_of_beq_eq_true hb.1.2
      have b3 : 1 ≤ tei.size := Nat.le_of_ble_eq_true hb.2
      split at e
      rotate_left
      · exact e.elim
      rename_i z r hz
      split at e
      rotate_left
      · exact e.elim
      split at e
      rotate_left
      · exact e.elim
      rename_i k1 m hm
      split at e
      rotate_left
      · exact e.elim
      rename_i k2 c' hc'
      obtain ⟨⟨q1, q2, q3, q4⟩, e⟩ := e
      have v1 := asInt_rel hm (ho l)
      have v2 := asInt_rel hc' (ho c)
      obtain ⟨m, rfl⟩ : ∃ q : Nat, m = (q : Int) := ⟨m.toNat, by omega⟩
      obtain ⟨c', rfl⟩ : ∃ q : Nat, c' = (q : Int) := ⟨c'.toNat, by omega⟩
      have q3' : c' * tei.bytes ≤ 140737488355328 := by
        rw [← Int.natCast_mul] at q3
        omega
      obtain ⟨v, w', cs', hrun, g1, g2, g3, g4⟩ := makeSlice_run (P := P) (w := w) (h := h) (k := k1) (k' := k2) (hE.tt te tei htei) hdd b2 b3 b1 hz hS.mem.size (show m ≤ c' by omega) q3' (by omega)
      obtain ⟨dst, op, type, pos, after, guard⟩ := o
      simp only at hop hdst
      subst hop hdst
      obtain ⟨σ', N', p1, p2⟩ := madeRow_sound hS (hd d rfl) e (by rw [List.length_replicate]; exact g1) g2 g3 (.inr g4)
      unfold Oper.wp
      simp only [execOp, v1, v2, Sem.run_bind, hrun, Result.andThen_ok, Sem.run_pure]
      exact hK _ _ _ _ _ p1 p2
  · rename_i c hop
    split at e
    · rename_i hcal
      unfold copyK at e
      split at e
      rotate_left
      · exact e.elim
      rename_i t ts hts
      split at e
      rotate_left
      · exact e.elim
      rename_i x y hargs
      split at e
      rotate_left
      · exact e.elim
      rename_i r hx
      split at e
      rotate_left
      · exact e.elim
      rename_i R hR
      split at e
      rotate_left
      · exact e.elim
      rename_i ti hti
      obtain ⟨dd, hdd, _, hkk⟩ := (hE.tt t ti hti).und
      split at e
      rotate_left
      · exact e.elim
      rename_i te hte
      rw [hte] at hkk
      simp only at hkk
      subst hkk
      split at e
      rotate_left
      · exact e.elim
      rename_i tei htei
      cases hb : Nat.beq tei.size R.t.size with
      | false => rw [hb] at e; exact e.elim
      | true =>
        rw [hb] at e
        have b1 : tei.size = R.t.size := Nat.eq_of_beq_eq_true hb
        simp only [cond_true, appendSrcK_eq, setRK_eq, putK_eq] at e
        split at e
        rotate_left
        · exact e.elim
        rename_i ys hys
        have hyv := ho y
        have hyr : vrep h (.sl R.t) ys (a.eval y) := by
          unfold appendSrc at hys
          split at hys
          · rename_i l hl
            split at hys
            · rename_i x' r' hx'
              injection hys with hys
              subst hys
              rw [hl] at hyv
              obtain ⟨c1, c2, p1, p2, p3⟩ := implode_rel (.sl R.t) [l] x' r' (by simp only [implode]; exact hx') [a.eval y] (LeafRels.cons (SV.leaf_iff.1 hyv) (LeafRels.nil N h))
              have hl1 := rep_len (.sl R.t) _ _ p2
              have : c2 = [] := by
                have := congrArg List.length p1
                simp only [List.length_append, List.length_singleton, hl1, Ty.size] at this
                exact List.eq_nil_of_length_eq_zero (by omega)
              subst this
              rw [List.append_nil] at p1
              subst p1
              exact ⟨_, p2, rfl⟩
            · cases hys
          · cases hys
        have hxv := ho x
        rw [hx] at hxv
        simp only [SV.rel, Leaf.rel] at hxv
        obtain ⟨cs, hown, hrc⟩ := hS.mem.row r R hR
        have hca : c.args = #[x, y] := by
          apply Array.ext'
          exact hargs
        have hct : c.argTypes[0]? = some t := by rw [← Array.getElem?_toList, hts]; rfl
        obtain ⟨dst, op, type, pos, after, guard⟩ := o
        simp only at hop
        subst hop
        obtain ⟨w', cs', hrun, g1, g2, g3⟩ := copy_run (P := P) (w := w) (h := h) (hE.tt te tei htei) hdd b1 hct hown hrc hS.mem.pin hyr type
        have hbel : Below B w0 w' := hS.mem.below.grown g3 hS.mem.size fun k hk => (hown.lt k hk).1
        have hM := hS.mem.turnRowG (R' := ⟨R.t, R.e, ys.take R.xs.length ++ R.xs.drop ys.length⟩) hR hbel g3.size (fun k hk hne => g3.block k hk hne) g1 g2
        have hS' : Sat B w0 h0 b u n ⟨σ.slots, σ.blks, setR σ.rows r ⟨R.t, R.e, ys.take R.xs.length ++ R.xs.drop ys.length⟩⟩ N h a w' := ⟨hM, hS.grow, hS.dom, hS.slots, hS.size, hS.defers⟩
        have hrun2 : (execOp a.eval ⟨dst, .call c, type, pos, after, guard⟩).run P w = .ok (.value (.int .i64 ((min ys.length R.xs.length : Nat) : Int))) w' := by
          simp only [execOp, Sem.run_bind, resolve, hcal, hca]
          rw [← hxv.1] at hrun
          simp [invoke, builtin, hrun]
        unfold Oper.wp
        rw [hrun2]
        exact hK _ _ _ _ _ e (hS'.put hd (mkInt_rel N h _ _))
    · rename_i hcal
      exact seq_sound0 hE hG hS hd e hK
  · exact seq_sound0 hE hG hS hd e hK
end
end Go.Fr
