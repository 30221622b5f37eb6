/-
  One operation; a region in the order of its text. Conditions: none.
-/
import Derived.Test.YtkgmpnadgilpjaaFrL
namespace Go.Fr
open Go Go.RowKit
universe u

section
variable {P : Program} {E : Env} {B : Nat} {w0 w : World} {N : Names} {h0 h : PHeap} {a : Act} {n : Nat}

theorem oblige_some {p : Option Prop} {k : Prop} (e : oblige p k) : (∀ q, p = some q → q) ∧ k := by
  cases p with
  | none => exact ⟨fun q hq => (by cases hq), e⟩
  | some q => exact ⟨fun r hr => (by injection hr with hr; subst hr; exact e.1), e.2⟩

/-- A store. -/
theorem store_sound (hE : EnvOk P E) {σ : St} {o : Oper} {K : Act → World → Prop} {Q : Exit → Act → World → Prop} {i : Nat} {c : Blk}
    (e : storeEv E σ.slots σ.blks o.op = some (i, c)) (ho : ∀ x ∈ o.op.operands.toList, (evO σ.slots x).rel N h (a.eval x)) (hM : MemSat B w0 σ.blks σ.rows N h w)
    (hK : ∀ w', MemSat B w0 (setB σ.blks i c) σ.rows N h w' → K (a.put o.dst undef) w') : o.wp P a w K Q := by
  obtain ⟨dst, op, type, pos, after, guard⟩ := o
  cases op <;> try (cases e; done)
  case store t x y =>
    simp only [storeEv] at e
    split at e
    · rename_i ti hti
      have hT := hE.tt t ti hti
      have hx := ho x (by simp [Op.operands])
      have hy := ho y (by simp [Op.operands])
      split at e
      · rename_i i' off hxx
        rw [hxx] at hx
        split at e
        · rename_i bt bc hb
          split at e
          · rename_i ls hls
            cases hbb : (Nat.beq ls.length ti.size && Nat.ble (off + ti.size) bc.length) with
            | false => rw [hbb] at e; cases e
            | true =>
              rw [hbb] at e
              simp only [cond_true] at e
              simp only [Bool.and_eq_true] at hbb
              have b1 : ls.length = ti.size := Nat.eq_of_beq_eq_true hbb.1
              have b2 : off + ti.size ≤ bc.length := Nat.le_of_ble_eq_true hbb.2
              injection e with e; injection e with e1 e2; subst e1 e2
              obtain ⟨cs, q1, q2, q3, _⟩ := hM.blk i' _ hb
              obtain ⟨ds, g1, g2, g3⟩ := cellsOf_rel hls hy
              have l1 := LeafRels.length _ _ q2
              have l2 := LeafRels.length _ _ g2
              simp only at l1
              simp only [SV.rel, Leaf.rel] at hx
              have hrun : (Instr.storeAt t (a.eval x) (a.eval y)).run P w = .ok () (w.setRow (N.ρ i') (cs.take off ++ ds ++ cs.drop (off + ds.length)).toArray) := by
                have hst := run_storeCells_at P (N.ρ i') off bt ds 0 cs.toArray w q1 (by simp; omega) g3
                simp only [Nat.add_zero] at hst
                simp only [Instr.storeAt, hx, Instr.sureAddr, storeVar, Sem.run_bind, Sem.run_pure, Result.andThen_ok, hT.size_run, g1]
                rw [if_neg (by simp; omega)]
                simpa using hst
              unfold Oper.wp
              simp only [execOp, Sem.run_bind, hrun, Result.andThen_ok, Sem.run_pure]
              exact hK _ (hM.store (c := ⟨bt, splice bc off ls⟩) hb rfl (splice_rel q2 g2 off) (splice_one q3 g3 off _))
          · cases e
        · cases e
      · cases e
    · cases e

/-- A new block under a name. -/
theorem newB_sat {σ : St} (hS : Sat B w0 h0 n σ N h a w) {d : Nat} (hd : d < n) {t : TypeId} {ls : List Leaf} {cs : List Value} (hr : LeafRels (N.setB d w.heap.size) h ls cs) (h1 : ∀ u ∈ cs, u.oneCell' = true)
    (hn : (anySlots (Leaf.namesB d) σ.slots || anyBlks (Leaf.namesB d) σ.blks) = false) :
    Sat B w0 h0 n ⟨(d, .leaf (.ptr d 0)) :: σ.slots, (d, ⟨t, ls⟩) :: σ.blks, σ.rows⟩ (N.setB d w.heap.size) h (a.put (some d) (.pointer (some ⟨w.heap.size, 0, none⟩))) (w.alloc (.cells cs.toArray t)) := by
  simp only [Bool.or_eq_false_iff] at hn
  refine ⟨hS.mem.newB (b := ⟨t, ls⟩) hr h1 hn.2, hS.grow, hS.dom, ?_, by rw [size_put]; exact hS.size, by rw [defers_put]; exact hS.defers⟩
  refine SlotSat.put (N := N.setB d w.heap.size) (fun t' => ?_) (by rw [hS.size]; exact hd) (by simp [SV.rel, Leaf.rel, Names.setB])
  refine SV.rel_names _ (hS.slots t') (fun i hi => ?_) (fun i _ => rfl)
  simp only [Names.setB]
  rw [if_neg]
  intro e
  subst e
  have := anySlots_false hn.1 t' hi
  cases this

/-- An operation that makes what has a name. -/
theorem seq_sound (hE : EnvOk P E) {σ : St} (hS : Sat B w0 h0 n σ N h a w) {o : Oper} (hd : ∀ t, o.dst = some t → t < n) {k : St → Prop} {K : Act → World → Prop} {Q : Exit → Act → World → Prop}
    (e : seqEv E σ.slots σ.blks σ.rows o k) (hK : ∀ σ' N' h' a' w', k σ' → Sat B w0 h0 n σ' N' h' a' w' → K a' w') : o.wp P a w K Q := by
  have ho : ∀ x, (evO σ.slots x).rel N h (a.eval x) := evO_rel hS.slots
  obtain ⟨dst, op, type, pos, after, guard⟩ := o
  unfold seqEv at e
  simp only at e hd
  split at e
  · exact e.elim
  · rename_i d
    have hdn := hd d rfl
    split at e
    · rename_i t
      split at e
      · rename_i ti hti
        have hT := hE.tt t ti hti
        cases hb : (Nat.beq ti.zero.length ti.size && !(anySlots (Leaf.namesB d) σ.slots || anyBlks (Leaf.namesB d) σ.blks)) with
        | false => rw [hb] at e; exact e.elim
        | true =>
          rw [hb] at e
          simp only [cond_true, fLs_eq] at e
          simp only [Bool.and_eq_true, Bool.not_eq_true'] at hb
          obtain ⟨i, hi, hsz, _, hz⟩ := hT.info
          obtain ⟨z, hz1, cs, hz2, hz3, hz4⟩ := hz (Nat.eq_of_beq_eq_true hb.1)
          unfold Oper.wp
          simp only [execOp, Instr.alloc, zeroValue, Sem.run_bind, run_typeInfo_of hi, Result.andThen_ok, hz1, Sem.run_pure, newVar, newRow, run_newObj, hz2]
          exact hK _ _ _ _ _ e (newB_sat hS hdn (hz3 _ _) hz4 hb.2)
      · exact e.elim
    · rename_i t x
      split at e
      · rename_i ls hls
        cases hb : (anySlots (Leaf.namesB d) σ.slots || anyBlks (Leaf.namesB d) σ.blks) with
        | true => rw [hb] at e; exact e.elim
        | false =>
          rw [hb] at e
          simp only [cond_false, fLs_eq] at e
          have hb' := hb
          simp only [Bool.or_eq_false_iff] at hb'
          have hx : (evO σ.slots x).rel (N.setB d w.heap.size) h (a.eval x) := by
            refine SV.rel_names _ (ho x) (fun i hi => ?_) (fun _ _ => rfl)
            simp only [Names.setB]
            rw [if_neg]
            intro he
            subst he
            cases x with
            | tmp t => have := anySlots_false hb'.1 t hi; cases this
            | const v =>
              simp only [evO, constSV] at hi
              split at hi <;> cases hi
            | global g => cases hi
            | func f => cases hi
          obtain ⟨cs, g1, g2, g3⟩ := cellsOf_rel hls hx
          unfold Oper.wp
          simp only [execOp, Instr.box, newVar, newRow, Sem.run_bind, run_newObj, Result.andThen_ok, Sem.run_pure, g1]
          exact hK _ _ _ _ _ e (newB_sat hS hdn g2 g3 hb)
      · exact e.elim
    · rename_i c
      split at e
      · rename_i hcal
        split at e
        · rename_i t t' hts
          cases htt : Nat.beq t t' with
          | false => rw [htt] at e; exact e.elim
          | true =>
            rw [htt] at e
            have htt' := Nat.eq_of_beq_eq_true htt
            subst htt'
            simp only [cond_true] at e
            split at e
            · rename_i s x hargs
              split at e
              · rename_i r R hrow
                split at e
                · rename_i tei htei
                  have hTe := hE.tt R.e tei htei
                  cases hb : (Nat.beq tei.size R.t.size && Nat.beq tei.zero.length tei.size && Nat.ble 1 tei.size) with
                  | false => rw [hb] at e; exact e.elim
                  | true =>
                    rw [hb] at e
                    simp only [cond_true, appendSrcK_eq] at e
                    simp only [Bool.and_eq_true] at hb
                    have b1 : tei.size = R.t.size := Nat.eq_of_beq_eq_true hb.1.1
                    have b2 : tei.zero.length = tei.size := Nat.eq_of_beq_eq_true hb.1.2
                    have b3 : 1 ≤ tei.size := Nat.le_of_ble_eq_true hb.2
                    split at e
                    · rename_i ys hys
                      obtain ⟨e1, e2, e3⟩ := e
                      have hca : c.args = #[s, x] := by
                        apply Array.ext'
                        exact hargs
                      have hct : c.argTypes = #[t, t] := by
                        apply Array.ext'
                        exact hts
                      -- the source
                      have hu : vrep h (.sl R.t) ys (a.eval x) := by
                        have hx := ho x
                        unfold appendSrc at hys
                        split at hys
                        · rename_i l hl
                          rw [hl] at hx
                          cases hp : popSl R.t [l] with
                          | none => rw [hp] at hys; cases hys
                          | some p =>
                            obtain ⟨y, rr⟩ := p
                            rw [hp] at hys
                            injection hys with hys; subst hys
                            obtain ⟨c1, c2, q1, q2, q3⟩ := implode_rel (.sl R.t) [l] y rr (by simpa only [implode] using hp) [a.eval x] ⟨hx, trivial⟩
                            have hl1 := rep_len _ _ _ q2
                            match c1, hl1 with
                            | [v], _ =>
                              injection q1 with q1 _
                              exact ⟨[v], q2, q1⟩
                        · cases hys
                      -- the row
                      have hown : ∃ (v : Value) (cs : List Value) (te : TypeId), a.eval s = v ∧ P.underlying t = some (.slice te) ∧ te = R.e ∧ w.ownsRow B R.e R.t.size v R.xs.length cs ∧ RowCells h R.t R.xs cs ∧
                          (∀ g, v.ownBlock = some g → h g = none ∧ (∀ i b, getB σ.blks i = some b → N.ρ i ≠ g) ∧ (∀ q S, getR σ.rows q = some S → (N.V q).ownBlock = some g → r = some q)) := by
                        have hs := ho s
                        unfold appendRow at hrow
                        split at hrow
                        · cases hrow
                        · rename_i ti hti
                          have hT := hE.tt t ti hti
                          obtain ⟨dd, hdd, _, hkk⟩ := hT.und
                          split at hrow
                          · rename_i te hte
                            rw [hte] at hkk
                            simp only at hkk
                            subst hkk
                            split at hrow
                            · rename_i r0 hsr
                              rw [hsr] at hs
                              split at hrow
                              · rename_i R0 hR0
                                cases hbe : Nat.beq R0.e te with
                                | false => rw [hbe] at hrow; cases hrow
                                | true =>
                                  rw [hbe] at hrow
                                  simp only [cond_true] at hrow
                                  injection hrow with hrow
                                  injection hrow with h1 h2
                                  subst h1 h2
                                  obtain ⟨cs, p1, p2⟩ := hS.mem.row r0 R0 hR0
                                  refine ⟨_, cs, te, hs.1, hdd, (Nat.eq_of_beq_eq_true hbe).symm, p1, p2, fun g hg => ⟨hS.mem.rowh r0 R0 g hR0 hg, fun i b hi => hS.mem.rowb r0 R0 g i b hR0 hg hi, fun q S hq hqg => ?_⟩⟩
                                  rw [hS.mem.rowr r0 q R0 S g hR0 hq hg hqg]
                              · cases hrow
                            · rename_i hsr
                              rw [hsr] at hs
                              split at hrow
                              · rename_i tei' htei'
                                split at hrow
                                · rename_i T hT'
                                  injection hrow with hrow
                                  injection hrow with h1 h2
                                  subst h1 h2
                                  refine ⟨_, [], te, hs, hdd, rfl, World.ownsRow_nil w B te _, rfl, fun g hg => by cases hg⟩
                                · cases hrow
                              · cases hrow
                            · cases hrow
                          · cases hrow
                      obtain ⟨v, cs, te, hv, hund, rfl, hown, hrc, hfree⟩ := hown
                      obtain ⟨v', w', cs', hr, q1, q2, q3, q4⟩ := append_run (ty := type) hTe hund b2 b3 b1 hS.mem.size hown hrc hS.mem.pin hu e1 e2
                      have hrun : (execOp a.eval ⟨some d, .call c, type, pos, after, guard⟩).run P w = .ok (.value v') w' := by
                        simp only [execOp, Sem.run_bind, resolve, hcal, hca, hct]
                        simp [invoke, builtin, hv, hr]
                      unfold Oper.wp
                      rw [hrun]
                      have hbel : Below B w0 w' := hS.mem.below.grown q3 hS.mem.size fun k hk => (hown.lt k hk).1
                      have fin : ∀ (sl : Slots) (bs : Blks) (rs : Rows), MemSat B w0 bs rs N h w → SlotSat sl N h a → (∀ q S, getR rs q = some S → r ≠ some q ∧ getR σ.rows q = some S) → (∀ i b, getB bs i = some b → ∃ b', getB σ.blks i = some b') →
                          newRowK sl bs rs d ⟨R.t, R.e, R.xs ++ ys⟩ k → K (a.put (some d) v') w' := by
                        intro sl bs rs hM hsl hrs hbs hk
                        unfold newRowK at hk
                        cases hnm : (anySlots (Leaf.namesR d) sl || anyBlks (Leaf.namesR d) bs) with
                        | true => rw [hnm] at hk; exact hk.elim
                        | false =>
                          rw [hnm] at hk
                          simp only [cond_false] at hk
                          simp only [Bool.or_eq_false_iff] at hnm
                          refine hK _ (N.setR d v') h _ w' hk ⟨?_, hS.grow, hS.dom, ?_, by rw [size_put]; exact hS.size, by rw [defers_put]; exact hS.defers⟩
                          · refine hM.newR (R := ⟨R.t, R.e, R.xs ++ ys⟩) (row := v.ownBlock) hbel q3.size (fun k hk hne => q3.block k hk hne) q1 q2 ?_ hnm.2
                            intro g hg
                            have hg' : v.ownBlock = some g ∨ g = w.heap.size := by
                              rcases hg with hg | hg
                              · rcases q4 with q4 | q4
                                · rw [q4] at hg; exact .inl hg
                                · rw [q4] at hg; injection hg with hg; exact .inr hg.symm
                              · exact .inl hg
                            rcases hg' with hg | hg
                            · 
                              obtain ⟨f1, f2, f3⟩ := hfree g hg
                              refine ⟨f1, fun i b hi => ?_, fun q S hq hqg => ?_⟩
                              · obtain ⟨b', hb'⟩ := hbs i b hi
                                exact f2 i b' hb'
                              · obtain ⟨p1, p2⟩ := hrs q S hq
                                exact p1 (f3 q S p2 hqg)
                            · subst hg
                              refine ⟨?_, fun i b hi => ?_, fun q S hq hqg => ?_⟩
                              · cases hh : h w.heap.size with
                                | none => rfl
                                | some o => exact absurd (hM.pin.lt hh) (by omega)
                              · obtain ⟨ds, p1, _⟩ := hM.blk i b hi
                                have := lt_of_heap p1
                                omega
                              · have := (ownBlock_lt hM hq hqg).2
                                omega
                          · refine SlotSat.put (N := N.setR d v') (fun t' => ?_) (by rw [hS.size]; exact hdn) ?_
                            · refine SV.rel_names _ (hsl t') (fun i _ => rfl) (fun i hi => ?_)
                              simp only [Names.setR]
                              rw [if_neg]
                              intro he
                              subst he
                              have := anySlots_false hnm.1 t' hi
                              cases this
                            · refine ⟨by simp [Names.setR], ?_⟩
                              rcases q1.2 with ⟨e0, _⟩ | ⟨g, cap, cur, e0, _⟩ <;> rw [e0] <;> rfl
                      cases r with
                      | none => exact fin σ.slots σ.blks σ.rows hS.mem hS.slots (fun q S hq => ⟨by simp, hq⟩) (fun i b hi => ⟨b, hi⟩) e3
                      | some r0 =>
                        simp only [fSlots_eq, fBlks_eq, fRows_eq] at e3
                        refine fin _ _ _ ((hS.mem.mapBlks (forget_keeps r0)).rmRow r0) (hS.slots.mapped rfl (forget_keeps r0) (PLe.refl h)) (fun q S hq => ?_) (fun i b hi => ?_) e3
                        · rw [rmR_get] at hq
                          split at hq
                          · cases hq
                          · rename_i hne; exact ⟨by simpa using hne, hq⟩
                        · rw [mapBlks_get] at hi
                          cases hh : getB σ.blks i with
                          | none => rw [hh] at hi; cases hi
                          | some b' => exact ⟨b', rfl⟩
                    · exact e.elim
                · exact e.elim
              · exact e.elim
            · exact e.elim
        · exact e.elim
      · exact e.elim
    · exact e.elim
end
end Go.Fr
