/-
  What single operations yield. Conditions: none.
-/
import Derived.Test.YtepnpmaoodljkaaDoorFrF
namespace Go.Fr
open Go Go.RowKit
universe u

section
variable {P : Program} {E : Env} {B : Nat} {w0 w : World} {bs : Blks} {rs : Rows} {N : Names} {h : PHeap} {sl : Slots} {ρ : Operand → Value}

/-- The value that an operation yields without turning the world. -/
def Yields (P : Program) (s : Sem Value) (w : World) (N : Names) (h : PHeap) (r : SV) : Prop := ∃ v, s.run P w = .ok v w ∧ r.rel N h v

theorem sameKind_eq {a b : IntKind} (e : sameKind a b = true) : a = b := by cases a <;> cases b <;> first | rfl | cases e

theorem evIntBin_run {op : BinOp} {k : IntKind} {a b : Int} {r : SV} {p : Option Prop} (e : evIntBin op k a b = some (r, p)) (hp : ∀ q, p = some q → q) (t : TypeId) (xo yo : Operand) :
    Yields P (do eqGuard op t xo yo (.int k a) (.int k b); binOp op t (.int k a) (.int k b)) w N h r := by
  unfold evIntBin at e
  split at e <;> first | (cases e; done) | (injection e with e; injection e with e1 e2; subst e1 e2)
  · exact ⟨_, by simp [eqGuard, binOp, Op.intArith], mkInt_rel N h _ _⟩
  · exact ⟨_, by simp [eqGuard, binOp, Op.intArith], mkInt_rel N h _ _⟩
  · exact ⟨_, by simp [eqGuard, binOp, Op.intArith], mkInt_rel N h _ _⟩
  · have hb := hp _ rfl
    exact ⟨_, by simp [eqGuard, binOp, Op.intDiv, hb], mkInt_rel N h _ _⟩
  · have hb := hp _ rfl
    exact ⟨_, by simp [eqGuard, binOp, Op.intDiv, hb], mkInt_rel N h _ _⟩
  · exact ⟨_, by simp [eqGuard, binOp, Op.intCmp], mkBool_rel N h _⟩
  · exact ⟨_, by simp [eqGuard, binOp, Op.intCmp], mkBool_rel N h _⟩
  · exact ⟨_, by simp [eqGuard, binOp, Op.intCmp], mkBool_rel N h _⟩
  · exact ⟨_, by simp [eqGuard, binOp, Op.intCmp], mkBool_rel N h _⟩
  · exact ⟨_, by simp [eqGuard, binOp, Op.intCmp], mkBool_rel N h _⟩
  · exact ⟨_, by simp [eqGuard, binOp, Op.intCmp], mkBool_rel N h _⟩

theorem evStrBin_run {op : BinOp} {a b : ByteArray} {r : SV} {p : Option Prop} (e : evStrBin op a b = some (r, p)) (hp : ∀ q, p = some q → q) (t : TypeId) (xo yo : Operand) :
    Yields P (do eqGuard op t xo yo (.string a) (.string b); binOp op t (.string a) (.string b)) w N h r := by
  unfold evStrBin at e
  split at e <;> first | (cases e; done) | (injection e with e; injection e with e1 e2; subst e1 e2)
  · have hb := hp _ rfl
    refine ⟨_, ?_, mkStr_rel N h _⟩
    have : ¬ ((a.size + b.size : Nat) : Int) > IntKind.i64.max := by
      have : IntKind.i64.max = 9223372036854775807 := rfl
      omega
    simp only [eqGuard, binOp, Op.stringOp, Sem.run_bind]
    rw [if_neg this]
    rfl
  · exact ⟨_, by simp [eqGuard, binOp, Op.stringOp], mkBool_rel N h _⟩
  · exact ⟨_, by simp [eqGuard, binOp, Op.stringOp], mkBool_rel N h _⟩

theorem evBin_run (hE : EnvOk P E) {op : BinOp} {t : TypeId} {x y : SV} {r : SV} {p : Option Prop} (e : evBin E op t x y = some (r, p)) (hp : ∀ q, p = some q → q)
    {u v : Value} (hx : x.rel N h u) (hy : y.rel N h v) (xo yo : Operand) :
    Yields P (do eqGuard op t xo yo u v; binOp op t u v) w N h r := by
  unfold evBin at e
  split at e
  · rename_i k a ha
    split at e
    · rename_i k' b hb
      cases hs : sameKind k k' with
      | false => rw [hs] at e; cases e
      | true =>
        rw [hs] at e
        have := sameKind_eq hs
        subst this
        rw [asInt_rel ha hx, asInt_rel hb hy]
        exact evIntBin_run e hp t xo yo
    · cases e
  · rename_i hni
    split at e
    · rename_i a ha
      split at e
      · rename_i b hb
        rw [asStr_rel ha hx, asStr_rel hb hy]
        exact evStrBin_run e hp t xo yo
      · cases e
    · rename_i hns
      split at e
      · rename_i ti hti
        split at e
        · rename_i te hte
          obtain ⟨d, hd, _, hk⟩ := (hE.tt t ti hti).und
          rw [hte] at hk
          simp only at hk
          subst hk
          have eq : ∀ q : Option Addr, (Op.equal t (.pointer q) (.pointer none)).run P w = .ok q.isNone w := by
            intro q
            have hh : ∀ d : Nat, (Op.equalIn (d + 1) t (.pointer q) (.pointer none)).run P w = .ok q.isNone w := fun d => by
              cases q <;> simp [Op.equalIn, run_underlying hd]
            exact hh 9999
          unfold evNil at e
          split at e
          · simp only [SV.rel, Leaf.rel] at hy
            subst hy
            split at e
            · split at e
              · rename_i T y
                injection e with e; injection e with e1 e2; subst e1 e2
                obtain ⟨cs, g1, rfl⟩ := SV.tv_iff.1 hx
                rcases g1 with ⟨rfl, rfl⟩ | ⟨z, ad, ds, rfl, rfl, _⟩
                · exact ⟨.bool true, by simp [eqGuard, binOp, Ty.val, eq], mkBool_rel N h _⟩
                · exact ⟨.bool false, by simp [eqGuard, binOp, Ty.val, eq], mkBool_rel N h _⟩
              · injection e with e; injection e with e1 e2; subst e1 e2
                simp only [SV.rel, Leaf.rel] at hx
                subst hx
                exact ⟨.bool true, by simp [eqGuard, binOp, eq], by simp only [SV.rel, Leaf.rel]⟩
              · injection e with e; injection e with e1 e2; subst e1 e2
                simp only [SV.rel, Leaf.rel] at hx
                subst hx
                exact ⟨.bool false, by simp [eqGuard, binOp, eq], by simp only [SV.rel, Leaf.rel]⟩
              · cases e
            · split at e
              · rename_i T y
                injection e with e; injection e with e1 e2; subst e1 e2
                obtain ⟨cs, g1, rfl⟩ := SV.tv_iff.1 hx
                rcases g1 with ⟨rfl, rfl⟩ | ⟨z, ad, ds, rfl, rfl, _⟩
                · exact ⟨.bool false, by simp [eqGuard, binOp, Ty.val, eq], mkBool_rel N h _⟩
                · exact ⟨.bool true, by simp [eqGuard, binOp, Ty.val, eq], mkBool_rel N h _⟩
              · injection e with e; injection e with e1 e2; subst e1 e2
                simp only [SV.rel, Leaf.rel] at hx
                subst hx
                exact ⟨.bool false, by simp [eqGuard, binOp, eq], by simp only [SV.rel, Leaf.rel]⟩
              · injection e with e; injection e with e1 e2; subst e1 e2
                simp only [SV.rel, Leaf.rel] at hx
                subst hx
                exact ⟨.bool true, by simp [eqGuard, binOp, eq], by simp only [SV.rel, Leaf.rel]⟩
              · cases e
            · cases e
          · cases e
        · rename_i hte
          obtain ⟨d, hd, _, hk⟩ := (hE.tt t ti hti).und
          rw [hte] at hk
          simp only at hk
          subst hk
          have eq0 : (Op.equal t .nilIface .nilIface).run P w = .ok true w := by
            have hh : ∀ d : Nat, (Op.equalIn (d + 1) t .nilIface .nilIface).run P w = .ok true w := fun d => by
              simp [Op.equalIn, run_underlying hd]
            exact hh 9999
          have eg0 : (Op.eqGuardIn Op.maxDepth t .nilIface .nilIface).run P w = .ok false w := by
            have hh : ∀ d : Nat, (Op.eqGuardIn (d + 1) t .nilIface .nilIface).run P w = .ok false w := fun d => by
              simp [Op.eqGuardIn, run_underlying hd]
            exact hh 9999
          have eq1 : ∀ q v, (Op.equal t (.iface q v) .nilIface).run P w = .ok false w := fun q v => by
            have hh : ∀ d : Nat, (Op.equalIn (d + 1) t (.iface q v) .nilIface).run P w = .ok false w := fun d => by
              simp [Op.equalIn, run_underlying hd]
            exact hh 9999
          unfold evNilI at e
          split at e
          · simp only [SV.rel, Leaf.rel] at hy
            subst hy
            split at e
            · split at e
              · rename_i a
                injection e with e; injection e with e1 e2; subst e1 e2
                obtain ⟨cs, g1, rfl⟩ := SV.tv_iff.1 hx
                simp only [rep] at g1
                cases g1 with
                | nil => exact ⟨.bool true, by cases xo <;> cases yo <;> simp [eqGuard, binOp, Ty.val, eq0, eg0], mkBool_rel N h _⟩
                | leaf => exact ⟨.bool false, by simp [eqGuard, binOp, Ty.val, eq1], mkBool_rel N h _⟩
                | inner => exact ⟨.bool false, by simp [eqGuard, binOp, Ty.val, eq1], mkBool_rel N h _⟩
              · injection e with e; injection e with e1 e2; subst e1 e2
                simp only [SV.rel, Leaf.rel] at hx
                subst hx
                exact ⟨.bool true, by cases xo <;> cases yo <;> simp [eqGuard, binOp, eq0, eg0], by simp only [SV.rel, Leaf.rel]⟩
              · cases e
            · split at e
              · rename_i a
                injection e with e; injection e with e1 e2; subst e1 e2
                obtain ⟨cs, g1, rfl⟩ := SV.tv_iff.1 hx
                simp only [rep] at g1
                cases g1 with
                | nil => exact ⟨.bool false, by cases xo <;> cases yo <;> simp [eqGuard, binOp, Ty.val, eq0, eg0], mkBool_rel N h _⟩
                | leaf => exact ⟨.bool true, by simp [eqGuard, binOp, Ty.val, eq1], mkBool_rel N h _⟩
                | inner => exact ⟨.bool true, by simp [eqGuard, binOp, Ty.val, eq1], mkBool_rel N h _⟩
              · injection e with e; injection e with e1 e2; subst e1 e2
                simp only [SV.rel, Leaf.rel] at hx
                subst hx
                exact ⟨.bool false, by cases xo <;> cases yo <;> simp [eqGuard, binOp, eq0, eg0], by simp only [SV.rel, Leaf.rel]⟩
              · cases e
            · cases e
          · cases e
        split at e
        · rename_i T hT
          cases hpl : T.plain with
          | false => rw [hpl] at e; cases e
          | true =>
            rw [hpl] at e
            simp only [cond_true, argValK_eq] at e
            split at e
            · rename_i a ha
              split at e
              · rename_i b hb
                obtain ⟨cs, g1, rfl⟩ := argVal_rel ha hx
                obtain ⟨ds, g2, rfl⟩ := argVal_rel hb hy
                obtain ⟨_, _, hq⟩ := (hE.tt t ti hti).ty T hT
                -- neither integers nor strings
                have hkind : (∃ b, T.val cs = .bool b) ∨ (∃ c, T.val cs = .agg c) := by
                  cases T with
                  | bool => simp only [rep] at g1; subst g1; exact .inl ⟨_, rfl⟩
                  | unit => exact .inr ⟨_, rfl⟩
                  | pair _ _ => exact .inr ⟨_, rfl⟩
                  | sl _ => cases hpl
                  | opt _ => cases hpl
                  | mp _ _ => cases hpl
                  | nd _ _ _ _ => cases hpl
                  | int k =>
                    exfalso
                    unfold argVal at ha
                    split at ha
                    · rename_i t' z
                      split at ha
                      · rename_i ht; subst ht; simp [asInt] at hni
                      · cases ha
                    · rename_i l hl
                      simp only [Ty.isAgg, cond_false, implode] at ha
                      split at ha
                      · rename_i z hz
                        unfold popInt at hz
                        split at hz
                        · rename_i k' n rr hlist
                          injection hlist with h1 h2
                          exact hl _ _ h1
                        · cases hz
                      · cases ha
                    · cases ha
                    · cases ha
                  | str =>
                    exfalso
                    unfold argVal at ha
                    split at ha
                    · rename_i t' z
                      split at ha
                      · rename_i ht; subst ht; simp [asStr] at hns
                      · cases ha
                    · rename_i l hl
                      simp only [Ty.isAgg, cond_false, implode] at ha
                      split at ha
                      · rename_i z hz
                        unfold popStr at hz
                        split at hz
                        · rename_i n rr hlist
                          injection hlist with h1 h2
                          exact hl _ _ h1
                        · cases hz
                      · cases ha
                    · cases ha
                    · cases ha
                have hrun := hq hpl a b h cs ds w xo yo op g1 g2
                split at e
                · injection e with e; injection e with e1 e2; subst e1 e2
                  refine ⟨.bool (T.beq a b), ?_, mkBool_rel N h _⟩
                  rcases hkind with ⟨c, hc⟩ | ⟨c, hc⟩
                  · rw [hc] at hrun ⊢
                    simp only [Sem.run_bind, hrun.1, Result.andThen_ok, binOp, hrun.2, Sem.run_pure]
                  · rw [hc] at hrun ⊢
                    simp only [Sem.run_bind, hrun.1, Result.andThen_ok, binOp, hrun.2, Sem.run_pure]
                · injection e with e; injection e with e1 e2; subst e1 e2
                  refine ⟨.bool (!T.beq a b), ?_, mkBool_rel N h _⟩
                  rcases hkind with ⟨c, hc⟩ | ⟨c, hc⟩
                  · rw [hc] at hrun ⊢
                    simp only [Sem.run_bind, hrun.1, Result.andThen_ok, binOp, hrun.2, Sem.run_pure]
                  · rw [hc] at hrun ⊢
                    simp only [Sem.run_bind, hrun.1, Result.andThen_ok, binOp, hrun.2, Sem.run_pure]
                · cases e
              · cases e
            · cases e
        · cases e
      · cases e

theorem evUn_run {op : UnOp} {x : SV} {r : SV} {p : Option Prop} (e : evUn op x = some (r, p)) {u : Value} (hx : x.rel N h u) : Yields P (Op.unary op u) w N h r := by
  unfold evUn at e
  split at e
  · split at e
    · rename_i b hb
      injection e with e; injection e with e1 e2; subst e1 e2
      rw [asBool_rel hb hx]
      exact ⟨_, by simp [Op.unary], mkBool_rel N h _⟩
    · cases e
  · split at e
    · rename_i k n hb
      injection e with e; injection e with e1 e2; subst e1 e2
      rw [asInt_rel hb hx]
      exact ⟨_, by simp [Op.unary, Op.intArith], mkInt_rel N h _ _⟩
    · cases e
  · cases e

/-- A part of cells that are known, loaded. -/
theorem partOf_load {t : TypeId} {ti : TI} (hT : TIok P t ti) {ls : List Leaf} {off : Nat} {s : SV} (e : partOf ti ls off = some s) {cs : List Value} (hr : LeafRels N h ls cs) (h1 : ∀ u ∈ cs, u.oneCell' = true)
    (a : Addr) (hc : ∀ (j : Nat) u, cs[j]? = some u → w.cell? (a.add j) = some u) : Yields P (Instr.loadAt t (.pointer (some (a.add off)))) w N h s := by
  unfold partOf at e
  cases hb : Nat.ble (off + ti.size) ls.length with
  | false => rw [hb] at e; cases e
  | true =>
    rw [hb] at e
    have hle : off + ti.size ≤ ls.length := Nat.le_of_ble_eq_true hb
    have hlen := LeafRels.length _ _ hr
    simp only [cond_true] at e
    have hcells : ∀ (j : Nat) u, ((cs.drop off).take ti.size)[j]? = some u → w.cell? ((a.add off).add j) = some u := by
      intro j u hu
      rw [add_add]
      rw [List.getElem?_take] at hu
      split at hu
      · rw [List.getElem?_drop] at hu
        exact hc _ _ hu
      · cases hu
    have hl2 : ((cs.drop off).take ti.size).length = ti.size := by simp; omega
    cases ha : ti.isAgg with
    | true =>
      rw [ha] at e
      simp only [cond_true] at e
      injection e with e; subst e
      refine ⟨_, run_loadAt_of hT (a.add off) _ hl2 hcells (fun hh => by rw [ha] at hh; cases hh), ?_⟩
      rw [ha]
      refine ⟨(cs.drop off).take ti.size, rfl, LeafRels.take _ _ _ (LeafRels.drop _ _ _ hr), fun u hu => h1 u (List.mem_of_mem_drop (List.mem_of_mem_take hu))⟩
    | false =>
      rw [ha] at e
      simp only [cond_false] at e
      split at e
      · rename_i l hl
        injection e with e; subst e
        obtain ⟨v, g1, g2⟩ := LeafRels.get _ _ hr off l hl
        have hrun : (Instr.loadAt t (.pointer (some (a.add off)))).run P w = .ok v w := by
          unfold Instr.loadAt Instr.sureAddr
          simp only [Sem.run_bind, Sem.run_pure, Result.andThen_ok]
          rw [run_loadVar_of hT (a.add off) _ hl2 hcells, ha]
          simp only [Bool.false_eq_true, if_false]
          exact run_load_cell (hc off v g1)
        exact ⟨v, hrun, g2⟩
      · cases e

theorem dataAt_load {t : TypeId} {ti : TI} (hT : TIok P t ti) {T : Ty} {x : T.den} {off : Nat} {s : SV} (e : dataAt ti T x off = some s) {cs : List Value} (hr : rep h T x cs)
    (a : Addr) (hc : ∀ (j : Nat) u, cs[j]? = some u → w.cell? (a.add j) = some u) : Yields P (Instr.loadAt t (.pointer (some (a.add off)))) w N h s := by
  unfold dataAt at e
  cases hb : (Nat.beq off 0 && Nat.beq ti.size T.size && (ti.isAgg == T.isAgg)) with
  | false =>
    rw [hb] at e
    exact partOf_load hT e (explode_rel T x cs hr) (rep_one T x cs hr) a hc
  | true =>
    rw [hb] at e
    simp only [Bool.and_eq_true, beq_iff_eq] at hb
    obtain ⟨⟨g1, g2⟩, g3⟩ := hb
    have g1' : off = 0 := Nat.eq_of_beq_eq_true g1
    have g2' : ti.size = T.size := Nat.eq_of_beq_eq_true g2
    subst g1'
    simp only [cond_true] at e
    injection e with e; subst e
    refine ⟨_, run_loadAt_of hT (a.add 0) cs (by rw [rep_len T x cs hr, g2']) (fun j u hu => by rw [add_add, Nat.zero_add]; exact hc j u hu) (fun hh => ?_), ?_⟩
    · obtain ⟨e1, _⟩ := val_one T x cs hr (by rw [← g3]; exact hh)
      exact ⟨_, by rw [e1]; rfl⟩
    · refine ⟨cs, hr, ?_⟩
      rw [g3]
      cases ha : T.isAgg with
      | true => cases T <;> first | rfl | cases ha
      | false => cases T <;> first | rfl | cases ha

theorem getD_of_lt {α : Type} {xs : List α} {i : Nat} {d : α} (hi : i < xs.length) : xs[i]? = some (xs.getD i d) := by simp [List.getD, List.getElem?_eq_getElem hi]

theorem evLoad_run (hE : EnvOk P E) (hM : MemSat B w0 bs rs N h w) (hG : GlobOk E.gl h) {t : TypeId} {a : SV} {r : SV} {p : Option Prop} (e : evLoad E bs rs t a = some (r, p)) {u : Value} (ha : a.rel N h u) :
    Yields P (Instr.loadAt t u) w N h r := by
  unfold evLoad at e
  split at e
  · rename_i ti hti
    have hT := hE.tt t ti hti
    split at e
    · rename_i i off
      split at e
      · rename_i bt bc hb
        split at e
        · rename_i s hs
          injection e with e; injection e with e1 e2; subst e1 e2
          obtain ⟨o, g1, g2, _⟩ := hM.blk i _ hb
          obtain ⟨cs, rfl, g2, g3⟩ := BlkSat.cells.1 g2
          simp only [SV.rel, Leaf.rel] at ha
          subst ha
          have := partOf_load (w := w) hT hs g2 g3 ⟨N.ρ i, 0, none⟩ (fun j u hu => by
            rw [add_lit]
            simp only [World.cell?, g1]
            simpa using hu)
          rw [add_lit, Nat.zero_add] at this
          exact this
        · cases e
      · cases e
    · rename_i g off
      split at e
      · rename_i T x hg
        split at e
        · rename_i s hs
          injection e with e; injection e with e1 e2; subst e1 e2
          simp only [SV.rel, Leaf.rel] at ha
          subst ha
          obtain ⟨cs, g1, g2⟩ := hG g T x hg
          have := dataAt_load (w := w) (N := N) hT hs g1 ⟨g, 0, none⟩ (fun j u hu => cell_of_hcell hM.pin (g2 j u hu))
          rw [add_lit, Nat.zero_add] at this
          exact this
        · cases e
      · cases e
    · rename_i T xs i off
      split at e
      · rename_i s hs
        injection e with e; injection e with e1 e2; subst e1 e2
        simp only [SV.rel, Leaf.rel] at ha
        obtain ⟨hi, ad, rfl, hl⟩ := ha
        obtain ⟨ds, g1, g2⟩ := hl i _ (getD_of_lt (d := T.dflt) hi)
        have := dataAt_load (w := w) (N := N) hT hs g1 (ad.add (i * T.size)) (fun j u hu => cell_of_hcell hM.pin (g2 j u hu))
        rw [add_add] at this
        exact this
      · cases e
    · rename_i rr sz i off
      split at e
      · rename_i R hR
        cases hz : Nat.beq sz R.t.size with
        | false => rw [hz] at e; cases e
        | true =>
          rw [hz] at e
          have hsz : sz = R.t.size := Nat.eq_of_beq_eq_true hz
          subst hsz
          simp only [cond_true] at e
          split at e
          · rename_i s hs
            injection e with e; injection e with e1 e2; subst e1 e2
            simp only [SV.rel, Leaf.rel] at ha
            obtain ⟨g, len, cap, hV, hi, rfl⟩ := ha
            obtain ⟨cs, ho, hrc⟩ := hM.row rr R hR
            have hlen : len = R.xs.length := by
              rcases ho.2 with ⟨e0, _⟩ | ⟨g', cap', cur, e0, _⟩
              · rw [hV] at e0; cases e0
              · rw [hV] at e0; injection e0
            subst hlen
            obtain ⟨ds, g1, g2⟩ := RowCells_at R.t R.xs cs hrc i _ (getD_of_lt (d := R.t.dflt) hi)
            have hcell := ho.cells (g := g) (by rw [hV]; rfl)
            have := dataAt_load (w := w) (N := N) hT hs g1 ⟨g, i * R.t.size, none⟩ (fun j u hu => by
              have := hcell _ _ (g2 j u hu)
              rw [add_lit] at this ⊢
              rw [Nat.zero_add] at this
              exact this)
            rw [add_lit] at this
            exact this
          · cases e
      · cases e
    · cases e
  · cases e

theorem evFieldAddr_run (hE : EnvOk P E) {s : TypeId} {x : SV} {f : Nat} {r : SV} {p : Option Prop} (e : evFieldAddr E s x f = some (r, p)) {u : Value} (hx : x.rel N h u) :
    Yields P (Instr.fieldAt s u f) w N h r := by
  unfold evFieldAddr at e
  split at e
  · rename_i ti hti
    have hT := hE.tt s ti hti
    obtain ⟨d, hd, _, hk⟩ := hT.und
    split at e
    · rename_i fs hfs
      rw [hfs] at hk
      obtain ⟨gs, rfl, hgl, hg⟩ := hk
      split at e
      · rename_i o n _ hf
        obtain ⟨g, i, dd, g1, g2, g3, g4, _⟩ := hg f _ hf
        simp only at g2 g4
        cases hn : Nat.beq n 0 with
        | true => rw [hn] at e; cases e
        | false =>
          rw [hn] at e
          have hn0 : ¬ i.size = 0 := fun hh => by rw [g4] at hh; subst hh; cases hn
          simp only [cond_false] at e
          have run : ∀ ad : Addr, (Instr.fieldAt s (.pointer (some ad)) f).run P w = .ok (.pointer (some (ad.add o))) w := by
            intro ad
            simp [Instr.fieldAt, run_underlying hd, g1, Instr.sureAddr, fieldPlace, run_sizeOf_of g3, hn0, g2]
          split at e
          · injection e with e; injection e with e1 e2; subst e1 e2
            simp only [SV.rel, Leaf.rel] at hx
            subst hx
            exact ⟨_, run _, by rw [add_lit]; rfl⟩
          · injection e with e; injection e with e1 e2; subst e1 e2
            obtain ⟨h1, ad, rfl, h2⟩ := hx
            exact ⟨_, run _, h1, ad, by rw [add_add, Nat.add_assoc], h2⟩
          · injection e with e; injection e with e1 e2; subst e1 e2
            obtain ⟨g, len, cap, h1, h2, rfl⟩ := hx
            exact ⟨_, run _, g, len, cap, h1, h2, by rw [add_lit, Nat.add_assoc]⟩
          · cases e
      · cases e
    · cases e
  · cases e

theorem mid_rel {ls : List Leaf} {cs : List Value} (hr : LeafRels N h ls cs) (o n : Nat) : LeafRels N h (mid ls o n) ((cs.drop o).take n) := LeafRels.take _ _ _ (LeafRels.drop _ _ _ hr)

theorem aggOf_rel {x : SV} {ls : List Leaf} (e : aggOf x = some ls) {v : Value} (hx : x.rel N h v) : ∃ cs : List Value, v = .agg cs.toArray ∧ LeafRels N h ls cs ∧ ∀ u ∈ cs, u.oneCell' = true := by
  unfold aggOf at e
  split at e
  · rename_i t x
    cases ha : t.isAgg with
    | false => rw [ha] at e; cases e
    | true =>
      rw [ha] at e
      simp only [cond_true] at e
      injection e with e; subst e
      obtain ⟨cs, g1, rfl⟩ := hx
      refine ⟨cs, ?_, explode_rel _ _ _ g1, rep_one _ _ _ g1⟩
      cases t <;> first | rfl | cases ha
  · injection e with e; subst e
    exact hx
  · cases e

/-- A part of a value's cells. -/
theorem partOf_run {t : TypeId} {ti : TI} (hT : TIok P t ti) {ls : List Leaf} {off : Nat} {s : SV} (e : partOf ti ls off = some s) {cs : List Value} (hr : LeafRels N h ls cs) (h1 : ∀ u ∈ cs, u.oneCell' = true) :
    Yields P (part t cs.toArray off) w N h s := by
  unfold partOf at e
  cases hb : Nat.ble (off + ti.size) ls.length with
  | false => rw [hb] at e; cases e
  | true =>
    rw [hb] at e
    simp only [cond_true] at e
    unfold part
    simp only [Yields, Sem.run_bind, hT.agg_run, Result.andThen_ok]
    cases ha : ti.isAgg with
    | true =>
      rw [ha] at e
      simp only [cond_true] at e
      injection e with e; subst e
      refine ⟨.agg ((cs.drop off).take ti.size).toArray, ?_, (cs.drop off).take ti.size, rfl, mid_rel hr off ti.size, fun u hu => h1 u (List.mem_of_mem_drop (List.mem_of_mem_take hu))⟩
      simp only [if_true, Sem.run_bind, hT.size_run, Result.andThen_ok, Sem.run_pure]
      congr 2
      apply Array.ext'
      simp
    | false =>
      rw [ha] at e
      simp only [cond_false] at e
      split at e
      · rename_i l hl
        injection e with e; subst e
        obtain ⟨v, g1, g2⟩ := LeafRels.get _ _ hr off l hl
        exact ⟨v, by simp [g1], g2⟩
      · cases e

theorem evField_run (hE : EnvOk P E) {s : TypeId} {x : SV} {f : Nat} {r : SV} {p : Option Prop} (e : evField E s x f = some (r, p)) {u : Value} (hx : x.rel N h u) :
    Yields P (Instr.field s u f) w N h r := by
  unfold evField at e
  split at e
  · rename_i ti hti
    have hT := hE.tt s ti hti
    obtain ⟨d, hd, _, hk⟩ := hT.und
    split at e
    · rename_i fs hfs
      rw [hfs] at hk
      obtain ⟨gs, rfl, hgl, hg⟩ := hk
      split at e
      · rename_i o n gg hf
        obtain ⟨g, i, dd, g1, g2, g3, g4, g5, g6⟩ := hg f _ hf
        simp only at g2 g4 g6
        split at e
        · rename_i ls hls
          obtain ⟨cs, rfl, q1, q2⟩ := aggOf_rel hls hx
          have hlen := LeafRels.length _ _ q1
          cases hb : Nat.ble (o + n) ls.length with
          | false => rw [hb] at e; cases e
          | true =>
            rw [hb] at e
            simp only [cond_true] at e
            have run : (Instr.field s (.agg cs.toArray) f).run P w = (part g.type cs.toArray o).run P w := by
              simp [Instr.field, run_underlying hd, g1, asAgg, g2]
            rw [Yields, run]
            unfold part
            simp only [Sem.run_bind, run_isAgg_of g5, Result.andThen_ok, g6]
            cases gg with
            | true =>
              simp only [cond_true] at e
              injection e with e; injection e with e1 e2; subst e1 e2
              refine ⟨.agg ((cs.drop o).take n).toArray, ?_, (cs.drop o).take n, rfl, mid_rel q1 o n, fun u hu => q2 u (List.mem_of_mem_drop (List.mem_of_mem_take hu))⟩
              simp only [if_true, Sem.run_bind, run_sizeOf_of g3, g4, Result.andThen_ok, Sem.run_pure]
              congr 2
              apply Array.ext'
              simp
            | false =>
              simp only [cond_false] at e
              split at e
              · rename_i l hl
                injection e with e; injection e with e1 e2; subst e1 e2
                obtain ⟨v, k1, k2⟩ := LeafRels.get _ _ q1 o l hl
                exact ⟨v, by simp [k1], k2⟩
              · cases e
        · cases e
      · cases e
    · cases e
  · cases e

theorem evIndexAddr_run (hE : EnvOk P E) (hM : MemSat B w0 bs rs N h w) {t : TypeId} {x ix : SV} {r : SV} {p : Option Prop} (e : evIndexAddr E rs t x ix = some (r, p)) (hp : ∀ q, p = some q → q)
    {u v : Value} (hx : x.rel N h u) (hi : ix.rel N h v) : Yields P (Instr.indexAt t u v) w N h r := by
  unfold evIndexAddr at e
  split at e
  · cases e
  · rename_i k z hz
    rw [asInt_rel hz hi]
    split at e
    · cases e
    · rename_i ti hti
      have hT := hE.tt t ti hti
      obtain ⟨d, hd, _, hk⟩ := hT.und
      split at e
      · rename_i te hte
        rw [hte] at hk
        simp only at hk
        subst hk
        split at e
        · cases e
        · rename_i tei htei
          have hTe := hE.tt te tei htei
          have run : ∀ (A : Addr) (len cap : Nat), 0 ≤ z → z < (len : Int) → (Instr.indexAt t (.slice (some A) len cap) (.int k z)).run P w = .ok (.pointer (some (A.add (z.toNat * tei.size)))) w := by
            intro A len cap h1 h2
            simp [Instr.indexAt, run_underlying hd, asIntOf, h1, h2, hTe.size_run]
          split at e
          · rename_i T xs
            cases hs : Nat.beq tei.size T.size with
            | false => rw [hs] at e; cases e
            | true =>
              rw [hs] at e
              have hs' := Nat.eq_of_beq_eq_true hs
              simp only [cond_true] at e
              injection e with e; injection e with e1 e2; subst e1
              obtain ⟨h1, h2⟩ := hp _ e2.symm
              obtain ⟨cs, g1, rfl⟩ := hx
              obtain ⟨A, c, rfl, g2, g3, g4⟩ := g1
              cases A with
              | none =>
                have := g3 rfl
                subst this
                simp at h2
                omega
              | some ad =>
                refine ⟨_, run ad _ c h1 h2, by omega, ad, by rw [hs', Nat.add_zero], fun i y hy => g4 i y ad hy rfl⟩
          · rename_i rr
            split at e
            · rename_i R hR
              cases hs : Nat.beq tei.size R.t.size with
              | false => rw [hs] at e; cases e
              | true =>
                rw [hs] at e
                have hs' := Nat.eq_of_beq_eq_true hs
                simp only [cond_true] at e
                injection e with e; injection e with e1 e2; subst e1
                obtain ⟨h1, h2⟩ := hp _ e2.symm
                obtain ⟨rfl, _⟩ := hx
                obtain ⟨cs, ho, hrc⟩ := hM.row rr R hR
                rcases ho.2 with ⟨_, e0⟩ | ⟨g, cap, cur, e0, _⟩
                · rw [e0] at h2; simp at h2; omega
                · rw [e0]
                  refine ⟨_, run _ _ _ h1 h2, g, R.xs.length, cap, e0, by omega, ?_⟩
                  rw [add_lit, hs', Nat.zero_add, Nat.add_zero]
            · cases e
          · cases e
      · rename_i n te es hte
        rw [hte] at hk
        simp only at hk
        obtain ⟨rfl, i, hie, his⟩ := hk
        have run : ∀ A : Addr, 0 ≤ z → z < (n : Int) → (Instr.indexAt t (.pointer (some A)) (.int k z)).run P w = .ok (.pointer (some (A.add (z.toNat * es)))) w := by
          intro A h1 h2
          simp [Instr.indexAt, run_underlying hd, asIntOf, Instr.sureAddr, h1, h2, run_sizeOf_of hie, his]
        split at e
        · injection e with e; injection e with e1 e2; subst e1
          obtain ⟨h1, h2⟩ := hp _ e2.symm
          simp only [SV.rel, Leaf.rel] at hx
          subst hx
          exact ⟨_, run _ h1 h2, by rw [add_lit]; rfl⟩
        · injection e with e; injection e with e1 e2; subst e1
          obtain ⟨h1, h2⟩ := hp _ e2.symm
          simp only [SV.rel, Leaf.rel] at hx
          subst hx
          exact ⟨_, run _ h1 h2, by rw [add_lit]; rfl⟩
        · injection e with e; injection e with e1 e2; subst e1
          obtain ⟨h1, h2⟩ := hp _ e2.symm
          obtain ⟨q1, ad, rfl, q2⟩ := hx
          exact ⟨_, run _ h1 h2, q1, ad, by rw [add_add, Nat.add_assoc], q2⟩
        · injection e with e; injection e with e1 e2; subst e1
          obtain ⟨h1, h2⟩ := hp _ e2.symm
          obtain ⟨g, len, cap, q1, q2, rfl⟩ := hx
          exact ⟨_, run _ h1 h2, g, len, cap, q1, q2, by rw [add_lit, Nat.add_assoc]⟩
        · cases e
      · cases e

theorem evIndex_run (hE : EnvOk P E) {t : TypeId} {x ix : SV} {r : SV} {p : Option Prop} (e : evIndex E t x ix = some (r, p)) (hp : ∀ q, p = some q → q)
    {u v : Value} (hx : x.rel N h u) (hi : ix.rel N h v) : Yields P (Instr.index t u v) w N h r := by
  unfold evIndex at e
  split at e
  · cases e
  · rename_i k z hz
    rw [asInt_rel hz hi]
    split at e
    · cases e
    · rename_i ti hti
      have hT := hE.tt t ti hti
      obtain ⟨d, hd, _, hk⟩ := hT.und
      split at e
      · rename_i n te es hte
        rw [hte] at hk
        simp only at hk
        obtain ⟨rfl, i, hie, his⟩ := hk
        split at e
        · cases e
        · rename_i tei htei
          have hTe := hE.tt te tei htei
          split at e
          · rename_i ls hls
            obtain ⟨cs, rfl, q1, q2⟩ := aggOf_rel hls hx
            split at e
            · rename_i s hs
              injection e with e; injection e with e1 e2; subst e1
              obtain ⟨h1, h2⟩ := hp _ e2.symm
              obtain ⟨v, g1, g2⟩ := partOf_run (P := P) (w := w) hTe hs q1 q2
              refine ⟨v, ?_, g2⟩
              simp only [Instr.index, asIntOf, Sem.run_bind, Sem.run_pure, Result.andThen_ok, run_underlying hd]
              rw [if_pos ⟨h1, h2⟩]
              simp only [Sem.run_bind, hTe.size_run, Result.andThen_ok]
              exact g1
            · cases e
          · cases e
      · rename_i hte
        rw [hte] at hk
        simp only at hk
        subst hk
        split at e
        · rename_i s
          injection e with e; injection e with e1 e2; subst e1
          obtain ⟨h1, h2⟩ := hp _ e2.symm
          obtain ⟨cs, g1, rfl⟩ := hx
          simp only [rep] at g1
          subst g1
          refine ⟨_, ?_, mkInt_rel N h _ _⟩
          have hlt : z.toNat < ByteArray.size s := by omega
          have hb : (ByteArray.data s)[z.toNat]? = some ((ByteArray.data s)[z.toNat]'hlt) := Array.getElem?_eq_getElem hlt
          have hb' : (s : ByteArray)[z.toNat]? = some ((ByteArray.data s)[z.toNat]'hlt) := by
            rw [getElem?_pos (s : ByteArray) z.toNat hlt]
            rfl
          simp only [Instr.index, asIntOf, run_underlying hd, Ty.val, List.headD_cons, Sem.run_bind, Sem.run_pure, Result.andThen_ok, if_pos h1, hb', hb, Option.getD_some]
        · cases e
      · cases e

theorem asInt_opt {x : Option SV} {y : SV} {u : Option Value} (hx : x = some y) (hr : ∀ s v, x = some s → u = some v → s.rel N h v) (hn : x.isSome = u.isSome) : ∃ v, u = some v ∧ y.rel N h v := by
  subst hx
  cases u with
  | none => cases hn
  | some v => exact ⟨v, rfl, hr _ _ rfl rfl⟩

/-- A list cut. -/
theorem list_cut {T : Ty} {xs : List T.den} {A : Option Addr} {c : Nat} (hA : A = none → xs = []) (hc : xs.length ≤ c)
    (hl : ∀ (i : Nat) x ad, xs[i]? = some x → A = some ad → ∃ ds, rep h T x ds ∧ CellsAt h (ad.add (i * T.size)) ds) (l n : Nat) (h1 : l ≤ n) (h2 : n ≤ xs.length) :
    rep h (.sl T) (List.drop l (List.take n xs)) [.slice (if c = l then A else A.map (·.add (l * T.size))) (n - l) (c - l)] := by
  refine ⟨(if c = l then A else A.map (·.add (l * T.size))), c - l, ?_, ?_, ?_, ?_⟩
  · have : (List.drop l (List.take n xs)).length = n - l := by simp; omega
    rw [this]
  · simp; omega
  · intro hn
    split at hn
    · rw [hA hn]; simp
    · cases A with
      | none => rw [hA rfl]; simp
      | some a => cases hn
  · intro i x ad hx had
    rw [List.getElem?_drop, List.getElem?_take] at hx
    split at hx
    · rename_i hlt
      split at had
      · omega
      · cases A with
        | none => cases had
        | some a =>
          injection had with had
          subst had
          obtain ⟨ds, g1, g2⟩ := hl (l + i) x a hx rfl
          refine ⟨ds, g1, ?_⟩
          rw [add_add, ← Nat.add_mul]
          exact g2
    · cases hx

theorem evSlice_run (hE : EnvOk P E) {t : TypeId} {x : SV} {lo hi : Option SV} {r : SV} {p : Option Prop} (e : evSlice E t x lo hi = some (r, p)) (hp : ∀ q, p = some q → q)
    {u : Value} {lov hiv : Option Value} (hx : x.rel N h u) (hlo : ∀ s v, lo = some s → lov = some v → s.rel N h v) (hhi : ∀ s v, hi = some s → hiv = some v → s.rel N h v)
    (hln : lo.isSome = lov.isSome) (hhn : hi.isSome = hiv.isSome) : Yields P (Instr.sliceAt t u lov hiv none) w N h r := by
  unfold evSlice at e
  split at e
  · cases e
  · rename_i ti hti
    have hT := hE.tt t ti hti
    obtain ⟨d, hd, _, hk⟩ := hT.und
    split at e
    · rename_i te hte
      rw [hte] at hk
      simp only at hk
      subst hk
      split at e
      · cases e
      · rename_i tei htei
        have hTe := hE.tt te tei htei
        split at e
        · rename_i T xs
          cases hs : Nat.beq tei.size T.size with
          | false => rw [hs] at e; cases e
          | true =>
            rw [hs] at e
            have hs' : tei.size = T.size := Nat.eq_of_beq_eq_true hs
            simp only [cond_true] at e
            obtain ⟨cs, g1, rfl⟩ := hx
            obtain ⟨A, c, rfl, g2, g3, g4⟩ := g1
            have fin : ∀ (l n : Nat), l ≤ n → n ≤ xs.length → ∀ s : Sem Value, s.run P w = .ok (.slice (if c = l then A else A.map (·.add (l * tei.size))) (n - l) (c - l)) w → Yields P s w N h (.leaf (.tv (.sl T) (List.drop l (List.take n xs)))) := by
              intro l n h1 h2 s hrun
              rw [hs'] at hrun
              exact ⟨_, hrun, _, list_cut g3 g2 g4 l n h1 h2, rfl⟩
            have g2' : (xs.length : Int) ≤ c := by omega
            split at e
            · injection e with e; injection e with e1 e2; subst e1
              obtain rfl : lov = none := by cases lov <;> first | rfl | cases hln
              obtain rfl : hiv = none := by cases hiv <;> first | rfl | cases hhn
              have := fin 0 xs.length (Nat.zero_le _) (Nat.le_refl _) (Instr.sliceAt t (Ty.val (.sl T) [.slice A xs.length c]) none none none) (by
                simp [Instr.sliceAt, Instr.slice, Instr.sliceBounds, run_underlying hd, hTe.size_run, Ty.val])
              simpa using this
            · rename_i l
              obtain ⟨lv, rfl, hl⟩ := asInt_opt rfl hlo hln
              obtain rfl : hiv = none := by cases hiv <;> first | rfl | cases hhn
              split at e
              · rename_i k l' hl'
                injection e with e; injection e with e1 e2; subst e1
                obtain ⟨h1, h2⟩ := hp _ e2.symm
                rw [asInt_rel hl' hl]
                have := fin l'.toNat xs.length (by omega) (Nat.le_refl _) (Instr.sliceAt t (Ty.val (.sl T) [.slice A xs.length c]) (some (.int k l')) none none) (by
                  simp [Instr.sliceAt, Instr.slice, Instr.sliceBounds, Instr.sliceBound, asIntOf, run_underlying hd, hTe.size_run, Ty.val, h1, h2])
                simpa using this
              · cases e
            · rename_i hh
              obtain ⟨hv, rfl, hl⟩ := asInt_opt rfl hhi hhn
              obtain rfl : lov = none := by cases lov <;> first | rfl | cases hln
              split at e
              · rename_i k l' hl'
                injection e with e; injection e with e1 e2; subst e1
                obtain ⟨h1, h2⟩ := hp _ e2.symm
                have h3 : l' ≤ (c : Int) := by omega
                rw [asInt_rel hl' hl]
                have := fin 0 l'.toNat (Nat.zero_le _) (by omega) (Instr.sliceAt t (Ty.val (.sl T) [.slice A xs.length c]) none (some (.int k l')) none) (by
                  simp [Instr.sliceAt, Instr.slice, Instr.sliceBounds, Instr.sliceBound, asIntOf, run_underlying hd, hTe.size_run, Ty.val, h1, h3])
                simpa using this
              · cases e
            · rename_i l hh
              obtain ⟨lv, rfl, hl⟩ := asInt_opt rfl hlo hln
              obtain ⟨hv, rfl, hl2⟩ := asInt_opt rfl hhi hhn
              split at e
              · rename_i k l' hl'
                split at e
                · rename_i k2 h' hh'
                  injection e with e; injection e with e1 e2; subst e1
                  obtain ⟨h1, h2, h3⟩ := hp _ e2.symm
                  rw [asInt_rel hl' hl, asInt_rel hh' hl2]
                  have h4 : h' ≤ (c : Int) := by omega
                  have h5 : 0 ≤ h' := by omega
                  have h6 : l' ≤ max h' 0 := by omega
                  have := fin l'.toNat h'.toNat (by omega) (by omega) (Instr.sliceAt t (Ty.val (.sl T) [.slice A xs.length c]) (some (.int k l')) (some (.int k2 h')) none) (by
                    simp [Instr.sliceAt, Instr.slice, Instr.sliceBounds, Instr.sliceBound, asIntOf, run_underlying hd, hTe.size_run, Ty.val, h1, h4, h5, h6])
                  simpa using this
                · cases e
              · cases e
          
        · have eqs : ∀ (s : SV) (v : Value) (q : Prop), s.rel N h v → zeroB (some s) = some q → q → ∃ kk, v = .int kk 0 := by
            intro s v q hr hz hq
            simp only [zeroB] at hz
            split at hz
            · rename_i kk n hn
              injection hz with hz
              subst hz
              rw [asInt_rel hn hr, hq]
              exact ⟨kk, rfl⟩
            · cases hz
          unfold evSliceNil at e
          split at e
          · rename_i pl hpl
            split at e
            · rename_i ph hph
              injection e with e; injection e with e1 e2; subst e1
              obtain ⟨p1, p2⟩ := hp _ e2.symm
              have hx0 := hx
              simp only [SV.rel, Leaf.rel] at hx0
              subst hx0
              refine ⟨.slice none 0 0, ?_, hx⟩
              have hlv : lov = none ∨ ∃ kk, lov = some (.int kk 0) := by
                cases lo with
                | none => cases lov <;> first | exact .inl rfl | cases hln
                | some s =>
                  cases lov with
                  | none => cases hln
                  | some v =>
                    obtain ⟨kk, rfl⟩ := eqs s v pl (hlo s v rfl rfl) hpl p1
                    exact .inr ⟨kk, rfl⟩
              have hhv : hiv = none ∨ ∃ kk, hiv = some (.int kk 0) := by
                cases hi with
                | none => cases hiv <;> first | exact .inl rfl | cases hhn
                | some s =>
                  cases hiv with
                  | none => cases hhn
                  | some v =>
                    obtain ⟨kk, rfl⟩ := eqs s v ph (hhi s v rfl rfl) hph p2
                    exact .inr ⟨kk, rfl⟩
              rcases hlv with rfl | ⟨k1, rfl⟩ <;> rcases hhv with rfl | ⟨k2, rfl⟩ <;>
                simp [Instr.sliceAt, Instr.slice, Instr.sliceBounds, Instr.sliceBound, asIntOf, run_underlying hd, hTe.size_run]
            · cases e
          · cases e
        · cases e
    · rename_i hte
      rw [hte] at hk
      simp only at hk
      subst hk
      split at e
      · rename_i s
        obtain ⟨cs, g1, rfl⟩ := hx
        simp only [rep] at g1
        subst g1
        split at e
        · injection e with e; injection e with e1 e2; subst e1
          obtain rfl : lov = none := by cases lov <;> first | rfl | cases hln
          obtain rfl : hiv = none := by cases hiv <;> first | rfl | cases hhn
          refine ⟨.string s, ?_, mkStr_rel N h _⟩
          simp [Instr.sliceAt, Instr.slice, Instr.sliceBounds, run_underlying hd, Ty.val]
        · rename_i l
          obtain ⟨lv, rfl, hl⟩ := asInt_opt rfl hlo hln
          obtain rfl : hiv = none := by cases hiv <;> first | rfl | cases hhn
          split at e
          · rename_i k l' hl'
            injection e with e; injection e with e1 e2; subst e1
            obtain ⟨h1, h2⟩ := hp _ e2.symm
            rw [asInt_rel hl' hl]
            refine ⟨_, ?_, mkStr_rel N h _⟩
            simp [Instr.sliceAt, Instr.slice, Instr.sliceBounds, Instr.sliceBound, asIntOf, run_underlying hd, Ty.val, h1, h2]
          · cases e
        · rename_i hh
          obtain ⟨hv, rfl, hl⟩ := asInt_opt rfl hhi hhn
          obtain rfl : lov = none := by cases lov <;> first | rfl | cases hln
          split at e
          · rename_i k l' hl'
            injection e with e; injection e with e1 e2; subst e1
            obtain ⟨h1, h2⟩ := hp _ e2.symm
            rw [asInt_rel hl' hl]
            refine ⟨_, ?_, mkStr_rel N h _⟩
            simp [Instr.sliceAt, Instr.slice, Instr.sliceBounds, Instr.sliceBound, asIntOf, run_underlying hd, Ty.val, h1, h2]
          · cases e
        · rename_i l hh
          obtain ⟨lv, rfl, hl⟩ := asInt_opt rfl hlo hln
          obtain ⟨hv, rfl, hl2⟩ := asInt_opt rfl hhi hhn
          split at e
          · rename_i k l' hl'
            split at e
            · rename_i k2 h' hh'
              injection e with e; injection e with e1 e2; subst e1
              obtain ⟨h1, h2, h3⟩ := hp _ e2.symm
              rw [asInt_rel hl' hl, asInt_rel hh' hl2]
              have h5 : 0 ≤ h' := by omega
              have h6 : l' ≤ max h' 0 := by omega
              refine ⟨_, ?_, mkStr_rel N h _⟩
              simp [Instr.sliceAt, Instr.slice, Instr.sliceBounds, Instr.sliceBound, asIntOf, run_underlying hd, Ty.val, h1, h3, h5, h6]
            · cases e
          · cases e
      · cases e
    · cases e

theorem add_zero_map (A : Option Addr) : A.map (fun x => x.add 0) = A := by cases A <;> simp [Addr.add]
theorem evSliceMax_run (hE : EnvOk P E) {t : TypeId} {x hi mx : SV} {r : SV} {p : Option Prop} (e : evSliceMax E t x hi mx = some (r, p)) (hp : ∀ q, p = some q → q)
    {u hv mv : Value} (hx : x.rel N h u) (hhi : hi.rel N h hv) (hmx : mx.rel N h mv) : Yields P (Instr.sliceAt t u none (some hv) (some mv)) w N h r := by
  unfold evSliceMax at e
  split at e
  · cases e
  rename_i ti hti
  obtain ⟨d, hd, _, hk⟩ := (hE.tt t ti hti).und
  split at e
  rotate_left
  · cases e
  rename_i te hte
  rw [hte] at hk
  simp only at hk
  subst hk
  split at e
  · cases e
  rename_i tei htei
  have hTe := hE.tt te tei htei
  split at e
  rotate_left
  · cases e
  rename_i T xs
  cases hs : Nat.beq tei.size T.size with
  | false => rw [hs] at e; cases e
  | true =>
    rw [hs] at e
    have hs' : tei.size = T.size := Nat.eq_of_beq_eq_true hs
    simp only [cond_true] at e
    obtain ⟨cs, g1, rfl⟩ := hx
    obtain ⟨A, c, rfl, g2, g3, g4⟩ := g1
    split at e
    rotate_left
    · cases e
    rename_i k h' hh'
    split at e
    rotate_left
    · cases e
    rename_i k2 m hm
    injection e with e; injection e with e1 e2; subst e1
    obtain ⟨h1, h2, h3⟩ := hp _ e2.symm
    rw [asInt_rel hh' hhi, asInt_rel hm hmx]
    obtain ⟨hn, rfl⟩ : ∃ q : Nat, h' = (q : Int) := ⟨h'.toNat, by omega⟩
    obtain ⟨mn, rfl⟩ : ∃ q : Nat, m = (q : Int) := ⟨m.toNat, by omega⟩
    have q1 : hn ≤ mn := by omega
    have q2 : mn ≤ xs.length := by omega
    refine ⟨.slice (if mn = 0 then A else A) hn mn, ?_, [.slice (if mn = 0 then A else A) hn mn], ?_, rfl⟩
    · have q3 : ¬ ((mn : Int) < 0) := by omega
      have q4 : ¬ ((mn : Int) > (c : Int)) := by omega
      have q5 : ¬ ((hn : Int) < 0) := by omega
      have q6 : ¬ ((hn : Int) > (mn : Int)) := by omega
      simp [Instr.sliceAt, Instr.slice, Instr.sliceBounds, Instr.sliceBound, asIntOf, run_underlying hd, hTe.size_run, Ty.val, q3, q4, q5, q6, show mn ≤ c by omega, q1, add_zero_map]
    · have hl : (List.take (hn : Int).toNat xs).length = hn := by
        rw [List.length_take]
        show min hn xs.length = hn
        omega
      refine ⟨A, mn, by rw [hl]; split <;> rfl, by rw [hl]; exact q1, fun hA => by rw [g3 hA]; simp, fun i x ad hx hA => ?_⟩
      rw [List.getElem?_take] at hx
      split at hx
      · exact g4 i x ad hx hA
      · cases hx

theorem evMkIf_run (hE : EnvOk P E) {xt : TypeId} {x : SV} {r : SV} {p : Option Prop} (e : evMkIf E xt x = some (r, p)) (hp : ∀ q, p = some q → q) {v : Value} (hx : x.rel N h v) : Yields P (Instr.makeInterface xt v) w N h r := by
  unfold evMkIf at e
  split at e
  rotate_left
  · cases e
  rename_i tl ti l i hifc
  split at e
  · cases e
  rename_i xi hxi
  obtain ⟨d, hd, _, hk⟩ := (hE.tt xt xi hxi).und
  split at e
  rotate_left
  · cases e
  rename_i pe hpe
  rw [hpe] at hk
  simp only at hk
  subst hk
  have hrun : ∀ v, (Instr.makeInterface xt v).run P w = .ok (.iface xt v) w := fun v => by
    simp [Instr.makeInterface, run_underlying hd]
  cases h1 : Nat.beq xt tl with
  | true =>
    rw [h1] at e
    have := Nat.eq_of_beq_eq_true h1
    subst this
    simp only [cond_true, argValK_eq] at e
    split at e
    · rename_i a ha
      injection e with e; injection e with e1 e2; subst e1
      have hs := hp _ e2.symm
      obtain ⟨cs, g1, rfl⟩ := argVal_rel ha hx
      rcases g1 with ⟨rfl, _⟩ | ⟨y, ad, ds, rfl, rfl, q1, q2⟩
      · cases hs
      · exact ⟨_, hrun _, SV.tv_iff.2 ⟨_, nd_leaf_rep q1 q2, rfl⟩⟩
    · cases e
  | false =>
    rw [h1] at e
    simp only [cond_false] at e
    cases h2 : Nat.beq xt ti with
    | false => rw [h2] at e; cases e
    | true =>
      rw [h2] at e
      have := Nat.eq_of_beq_eq_true h2
      subst this
      simp only [cond_true, argValK_eq] at e
      split at e
      · rename_i a ha
        injection e with e; injection e with e1 e2; subst e1
        have hs := hp _ e2.symm
        obtain ⟨cs, g1, rfl⟩ := argVal_rel ha hx
        rcases g1 with ⟨rfl, _⟩ | ⟨y, ad, ds, rfl, rfl, q1, q2⟩
        · cases hs
        · exact ⟨_, hrun _, SV.tv_iff.2 ⟨_, nd_inner_rep q1 q2, rfl⟩⟩
      · cases e

theorem evAssert_run (hE : EnvOk P E) {x : SV} {xt at_ : TypeId} {ok : Bool} {r : SV} {p : Option Prop} (e : evAssert E x xt at_ ok = some (r, p)) (hp : ∀ q, p = some q → q) {v : Value} (hx : x.rel N h v) : Yields P (Instr.typeAssert v xt at_ ok) w N h r := by
  unfold evAssert at e
  split at e
  · cases e
  rename_i xi hxi
  split at e
  rotate_left
  · cases e
  rename_i tl ti l i hty
  split at e
  · cases e
  rename_i ai hai
  have hTa := hE.tt at_ ai hai
  obtain ⟨d, hd, _, hk⟩ := hTa.und
  split at e
  rotate_left
  · cases e
  rename_i pe hpe
  rw [hpe] at hk
  simp only at hk
  subst hk
  split at e
  rotate_left
  · cases e
  rename_i hz0
  cases hb : (Nat.beq tl ti || !(Nat.beq ai.size 1)) with
  | true => rw [hb] at e; cases e
  | false =>
    rw [hb] at e
    simp only [cond_false, argValK_eq] at e
    rw [Bool.or_eq_false_iff] at hb
    have hne : tl ≠ ti := Nat.ne_of_beq_eq_false hb.1
    have hsz : ai.size = 1 := Nat.eq_of_beq_eq_true (by have := hb.2; revert this; cases Nat.beq ai.size 1 <;> simp)
    have hzero : (zeroValue at_).run P w = .ok (.pointer none) w := by
      obtain ⟨ii, hii, _, _, hzz⟩ := hTa.info
      obtain ⟨z, e1, cs, e2, e3, _⟩ := hzz (by rw [hz0, hsz]; rfl)
      have e3 := e3 ⟨fun _ => 0, fun _ => .nilFunc⟩ (fun _ => none)
      rw [hz0] at e3
      obtain ⟨c, rr, rfl, g1, g2⟩ := rels_cons e3
      rw [LeafRels.nil_iff] at g2
      subst g2
      simp only [Leaf.rel] at g1
      subst g1
      have hz1 : z = .pointer none := by
        have hzm := hTa.zm _ hpe
        unfold zeroMB at hzm
        rw [hii, hd] at hzm
        simp only [e1] at hzm
        cases z <;> simp [Value.cells] at e2 <;> first | (rw [e2]; done) | (simp [aggDesc] at hzm)
      simp [zeroValue, run_typeInfo_of hii, e1, hz1]
    split at e
    rotate_left
    · cases e
    rename_i a ha
    obtain ⟨cs, g1, rfl⟩ := argVal_rel ha hx
    have fails : ∀ v, v = Value.nilIface ∨ (∃ t q, v = .iface t q ∧ t ≠ at_) → (Instr.typeAssert v xt at_ true).run P w = .ok (.tuple #[.pointer none, .bool false]) w := fun v hv => by
      rcases hv with rfl | ⟨t, q, rfl, hq⟩
      · simp [Instr.typeAssert, run_underlying hd, hzero]
      · simp [Instr.typeAssert, run_underlying hd, hzero, hq]
    have holds : ∀ q ok, (Instr.typeAssert (.iface at_ q) xt at_ ok).run P w = .ok (if ok then .tuple #[q, .bool true] else q) w := fun q ok => by
      simp [Instr.typeAssert, run_underlying hd]
    have optN : ∀ T : Ty, vrep h (.opt T) none (.pointer none) := fun T => ⟨[.pointer none], .inl ⟨rfl, rfl⟩, rfl⟩
    have bo : ∀ q : Bool, vrep h .bool q (.bool q) := fun q => ⟨[.bool q], rfl, rfl⟩
    cases h1 : Nat.beq at_ tl with
    | true =>
      rw [h1] at e
      have := Nat.eq_of_beq_eq_true h1
      subst this
      simp only [cond_true] at e
      cases ok with
      | true =>
        simp only at e
        injection e with e; injection e with e1 e2; subst e1
        cases a with
        | nil =>
          have := nd_nil_inv g1
          subst this
          exact ⟨_, fails _ (.inl rfl), [_, _], rfl, _, [_], rfl, optN _, _, [], rfl, bo _, rfl⟩
        | leaf a =>
          obtain ⟨ad, ds, rfl, q1, q2⟩ := nd_leaf_inv g1
          exact ⟨_, holds _ true, [_, _], rfl, _, [_], rfl, ⟨_, .inr ⟨a, ad, ds, rfl, rfl, q1, q2⟩, rfl⟩, _, [], rfl, bo _, rfl⟩
        | inner ks bb =>
          obtain ⟨ad, ds, rfl, q1, q2⟩ := nd_inner_inv g1
          exact ⟨_, fails _ (.inr ⟨_, _, rfl, fun hh => hne hh.symm⟩), [_, _], rfl, _, [_], rfl, optN _, _, [], rfl, bo _, rfl⟩
      | false =>
        simp only at e
        injection e with e; injection e with e1 e2; subst e1
        have hs := hp _ e2.symm
        cases a with
        | nil => cases hs
        | leaf a =>
          obtain ⟨ad, ds, rfl, q1, q2⟩ := nd_leaf_inv g1
          exact ⟨_, holds _ false, SV.tv_iff.2 ⟨_, .inr ⟨a, ad, ds, rfl, rfl, q1, q2⟩, rfl⟩⟩
        | inner ks bb => cases hs
    | false =>
      rw [h1] at e
      have hn1 : at_ ≠ tl := Nat.ne_of_beq_eq_false h1
      simp only [cond_false] at e
      cases h2 : Nat.beq at_ ti with
      | false => rw [h2] at e; cases e
      | true =>
        rw [h2] at e
        have := Nat.eq_of_beq_eq_true h2
        subst this
        simp only [cond_true] at e
        cases ok with
        | true =>
          simp only at e
          injection e with e; injection e with e1 e2; subst e1
          cases a with
          | nil =>
            have := nd_nil_inv g1
            subst this
            exact ⟨_, fails _ (.inl rfl), [_, _], rfl, _, [_], rfl, optN _, _, [], rfl, bo _, rfl⟩
          | leaf a =>
            obtain ⟨ad, ds, rfl, q1, q2⟩ := nd_leaf_inv g1
            exact ⟨_, fails _ (.inr ⟨_, _, rfl, hne⟩), [_, _], rfl, _, [_], rfl, optN _, _, [], rfl, bo _, rfl⟩
          | inner ks bb =>
            obtain ⟨ad, ds, rfl, q1, q2⟩ := nd_inner_inv g1
            exact ⟨_, holds _ true, [_, _], rfl, _, [_], rfl, ⟨_, .inr ⟨(ks, bb), ad, ds, rfl, rfl, q1, q2⟩, rfl⟩, _, [], rfl, bo _, rfl⟩
        | false =>
          simp only at e
          injection e with e; injection e with e1 e2; subst e1
          have hs := hp _ e2.symm
          cases a with
          | nil => cases hs
          | leaf a => cases hs
          | inner ks bb =>
            obtain ⟨ad, ds, rfl, q1, q2⟩ := nd_inner_inv g1
            exact ⟨_, holds _ false, SV.tv_iff.2 ⟨_, .inr ⟨(ks, bb), ad, ds, rfl, rfl, q1, q2⟩, rfl⟩⟩
end
end Go.Fr
