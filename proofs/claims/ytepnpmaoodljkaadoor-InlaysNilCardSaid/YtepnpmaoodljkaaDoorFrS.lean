/-
  A region that draws its order: whatever order its edges allow. Conditions: none.
-/
import Derived.Test.YtepnpmaoodljkaaDoorFrQ
namespace Go.Fr
open Go Go.RowKit
universe u

section
variable {E : Env} {b : Nat} {all : List Oper} {A : Made}

theorem guards_slot {g : Option (Nat × Bool)} {σ σ1 : St} {yes : Bool} (hg : Guards b all g σ σ1 yes) (t : Nat) : Eqv (getS σ.slots t) (getS σ1.slots t) := by
  unfold Guards at hg
  split at hg
  · rw [hg.1]; exact Eqv.refl _
  · obtain ⟨t0, _, h⟩ := hg
    rcases h with ⟨c, _, h1, _⟩ | ⟨c, h1, h2, _⟩ | ⟨_, h1, _⟩
    · rw [h1]; exact Eqv.refl _
    · rw [h2]
      show Eqv _ (getS ((b + t0, SV.leaf (Leaf.blit c)) :: σ.slots) t)
      rw [getS_cons]
      split
      · rename_i e; subst e; rw [h1]; exact tv_blit c
      · exact Eqv.refl _
    · rw [h1]; exact Eqv.refl _
theorem guards_rest {g : Option (Nat × Bool)} {σ σ1 : St} {yes : Bool} (hg : Guards b all g σ σ1 yes) : σ1.blks = σ.blks ∧ σ1.rows = σ.rows := by
  unfold Guards at hg
  split at hg
  · rw [hg.1]; exact ⟨rfl, rfl⟩
  · obtain ⟨t0, _, h⟩ := hg
    rcases h with ⟨c, _, h1, _⟩ | ⟨c, h1, h2, _⟩ | ⟨_, h1, _⟩
    · rw [h1]; exact ⟨rfl, rfl⟩
    · rw [h2]; exact ⟨rfl, rfl⟩
    · rw [h1]; exact ⟨rfl, rfl⟩

theorem put_slot {σ : St} {d : Option Nat} {s : SV} {t : Nat} (ht : d ≠ some t) : getS (σ.put d s).slots t = getS σ.slots t := by
  cases d with
  | none => rfl
  | some k =>
    show getS ((k, s) :: σ.slots) t = _
    rw [getS_cons, if_neg (fun e => ht (by rw [e]))]
theorem put_slot_same {σ : St} {d : Nat} {s : SV} : getS (σ.put (some d) s).slots d = s := by
  show getS ((d, s) :: σ.slots) d = _
  rw [getS_cons, if_pos rfl]
theorem put_rest {σ : St} {d : Option Nat} {s : SV} : (σ.put d s).blks = σ.blks ∧ (σ.put d s).rows = σ.rows := by cases d <;> exact ⟨rfl, rfl⟩

theorem step_slot {i : Nat} {o : Oper} {σ σ' : St} {mem mem' : Mem} (h : StepD E b all A i o σ mem σ' mem') {t : Nat} (ht : dstAt b o.dst ≠ some t) : Eqv (getS σ.slots t) (getS σ'.slots t) := by
  obtain ⟨σ1, yes, hg, h⟩ := h
  refine (guards_slot hg t).trans ?_
  rcases h with ⟨_, ⟨r, p, _, _, h1, _⟩ | ⟨q, c, _, _, h1, _⟩ | ⟨q, c, _, _, h1, _⟩ | ⟨t0, ti, d, q, _, _, _, hd, _, _, _, h1, _⟩⟩ | ⟨_, h1, _⟩
  · rw [h1, put_slot ht]; exact Eqv.refl _
  · rw [h1]; exact Eqv.refl _
  · rw [h1]; exact Eqv.refl _
  · rw [h1]
    show Eqv _ (getS ((b + d, SV.leaf (Leaf.ptr q 0)) :: σ1.slots) t)
    rw [getS_cons, if_neg (fun e => ht (by rw [hd, ← e]; rfl))]
    exact Eqv.refl _
  · rw [h1, put_slot ht]; exact Eqv.refl _

/-- Rows of one shape. -/
def SameShape (R S : Option RowS) : Prop :=
  match R, S with
  | none, none => True
  | some R, some S => R.t = S.t ∧ R.e = S.e ∧ R.xs.length = S.xs.length
  | _, _ => False
theorem SameShape.refl (R : Option RowS) : SameShape R R := by cases R <;> simp [SameShape]
theorem SameShape.trans {R S T : Option RowS} (h1 : SameShape R S) (h2 : SameShape S T) : SameShape R T := by
  cases R <;> cases S <;> cases T <;> simp only [SameShape] at h1 h2 ⊢
  exact ⟨h1.1.trans h2.1, h1.2.1.trans h2.2.1, h1.2.2.trans h2.2.2⟩
theorem SameShape.symm {R S : Option RowS} (h1 : SameShape R S) : SameShape S R := by
  cases R <;> cases S <;> simp only [SameShape] at h1 ⊢
  exact ⟨h1.1.symm, h1.2.1.symm, h1.2.2.symm⟩

theorem rowStore_shape {sl : Slots} {rs : Rows} {op : Op} {q : Nat} {c : RowS} (h : rowStoreEv E b sl rs op = some (q, c)) : SameShape (getR rs q) (some c) ∧ touches b sl op = some (2 * q + 1, true) := by
  cases op <;> try (cases h; done)
  case store t a x =>
    simp only [rowStoreEv] at h
    split at h
    · rename_i ti hti
      split at h
      · rename_i r sz i off ha
        split at h
        · rename_i R hR
          split at h
          · rename_i ls hls
            cases hh : (Nat.beq sz R.t.size && Nat.beq ls.length ti.size && Nat.ble (off + ti.size) R.t.size) with
            | false => rw [hh] at h; cases h
            | true =>
              rw [hh] at h
              simp only [cond_true, implodeK_eq] at h
              split at h
              · rename_i z rest hz
                cases rest with
                | cons _ _ => cases h
                | nil =>
                  injection h with h; injection h with h1 h2
                  subst h1 h2
                  refine ⟨by rw [hR]; simp [SameShape], ?_⟩
                  simp only [touches, ha]
              · cases h
          · cases h
        · cases h
      · cases h
    · cases h

theorem pure_touch {sl : Slots} {bs : Blks} {rs : Rows} {op : Op} {r : SV} {p : Option Prop} (h : pureEv E b sl bs rs op = some (r, p)) {q : Nat} {w : Bool} (ht : touches b sl op = some (q, w)) : w = false := by
  cases op <;> try (cases ht; done)
  · simp only [touches] at ht
    split at ht
    · injection ht with ht; injection ht with h1 h2; exact h2.symm
    · injection ht with ht; injection ht with h1 h2; exact h2.symm
    · cases ht
  · cases h
/-- What an operation yields goes by what it touches, and by the rows' shapes. -/
theorem pure_mem {sl : Slots} {bs bs' : Blks} {rs rs' : Rows} {op : Op} (hB : ∀ q w, touches b sl op = some (2 * q, w) → getB bs q = getB bs' q) (hR : ∀ q w, touches b sl op = some (2 * q + 1, w) → getR rs q = getR rs' q)
    (hS : ∀ q, SameShape (getR rs q) (getR rs' q)) : pureEv E b sl bs rs op = pureEv E b sl bs' rs' op := by
  have shape : ∀ q, (∃ R R', getR rs q = some R ∧ getR rs' q = some R' ∧ R.t = R'.t ∧ R.e = R'.e ∧ R.xs.length = R'.xs.length) ∨ (getR rs q = none ∧ getR rs' q = none) := by
    intro q
    have := hS q
    cases h1 : getR rs q with
    | none => cases h2 : getR rs' q with
      | none => exact .inr ⟨rfl, rfl⟩
      | some _ => rw [h1, h2] at this; exact this.elim
    | some R => cases h2 : getR rs' q with
      | none => rw [h1, h2] at this; exact this.elim
      | some R' => rw [h1, h2] at this; exact .inl ⟨R, R', rfl, rfl, this⟩
  have hlen : ∀ t x, evLen E rs t x = evLen E rs' t x := by
    intro t x
    unfold evLen
    cases E.tt t with
    | none => rfl
    | some ti =>
      simp only
      cases ti.k <;> try rfl
      simp only
      split
      · rfl
      · rename_i r
        rcases shape r with ⟨R, R', h1, h2, h3, h4, h5⟩ | ⟨h1, h2⟩
        · rw [h1, h2]; simp only; rw [h5]
        · rw [h1, h2]
      · rfl
      · rfl
  cases op <;> try rfl
  case load t a =>
    simp only [pureEv, evLoad]
    simp only [touches] at hB hR
    cases E.tt t with
    | none => rfl
    | some ti =>
      simp only
      split
      · rename_i i off ha
        rw [hB i false (by rw [ha])]
      · rfl
      · rfl
      · rename_i r sz i off ha
        rw [hR r false (by rw [ha])]
      · rfl
  case indexAddr t x i =>
    simp only [pureEv, evIndexAddr]
    split
    · rfl
    · split
      · rfl
      · split
        · split
          · rfl
          · split
            · rfl
            · rename_i r _
              rcases shape r with ⟨R, R', h1, h2, h3, h4, h5⟩ | ⟨h1, h2⟩
              · have h3' : R.t.size = R'.t.size := by rw [h3]
                rw [h1, h2]; simp only; rw [h3', h5]
              · rw [h1, h2]
            · rfl
        · rfl
        · rfl
  case call c =>
    simp only [pureEv]
    split
    · rename_i bi hbi
      simp only [evBuiltin]
      split
      · split
        · split
          · exact hlen _ _
          · rfl
        · rfl
      · rfl
      · rfl
      · rfl
      · rfl
    · rfl
theorem store_mem {sl : Slots} {bs bs' : Blks} {op : Op} {q : Nat} {c : Blk} (h : storeEv E b sl bs op = some (q, c)) (hb : getB bs q = getB bs' q) : storeEv E b sl bs' op = some (q, c) := by
  cases op <;> try (cases h; done)
  case store t a x =>
    simp only [storeEv] at h ⊢
    split at h
    · rename_i ti hti
      split at h
      · rename_i i off ha
        split at h
        · rename_i bt bc hbb
          split at h
          · rename_i ls hls
            cases hh : (Nat.beq ls.length ti.size && Nat.ble (off + ti.size) bc.length) with
            | false => rw [hh] at h; cases h
            | true =>
              rw [hh] at h
              simp only [cond_true] at h
              injection h with h
              injection h with h1 h2
              subst h1
              rw [← hb, hbb]
              simp only [hh, cond_true, h2]
          · cases h
        · cases h
      · cases h
    · cases h
theorem rowStore_mem {sl : Slots} {rs rs' : Rows} {op : Op} {q : Nat} {c : RowS} (h : rowStoreEv E b sl rs op = some (q, c)) (hb : getR rs q = getR rs' q) : rowStoreEv E b sl rs' op = some (q, c) := by
  cases op <;> try (cases h; done)
  case store t a x =>
    simp only [rowStoreEv] at h ⊢
    split at h
    · rename_i ti hti
      split at h
      · rename_i r sz i off ha
        split at h
        · rename_i R hR
          have hq : r = q := by
            split at h
            · rename_i ls hls
              cases hh : (Nat.beq sz R.t.size && Nat.beq ls.length ti.size && Nat.ble (off + ti.size) R.t.size) with
              | false => rw [hh] at h; cases h
              | true =>
                rw [hh] at h
                simp only [cond_true, implodeK_eq] at h
                split at h
                · rename_i z rest hz
                  cases rest with
                  | cons _ _ => cases h
                  | nil => injection h with h; injection h with h1 h2
                · cases h
            · cases h
          subst hq
          rw [← hb, hR]
          exact h
        · cases h
      · cases h
    · cases h

/-! ### The whole chain -/
structure Chain (E : Env) (b : Nat) (all : List Oper) (A : Made) (S : Nat → St) (M : Nat → Mem) : Prop where
  start : M 0 = []
  fresh : ∀ p ∈ A, usedB (S 0).slots (S 0).blks p.2 = false
  step : ∀ (j : Nat) o, all[j]? = some o → StepD E b all A j o (S j) (M j) (S (j + 1)) (M (j + 1))
  mem : memOk all (M all.length) = true
  ok : ∀ (j : Nat) o, all[j]? = some o → OkAt all j o

variable {S : Nat → St} {M : Nat → Mem}

theorem Chain.memStep (hC : Chain E b all A S M) {j : Nat} (hj : j < all.length) : M (j + 1) = M j ∨ ∃ q w, M (j + 1) = (j, q, w) :: M j := by
  obtain ⟨σ1, yes, hg, h⟩ := hC.step j _ (List.getElem?_eq_getElem hj)
  rcases h with ⟨_, ⟨r, p, _, _, _, h1, _⟩ | ⟨q, c, _, _, _, h1, _⟩ | ⟨q, c, _, _, _, h1⟩ | ⟨t0, ti, d, q, _, _, _, _, _, _, _, _, h1⟩⟩ | ⟨_, _, h1⟩
  · unfold memOf at h1
    split at h1
    · exact .inr ⟨_, _, h1⟩
    · exact .inl h1
  · exact .inr ⟨_, _, h1⟩
  · exact .inr ⟨_, _, h1⟩
  · exact .inr ⟨_, _, h1⟩
  · exact .inl h1

theorem Chain.memLt (hC : Chain E b all A S M) : ∀ m, m ≤ all.length → ∀ p ∈ M m, p.1 < m
  | 0, _, p, hp => by rw [hC.start] at hp; cases hp
  | m + 1, hm, p, hp => by
    rcases hC.memStep (j := m) (by omega) with h | ⟨q, w, h⟩
    · rw [h] at hp; have := hC.memLt m (by omega) p hp; omega
    · rw [h] at hp
      rcases List.mem_cons.1 hp with e | e
      · subst e; simp
      · have := hC.memLt m (by omega) p e; omega

theorem Chain.memMono (hC : Chain E b all A S M) {j : Nat} : ∀ m, j ≤ m → m ≤ all.length → ∀ p ∈ M j, p ∈ M m
  | 0, h1, _, p, hp => by rw [show j = 0 by omega] at hp; exact hp
  | m + 1, h1, h2, p, hp => by
    by_cases e : j = m + 1
    · rw [e] at hp; exact hp
    · have := hC.memMono m (by omega) (by omega) p hp
      rcases hC.memStep (j := m) (by omega) with h | ⟨q, w, h⟩
      · rw [h]; exact this
      · rw [h]; exact List.mem_cons_of_mem _ this

theorem Chain.memAfter (hC : Chain E b all A S M) : ∀ m, m ≤ all.length → memOk all (M m) = true → ∀ i q w j w', (i, q, w) ∈ M m → (j, q, w') ∈ M m → j < i → (w || w') = true → afterOf all i j = true
  | 0, _, _, i, q, w, j, w', hi, _, _, _ => by rw [hC.start] at hi; cases hi
  | m + 1, hm, hok, i, q, w, j, w', hi, hj, hlt, hw => by
    rcases hC.memStep (j := m) (by omega) with h | ⟨b0, w0, h⟩
    · rw [h] at hi hj hok
      exact hC.memAfter m (by omega) hok i q w j w' hi hj hlt hw
    · rw [h] at hi hj hok
      simp only [memOk, Bool.and_eq_true] at hok
      rcases List.mem_cons.1 hi with e | e
      · rcases List.mem_cons.1 hj with f | f
        · injection e with e1 _; injection f with f1 _; omega
        · have := List.all_eq_true.1 hok.1 _ f
          injection e with e1 e2
          injection e2 with e2 e3
          subst e1 e2 e3
          simp only [Nat.beq_refl, Bool.not_true, Bool.false_or, hw, Bool.not_true] at this
          exact this
      · rcases List.mem_cons.1 hj with f | f
        · injection f with f1 _
          have := hC.memLt m (by omega) _ e
          simp only at this
          omega
        · exact hC.memAfter m (by omega) hok.2 i q w j w' e f hlt hw

/-- Who writes a block, or a row. -/
def Writes (M : Nat → Mem) (all : List Oper) (k q : Nat) : Prop := (k, q, true) ∈ M all.length

theorem Chain.memAt (hC : Chain E b all A S M) {k q : Nat} {w : Bool} (h : (k, q, w) ∈ M all.length) : k < all.length ∧ M (k + 1) = (k, q, w) :: M k := by
  have hk : k < all.length := hC.memLt _ (Nat.le_refl _) _ h
  refine ⟨hk, ?_⟩
  -- it came in at its own step
  have key : ∀ m, m ≤ all.length → (k, q, w) ∈ M m → M (k + 1) = (k, q, w) :: M k := by
    intro m
    induction m with
    | zero => intro _ hm; rw [hC.start] at hm; cases hm
    | succ m ih =>
      intro hm hmem
      rcases hC.memStep (j := m) (by omega) with h | ⟨b0, w0, h⟩
      · rw [h] at hmem; exact ih (by omega) hmem
      · rw [h] at hmem
        rcases List.mem_cons.1 hmem with e | e
        · injection e with e1 e2
          injection e2 with e2 e3
          subst e1 e2 e3
          exact h
        · exact ih (by omega) e
  exact key _ (Nat.le_refl _) h

theorem step_blk {i : Nat} {o : Oper} {σ σ' : St} {mem mem' : Mem} (h : StepD E b all A i o σ mem σ' mem') {q : Nat} (hb : (i, 2 * q, true) ∉ mem') : getB σ'.blks q = getB σ.blks q := by
  obtain ⟨σ1, yes, hg, h⟩ := h
  have := (guards_rest hg).1
  rcases h with ⟨_, ⟨r, p, _, _, h1, _⟩ | ⟨b0, c, _, _, h1, h2, _⟩ | ⟨b0, c, _, _, h1, h2⟩ | ⟨t0, ti, d, q0, _, _, _, _, _, _, _, h1, h2⟩⟩ | ⟨_, h1, _⟩
  · rw [h1, put_rest.1, this]
  · rw [h1, ← this]
    simp only [getB_setB]
    rw [if_neg]
    intro e
    subst e
    exact hb (by rw [h2]; exact List.mem_cons_self ..)
  · rw [h1, ← this]
  · rw [h1, ← this]
    simp only [getB_cons]
    rw [if_neg]
    intro e
    subst e
    exact hb (by rw [h2]; exact List.mem_cons_self ..)
  · rw [h1, put_rest.1, this]
theorem step_row {i : Nat} {o : Oper} {σ σ' : St} {mem mem' : Mem} (h : StepD E b all A i o σ mem σ' mem') {q : Nat} (hb : (i, 2 * q + 1, true) ∉ mem') : getR σ'.rows q = getR σ.rows q := by
  obtain ⟨σ1, yes, hg, h⟩ := h
  have := (guards_rest hg).2
  rcases h with ⟨_, ⟨r, p, _, _, h1, _⟩ | ⟨b0, c, _, _, h1, h2, _⟩ | ⟨b0, c, _, _, h1, h2⟩ | ⟨t0, ti, d, q0, _, _, _, _, _, _, _, h1, h2⟩⟩ | ⟨_, h1, _⟩
  · rw [h1, put_rest.2, this]
  · rw [h1, ← this]
  · rw [h1, ← this]
    simp only [getR_setR]
    rw [if_neg]
    intro e
    subst e
    exact hb (by rw [h2]; exact List.mem_cons_self ..)
  · rw [h1, ← this]
  · rw [h1, put_rest.2, this]
theorem step_shape {i : Nat} {o : Oper} {σ σ' : St} {mem mem' : Mem} (h : StepD E b all A i o σ mem σ' mem') (q : Nat) : SameShape (getR σ'.rows q) (getR σ.rows q) := by
  obtain ⟨σ1, yes, hg, h⟩ := h
  have := (guards_rest hg).2
  rcases h with ⟨_, ⟨r, p, _, _, h1, _⟩ | ⟨b0, c, _, _, h1, h2, _⟩ | ⟨b0, c, hc, _, h1, h2⟩ | ⟨t0, ti, d, q0, _, _, _, _, _, _, _, h1, h2⟩⟩ | ⟨_, h1, _⟩
  · rw [h1, put_rest.2, this]; exact SameShape.refl _
  · rw [h1, ← this]; exact SameShape.refl _
  · rw [h1, ← this]
    simp only [getR_setR]
    by_cases e : b0 = q
    · subst e
      rw [if_pos rfl]
      have hs := (rowStore_shape hc).1
      cases hr : getR σ1.rows b0 with
      | none => rw [hr] at hs; exact hs.elim
      | some R => rw [hr] at hs; exact hs.symm
    · rw [if_neg e]; exact SameShape.refl _
  · rw [h1, ← this]; exact SameShape.refl _
  · rw [h1, put_rest.2, this]; exact SameShape.refl _
theorem Chain.shape (hC : Chain E b all A S M) (q : Nat) : ∀ m, m ≤ all.length → SameShape (getR (S m).rows q) (getR (S 0).rows q)
  | 0, _ => SameShape.refl _
  | m + 1, hm => (step_shape (hC.step m _ (List.getElem?_eq_getElem (by omega))) q).trans (hC.shape q m (by omega))

theorem Chain.slot (hC : Chain E b all A S M) {i t : Nat} : ∀ m, i ≤ m → m ≤ all.length → (∀ (k : Nat) o, all[k]? = some o → i ≤ k → k < m → dstAt b o.dst ≠ some t) → Eqv (getS (S i).slots t) (getS (S m).slots t)
  | 0, h1, _, _ => by rw [show i = 0 by omega]; exact Eqv.refl _
  | m + 1, h1, h2, h3 => by
    by_cases e : i = m + 1
    · rw [e]; exact Eqv.refl _
    · refine (hC.slot m (by omega) (by omega) fun k o ho hk hkm => h3 k o ho hk (by omega)).trans ?_
      exact step_slot (hC.step m _ (List.getElem?_eq_getElem (by omega))) (h3 m _ (List.getElem?_eq_getElem (by omega)) (by omega) (by omega))

theorem Chain.blk (hC : Chain E b all A S M) {i q : Nat} : ∀ m, i ≤ m → m ≤ all.length → (∀ k, i ≤ k → k < m → ¬ Writes M all k (2 * q)) → getB (S m).blks q = getB (S i).blks q
  | 0, h1, _, _ => by rw [show i = 0 by omega]
  | m + 1, h1, h2, h3 => by
    by_cases e : i = m + 1
    · rw [e]
    · rw [← hC.blk m (by omega) (by omega) fun k hk hkm => h3 k hk (by omega)]
      exact step_blk (hC.step m _ (List.getElem?_eq_getElem (by omega))) fun hm => h3 m (by omega) (by omega) (hC.memMono _ (by omega) (Nat.le_refl _) _ hm)
theorem Chain.row (hC : Chain E b all A S M) {i q : Nat} : ∀ m, i ≤ m → m ≤ all.length → (∀ k, i ≤ k → k < m → ¬ Writes M all k (2 * q + 1)) → getR (S m).rows q = getR (S i).rows q
  | 0, h1, _, _ => by rw [show i = 0 by omega]
  | m + 1, h1, h2, h3 => by
    by_cases e : i = m + 1
    · rw [e]
    · rw [← hC.row m (by omega) (by omega) fun k hk hkm => h3 k hk (by omega)]
      exact step_row (hC.step m _ (List.getElem?_eq_getElem (by omega))) fun hm => h3 m (by omega) (by omega) (hC.memMono _ (by omega) (Nat.le_refl _) _ hm)

/-- Whoever names a block that is made here is behind what makes it. -/
theorem guards_names {g : Option (Nat × Bool)} {σ σ1 : St} {yes : Bool} (hg : Guards b all g σ σ1 yes) {q t : Nat} (h : (getS σ1.slots t).anyL (Leaf.namesB q) = true) : (getS σ.slots t).anyL (Leaf.namesB q) = true := by
  unfold Guards at hg
  split at hg
  · rw [hg.1] at h; exact h
  · obtain ⟨t0, _, hg⟩ := hg
    rcases hg with ⟨c, _, h1, _⟩ | ⟨c, h1, h2, _⟩ | ⟨_, h1, _⟩
    · rw [h1] at h; exact h
    · rw [h2] at h
      replace h : (getS ((b + t0, SV.leaf (Leaf.blit c)) :: σ.slots) t).anyL (Leaf.namesB q) = true := h
      rw [getS_cons] at h
      split at h
      · cases h
      · exact h
    · rw [h1] at h; exact h
theorem put_names {σ : St} {d : Option Nat} {s : SV} {q t : Nat} (h : (getS (σ.put d s).slots t).anyL (Leaf.namesB q) = true) : (d = some t ∧ s.anyL (Leaf.namesB q) = true) ∨ (getS σ.slots t).anyL (Leaf.namesB q) = true := by
  cases d with
  | none => exact .inr h
  | some k =>
    replace h : (getS ((k, s) :: σ.slots) t).anyL (Leaf.namesB q) = true := h
    rw [getS_cons] at h
    split at h
    · rename_i e; subst e; exact .inl ⟨rfl, h⟩
    · exact .inr h
theorem Chain.slotNames (hC : Chain E b all A S M) {p : Nat × Nat} (hp : p ∈ A) {t : Nat} : ∀ m, m ≤ all.length → (getS (S m).slots t).anyL (Leaf.namesB p.2) = true →
    ∃ (k : Nat) (x : Oper), all[k]? = some x ∧ dstAt b x.dst = some t ∧ (k = p.1 ∨ afterOf all k p.1 = true)
  | 0, _, h => by
    have := hC.fresh p hp
    unfold usedB at this
    simp only [Bool.or_eq_false_iff] at this
    cases (anySlots_false this.1 t h)
  | m + 1, hm, h => by
    have ho : all[m]? = some all[m] := List.getElem?_eq_getElem (by omega)
    obtain ⟨σ1, yes, hg, hc⟩ := hC.step m _ ho
    have back : (getS σ1.slots t).anyL (Leaf.namesB p.2) = true → ∃ (k : Nat) (x : Oper), all[k]? = some x ∧ dstAt b x.dst = some t ∧ (k = p.1 ∨ afterOf all k p.1 = true) :=
      fun h => hC.slotNames hp m (by omega) (guards_names hg h)
    rcases hc with ⟨_, ⟨r, p0, _, _, h1, _, hb⟩ | ⟨q, c, _, _, h1, _⟩ | ⟨q, c, _, _, h1, _⟩ | ⟨t0, ti, d, q, _, _, _, hd, _, honly, _, h1, _⟩⟩ | ⟨_, h1, _⟩
    · rw [h1] at h
      rcases put_names h with ⟨e1, e2⟩ | e
      · exact ⟨m, _, ho, e1, hb p hp e2⟩
      · exact back e
    · rw [h1] at h; exact back h
    · rw [h1] at h; exact back h
    · rw [h1] at h
      replace h : (getS ((b + d, SV.leaf (Leaf.ptr q 0)) :: σ1.slots) t).anyL (Leaf.namesB p.2) = true := h
      rw [getS_cons] at h
      split at h
      · rename_i e
        have hq : p.2 = q := (Nat.eq_of_beq_eq_true h).symm
        exact ⟨m, _, ho, by rw [hd, ← e]; rfl, .inl (honly p hp hq)⟩
      · exact back h
    · rw [h1] at h
      rcases put_names h with ⟨_, e2⟩ | e
      · cases e2
      · exact back e
theorem Chain.blkNames (hC : Chain E b all A S M) {p : Nat × Nat} (hp : p ∈ A) {q' : Nat} {c' : Blk} : ∀ m, m ≤ all.length → getB (S m).blks q' = some c' → anyLeaf (Leaf.namesB p.2) c'.cells = true →
    ∃ k, k < m ∧ Writes M all k (2 * q') ∧ (k = p.1 ∨ afterOf all k p.1 = true)
  | 0, _, hb, h => by
    have := hC.fresh p hp
    unfold usedB at this
    simp only [Bool.or_eq_false_iff] at this
    rw [anyBlks_false this.2 _ _ hb] at h
    cases h
  | m + 1, hm, hb, h => by
    have ho : all[m]? = some all[m] := List.getElem?_eq_getElem (by omega)
    obtain ⟨σ1, yes, hg, hc⟩ := hC.step m _ ho
    have hrest := (guards_rest hg).1
    have back : getB σ1.blks q' = some c' → ∃ k, k < m + 1 ∧ Writes M all k (2 * q') ∧ (k = p.1 ∨ afterOf all k p.1 = true) := by
      intro e
      rw [hrest] at e
      obtain ⟨k, k1, k2, k3⟩ := hC.blkNames hp m (by omega) e h
      exact ⟨k, by omega, k2, k3⟩
    have here : ∀ q, M (m + 1) = (m, 2 * q, true) :: M m → Writes M all m (2 * q) := fun q e => hC.memMono (j := m + 1) _ (by omega) (Nat.le_refl _) _ (by rw [e]; exact List.mem_cons_self ..)
    rcases hc with ⟨_, ⟨r, p0, _, _, h1, _, _⟩ | ⟨q, c, _, _, h1, h2, hbe⟩ | ⟨q, c, _, _, h1, _⟩ | ⟨t0, ti, d, q, _, _, _, hd, _, honly, hz, h1, h2⟩⟩ | ⟨_, h1, _⟩
    · rw [h1, put_rest.1] at hb; exact back hb
    · rw [h1] at hb
      simp only [getB_setB] at hb
      by_cases e : q = q'
      · subst e
        rw [if_pos rfl] at hb
        cases hgb : getB σ1.blks q with
        | none => rw [hgb] at hb; cases hb
        | some c0 =>
          rw [hgb] at hb
          simp only [Option.map_some] at hb
          injection hb with hb
          subst hb
          exact ⟨m, by omega, here _ h2, hbe p hp h⟩
      · rw [if_neg e] at hb; exact back hb
    · rw [h1] at hb; exact back hb
    · rw [h1] at hb
      simp only [getB_cons] at hb
      by_cases e : q = q'
      · subst e
        rw [if_pos rfl] at hb
        injection hb with hb
        subst hb
        rw [hz p hp] at h
        cases h
      · rw [if_neg e] at hb; exact back hb
    · rw [h1, put_rest.1] at hb; exact back hb

/-- Between two stages that the same writers are behind a block is the same. -/
theorem Chain.blk_stage (hC : Chain E b all A S M) {i j q : Nat} (hi : i ≤ all.length) (hj : j ≤ all.length) (h : ∀ k, Writes M all k (2 * q) → (k < i ↔ k < j)) : getB (S i).blks q = getB (S j).blks q := by
  rcases Nat.le_total i j with hij | hij
  · exact (hC.blk j hij hj fun k hk hkj hw => by have := (h k hw).2 hkj; omega).symm
  · exact hC.blk i hij hi fun k hk hki hw => by have := (h k hw).1 hki; omega
theorem Chain.row_stage (hC : Chain E b all A S M) {i j q : Nat} (hi : i ≤ all.length) (hj : j ≤ all.length) (h : ∀ k, Writes M all k (2 * q + 1) → (k < i ↔ k < j)) : getR (S i).rows q = getR (S j).rows q := by
  rcases Nat.le_total i j with hij | hij
  · exact (hC.row j hij hj fun k hk hkj hw => by have := (h k hw).2 hkj; omega).symm
  · exact hC.row i hij hi fun k hk hki hw => by have := (h k hw).1 hki; omega

theorem MemSat.same {B : Nat} {w0 w : World} {bs bs' : Blks} {rs rs' : Rows} {N : Names} {h : PHeap} (hM : MemSat B w0 bs rs N h w) (he : ∀ i, getB bs' i = getB bs i) (hr : ∀ i, getR rs' i = getR rs i) : MemSat B w0 bs' rs' N h w :=
  ⟨hM.below, hM.size, hM.pin, fun i b hb => hM.blk i b (by rw [← he]; exact hb), fun i j b c hb hc => hM.inj i j b c (by rw [← he]; exact hb) (by rw [← he]; exact hc), fun r R hR => hM.row r R (by rw [← hr]; exact hR), fun r R g hR => hM.rowh r R g (by rw [← hr]; exact hR),
    fun r R g i b hR hg hb => hM.rowb r R g i b (by rw [← hr]; exact hR) hg (by rw [← he]; exact hb), fun r s R T g hR hT => hM.rowr r s R T g (by rw [← hr]; exact hR) (by rw [← hr]; exact hT)⟩

/-! ### Any order -/
def lst (listed : Array Bool) (k : Nat) : Prop := listed.getD k false = true

structure Inv (B : Nat) (w0 : World) (h0 : PHeap) (b : Nat) (u : Nat → Value) (n : Nat) (all : List Oper) (S : Nat → St) (M : Nat → Mem) (N : Names) (listed : Array Bool) (h : PHeap) (bsL : Blks) (rsL : Rows) (a : Act) (w : World) : Prop where
  mem : MemSat B w0 bsL rsL N h w
  grow : PLe h0 h
  dom : ∀ k, h k ≠ none → h0 k ≠ none ∨ B ≤ k
  size : a.tmps.size = n
  defers : a.defers = []
  llen : listed.size = all.length
  closed : ∀ i j, lst listed i → afterOf all i j = true → lst listed j
  wrote : ∀ (t k : Nat) o, all[k]? = some o → dstAt b o.dst = some t → lst listed k → (getS (S all.length).slots t).rel N h (vals b u a t)
  first : ∀ t, (∀ (k : Nat) o, all[k]? = some o → dstAt b o.dst = some t → ¬ lst listed k) → (getS (S 0).slots t).rel N h (vals b u a t)
  blks : ∀ q, ∃ s, s ≤ all.length ∧ (∀ k, Writes M all k (2 * q) → (lst listed k ↔ k < s)) ∧ getB bsL q = getB (S s).blks q
  rows : ∀ q, ∃ s, s ≤ all.length ∧ (∀ k, Writes M all k (2 * q + 1) → (lst listed k ↔ k < s)) ∧ getR rsL q = getR (S s).rows q

theorem lst_set {listed : Array Bool} {i k : Nat} (hi : i < listed.size) : lst (listed.setIfInBounds i true) k ↔ k = i ∨ lst listed k := by
  unfold lst
  simp only [Array.getD_eq_getD_getElem?, Array.getElem?_setIfInBounds]
  by_cases e : i = k
  · subst e; simp [hi]
  · rw [if_neg e]
    constructor
    · exact .inr
    · rintro (h | h)
      · exact absurd h.symm e
      · exact h

variable {P : Program} {B : Nat} {w0 : World} {h0 : PHeap} {u : Nat → Value} {n : Nat} {N : Names}

theorem any_step (hE : EnvOk P E) (hG : GlobOk E.gl h0) {ops : Array Oper} (hall : ops.toList = all) (hC : Chain E b all A S M) (hd : ∀ o ∈ all, ∀ t, o.dst = some t → t < n) {Q : Exit → Act → World → Prop}
    {listed : Array Bool} {h : PHeap} {bsL : Blks} {rsL : Rows} {a : Act} {w : World} (hI : Inv B w0 h0 b u n all S M N listed h bsL rsL a w) {i : Nat} (hr : i ∈ Region.ready .any ops listed) {K : Act → World → Prop}
    (hK : ∀ N' h' bs' rs' a' w', Inv B w0 h0 b u n all S M N' (listed.setIfInBounds i true) h' bs' rs' a' w' → K a' w') : wpOp P ops Q i K a w := by
  simp only [Region.ready, List.mem_filter, List.mem_range, Bool.and_eq_true, Bool.not_eq_true'] at hr
  obtain ⟨hisz, hnl, hready⟩ := hr
  have hil : i < all.length := by rw [← hall]; simpa using hisz
  have hls : i < listed.size := by rw [hI.llen]; exact hil
  have hoi : all[i]? = some all[i] := List.getElem?_eq_getElem hil
  generalize all[i] = o at hoi
  have hopi : ops[i]? = some o := by rw [← Array.getElem?_toList, hall]; exact hoi
  have hnl' : ¬ lst listed i := by
    unfold lst
    rw [Array.getD_eq_getD_getElem?] at hnl ⊢
    rw [Array.getElem?_eq_getElem hls] at hnl ⊢
    simp at hnl ⊢
    exact hnl
  -- what it must come behind is listed
  have hafter : ∀ j, afterOf all i j = true → lst listed j := by
    intro j hj
    unfold afterOf at hj
    rw [hoi] at hj
    obtain ⟨e, he, h1, h2⟩ := onList_get.1 hj
    rw [hopi] at hready
    simp only [Option.map_some, Option.getD_some, Array.all_eq_true] at hready
    obtain ⟨m, hm, hme⟩ := List.getElem_of_mem he
    have := hready m (by simpa using hm)
    have hme' : o.after[m]'(by simpa using hm) = e := by rw [← hme]; simp
    rw [hme', h2, h1] at this
    simpa [lst] using this
  have hok := hC.ok i o hoi
  obtain ⟨σ1, yes, hg, hcase⟩ := hC.step i o hoi
  have hdo := hd o (List.mem_of_getElem? hoi)
  have hlset : ∀ k, lst (listed.setIfInBounds i true) k ↔ k = i ∨ lst listed k := fun k => lst_set hls
  have hdst_lt : ∀ (k : Nat) x t, all[k]? = some x → x.dst = some t → t < n := fun k x t hx ht => hd x (List.mem_of_getElem? hx) t ht
  have hat : ∀ (x : Oper) (t : Nat), dstAt b x.dst = some (b + t) ↔ x.dst = some t := by
    intro x t
    constructor
    · intro e
      obtain ⟨k, e1, e2⟩ := dstAt_some e
      rw [e1]
      congr 1
      omega
    · intro e; rw [e]; rfl
  -- a slot that the operation looks at
  have hlook : ∀ t, t ∈ looks all o → (getS (S i).slots (b + t)).rel N h (a.tmps.getD t undef) := by
    intro t ht
    rw [← vals_at b u a t]
    have hreads := hok.reads t ht
    by_cases hex : ∃ (k : Nat) (x : Oper), all[k]? = some x ∧ x.dst = some t
    · obtain ⟨k, x, hx, hxt⟩ := hex
      have hkl : k < all.length := (List.getElem?_eq_some_iff.1 hx).1
      have huniq : ∀ (j : Nat) y, all[j]? = some y → dstAt b y.dst = some (b + t) → j = k := fun j y hy hyt => (hC.ok k x hx).once t hxt j y hy ((hat y t).1 hyt)
      by_cases hki : k < i
      · have hl := hafter k ((hreads k x hx hxt).1 hki)
        have h1 := hI.wrote (b + t) k x hx ((hat x t).2 hxt) hl
        have := hC.slot (i := i) (t := b + t) all.length (by omega) (Nat.le_refl _) fun j y hy hj _ hyt => by
          have := huniq j y hy hyt
          omega
        exact (this N h _).2 h1
      · have hnk : ¬ lst listed k := by
          intro hl
          by_cases e : k = i
          · subst e; exact hnl' hl
          · exact hnl' (hI.closed k i hl ((hreads k x hx hxt).2 (by omega)))
        have h1 := hI.first (b + t) fun j y hy hyt hl => by
          have := huniq j y hy hyt
          subst this
          exact hnk hl
        have := hC.slot (i := 0) (t := b + t) i (Nat.zero_le _) (by omega) fun j y hy _ hji hyt => by
          have := huniq j y hy hyt
          omega
        exact (this N h _).1 h1
    · have h1 := hI.first (b + t) fun k x hx hxt => absurd ⟨k, x, hx, (hat x t).1 hxt⟩ hex
      have := hC.slot (i := 0) (t := b + t) i (Nat.zero_le _) (by omega) fun k x hx _ _ hxt => hex ⟨k, x, hx, (hat x t).1 hxt⟩
      exact (this N h _).1 h1
  -- its operands
  have hops : ∀ x ∈ o.op.operands.toList, (evO b σ1.slots x).rel N h (a.eval x) := by
    intro x hx
    cases x with
    | tmp t =>
      have ht : t ∈ looks all o := by
        unfold looks
        refine List.mem_append_left _ ?_
        exact List.mem_flatMap.2 ⟨_, hx, by simp [tmpOf]⟩
      exact ((guards_slot hg (b + t)) N h _).1 (hlook t ht)
    | const v => exact evO_const_rel N h v
    | global g => exact raw_rel N h _
    | func f => exact raw_rel N h _
  -- whether it is wanted
  have hwant : Region.wanted o (yielded ops a.tmps) = yes := by
    unfold Guards at hg
    split at hg
    · rename_i hgn
      simp [Region.wanted, hgn, hg.2]
    · rename_i j w hgn
      obtain ⟨t, ht, hg⟩ := hg
      have htl : t ∈ looks all o := by
        unfold looks
        refine List.mem_append_right _ ?_
        rw [hgn]
        simp only
        rw [ht]
        exact List.mem_cons_self ..
      have hslot := hlook t htl
      have hyield : yielded ops a.tmps j = match a.tmps.getD t undef with | .bool b => some b | _ => none := by
        unfold dstOf at ht
        split at ht
        · rename_i oj hoj
          have : ops[j]? = some oj := by rw [← Array.getElem?_toList, hall]; exact hoj
          have htn : t < a.tmps.size := by rw [hI.size]; exact hdst_lt j oj t hoj ht
          have e1 : ((ops[j]?).bind (·.dst)).bind (a.tmps[·]?) = some (a.tmps.getD t undef) := by
            rw [this]
            simp only [Option.bind_some, ht]
            rw [Array.getElem?_eq_getElem htn, Array.getD_eq_getD_getElem?, Array.getElem?_eq_getElem htn]
            rfl
          unfold yielded
          rw [e1]
          cases a.tmps.getD t undef <;> rfl
        · cases ht
      have hw : ∀ b, a.tmps.getD t undef = .bool b → Region.wanted o (yielded ops a.tmps) = (b == w) := by
        intro b hb
        simp [Region.wanted, hgn, hyield, hb]
      rcases hg with ⟨c, h1, _, h3⟩ | ⟨c, h1, _, h3⟩ | ⟨h1, _, h3⟩
      · rw [h1] at hslot
        rw [h3]; exact hw c (by simpa only [SV.rel, Leaf.rel] using hslot)
      · rw [h1] at hslot
        rw [h3]; exact hw c (by simpa only [SV.rel, Leaf.rel] using (tv_blit c N h _).1 hslot)
      · rw [h1] at hslot
        have : a.tmps.getD t undef = undef := by simpa only [SV.rel, Leaf.rel] using hslot
        have hn : yielded ops a.tmps j = none := by rw [hyield, this]; rfl
        rw [h3]
        unfold Region.wanted
        rw [hgn]
        simp only
        rw [hn]
        rfl
  -- a slot behind it
  have finN : ∀ (N' : Names) (h' : PHeap) (bs' : Blks) (rs' : Rows) (w' : World) (r : SV) (v : Value), PLe h h' → (∀ k, h' k ≠ none → h0 k ≠ none ∨ B ≤ k) → MemSat B w0 bs' rs' N' h' w' →
      (∀ (t k : Nat) x, all[k]? = some x → dstAt b x.dst = some t → lst listed k → (getS (S all.length).slots t).rel N' h' (vals b u a t)) →
      (∀ t, (∀ (k : Nat) x, all[k]? = some x → dstAt b x.dst = some t → ¬ lst listed k) → (getS (S 0).slots t).rel N' h' (vals b u a t)) →
      (∀ d, o.dst = some d → r.rel N' h' v ∧ getS (S (i + 1)).slots (b + d) = r) →
      (∀ q, ∃ s, s ≤ all.length ∧ (∀ k, Writes M all k (2 * q) → ((k = i ∨ lst listed k) ↔ k < s)) ∧ getB bs' q = getB (S s).blks q) →
      (∀ q, ∃ s, s ≤ all.length ∧ (∀ k, Writes M all k (2 * q + 1) → ((k = i ∨ lst listed k) ↔ k < s)) ∧ getR rs' q = getR (S s).rows q) → K (a.put o.dst v) w' := by
    intro N' h' bs' rs' w' r v hle hdom hM hwr hfi hv hb hrr
    refine hK N' h' bs' rs' _ w' ⟨hM, hI.grow.trans hle, hdom, by rw [size_put]; exact hI.size, by rw [defers_put]; exact hI.defers, by simpa using hI.llen, ?_, ?_, ?_, ?_, ?_⟩
    · intro p q hp hq
      rcases (hlset p).1 hp with e | e
      · subst e; exact (hlset q).2 (.inr (hafter q hq))
      · exact (hlset q).2 (.inr (hI.closed p q e hq))
    · intro t k x hx hxt hk
      obtain ⟨t0, ht0, rfl⟩ := dstAt_some hxt
      by_cases e : k = i
      · subst e
        rw [hoi] at hx
        injection hx with hx
        subst hx
        obtain ⟨hr1, hr2⟩ := hv t0 ht0
        rw [ht0, vals_put (by rw [hI.size]; exact hdo t0 ht0), if_pos rfl]
        have := hC.slot (i := k + 1) (t := b + t0) all.length (by omega) (Nat.le_refl _) fun j y hy hj _ hyt => by
          have := hok.once t0 ht0 j y hy ((hat y t0).1 hyt)
          omega
        exact (this N' h' _).1 (by rw [hr2]; exact hr1)
      · have hkl : lst listed k := by
          rcases (hlset k).1 hk with f | f
          · exact absurd f e
          · exact f
        have h1 := hwr (b + t0) k x hx hxt hkl
        cases hdst : o.dst with
        | none => exact h1
        | some d =>
          rw [vals_put (by rw [hI.size]; exact hdo d hdst), if_neg]
          · exact h1
          · intro f
            have : d = t0 := Nat.add_left_cancel f
            subst this
            exact e (hok.once d hdst k x hx ht0)
    · intro t ht
      have hni : dstAt b o.dst ≠ some t := fun f => ht i o hoi f ((hlset i).2 (.inl rfl))
      have h1 := hfi t fun k x hx hxt hk => ht k x hx hxt ((hlset k).2 (.inr hk))
      cases hdst : o.dst with
      | none => exact h1
      | some d =>
        rw [vals_put (by rw [hI.size]; exact hdo d hdst), if_neg (fun f => hni (by rw [hdst, ← f]; rfl))]
        exact h1
    · intro q
      obtain ⟨s, s1, s2, s3⟩ := hb q
      exact ⟨s, s1, fun k hk => by rw [hlset k]; exact s2 k hk, s3⟩
    · intro q
      obtain ⟨s, s1, s2, s3⟩ := hrr q
      exact ⟨s, s1, fun k hk => by rw [hlset k]; exact s2 k hk, s3⟩
  have fin : ∀ (h' : PHeap) (bs' : Blks) (rs' : Rows) (w' : World) (r : SV) (v : Value), PLe h h' → (∀ k, h' k ≠ none → h0 k ≠ none ∨ B ≤ k) → MemSat B w0 bs' rs' N h' w' → (∀ d, o.dst = some d → r.rel N h' v ∧ getS (S (i + 1)).slots (b + d) = r) →
      (∀ q, ∃ s, s ≤ all.length ∧ (∀ k, Writes M all k (2 * q) → ((k = i ∨ lst listed k) ↔ k < s)) ∧ getB bs' q = getB (S s).blks q) →
      (∀ q, ∃ s, s ≤ all.length ∧ (∀ k, Writes M all k (2 * q + 1) → ((k = i ∨ lst listed k) ↔ k < s)) ∧ getR rs' q = getR (S s).rows q) → K (a.put o.dst v) w' :=
    fun h' bs' rs' w' r v hle hdom hM hv hb hrr => finN N h' bs' rs' w' r v hle hdom hM (fun t k x hx hxt hk => SV.rel_mono hle _ _ (hI.wrote t k x hx hxt hk)) (fun t ht => SV.rel_mono hle _ _ (hI.first t ht)) hv hb hrr
  -- the blocks, the rows, where it writes none
  have keep1 : ∀ (q s : Nat), ¬ Writes M all i q → (∀ k, Writes M all k q → (lst listed k ↔ k < s)) → ∀ k, Writes M all k q → ((k = i ∨ lst listed k) ↔ k < s) := by
    intro q s hno s2 k hk
    rw [← s2 k hk]
    constructor
    · rintro (e | e)
      · subst e; exact absurd hk hno
      · exact e
    · exact .inr
  have keepB : ∀ q, ¬ Writes M all i (2 * q) → ∃ s, s ≤ all.length ∧ (∀ k, Writes M all k (2 * q) → ((k = i ∨ lst listed k) ↔ k < s)) ∧ getB bsL q = getB (S s).blks q := by
    intro q hno
    obtain ⟨s, s1, s2, s3⟩ := hI.blks q
    exact ⟨s, s1, keep1 _ s hno s2, s3⟩
  have keepR : ∀ q, ¬ Writes M all i (2 * q + 1) → ∃ s, s ≤ all.length ∧ (∀ k, Writes M all k (2 * q + 1) → ((k = i ∨ lst listed k) ↔ k < s)) ∧ getR rsL q = getR (S s).rows q := by
    intro q hno
    obtain ⟨s, s1, s2, s3⟩ := hI.rows q
    exact ⟨s, s1, keep1 _ s hno s2, s3⟩
  -- what it touches is as in the order of the text
  have hord : ∀ (q : Nat) (wr : Bool), M (i + 1) = (i, q, wr) :: M i → ∀ k, Writes M all k q → k ≠ i → (lst listed k ↔ k < i) := by
    intro q wr hm k hk hne
    have hin : (i, q, wr) ∈ M all.length := hC.memMono (j := i + 1) _ (by omega) (Nat.le_refl _) _ (by rw [hm]; exact List.mem_cons_self ..)
    constructor
    · intro hl
      by_cases hki : k < i
      · exact hki
      · exfalso
        have := hC.memAfter _ (Nat.le_refl _) hC.mem k q true i wr hk hin (by omega) (by simp)
        exact hnl' (hI.closed k i hl this)
    · intro hki
      exact hafter k (hC.memAfter _ (Nat.le_refl _) hC.mem i q wr k true hin hk hki (by simp))
  have stage : ∀ (q : Nat) (wr : Bool) (s : Nat), M (i + 1) = (i, q, wr) :: M i → (∀ k, Writes M all k q → (lst listed k ↔ k < s)) → ∀ k, Writes M all k q → (k < s ↔ k < i) := by
    intro q wr s hm s2 k hk
    by_cases e : k = i
    · subst e
      rw [← s2 k hk]
      exact ⟨fun f => absurd f hnl', fun f => absurd f (Nat.lt_irrefl _)⟩
    · rw [← s2 k hk]
      exact hord q wr hm k hk e
  have touchB : ∀ (q : Nat) (wr : Bool), M (i + 1) = (i, 2 * q, wr) :: M i → getB bsL q = getB (S i).blks q := by
    intro q wr hm
    obtain ⟨s, s1, s2, s3⟩ := hI.blks q
    rw [s3]
    exact hC.blk_stage s1 (by omega) (stage _ wr s hm s2)
  have touchR : ∀ (q : Nat) (wr : Bool), M (i + 1) = (i, 2 * q + 1, wr) :: M i → getR rsL q = getR (S i).rows q := by
    intro q wr hm
    obtain ⟨s, s1, s2, s3⟩ := hI.rows q
    rw [s3]
    exact hC.row_stage s1 (by omega) (stage _ wr s hm s2)
  have hrest := guards_rest hg
  have hshape : ∀ q, SameShape (getR σ1.rows q) (getR rsL q) := by
    intro q
    obtain ⟨s, s1, _, s3⟩ := hI.rows q
    rw [hrest.2, s3]
    exact (hC.shape q i (by omega)).trans (hC.shape q s s1).symm
  have notOther : ∀ (q q' : Nat) (wr : Bool), M (i + 1) = (i, q, wr) :: M i → q' ≠ q → ¬ Writes M all i q' := by
    intro q q' wr hm hne hw
    obtain ⟨_, hm'⟩ := hC.memAt hw
    rw [hm] at hm'
    injection hm' with hm' _
    injection hm' with _ hm'
    injection hm' with hm1 _
    exact hne hm1.symm
  unfold wpOp
  rw [hopi]
  simp only [hwant]
  rcases hcase with ⟨hy, ⟨r, p, he, hp, h1, h2, _⟩ | ⟨q, c, he, hdst, h1, h2, _⟩ | ⟨q, c, he, hdst, h1, h2⟩ | ⟨t0, ti, d, q, hop, hti, hzl, hdst, hqA, honly, hzn, h1, h2⟩⟩ | ⟨hy, h1, h2⟩
  · rw [hy]
    simp only [if_true]
    refine .inl ?_
    -- nothing is written
    have hno : ∀ q, ¬ Writes M all i q := by
      intro q hw
      obtain ⟨_, hm⟩ := hC.memAt hw
      rw [h2] at hm
      unfold memOf at hm
      split at hm
      · rename_i b' w' ht
        injection hm with hm _
        injection hm with _ hm
        injection hm with hm1 hm2
        have := pure_touch he ht
        rw [this] at hm2
        cases hm2
      · have := congrArg List.length hm
        simp at this
    have hmm : ∀ q wr, touches b σ1.slots o.op = some (q, wr) → M (i + 1) = (i, q, wr) :: M i := by
      intro q wr ht
      rw [h2]
      unfold memOf
      rw [ht]
    have he' : pureEv E b σ1.slots bsL rsL o.op = some (r, p) := by
      rw [← he]
      refine (pure_mem (fun q wr ht => ?_) (fun q wr ht => ?_) hshape).symm
      · rw [hrest.1]; exact (touchB q wr (hmm _ _ ht)).symm
      · rw [hrest.2]; exact (touchR q wr (hmm _ _ ht)).symm
    refine pure_sound hE hI.mem (hG.mono hI.grow) he' hp hops fun v h' w' g1 g2 _ hM' hv => ?_
    refine fin h' bsL rsL w' r v g1 (fun k hk => ?_) hM' (fun d hd' => ⟨hv, by rw [h1, hd']; exact put_slot_same⟩) (fun q => keepB q (hno _)) (fun q => keepR q (hno _))
    rcases g2 k hk with g | g
    · exact hI.dom k g
    · exact .inr (Nat.le_trans hI.mem.size g)
  · rw [hy]
    simp only [if_true]
    refine .inl ?_
    have t1 := touchB q true h2
    have he' : storeEv E b σ1.slots bsL o.op = some (q, c) := store_mem he (by rw [hrest.1]; exact t1.symm)
    refine store_sound hE (σ := ⟨σ1.slots, bsL, rsL⟩) he' hops hI.mem fun w' hM' => ?_
    refine fin h _ rsL w' (.leaf .undef) undef (PLe.refl h) hI.dom hM' (fun d hd' => by rw [hdst] at hd'; cases hd') ?_ (fun q' => keepR q' (notOther _ _ true h2 (by omega)))
    intro q'
    by_cases e : q = q'
    · subst e
      refine ⟨i + 1, by omega, fun k hk => ?_, ?_⟩
      · by_cases e : k = i
        · subst e; exact ⟨fun _ => by omega, fun _ => .inl rfl⟩
        · rw [show (k = i ∨ lst listed k) ↔ lst listed k from ⟨fun f => f.elim (fun g => absurd g e) id, .inr⟩, hord _ true h2 k hk e]
          omega
      · rw [h1]
        simp only [getB_setB, if_true]
        rw [t1, hrest.1]
    · obtain ⟨s, s1, s2, s3⟩ := keepB q' (notOther _ _ true h2 (by omega))
      exact ⟨s, s1, s2, by rw [getB_setB, if_neg e]; exact s3⟩
  · rw [hy]
    simp only [if_true]
    refine .inl ?_
    have t1 := touchR q true h2
    have he' : rowStoreEv E b σ1.slots rsL o.op = some (q, c) := rowStore_mem he (by rw [hrest.2]; exact t1.symm)
    refine rowStore_sound hE (σ := ⟨σ1.slots, bsL, rsL⟩) he' hops hI.mem fun w' hM' => ?_
    refine fin h bsL _ w' (.leaf .undef) undef (PLe.refl h) hI.dom hM' (fun d hd' => by rw [hdst] at hd'; cases hd') (fun q' => keepB q' (notOther _ _ true h2 (by omega))) ?_
    intro q'
    by_cases e : q = q'
    · subst e
      refine ⟨i + 1, by omega, fun k hk => ?_, ?_⟩
      · by_cases e : k = i
        · subst e; exact ⟨fun _ => by omega, fun _ => .inl rfl⟩
        · rw [show (k = i ∨ lst listed k) ↔ lst listed k from ⟨fun f => f.elim (fun g => absurd g e) id, .inr⟩, hord _ true h2 k hk e]
          omega
      · rw [h1]
        simp only [getR_setR, if_true]
        rw [t1, hrest.2]
    · obtain ⟨s, s1, s2, s3⟩ := keepR q' (notOther _ _ true h2 (by omega))
      exact ⟨s, s1, s2, by rw [getR_setR, if_neg e]; exact s3⟩
  · rw [hy]
    simp only [if_true]
    refine .inl ?_
    obtain ⟨ii, hi1, hsz, _, hz⟩ := (hE.tt t0 ti hti).info
    obtain ⟨z, hz1, cs, hz2, hz3, hz4⟩ := hz hzl
    -- who is listed does not name what is made
    have hsl : ∀ (k : Nat), lst listed k → ¬ (k = i ∨ afterOf all k i = true) := by
      intro k hk hh
      rcases hh with e | e
      · subst e; exact hnl' hk
      · exact hnl' (hI.closed k i hk e)
    have hbn : ∀ q' c', getB bsL q' = some c' → anyLeaf (Leaf.namesB q) c'.cells = false := by
      intro q' c' hb
      cases hh : anyLeaf (Leaf.namesB q) c'.cells with
      | false => rfl
      | true =>
        exfalso
        obtain ⟨s, s1, s2, s3⟩ := hI.blks q'
        obtain ⟨k, k1, k2, k3⟩ := hC.blkNames hqA s s1 (s3 ▸ hb) hh
        exact hsl k ((s2 k k2).2 k1) k3
    have hM' := hI.mem.newB' (d := q) (b := ⟨t0, ti.zero, none⟩) (o := .cells cs.toArray t0 (0, 0)) (BlkSat.cells.2 ⟨cs, rfl, hz3 _ _, hz4⟩) hbn
    have hnames : ∀ (s : SV) (v : Value), s.anyL (Leaf.namesB q) = false → s.rel N h v → s.rel (N.setB q w.heap.size) h v := by
      intro s v hs hv
      refine SV.rel_names _ hv (fun j hj => ?_) (fun _ _ => rfl)
      simp only [Names.setB]
      rw [if_neg]
      intro e
      subst e
      rw [hs] at hj
      cases hj
    have := finN (N.setB q w.heap.size) h ((q, ⟨t0, ti.zero, none⟩) :: bsL) rsL (w.alloc (.cells cs.toArray t0 (0, 0))) (.leaf (.ptr q 0)) (.pointer (some ⟨w.heap.size, 0, none⟩)) (PLe.refl h) hI.dom hM' ?_ ?_ ?_ ?_ (fun q' => keepR q' (notOther _ _ true h2 (by omega)))
    · unfold Oper.wp
      simp only [hop, execOp, Instr.alloc, zeroValue, Sem.run_bind, run_typeInfo_of hi1, Result.andThen_ok, hz1, Sem.run_pure, newVar, newRow, run_newObj, hz2]
      exact this
    · intro t k x hx hxt hk
      refine hnames _ _ ?_ (hI.wrote t k x hx hxt hk)
      cases hh : (getS (S all.length).slots t).anyL (Leaf.namesB q) with
      | false => rfl
      | true =>
        exfalso
        obtain ⟨k', x', hx', hxt', hk'⟩ := hC.slotNames hqA _ (Nat.le_refl _) hh
        obtain ⟨t1, ht1, e1⟩ := dstAt_some hxt
        have : k' = k := (hC.ok k x hx).once t1 ht1 k' x' hx' (by rw [e1] at hxt'; exact (hat x' t1).1 hxt')
        subst this
        exact hsl _ hk hk'
    · intro t ht
      refine hnames _ _ ?_ (hI.first t ht)
      have := hC.fresh (i, q) hqA
      unfold usedB at this
      simp only [Bool.or_eq_false_iff] at this
      cases hh : (getS (S 0).slots t).anyL (Leaf.namesB q) with
      | false => rfl
      | true => cases (anySlots_false this.1 t hh)
    · intro d' hd'
      rw [hdst] at hd'
      injection hd' with hd'
      subst hd'
      refine ⟨SV.leaf_iff.2 (by simp [Leaf.rel, Names.setB]), ?_⟩
      rw [h1]
      show getS ((b + d, SV.leaf (Leaf.ptr q 0)) :: σ1.slots) (b + d) = _
      rw [getS_cons, if_pos rfl]
    · intro q'
      by_cases e : q = q'
      · subst e
        refine ⟨i + 1, by omega, fun k hk => ?_, ?_⟩
        · by_cases e : k = i
          · subst e; exact ⟨fun _ => by omega, fun _ => .inl rfl⟩
          · rw [show (k = i ∨ lst listed k) ↔ lst listed k from ⟨fun f => f.elim (fun g => absurd g e) id, .inr⟩, hord _ true h2 k hk e]
            omega
        · rw [h1]
          simp only [getB_cons, if_true]
      · obtain ⟨s, s1, s2, s3⟩ := keepB q' (notOther _ _ true h2 (by omega))
        exact ⟨s, s1, s2, by rw [getB_cons, if_neg e]; exact s3⟩
  · rw [hy]
    simp only [Bool.false_eq_true, if_false]
    have hno : ∀ q, ¬ Writes M all i q := by
      intro q hw
      obtain ⟨_, hm⟩ := hC.memAt hw
      rw [h2] at hm
      have := congrArg List.length hm
      simp at this
    exact fin h bsL rsL w (.leaf .undef) undef (PLe.refl h) hI.dom hI.mem (fun d hd' => ⟨SV.leaf_iff.2 (by simp only [Leaf.rel]), by rw [h1, hd']; exact put_slot_same⟩) (fun q => keepB q (hno _)) (fun q => keepR q (hno _))

/-! ### How many are still to come -/
def openOf : List Bool → Nat
  | [] => 0
  | true :: r => openOf r
  | false :: r => openOf r + 1
theorem openOf_set : (l : List Bool) → (i : Nat) → l[i]? = some false → openOf (l.set i true) + 1 = openOf l
  | [], _, e => by simp at e
  | b :: r, 0, e => by simp at e; subst e; rfl
  | b :: r, i + 1, e => by
    have := openOf_set r i (by simpa using e)
    cases b <;> simp only [List.set_cons_succ, openOf] <;> omega
theorem openOf_zero : (l : List Bool) → openOf l = 0 → ∀ (i : Nat) b, l[i]? = some b → b = true
  | [], _, i, b, hb => by simp at hb
  | true :: r, e, 0, b, hb => by simp at hb; exact hb
  | true :: r, e, i + 1, b, hb => openOf_zero r e i b (by simpa using hb)
  | false :: r, e, _, _, _ => by simp [openOf] at e

theorem any_run (hE : EnvOk P E) (hG : GlobOk E.gl h0) {ops : Array Oper} (hall : ops.toList = all) (hC : Chain E b all A S M) (hd : ∀ o ∈ all, ∀ t, o.dst = some t → t < n) {Q : Exit → Act → World → Prop}
    (hQ : ∀ N h' a' w', Sat B w0 h0 b u n (S all.length) N h' a' w' → Q .normal a' w') :
    ∀ (fuel : Nat) (N : Names) (listed : Array Bool) (h : PHeap) (bsL : Blks) (rsL : Rows) (a : Act) (w : World), openOf listed.toList ≤ fuel → Inv B w0 h0 b u n all S M N listed h bsL rsL a w → wpAny P .any ops Q fuel listed a w := by
  -- where nothing may come up any more all is listed
  have done : ∀ (N : Names) (listed : Array Bool) (h : PHeap) (bsL : Blks) (rsL : Rows) (a : Act) (w : World), Inv B w0 h0 b u n all S M N listed h bsL rsL a w → Region.ready .any ops listed = [] → Q .normal a w := by
    intro N listed h bsL rsL a w hI hr
    have hl : ∀ k, k < all.length → lst listed k := by
      intro k
      induction k using Nat.strongRecOn with
      | _ k ih =>
        intro hk
        rcases Classical.em (lst listed k) with f | f
        · exact f
        · exfalso
          have hoi : all[k]? = some all[k] := List.getElem?_eq_getElem hk
          have hsz : k < ops.size := by rw [← hall] at hk; simpa using hk
          have hopi : ops[k]? = some all[k] := by rw [← Array.getElem?_toList, hall]; exact hoi
          have : k ∈ Region.ready .any ops listed := by
            simp only [Region.ready, List.mem_filter, List.mem_range, Bool.and_eq_true, Bool.not_eq_true']
            have hls : k < listed.size := by rw [hI.llen]; exact hk
            refine ⟨hsz, ?_, ?_⟩
            · unfold lst at f
              rw [Array.getD_eq_getD_getElem?, Array.getElem?_eq_getElem hls] at f ⊢
              simpa using f
            · rw [hopi]
              simp only [Option.map_some, Option.getD_some, Array.all_eq_true]
              intro m hm
              rcases Bool.eq_false_or_eq_true (Region.binds .any (all[k].after[m])) with hbd | hbd
              · have hb := (hC.ok k _ hoi).back (all[k].after[m]) (by simp) hbd
                have := ih _ hb (by omega)
                unfold lst at this
                simp [this]
              · simp [hbd]
          rw [hr] at this
          cases this
    refine hQ N h a w ⟨?_, hI.grow, hI.dom, fun t => ?_, hI.size, hI.defers⟩
    · refine hI.mem.same (fun q => ?_) (fun q => ?_)
      · obtain ⟨s, s1, s2, s3⟩ := hI.blks q
        rw [s3]
        refine hC.blk_stage (Nat.le_refl _) s1 fun k hk => ?_
        rw [← s2 k hk]
        exact ⟨fun hh => hl k hh, fun _ => (hC.memAt hk).1⟩
      · obtain ⟨s, s1, s2, s3⟩ := hI.rows q
        rw [s3]
        refine hC.row_stage (Nat.le_refl _) s1 fun k hk => ?_
        rw [← s2 k hk]
        exact ⟨fun hh => hl k hh, fun _ => (hC.memAt hk).1⟩
    · by_cases hex : ∃ (k : Nat) (x : Oper), all[k]? = some x ∧ dstAt b x.dst = some t
      · obtain ⟨k, x, hx, hxt⟩ := hex
        exact hI.wrote t k x hx hxt (hl k (List.getElem?_eq_some_iff.1 hx).1)
      · have h1 := hI.first t fun k x hx hxt => absurd ⟨k, x, hx, hxt⟩ hex
        have := hC.slot (i := 0) (t := t) all.length (Nat.zero_le _) (Nat.le_refl _) fun k x hx _ _ hxt => hex ⟨k, x, hx, hxt⟩
        exact (this N h _).1 h1
  intro fuel
  induction fuel with
  | zero =>
    intro N listed h bsL rsL a w hf hI
    have hr : Region.ready .any ops listed = [] := by
      cases hrr : Region.ready .any ops listed with
      | nil => rfl
      | cons i r =>
        exfalso
        have hi : i ∈ Region.ready .any ops listed := by rw [hrr]; exact List.mem_cons_self ..
        simp only [Region.ready, List.mem_filter, List.mem_range, Bool.and_eq_true, Bool.not_eq_true'] at hi
        have hls : i < listed.size := by rw [hI.llen, ← hall]; simpa using hi.1
        have h1 := openOf_zero listed.toList (by omega) i listed[i] (by simp [hls])
        have h2 := hi.2.1
        rw [Array.getD_eq_getD_getElem?, Array.getElem?_eq_getElem hls] at h2
        simp [h1] at h2
    exact ⟨hr, done N listed h bsL rsL a w hI hr⟩
  | succ fuel ih =>
    intro N listed h bsL rsL a w hf hI
    refine ⟨done N listed h bsL rsL a w hI, fun i hi => any_step hE hG hall hC hd hI hi fun N' h' bs' rs' a' w' hI' => ih N' _ h' bs' rs' a' w' ?_ hI'⟩
    have hi' := hi
    simp only [Region.ready, List.mem_filter, List.mem_range, Bool.and_eq_true, Bool.not_eq_true'] at hi'
    have hls : i < listed.size := by rw [hI.llen, ← hall]; simpa using hi'.1
    have h2 := hi'.2.1
    rw [Array.getD_eq_getD_getElem?, Array.getElem?_eq_getElem hls] at h2
    have := openOf_set listed.toList i (by simp [hls]; simpa using h2)
    rw [Array.toList_setIfInBounds]
    omega

theorem execD_sound (hE : EnvOk P E) (hG : GlobOk E.gl h0) (hm : P.follows .mixedOrders = true) (ops : Array Oper) (id : Nat) (hok : okOps ops.toList 0 ops.toList = true) {Q : Exit → Act → World → Prop} {k : St → Prop}
    (hd : ∀ o ∈ ops.toList, ∀ t, o.dst = some t → t < n) (hQ : ∀ σ' N' h' a' w', k σ' → Sat B w0 h0 b u n σ' N' h' a' w' → Q .normal a' w')
    {σ : St} {h : PHeap} {a : Act} {w : World} (hfr : freshM σ.slots σ.blks A = true) (e : execD E b ops.toList A 0 ops.toList σ [] k) (hS : Sat B w0 h0 b u n σ N h a w) : (Code.region id ops true).wp P Q a w := by
  obtain ⟨S, M, s1, s2, s3, s4, s5⟩ := execD_chain ops.toList 0 σ [] e
  simp only [Nat.zero_add] at s3 s4 s5
  have hC : Chain E b ops.toList A S M := ⟨s2, by rw [s1]; exact freshM_all hfr, s3, s4, fun j o ho => by have := okOps_get ops.toList 0 hok j o ho; rwa [Nat.zero_add] at this⟩
  refine wp_region_any hm ?_
  refine any_run (S := S) (M := M) (B := B) (w0 := w0) (h0 := h0) (u := u) (n := n) hE hG rfl hC hd (fun N' h' a' w' hS' => hQ _ N' h' a' w' s5 hS') ops.size N _ h σ.blks σ.rows a _ ?_ ?_
  · have : ∀ m, openOf (List.replicate m false) = m := by
      intro m
      induction m with
      | zero => rfl
      | succ m ih => simp [List.replicate_succ, openOf, ih]
    rw [Array.toList_replicate, this]
    exact Nat.le_refl _
  · have hno : ∀ k, ¬ lst (Array.replicate ops.size false) k := by
      intro k hk
      unfold lst at hk
      rw [Array.getD_eq_getD_getElem?, Array.getElem?_replicate] at hk
      split at hk <;> simp at hk
    have hmem : MemSat B w0 σ.blks σ.rows N h { w with drawn := w.drawn + 1 } := by
      have := hS.mem
      exact ⟨⟨this.below.os, this.below.tape, this.below.output, this.below.size, this.below.block, Nat.le_succ_of_le this.below.drawn⟩, this.size, this.pin, this.blk, this.inj, this.row, this.rowh, this.rowb, this.rowr⟩
    refine ⟨hmem, hS.grow, hS.dom, hS.size, hS.defers, by simp, fun i j hi _ => absurd hi (hno i), fun t k o _ _ hk => absurd hk (hno k), fun t _ => by rw [s1]; exact hS.slots t, fun q => ⟨0, Nat.zero_le _, fun k _ => ⟨fun hk => absurd hk (hno k), fun hk => by omega⟩, by rw [s1]⟩, fun q => ⟨0, Nat.zero_le _, fun k _ => ⟨fun hk => absurd hk (hno k), fun hk => by omega⟩, by rw [s1]⟩⟩
theorem execM_sound (hE : EnvOk P E) (hG : GlobOk E.gl h0) (hm : P.follows .mixedOrders = true) (ops : Array Oper) (id : Nat) (hok : okOps ops.toList 0 ops.toList = true) {Q : Exit → Act → World → Prop} {k : St → Prop}
    (hd : ∀ o ∈ ops.toList, ∀ t, o.dst = some t → t < n) (hQ : ∀ σ' N' h' a' w', k σ' → Sat B w0 h0 b u n σ' N' h' a' w' → Q .normal a' w')
    {σ : St} {h : PHeap} {a : Act} {w : World} (e : execM E b ops.toList σ k) (hS : Sat B w0 h0 b u n σ N h a w) : (Code.region id ops true).wp P Q a w := by
  unfold execM at e
  cases h1 : freshM σ.slots σ.blks (madeOf b 0 0 ops.toList) with
  | true => rw [h1] at e; exact execD_sound hE hG hm ops id hok hd hQ h1 e hS
  | false =>
    rw [h1] at e
    simp only [cond_false] at e
    cases h2 : freshM σ.slots σ.blks (madeOf b 100000000 0 ops.toList) with
    | true => rw [h2] at e; exact execD_sound hE hG hm ops id hok hd hQ h2 e hS
    | false =>
      rw [h2] at e
      simp only [cond_false] at e
      cases h3 : freshM σ.slots σ.blks (madeOf b 200000000 0 ops.toList) with
      | true => rw [h3] at e; exact execD_sound hE hG hm ops id hok hd hQ h3 e hS
      | false => rw [h3] at e; exact e.elim
end
end Go.Fr
