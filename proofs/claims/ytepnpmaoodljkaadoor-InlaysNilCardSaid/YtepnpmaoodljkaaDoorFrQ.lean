/-
  A region that draws its order. Conditions: none.
-/
import Derived.Test.YtepnpmaoodljkaaDoorFrO
namespace Go.Fr
open Go Go.RowKit
universe u

/-! ### What the look at the edges gives -/
theorem optEq_eq {a : Option Nat} {t : Nat} : optEq a t = true ↔ a = some t := by
  cases a with
  | none => simp [optEq]
  | some x =>
    simp only [optEq, Option.some.injEq]
    exact ⟨Nat.eq_of_beq_eq_true, fun e => by subst e; exact Nat.beq_refl x⟩

theorem readsOk_get {all : List Oper} {i t : Nat} : (l : List Oper) → (j0 : Nat) → readsOk all i t j0 l = true → ∀ (k : Nat) o, l[k]? = some o → o.dst = some t → (j0 + k < i → afterOf all i (j0 + k) = true) ∧ (i < j0 + k → afterOf all (j0 + k) i = true)
  | [], _, _, k, o, ho, _ => by simp at ho
  | x :: r, j0, e, k, o, ho, hd => by
    simp only [readsOk, Bool.and_eq_true] at e
    cases k with
    | zero =>
      simp at ho; subst ho
      have h1 := e.1
      rw [optEq_eq.2 hd] at h1
      simp only [cond_true, Nat.add_zero] at h1 ⊢
      refine ⟨fun hlt => ?_, fun hlt => ?_⟩
      · rw [show Nat.blt j0 i = true from Nat.ble_eq_true_of_le hlt] at h1
        exact h1
      · have n1 : Nat.blt j0 i = false := by
          cases hb : Nat.blt j0 i with
          | false => rfl
          | true => have := Nat.le_of_ble_eq_true hb; omega
        have n2 : Nat.beq j0 i = false := by
          cases hb : Nat.beq j0 i with
          | false => rfl
          | true => have := Nat.eq_of_beq_eq_true hb; omega
        rw [n1, n2] at h1
        exact h1
    | succ k =>
      have := readsOk_get r (j0 + 1) e.2 k o (by simpa using ho) hd
      rw [show j0 + (k + 1) = j0 + 1 + k by omega]
      exact this

theorem dstOnce_get {all : List Oper} {i : Nat} {d : Nat} : (l : List Oper) → (j0 : Nat) → dstOnce all i (some d) j0 l = true → ∀ (k : Nat) o, l[k]? = some o → o.dst = some d → j0 + k = i
  | [], _, _, k, o, ho, _ => by simp at ho
  | x :: r, j0, e, k, o, ho, hd => by
    simp only [dstOnce, Bool.and_eq_true] at e
    cases k with
    | zero =>
      simp at ho; subst ho
      have h1 := e.1
      cases hb : Nat.beq i j0 with
      | true => have := Nat.eq_of_beq_eq_true hb; omega
      | false =>
        rw [hb] at h1
        simp only [cond_false, optEq_eq.2 hd] at h1
        cases h1
    | succ k =>
      have := dstOnce_get r (j0 + 1) e.2 k o (by simpa using ho) hd
      omega

structure OkAt (all : List Oper) (i : Nat) (o : Oper) : Prop where
  reads : ∀ t ∈ looks all o, ∀ (k : Nat) x, all[k]? = some x → x.dst = some t → (k < i → afterOf all i k = true) ∧ (i < k → afterOf all k i = true)
  once : ∀ d, o.dst = some d → ∀ (k : Nat) x, all[k]? = some x → x.dst = some d → k = i
  guard : ∀ j w, o.guard = some (j, w) → j < i ∧ afterOf all i j = true
  back : ∀ e ∈ o.after.toList, Region.binds .any e = true → e.on < i

theorem edgesBack_get {i : Nat} : {es : List Edge} → edgesBack i es = true → ∀ e ∈ es, Region.binds .any e = true → e.on < i
  | [], _, e, he, _ => by cases he
  | x :: r, h, e, he, hb => by
    simp only [edgesBack, Bool.and_eq_true] at h
    rcases List.mem_cons.1 he with he | he
    · subst he
      have h1 := h.1
      unfold Region.binds at hb
      cases hg : e.ground <;> rw [hg] at h1 hb <;> first | exact Nat.le_of_ble_eq_true h1 | exact absurd (show (Region.Mode.any == Region.Mode.text) = true from hb) (by decide) | exact absurd (show (Region.Mode.any == Region.Mode.gc) = true from hb) (by decide)
    · exact edgesBack_get h.2 e he hb

theorem okOps_get {all : List Oper} : (l : List Oper) → (i0 : Nat) → okOps all i0 l = true → ∀ (k : Nat) o, l[k]? = some o → OkAt all (i0 + k) o
  | [], _, _, k, o, ho => by simp at ho
  | x :: r, i0, e, k, o, ho => by
    simp only [okOps, Bool.and_eq_true] at e
    obtain ⟨⟨⟨⟨e1, e2⟩, e3⟩, e4⟩, e5⟩ := e
    cases k with
    | zero =>
      simp at ho; subst ho
      refine ⟨?_, ?_, ?_, edgesBack_get e4⟩
      · intro t ht k y hy hd
        have := readsOk_get all 0 (List.all_eq_true.1 e1 t ht) k y hy hd
        rw [Nat.zero_add] at this
        exact this
      · intro d hd k y hy hyd
        rw [hd] at e2
        have := dstOnce_get all 0 e2 k y hy hyd
        omega
      · intro j w hg
        rw [hg] at e3
        simp only [guardOk, Bool.and_eq_true] at e3
        exact ⟨Nat.le_of_ble_eq_true e3.1, e3.2⟩
    | succ k =>
      have := okOps_get r (i0 + 1) e5 k o (by simpa using ho)
      rw [show i0 + (k + 1) = i0 + 1 + k by omega]
      exact this

theorem onList_get {es : List Edge} {j : Nat} : onList es j = true ↔ ∃ e ∈ es, e.on = j ∧ Region.binds .any e = true := by
  induction es with
  | nil => simp [onList]
  | cons x r ih =>
    simp only [onList, Bool.or_eq_true, Bool.and_eq_true, ih, List.mem_cons]
    constructor
    · rintro (⟨h1, h2⟩ | ⟨e, h1, h2⟩)
      · refine ⟨x, .inl rfl, Nat.eq_of_beq_eq_true h1, ?_⟩
        unfold Region.binds
        cases hg : x.ground <;> rw [hg] at h2 <;> first | rfl | cases h2
      · exact ⟨e, .inr h1, h2⟩
    · rintro ⟨e, h1 | h1, h2, h3⟩
      · subst h1
        left
        refine ⟨by rw [h2]; exact Nat.beq_refl j, ?_⟩
        unfold Region.binds at h3
        cases hg : e.ground <;> rw [hg] at h3 <;> first | rfl | exact absurd (show (Region.Mode.any == Region.Mode.text) = true from h3) (by decide) | exact absurd (show (Region.Mode.any == Region.Mode.gc) = true from h3) (by decide)
      · exact .inr ⟨e, h1, h2, h3⟩

/-! ### The steps that the symbolic walk has gone -/
def Eqv (s s' : SV) : Prop := ∀ N h v, s.rel N h v ↔ s'.rel N h v
theorem Eqv.refl (s : SV) : Eqv s s := fun _ _ _ => Iff.rfl
theorem Eqv.symm {s s' : SV} (e : Eqv s s') : Eqv s' s := fun N h v => (e N h v).symm
theorem Eqv.trans {a b c : SV} (e : Eqv a b) (f : Eqv b c) : Eqv a c := fun N h v => (e N h v).trans (f N h v)
theorem tv_blit (b : Bool) : Eqv (.leaf (.tv .bool b)) (.leaf (.blit b)) := fun N h v => by
  constructor
  · intro hh
    obtain ⟨cs, q1, q2⟩ := SV.tv_iff.1 hh
    simp only [rep] at q1
    subst q1
    exact SV.leaf_iff.2 (by simp only [Leaf.rel]; exact q2)
  · intro e
    have e := SV.leaf_iff.1 e
    simp only [Leaf.rel] at e
    exact SV.tv_iff.2 ⟨[.bool b], rfl, e⟩

/-- What is known of a guard, and whether the operation is carried out. -/
def Guards (b : Nat) (all : List Oper) (g : Option (Nat × Bool)) (σ σ1 : St) (yes : Bool) : Prop :=
  match g with
  | none => σ1 = σ ∧ yes = true
  | some (j, w) => ∃ t, dstOf all j = some t ∧
    ((∃ c, getS σ.slots (b + t) = .leaf (.blit c) ∧ σ1 = σ ∧ yes = (c == w)) ∨
     (∃ c : Bool, getS σ.slots (b + t) = .leaf (.tv .bool c) ∧ σ1 = σ.put (some (b + t)) (.leaf (.blit c)) ∧ yes = (c == w)) ∨
     (getS σ.slots (b + t) = .leaf .undef ∧ σ1 = σ ∧ yes = false))

def memOf (b : Nat) (i : Nat) (sl : Slots) (op : Op) (mem : Mem) : Mem :=
  match touches b sl op with
  | some (q, w) => (i, q, w) :: mem
  | none => mem

def behind (all : List Oper) (i : Nat) (A : Made) (f : Nat → Bool) : Prop := ∀ p ∈ A, f p.2 = true → i = p.1 ∨ afterOf all i p.1 = true
/-- What an operation does that is carried out. -/
def ActD (E : Env) (b : Nat) (all : List Oper) (A : Made) (i : Nat) (o : Oper) (σ1 : St) (mem : Mem) (σ' : St) (mem' : Mem) : Prop :=
  (∃ r p, pureEv E b σ1.slots σ1.blks σ1.rows o.op = some (r, p) ∧ (∀ q, p = some q → q) ∧ σ' = σ1.put (dstAt b o.dst) r ∧ mem' = memOf b i σ1.slots o.op mem ∧ behind all i A (fun q => r.anyL (Leaf.namesB q))) ∨
  (∃ q c, storeEv E b σ1.slots σ1.blks o.op = some (q, c) ∧ o.dst = none ∧ σ' = ⟨σ1.slots, setB σ1.blks q c, σ1.rows⟩ ∧ mem' = (i, 2 * q, true) :: mem ∧ behind all i A (fun q => anyLeaf (Leaf.namesB q) c.cells)) ∨
  (∃ q c, rowStoreEv E b σ1.slots σ1.rows o.op = some (q, c) ∧ o.dst = none ∧ σ' = ⟨σ1.slots, σ1.blks, setR σ1.rows q c⟩ ∧ mem' = (i, 2 * q + 1, true) :: mem) ∨
  (∃ t ti d q, o.op = .alloc t ∧ E.tt t = some ti ∧ ti.zero.length = ti.size ∧ o.dst = some d ∧ (i, q) ∈ A ∧ (∀ p ∈ A, p.2 = q → i = p.1) ∧ (∀ p ∈ A, anyLeaf (Leaf.namesB p.2) ti.zero = false) ∧ σ' = ⟨(b + d, .leaf (.ptr q 0)) :: σ1.slots, (q, ⟨t, ti.zero, none⟩) :: σ1.blks, σ1.rows⟩ ∧ mem' = (i, 2 * q, true) :: mem)
def StepD (E : Env) (b : Nat) (all : List Oper) (A : Made) (i : Nat) (o : Oper) (σ : St) (mem : Mem) (σ' : St) (mem' : Mem) : Prop :=
  ∃ σ1 yes, Guards b all o.guard σ σ1 yes ∧
    ((yes = true ∧ ActD E b all A i o σ1 mem σ' mem') ∨
     (yes = false ∧ σ' = σ1.put (dstAt b o.dst) (.leaf .undef) ∧ mem' = mem))

theorem behindM_all {all : List Oper} {i : Nat} {f : Nat → Bool} : {A : Made} → behindM all i f A = true → behind all i A f
  | [], _, p, hp, _ => by cases hp
  | (j, q) :: r, e, p, hp, hf => by
    simp only [behindM, Bool.and_eq_true] at e
    rcases List.mem_cons.1 hp with h | h
    · subst h
      have e1 := e.1
      rw [hf] at e1
      simp only [cond_true] at e1
      cases hb : Nat.beq i j with
      | true => exact .inl (Nat.eq_of_beq_eq_true hb)
      | false => rw [hb] at e1; exact .inr e1
    · exact behindM_all e.2 p h hf
theorem noneM_all {f : Nat → Bool} : {A : Made} → noneM f A = true → ∀ p ∈ A, f p.2 = false
  | [], _, p, hp => by cases hp
  | (j, q) :: r, e, p, hp => by
    simp only [noneM, Bool.and_eq_true, Bool.not_eq_true'] at e
    rcases List.mem_cons.1 hp with h | h
    · subst h; exact e.1
    · exact noneM_all e.2 p h
theorem onlyM_all {i q : Nat} : {A : Made} → onlyM i q A = true → ∀ p ∈ A, p.2 = q → i = p.1
  | [], _, p, hp, _ => by cases hp
  | (j, q') :: r, e, p, hp, hq => by
    simp only [onlyM, Bool.and_eq_true] at e
    rcases List.mem_cons.1 hp with h | h
    · subst h
      have e1 := e.1
      simp only at hq
      subst hq
      rw [Nat.beq_refl] at e1
      exact Nat.eq_of_beq_eq_true e1
    · exact onlyM_all e.2 p h hq
theorem madeAt_mem {i q : Nat} : {A : Made} → madeAt i A = some q → (i, q) ∈ A
  | [], e => by cases e
  | (j, q') :: r, e => by
    simp only [madeAt] at e
    cases hb : Nat.beq i j with
    | true =>
      rw [hb] at e
      simp only [cond_true, Option.some.injEq] at e
      rw [Nat.eq_of_beq_eq_true hb, e]
      exact List.mem_cons_self ..
    | false => rw [hb] at e; exact List.mem_cons_of_mem _ (madeAt_mem e)
theorem freshM_all {sl : Slots} {bs : Blks} : {A : Made} → freshM sl bs A = true → ∀ p ∈ A, usedB sl bs p.2 = false
  | [], _, p, hp => by cases hp
  | (j, q) :: r, e, p, hp => by
    simp only [freshM, Bool.and_eq_true, Bool.not_eq_true'] at e
    rcases List.mem_cons.1 hp with h | h
    · subst h; exact e.1
    · exact freshM_all e.2 p h

section
variable {P : Program} {E : Env} {b : Nat} {all : List Oper} {A : Made}

theorem execD1_step {i : Nat} {o : Oper} {σ : St} {mem : Mem} {k : St → Mem → Prop} (e : execD1 E b all A i o σ mem k) :
    ∃ σ' mem', k σ' mem' ∧ ActD E b all A i o σ mem σ' mem' := by
  obtain ⟨sl, bs, rs⟩ := σ
  simp only [execD1] at e
  split at e
  · rename_i r p hr
    obtain ⟨hp, e⟩ := oblige_some e
    have e := nameK_at e
    cases hbe : behindM all i (fun q => r.anyL (Leaf.namesB q)) A with
    | false => rw [hbe] at e; exact e.elim
    | true =>
      rw [hbe] at e
      simp only [cond_true] at e
      rw [putK_eq] at e
      refine ⟨_, memOf b i sl o.op mem, ?_, .inl ⟨r, p, hr, hp, rfl, rfl, behindM_all hbe⟩⟩
      unfold memOf
      split at e
      · rename_i q w ht; rw [ht]; exact e
      · rename_i ht; rw [ht]; exact e
  · split at e
    · rename_i q t cs it hst
      split at e
      · rename_i hdst
        rw [fLs_eq] at e
        cases hbe : behindM all i (fun q => anyLeaf (Leaf.namesB q) cs) A with
        | false => rw [hbe] at e; exact e.elim
        | true =>
          rw [hbe] at e
          simp only [cond_true] at e
          rw [setBK_eq] at e
          exact ⟨_, _, e, .inr (.inl ⟨q, ⟨t, cs, it⟩, hst, hdst, rfl, rfl, behindM_all hbe⟩)⟩
      · exact e.elim
    · split at e
      · rename_i q t te xs hst
        split at e
        · rename_i hdst
          rw [setRK_eq] at e
          exact ⟨_, _, e, .inr (.inr (.inl ⟨q, ⟨t, te, xs⟩, hst, hdst, rfl, rfl⟩))⟩
        · exact e.elim
      · split at e
        · rename_i t hop
          split at e
          · rename_i d hdst
            split at e
            · rename_i ti hti
              split at e
              · rename_i q hq
                cases hb : (Nat.beq ti.zero.length ti.size && noneM (fun p => anyLeaf (Leaf.namesB p) ti.zero) A && onlyM i q A) with
                | false => rw [hb] at e; exact e.elim
                | true =>
                  rw [hb] at e
                  simp only [cond_true] at e
                  rw [fLs_eq] at e
                  simp only [Bool.and_eq_true] at hb
                  exact ⟨_, _, e, .inr (.inr (.inr ⟨t, ti, d, q, hop, hti, Nat.eq_of_beq_eq_true hb.1.1, hdst, madeAt_mem hq, onlyM_all hb.2, noneM_all hb.1.2, rfl, rfl⟩))⟩
              · exact e.elim
            · exact e.elim
          · exact e.elim
        · exact e.elim

theorem execD_step {i : Nat} {o : Oper} {l : List Oper} {σ : St} {mem : Mem} {k : St → Prop} (e : execD E b all A i (o :: l) σ mem k) :
    ∃ σ' mem', StepD E b all A i o σ mem σ' mem' ∧ execD E b all A (i + 1) l σ' mem' k := by
  simp only [execD] at e
  have gd : ∀ (w c : Bool) (σ1 : St), Guards b all o.guard σ σ1 (c == w) →
      guarded w c (execD1 E b all A i o σ1 mem fun σ' mem' => execD E b all A (i + 1) l σ' mem' k) (setK σ1 (dstAt b o.dst) (.leaf .undef) fun σ' => execD E b all A (i + 1) l σ' mem k) →
      ∃ σ' mem', StepD E b all A i o σ mem σ' mem' ∧ execD E b all A (i + 1) l σ' mem' k := by
    intro w c σ1 hg e
    have yes : (c == w) = true → execD1 E b all A i o σ1 mem (fun σ' mem' => execD E b all A (i + 1) l σ' mem' k) → ∃ σ' mem', StepD E b all A i o σ mem σ' mem' ∧ execD E b all A (i + 1) l σ' mem' k := by
      intro hb e
      obtain ⟨σ', mem', h1, h2⟩ := execD1_step e
      exact ⟨σ', mem', ⟨σ1, _, hg, .inl ⟨hb, h2⟩⟩, h1⟩
    have no : (c == w) = false → setK σ1 (dstAt b o.dst) (.leaf .undef) (fun σ' => execD E b all A (i + 1) l σ' mem k) → ∃ σ' mem', StepD E b all A i o σ mem σ' mem' ∧ execD E b all A (i + 1) l σ' mem' k := by
      intro hb e
      rw [setK_eq] at e
      exact ⟨_, _, ⟨σ1, _, hg, .inr ⟨hb, rfl, rfl⟩⟩, e⟩
    cases w <;> cases c <;> simp only [guarded] at e
    · exact yes rfl e
    · exact no rfl e
    · exact no rfl e
    · exact yes rfl e
  split at e
  · rename_i hg
    obtain ⟨σ', mem', h1, h2⟩ := execD1_step e
    exact ⟨σ', mem', ⟨σ, true, by rw [hg]; exact ⟨rfl, rfl⟩, .inl ⟨rfl, h2⟩⟩, h1⟩
  · rename_i j w hg
    split at e
    · exact e.elim
    · rename_i t ht
      split at e
      · rename_i c hb
        exact gd w c σ (by rw [hg]; exact ⟨t, ht, .inl ⟨c, hb, rfl, rfl⟩⟩) e
      · rename_i c hb
        have hG : ∀ c' : Bool, c = c' → Guards b all o.guard σ (σ.put (some (b + t)) (.leaf (.blit c'))) (c' == w) := by
          intro c' hc
          subst hc
          rw [hg]
          exact ⟨t, ht, .inr (.inl ⟨c, hb, rfl, rfl⟩)⟩
        cases c with
        | true =>
          have e := e.1 rfl
          rw [setK_eq] at e
          exact gd w true _ (hG true rfl) e
        | false =>
          have e := e.2 rfl
          rw [setK_eq] at e
          exact gd w false _ (hG false rfl) e
      · rename_i hu
        rw [setK_eq] at e
        exact ⟨_, _, ⟨σ, false, by rw [hg]; exact ⟨t, ht, .inr (.inr ⟨hu, rfl, rfl⟩)⟩, .inr ⟨rfl, rfl, rfl⟩⟩, e⟩
      · exact e.elim

/-- All the steps. -/
theorem execD_chain {k : St → Prop} : (l : List Oper) → (i : Nat) → (σ : St) → (mem : Mem) → execD E b all A i l σ mem k →
    ∃ (S : Nat → St) (M : Nat → Mem), S i = σ ∧ M i = mem ∧ (∀ (j : Nat) o, l[j]? = some o → StepD E b all A (i + j) o (S (i + j)) (M (i + j)) (S (i + j + 1)) (M (i + j + 1))) ∧ memOk all (M (i + l.length)) = true ∧ k (S (i + l.length))
  | [], i, σ, mem, e => by
    simp only [execD] at e
    split at e
    · rename_i hm
      exact ⟨fun _ => σ, fun _ => mem, rfl, rfl, fun j o ho => by simp at ho, hm, e⟩
    · exact e.elim
  | o :: l, i, σ, mem, e => by
    obtain ⟨σ', mem', h1, h2⟩ := execD_step e
    obtain ⟨S, M, s1, s2, s3, s4, s5⟩ := execD_chain l (i + 1) σ' mem' h2
    refine ⟨fun j => if j = i then σ else S j, fun j => if j = i then mem else M j, by simp, by simp, ?_, ?_, ?_⟩
    · intro j x hx
      cases j with
      | zero =>
        simp at hx; subst hx
        simp only [Nat.add_zero, if_true]
        rw [if_neg (by omega), if_neg (by omega), s1, s2]
        exact h1
      | succ j =>
        have := s3 j x (by simpa using hx)
        simp only [if_neg (show ¬ i + (j + 1) = i by omega), if_neg (show ¬ i + (j + 1) + 1 = i by omega)]
        rw [show i + (j + 1) = i + 1 + j by omega]
        exact this
    · simp only [List.length_cons]
      rw [if_neg (by omega), show i + (l.length + 1) = i + 1 + l.length by omega]
      exact s4
    · simp only [List.length_cons]
      rw [if_neg (by omega), show i + (l.length + 1) = i + 1 + l.length by omega]
      exact s5
end
end Go.Fr
