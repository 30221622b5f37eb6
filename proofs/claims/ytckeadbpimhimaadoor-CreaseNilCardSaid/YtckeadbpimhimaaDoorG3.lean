/-
  Texts on which the proofs of the seat's statements stand: a symbolic walk, its soundness, the functions' conditions and their proofs (3). Conditions: none.
-/
import Derived.Test.YtckeadbpimhimaaDoorG2
import Derived.Scope
import Derived.ProofKit
import Derived.OpenShut
import Derived.ShutString
import Derived.ChangeOld
import Derived.Below
import Derived.Carry
import Derived.SizedLaws
import Derived.ChangeCalls
import Derived.Handed
import Derived.Test.YtckeadbpimhimaaDoorProg
namespace Go.Fr
open Go Go.RowKit
universe u
theorem optEq_eq {a : Option Nat} {t : Nat} : optEq a t = true ↔ a = some t := by
  cases a with
  | none => simp [optEq]
  | some x =>
    simp only [optEq, Option.some.injEq]
    exact ⟨Nat.eq_of_beq_eq_true, fun e => by subst e; exact Nat.beq_refl x⟩
theorem readsOk_get {all : List Oper} {i t : Nat} : (l : List Oper) → (j0 : Nat) → readsOk all i t j0 l = true → ∀ (k : Nat) o, l[k]? = some o → o.dst = some t → (j0 + k < i → afterOf all i (j0 + k) = true) ∧ (i < j0 + k → afterOf all (j0 + k) i = true)
  | [], _, _, k, o, ho, _ => by simp at ho
  | x :: r, j0, e, k, o, ho, hd => by
    simp only [readsOk, Bool.and_eq_true] at e
    cases k with
    | zero =>
      simp at ho; subst ho
      have h1 := e.1
      rw [optEq_eq.2 hd] at h1
      simp only [cond_true, Nat.add_zero] at h1 ⊢
      refine ⟨fun hlt => ?_, fun hlt => ?_⟩
      · rw [show Nat.blt j0 i = true from Nat.ble_eq_true_of_le hlt] at h1
        exact h1
      · have n1 : Nat.blt j0 i = false := by
          cases hb : Nat.blt j0 i with
          | false => rfl
          | true => have := Nat.le_of_ble_eq_true hb; omega
        have n2 : Nat.beq j0 i = false := by
          cases hb : Nat.beq j0 i with
          | false => rfl
          | true => have := Nat.eq_of_beq_eq_true hb; omega
        rw [n1, n2] at h1
        exact h1
    | succ k =>
      have := readsOk_get r (j0 + 1) e.2 k o (by simpa using ho) hd
      rw [show j0 + (k + 1) = j0 + 1 + k by omega]
      exact this
theorem dstOnce_get {all : List Oper} {i : Nat} {d : Nat} : (l : List Oper) → (j0 : Nat) → dstOnce all i (some d) j0 l = true → ∀ (k : Nat) o, l[k]? = some o → o.dst = some d → j0 + k = i
  | [], _, _, k, o, ho, _ => by simp at ho
  | x :: r, j0, e, k, o, ho, hd => by
    simp only [dstOnce, Bool.and_eq_true] at e
    cases k with
    | zero =>
      simp at ho; subst ho
      have h1 := e.1
      cases hb : Nat.beq i j0 with
      | true => have := Nat.eq_of_beq_eq_true hb; omega
      | false =>
        rw [hb] at h1
        simp only [cond_false, optEq_eq.2 hd] at h1
        cases h1
    | succ k =>
      have := dstOnce_get r (j0 + 1) e.2 k o (by simpa using ho) hd
      omega
structure OkAt (all : List Oper) (i : Nat) (o : Oper) : Prop where
  reads : ∀ t ∈ looks all o, ∀ (k : Nat) x, all[k]? = some x → x.dst = some t → (k < i → afterOf all i k = true) ∧ (i < k → afterOf all k i = true)
  once : ∀ d, o.dst = some d → ∀ (k : Nat) x, all[k]? = some x → x.dst = some d → k = i
  guard : ∀ j w, o.guard = some (j, w) → j < i ∧ afterOf all i j = true
  back : ∀ e ∈ o.after.toList, Region.binds .any e = true → e.on < i
theorem edgesBack_get {i : Nat} : {es : List Edge} → edgesBack i es = true → ∀ e ∈ es, Region.binds .any e = true → e.on < i
  | [], _, e, he, _ => by cases he
  | x :: r, h, e, he, hb => by
    simp only [edgesBack, Bool.and_eq_true] at h
    rcases List.mem_cons.1 he with he | he
    · subst he
      have h1 := h.1
      unfold Region.binds at hb
      cases hg : e.ground <;> rw [hg] at h1 hb <;> first | exact Nat.le_of_ble_eq_true h1 | exact absurd (show (Region.Mode.any == Region.Mode.text) = true from hb) (by decide) | exact absurd (show (Region.Mode.any == Region.Mode.gc) = true from hb) (by decide)
    · exact edgesBack_get h.2 e he hb
theorem okOps_get {all : List Oper} : (l : List Oper) → (i0 : Nat) → okOps all i0 l = true → ∀ (k : Nat) o, l[k]? = some o → OkAt all (i0 + k) o
  | [], _, _, k, o, ho => by simp at ho
  | x :: r, i0, e, k, o, ho => by
    simp only [okOps, Bool.and_eq_true] at e
    obtain ⟨⟨⟨⟨e1, e2⟩, e3⟩, e4⟩, e5⟩ := e
    cases k with
    | zero =>
      simp at ho; subst ho
      refine ⟨?_, ?_, ?_, edgesBack_get e4⟩
      · intro t ht k y hy hd
        have := readsOk_get all 0 (List.all_eq_true.1 e1 t ht) k y hy hd
        rw [Nat.zero_add] at this
        exact this
      · intro d hd k y hy hyd
        rw [hd] at e2
        have := dstOnce_get all 0 e2 k y hy hyd
        omega
      · intro j w hg
        rw [hg] at e3
        simp only [guardOk, Bool.and_eq_true] at e3
        exact ⟨Nat.le_of_ble_eq_true e3.1, e3.2⟩
    | succ k =>
      have := okOps_get r (i0 + 1) e5 k o (by simpa using ho)
      rw [show i0 + (k + 1) = i0 + 1 + k by omega]
      exact this
theorem onList_get {es : List Edge} {j : Nat} : onList es j = true ↔ ∃ e ∈ es, e.on = j ∧ Region.binds .any e = true := by
  induction es with
  | nil => simp [onList]
  | cons x r ih =>
    simp only [onList, Bool.or_eq_true, Bool.and_eq_true, ih, List.mem_cons]
    constructor
    · rintro (⟨h1, h2⟩ | ⟨e, h1, h2⟩)
      · refine ⟨x, .inl rfl, Nat.eq_of_beq_eq_true h1, ?_⟩
        unfold Region.binds
        cases hg : x.ground <;> rw [hg] at h2 <;> first | rfl | cases h2
      · exact ⟨e, .inr h1, h2⟩
    · rintro ⟨e, h1 | h1, h2, h3⟩
      · subst h1
        left
        refine ⟨by rw [h2]; exact Nat.beq_refl j, ?_⟩
        unfold Region.binds at h3
        cases hg : e.ground <;> rw [hg] at h3 <;> first | rfl | exact absurd (show (Region.Mode.any == Region.Mode.text) = true from h3) (by decide) | exact absurd (show (Region.Mode.any == Region.Mode.gc) = true from h3) (by decide)
      · exact .inr ⟨e, h1, h2, h3⟩
def Eqv (s s' : SV) : Prop := ∀ N h v, s.rel N h v ↔ s'.rel N h v
theorem Eqv.refl (s : SV) : Eqv s s := fun _ _ _ => Iff.rfl
theorem Eqv.symm {s s' : SV} (e : Eqv s s') : Eqv s' s := fun N h v => (e N h v).symm
theorem Eqv.trans {a b c : SV} (e : Eqv a b) (f : Eqv b c) : Eqv a c := fun N h v => (e N h v).trans (f N h v)
theorem tv_blit (b : Bool) : Eqv (.leaf (.tv .bool b)) (.leaf (.blit b)) := fun N h v => by
  constructor
  · intro hh
    obtain ⟨cs, q1, q2⟩ := SV.tv_iff.1 hh
    simp only [rep] at q1
    subst q1
    exact SV.leaf_iff.2 (by simp only [Leaf.rel]; exact q2)
  · intro e
    have e := SV.leaf_iff.1 e
    simp only [Leaf.rel] at e
    exact SV.tv_iff.2 ⟨[.bool b], rfl, e⟩
def Guards (b : Nat) (all : List Oper) (g : Option (Nat × Bool)) (σ σ1 : St) (yes : Bool) : Prop :=
  match g with
  | none => σ1 = σ ∧ yes = true
  | some (j, w) => ∃ t, dstOf all j = some t ∧
    ((∃ c, getS σ.slots (b + t) = .leaf (.blit c) ∧ σ1 = σ ∧ yes = (c == w)) ∨
     (∃ c : Bool, getS σ.slots (b + t) = .leaf (.tv .bool c) ∧ σ1 = σ.put (some (b + t)) (.leaf (.blit c)) ∧ yes = (c == w)) ∨
     (getS σ.slots (b + t) = .leaf .undef ∧ σ1 = σ ∧ yes = false))
def memOf (b : Nat) (i : Nat) (sl : Slots) (op : Op) (mem : Mem) : Mem :=
  match touches b sl op with
  | some (q, w) => (i, q, w) :: mem
  | none => mem
def behind (all : List Oper) (i : Nat) (A : Made) (f : Nat → Bool) : Prop := ∀ p ∈ A, f p.2 = true → i = p.1 ∨ afterOf all i p.1 = true
def ActD (E : Env) (b : Nat) (all : List Oper) (A : Made) (i : Nat) (o : Oper) (σ1 : St) (mem : Mem) (σ' : St) (mem' : Mem) : Prop :=
  (∃ r p, pureEv E b σ1.slots σ1.blks σ1.rows o.op = some (r, p) ∧ (∀ q, p = some q → q) ∧ σ' = σ1.put (dstAt b o.dst) r ∧ mem' = memOf b i σ1.slots o.op mem ∧ behind all i A (fun q => r.anyL (Leaf.namesB q))) ∨
  (∃ q c, storeEv E b σ1.slots σ1.blks o.op = some (q, c) ∧ o.dst = none ∧ σ' = ⟨σ1.slots, setB σ1.blks q c, σ1.rows⟩ ∧ mem' = (i, 2 * q, true) :: mem ∧ behind all i A (fun q => anyLeaf (Leaf.namesB q) c.cells)) ∨
  (∃ q c, rowStoreEv E b σ1.slots σ1.rows o.op = some (q, c) ∧ o.dst = none ∧ σ' = ⟨σ1.slots, σ1.blks, setR σ1.rows q c⟩ ∧ mem' = (i, 2 * q + 1, true) :: mem) ∨
  (∃ t ti d q, o.op = .alloc t ∧ E.tt t = some ti ∧ ti.zero.length = ti.size ∧ o.dst = some d ∧ (i, q) ∈ A ∧ (∀ p ∈ A, p.2 = q → i = p.1) ∧ (∀ p ∈ A, anyLeaf (Leaf.namesB p.2) ti.zero = false) ∧ σ' = ⟨(b + d, .leaf (.ptr q 0)) :: σ1.slots, (q, ⟨t, ti.zero, none⟩) :: σ1.blks, σ1.rows⟩ ∧ mem' = (i, 2 * q, true) :: mem)
def StepD (E : Env) (b : Nat) (all : List Oper) (A : Made) (i : Nat) (o : Oper) (σ : St) (mem : Mem) (σ' : St) (mem' : Mem) : Prop :=
  ∃ σ1 yes, Guards b all o.guard σ σ1 yes ∧
    ((yes = true ∧ ActD E b all A i o σ1 mem σ' mem') ∨
     (yes = false ∧ σ' = σ1.put (dstAt b o.dst) (.leaf .undef) ∧ mem' = mem))
theorem behindM_all {all : List Oper} {i : Nat} {f : Nat → Bool} : {A : Made} → behindM all i f A = true → behind all i A f
  | [], _, p, hp, _ => by cases hp
  | (j, q) :: r, e, p, hp, hf => by
    simp only [behindM, Bool.and_eq_true] at e
    rcases List.mem_cons.1 hp with h | h
    · subst h
      have e1 := e.1
      rw [hf] at e1
      simp only [cond_true] at e1
      cases hb : Nat.beq i j with
      | true => exact .inl (Nat.eq_of_beq_eq_true hb)
      | false => rw [hb] at e1; exact .inr e1
    · exact behindM_all e.2 p h hf
theorem noneM_all {f : Nat → Bool} : {A : Made} → noneM f A = true → ∀ p ∈ A, f p.2 = false
  | [], _, p, hp => by cases hp
  | (j, q) :: r, e, p, hp => by
    simp only [noneM, Bool.and_eq_true, Bool.not_eq_true'] at e
    rcases List.mem_cons.1 hp with h | h
    · subst h; exact e.1
    · exact noneM_all e.2 p h
theorem onlyM_all {i q : Nat} : {A : Made} → onlyM i q A = true → ∀ p ∈ A, p.2 = q → i = p.1
  | [], _, p, hp, _ => by cases hp
  | (j, q') :: r, e, p, hp, hq => by
    simp only [onlyM, Bool.and_eq_true] at e
    rcases List.mem_cons.1 hp with h | h
    · subst h
      have e1 := e.1
      simp only at hq
      subst hq
      rw [Nat.beq_refl] at e1
      exact Nat.eq_of_beq_eq_true e1
    · exact onlyM_all e.2 p h hq
theorem madeAt_mem {i q : Nat} : {A : Made} → madeAt i A = some q → (i, q) ∈ A
  | [], e => by cases e
  | (j, q') :: r, e => by
    simp only [madeAt] at e
    cases hb : Nat.beq i j with
    | true =>
      rw [hb] at e
      simp only [cond_true, Option.some.injEq] at e
      rw [Nat.eq_of_beq_eq_true hb, e]
      exact List.mem_cons_self ..
    | false => rw [hb] at e; exact List.mem_cons_of_mem _ (madeAt_mem e)
theorem freshM_all {sl : Slots} {bs : Blks} : {A : Made} → freshM sl bs A = true → ∀ p ∈ A, usedB sl bs p.2 = false
  | [], _, p, hp => by cases hp
  | (j, q) :: r, e, p, hp => by
    simp only [freshM, Bool.and_eq_true, Bool.not_eq_true'] at e
    rcases List.mem_cons.1 hp with h | h
    · subst h; exact e.1
    · exact freshM_all e.2 p h
section
variable {P : Program} {E : Env} {b : Nat} {all : List Oper} {A : Made}
theorem execD1_step {i : Nat} {o : Oper} {σ : St} {mem : Mem} {k : St → Mem → Prop} (e : execD1 E b all A i o σ mem k) :
    ∃ σ' mem', k σ' mem' ∧ ActD E b all A i o σ mem σ' mem' := by
  obtain ⟨sl, bs, rs⟩ := σ
  simp only [execD1] at e
  split at e
  · rename_i r p hr
    obtain ⟨hp, e⟩ := oblige_some e
    have e := nameK_at e
    cases hbe : behindM all i (fun q => r.anyL (Leaf.namesB q)) A with
    | false => rw [hbe] at e; exact e.elim
    | true =>
      rw [hbe] at e
      simp only [cond_true] at e
      rw [putK_eq] at e
      refine ⟨_, memOf b i sl o.op mem, ?_, .inl ⟨r, p, hr, hp, rfl, rfl, behindM_all hbe⟩⟩
      unfold memOf
      split at e
      · rename_i q w ht; rw [ht]; exact e
      · rename_i ht; rw [ht]; exact e
  · split at e
    · rename_i q t cs it hst
      split at e
      · rename_i hdst
        rw [fLs_eq] at e
        cases hbe : behindM all i (fun q => anyLeaf (Leaf.namesB q) cs) A with
        | false => rw [hbe] at e; exact e.elim
        | true =>
          rw [hbe] at e
          simp only [cond_true] at e
          rw [setBK_eq] at e
          exact ⟨_, _, e, .inr (.inl ⟨q, ⟨t, cs, it⟩, hst, hdst, rfl, rfl, behindM_all hbe⟩)⟩
      · exact e.elim
    · split at e
      · rename_i q t te xs hst
        split at e
        · rename_i hdst
          rw [setRK_eq] at e
          exact ⟨_, _, e, .inr (.inr (.inl ⟨q, ⟨t, te, xs⟩, hst, hdst, rfl, rfl⟩))⟩
        · exact e.elim
      · split at e
        · rename_i t hop
          split at e
          · rename_i d hdst
            split at e
            · rename_i ti hti
              split at e
              · rename_i q hq
                cases hb : (Nat.beq ti.zero.length ti.size && noneM (fun p => anyLeaf (Leaf.namesB p) ti.zero) A && onlyM i q A) with
                | false => rw [hb] at e; exact e.elim
                | true =>
                  rw [hb] at e
                  simp only [cond_true] at e
                  rw [fLs_eq] at e
                  simp only [Bool.and_eq_true] at hb
                  exact ⟨_, _, e, .inr (.inr (.inr ⟨t, ti, d, q, hop, hti, Nat.eq_of_beq_eq_true hb.1.1, hdst, madeAt_mem hq, onlyM_all hb.2, noneM_all hb.1.2, rfl, rfl⟩))⟩
              · exact e.elim
            · exact e.elim
          · exact e.elim
        · exact e.elim
theorem execD_step {i : Nat} {o : Oper} {l : List Oper} {σ : St} {mem : Mem} {k : St → Prop} (e : execD E b all A i (o :: l) σ mem k) :
    ∃ σ' mem', StepD E b all A i o σ mem σ' mem' ∧ execD E b all A (i + 1) l σ' mem' k := by
  simp only [execD] at e
  have gd : ∀ (w c : Bool) (σ1 : St), Guards b all o.guard σ σ1 (c == w) →
      guarded w c (execD1 E b all A i o σ1 mem fun σ' mem' => execD E b all A (i + 1) l σ' mem' k) (setK σ1 (dstAt b o.dst) (.leaf .undef) fun σ' => execD E b all A (i + 1) l σ' mem k) →
      ∃ σ' mem', StepD E b all A i o σ mem σ' mem' ∧ execD E b all A (i + 1) l σ' mem' k := by
    intro w c σ1 hg e
    have yes : (c == w) = true → execD1 E b all A i o σ1 mem (fun σ' mem' => execD E b all A (i + 1) l σ' mem' k) → ∃ σ' mem', StepD E b all A i o σ mem σ' mem' ∧ execD E b all A (i + 1) l σ' mem' k := by
      intro hb e
      obtain ⟨σ', mem', h1, h2⟩ := execD1_step e
      exact ⟨σ', mem', ⟨σ1, _, hg, .inl ⟨hb, h2⟩⟩, h1⟩
    have no : (c == w) = false → setK σ1 (dstAt b o.dst) (.leaf .undef) (fun σ' => execD E b all A (i + 1) l σ' mem k) → ∃ σ' mem', StepD E b all A i o σ mem σ' mem' ∧ execD E b all A (i + 1) l σ' mem' k := by
      intro hb e
      rw [setK_eq] at e
      exact ⟨_, _, ⟨σ1, _, hg, .inr ⟨hb, rfl, rfl⟩⟩, e⟩
    cases w <;> cases c <;> simp only [guarded] at e
    · exact yes rfl e
    · exact no rfl e
    · exact no rfl e
    · exact yes rfl e
  split at e
  · rename_i hg
    obtain ⟨σ', mem', h1, h2⟩ := execD1_step e
    exact ⟨σ', mem', ⟨σ, true, by rw [hg]; exact ⟨rfl, rfl⟩, .inl ⟨rfl, h2⟩⟩, h1⟩
  · rename_i j w hg
    split at e
    · exact e.elim
    · rename_i t ht
      split at e
      · rename_i c hb
        exact gd w c σ (by rw [hg]; exact ⟨t, ht, .inl ⟨c, hb, rfl, rfl⟩⟩) e
      · rename_i c hb
        have hG : ∀ c' : Bool, c = c' → Guards b all o.guard σ (σ.put (some (b + t)) (.leaf (.blit c'))) (c' == w) := by
          intro c' hc
          subst hc
          rw [hg]
          exact ⟨t, ht, .inr (.inl ⟨c, hb, rfl, rfl⟩)⟩
        cases c with
        | true =>
          have e := e.1 rfl
          rw [setK_eq] at e
          exact gd w true _ (hG true rfl) e
        | false =>
          have e := e.2 rfl
          rw [setK_eq] at e
          exact gd w false _ (hG false rfl) e
      · rename_i hu
        rw [setK_eq] at e
        exact ⟨_, _, ⟨σ, false, by rw [hg]; exact ⟨t, ht, .inr (.inr ⟨hu, rfl, rfl⟩)⟩, .inr ⟨rfl, rfl, rfl⟩⟩, e⟩
      · exact e.elim
theorem execD_chain {k : St → Prop} : (l : List Oper) → (i : Nat) → (σ : St) → (mem : Mem) → execD E b all A i l σ mem k →
    ∃ (S : Nat → St) (M : Nat → Mem), S i = σ ∧ M i = mem ∧ (∀ (j : Nat) o, l[j]? = some o → StepD E b all A (i + j) o (S (i + j)) (M (i + j)) (S (i + j + 1)) (M (i + j + 1))) ∧ memOk all (M (i + l.length)) = true ∧ k (S (i + l.length))
  | [], i, σ, mem, e => by
    simp only [execD] at e
    split at e
    · rename_i hm
      exact ⟨fun _ => σ, fun _ => mem, rfl, rfl, fun j o ho => by simp at ho, hm, e⟩
    · exact e.elim
  | o :: l, i, σ, mem, e => by
    obtain ⟨σ', mem', h1, h2⟩ := execD_step e
    obtain ⟨S, M, s1, s2, s3, s4, s5⟩ := execD_chain l (i + 1) σ' mem' h2
    refine ⟨fun j => if j = i then σ else S j, fun j => if j = i then mem else M j, by simp, by simp, ?_, ?_, ?_⟩
    · intro j x hx
      cases j with
      | zero =>
        simp at hx; subst hx
        simp only [Nat.add_zero, if_true]
        rw [if_neg (by omega), if_neg (by omega), s1, s2]
        exact h1
      | succ j =>
        have := s3 j x (by simpa using hx)
        simp only [if_neg (show ¬ i + (j + 1) = i by omega), if_neg (show ¬ i + (j + 1) + 1 = i by omega)]
        rw [show i + (j + 1) = i + 1 + j by omega]
        exact this
    · simp only [List.length_cons]
      rw [if_neg (by omega), show i + (l.length + 1) = i + 1 + l.length by omega]
      exact s4
    · simp only [List.length_cons]
      rw [if_neg (by omega), show i + (l.length + 1) = i + 1 + l.length by omega]
      exact s5
end
end Go.Fr
namespace Go.Fr
open Go Go.RowKit
universe u
section
variable {E : Env} {b : Nat} {all : List Oper} {A : Made}
theorem guards_slot {g : Option (Nat × Bool)} {σ σ1 : St} {yes : Bool} (hg : Guards b all g σ σ1 yes) (t : Nat) : Eqv (getS σ.slots t) (getS σ1.slots t) := by
  unfold Guards at hg
  split at hg
  · rw [hg.1]; exact Eqv.refl _
  · obtain ⟨t0, _, h⟩ := hg
    rcases h with ⟨c, _, h1, _⟩ | ⟨c, h1, h2, _⟩ | ⟨_, h1, _⟩
    · rw [h1]; exact Eqv.refl _
    · rw [h2]
      show Eqv _ (getS ((b + t0, SV.leaf (Leaf.blit c)) :: σ.slots) t)
      rw [getS_cons]
      split
      · rename_i e; subst e; rw [h1]; exact tv_blit c
      · exact Eqv.refl _
    · rw [h1]; exact Eqv.refl _
theorem guards_rest {g : Option (Nat × Bool)} {σ σ1 : St} {yes : Bool} (hg : Guards b all g σ σ1 yes) : σ1.blks = σ.blks ∧ σ1.rows = σ.rows := by
  unfold Guards at hg
  split at hg
  · rw [hg.1]; exact ⟨rfl, rfl⟩
  · obtain ⟨t0, _, h⟩ := hg
    rcases h with ⟨c, _, h1, _⟩ | ⟨c, h1, h2, _⟩ | ⟨_, h1, _⟩
    · rw [h1]; exact ⟨rfl, rfl⟩
    · rw [h2]; exact ⟨rfl, rfl⟩
    · rw [h1]; exact ⟨rfl, rfl⟩
theorem put_slot {σ : St} {d : Option Nat} {s : SV} {t : Nat} (ht : d ≠ some t) : getS (σ.put d s).slots t = getS σ.slots t := by
  cases d with
  | none => rfl
  | some k =>
    show getS ((k, s) :: σ.slots) t = _
    rw [getS_cons, if_neg (fun e => ht (by rw [e]))]
theorem put_slot_same {σ : St} {d : Nat} {s : SV} : getS (σ.put (some d) s).slots d = s := by
  show getS ((d, s) :: σ.slots) d = _
  rw [getS_cons, if_pos rfl]
theorem put_rest {σ : St} {d : Option Nat} {s : SV} : (σ.put d s).blks = σ.blks ∧ (σ.put d s).rows = σ.rows := by cases d <;> exact ⟨rfl, rfl⟩
theorem step_slot {i : Nat} {o : Oper} {σ σ' : St} {mem mem' : Mem} (h : StepD E b all A i o σ mem σ' mem') {t : Nat} (ht : dstAt b o.dst ≠ some t) : Eqv (getS σ.slots t) (getS σ'.slots t) := by
  obtain ⟨σ1, yes, hg, h⟩ := h
  refine (guards_slot hg t).trans ?_
  rcases h with ⟨_, ⟨r, p, _, _, h1, _⟩ | ⟨q, c, _, _, h1, _⟩ | ⟨q, c, _, _, h1, _⟩ | ⟨t0, ti, d, q, _, _, _, hd, _, _, _, h1, _⟩⟩ | ⟨_, h1, _⟩
  · rw [h1, put_slot ht]; exact Eqv.refl _
  · rw [h1]; exact Eqv.refl _
  · rw [h1]; exact Eqv.refl _
  · rw [h1]
    show Eqv _ (getS ((b + d, SV.leaf (Leaf.ptr q 0)) :: σ1.slots) t)
    rw [getS_cons, if_neg (fun e => ht (by rw [hd, ← e]; rfl))]
    exact Eqv.refl _
  · rw [h1, put_slot ht]; exact Eqv.refl _
def SameShape (R S : Option RowS) : Prop :=
  match R, S with
  | none, none => True
  | some R, some S => R.t = S.t ∧ R.e = S.e ∧ R.xs.length = S.xs.length
  | _, _ => False
theorem SameShape.refl (R : Option RowS) : SameShape R R := by cases R <;> simp [SameShape]
theorem SameShape.trans {R S T : Option RowS} (h1 : SameShape R S) (h2 : SameShape S T) : SameShape R T := by
  cases R <;> cases S <;> cases T <;> simp only [SameShape] at h1 h2 ⊢
  exact ⟨h1.1.trans h2.1, h1.2.1.trans h2.2.1, h1.2.2.trans h2.2.2⟩
theorem SameShape.symm {R S : Option RowS} (h1 : SameShape R S) : SameShape S R := by
  cases R <;> cases S <;> simp only [SameShape] at h1 ⊢
  exact ⟨h1.1.symm, h1.2.1.symm, h1.2.2.symm⟩
theorem rowStore_shape {sl : Slots} {rs : Rows} {op : Op} {q : Nat} {c : RowS} (h : rowStoreEv E b sl rs op = some (q, c)) : SameShape (getR rs q) (some c) ∧ touches b sl op = some (2 * q + 1, true) := by
  cases op <;> try (cases h; done)
  case store t a x =>
    simp only [rowStoreEv] at h
    split at h
    · rename_i ti hti
      split at h
      · rename_i r sz i off ha
        split at h
        · rename_i R hR
          split at h
          · rename_i ls hls
            cases hh : (Nat.beq sz R.t.size && Nat.beq ls.length ti.size && Nat.ble (off + ti.size) R.t.size) with
            | false => rw [hh] at h; cases h
            | true =>
              rw [hh] at h
              simp only [cond_true, implodeK_eq] at h
              split at h
              · rename_i z rest hz
                cases rest with
                | cons _ _ => cases h
                | nil =>
                  injection h with h; injection h with h1 h2
                  subst h1 h2
                  refine ⟨by rw [hR]; simp [SameShape], ?_⟩
                  simp only [touches, ha]
              · cases h
          · cases h
        · cases h
      · cases h
    · cases h
theorem pure_touch {sl : Slots} {bs : Blks} {rs : Rows} {op : Op} {r : SV} {p : Option Prop} (h : pureEv E b sl bs rs op = some (r, p)) {q : Nat} {w : Bool} (ht : touches b sl op = some (q, w)) : w = false := by
  cases op <;> try (cases ht; done)
  · simp only [touches] at ht
    split at ht
    · injection ht with ht; injection ht with h1 h2; exact h2.symm
    · injection ht with ht; injection ht with h1 h2; exact h2.symm
    · cases ht
  · cases h
theorem pure_mem {sl : Slots} {bs bs' : Blks} {rs rs' : Rows} {op : Op} (hB : ∀ q w, touches b sl op = some (2 * q, w) → getB bs q = getB bs' q) (hR : ∀ q w, touches b sl op = some (2 * q + 1, w) → getR rs q = getR rs' q)
    (hS : ∀ q, SameShape (getR rs q) (getR rs' q)) : pureEv E b sl bs rs op = pureEv E b sl bs' rs' op := by
  have shape : ∀ q, (∃ R R', getR rs q = some R ∧ getR rs' q = some R' ∧ R.t = R'.t ∧ R.e = R'.e ∧ R.xs.length = R'.xs.length) ∨ (getR rs q = none ∧ getR rs' q = none) := by
    intro q
    have := hS q
    cases h1 : getR rs q with
    | none => cases h2 : getR rs' q with
      | none => exact .inr ⟨rfl, rfl⟩
      | some _ => rw [h1, h2] at this; exact this.elim
    | some R => cases h2 : getR rs' q with
      | none => rw [h1, h2] at this; exact this.elim
      | some R' => rw [h1, h2] at this; exact .inl ⟨R, R', rfl, rfl, this⟩
  have hlen : ∀ t x, evLen E rs t x = evLen E rs' t x := by
    intro t x
    unfold evLen
    cases E.tt t with
    | none => rfl
    | some ti =>
      simp only
      cases ti.k <;> try rfl
      simp only
      split
      · rfl
      · rename_i r
        rcases shape r with ⟨R, R', h1, h2, h3, h4, h5⟩ | ⟨h1, h2⟩
        · rw [h1, h2]; simp only; rw [h5]
        · rw [h1, h2]
      · rfl
      · rfl
  cases op <;> try rfl
  case load t a =>
    simp only [pureEv, evLoad]
    simp only [touches] at hB hR
    cases E.tt t with
    | none => rfl
    | some ti =>
      simp only
      split
      · rename_i i off ha
        rw [hB i false (by rw [ha])]
      · rfl
      · rfl
      · rename_i r sz i off ha
        rw [hR r false (by rw [ha])]
      · rfl
  case indexAddr t x i =>
    simp only [pureEv, evIndexAddr]
    split
    · rfl
    · split
      · rfl
      · split
        · split
          · rfl
          · split
            · rfl
            · rename_i r _
              rcases shape r with ⟨R, R', h1, h2, h3, h4, h5⟩ | ⟨h1, h2⟩
              · have h3' : R.t.size = R'.t.size := by rw [h3]
                rw [h1, h2]; simp only; rw [h3', h5]
              · rw [h1, h2]
            · rfl
        · rfl
        · rfl
  case call c =>
    simp only [pureEv]
    split
    · rename_i bi hbi
      simp only [evBuiltin]
      split
      · split
        · split
          · exact hlen _ _
          · rfl
        · rfl
      · rfl
      · rfl
      · rfl
      · rfl
    · rfl
theorem store_mem {sl : Slots} {bs bs' : Blks} {op : Op} {q : Nat} {c : Blk} (h : storeEv E b sl bs op = some (q, c)) (hb : getB bs q = getB bs' q) : storeEv E b sl bs' op = some (q, c) := by
  cases op <;> try (cases h; done)
  case store t a x =>
    simp only [storeEv] at h ⊢
    split at h
    · rename_i ti hti
      split at h
      · rename_i i off ha
        split at h
        · rename_i bt bc hbb
          split at h
          · rename_i ls hls
            cases hh : (Nat.beq ls.length ti.size && Nat.ble (off + ti.size) bc.length) with
            | false => rw [hh] at h; cases h
            | true =>
              rw [hh] at h
              simp only [cond_true] at h
              injection h with h
              injection h with h1 h2
              subst h1
              rw [← hb, hbb]
              simp only [hh, cond_true, h2]
          · cases h
        · cases h
      · cases h
    · cases h
theorem rowStore_mem {sl : Slots} {rs rs' : Rows} {op : Op} {q : Nat} {c : RowS} (h : rowStoreEv E b sl rs op = some (q, c)) (hb : getR rs q = getR rs' q) : rowStoreEv E b sl rs' op = some (q, c) := by
  cases op <;> try (cases h; done)
  case store t a x =>
    simp only [rowStoreEv] at h ⊢
    split at h
    · rename_i ti hti
      split at h
      · rename_i r sz i off ha
        split at h
        · rename_i R hR
          have hq : r = q := by
            split at h
            · rename_i ls hls
              cases hh : (Nat.beq sz R.t.size && Nat.beq ls.length ti.size && Nat.ble (off + ti.size) R.t.size) with
              | false => rw [hh] at h; cases h
              | true =>
                rw [hh] at h
                simp only [cond_true, implodeK_eq] at h
                split at h
                · rename_i z rest hz
                  cases rest with
                  | cons _ _ => cases h
                  | nil => injection h with h; injection h with h1 h2
                · cases h
            · cases h
          subst hq
          rw [← hb, hR]
          exact h
        · cases h
      · cases h
    · cases h
structure Chain (E : Env) (b : Nat) (all : List Oper) (A : Made) (S : Nat → St) (M : Nat → Mem) : Prop where
  start : M 0 = []
  fresh : ∀ p ∈ A, usedB (S 0).slots (S 0).blks p.2 = false
  step : ∀ (j : Nat) o, all[j]? = some o → StepD E b all A j o (S j) (M j) (S (j + 1)) (M (j + 1))
  mem : memOk all (M all.length) = true
  ok : ∀ (j : Nat) o, all[j]? = some o → OkAt all j o
variable {S : Nat → St} {M : Nat → Mem}
theorem Chain.memStep (hC : Chain E b all A S M) {j : Nat} (hj : j < all.length) : M (j + 1) = M j ∨ ∃ q w, M (j + 1) = (j, q, w) :: M j := by
  obtain ⟨σ1, yes, hg, h⟩ := hC.step j _ (List.getElem?_eq_getElem hj)
  rcases h with ⟨_, ⟨r, p, _, _, _, h1, _⟩ | ⟨q, c, _, _, _, h1, _⟩ | ⟨q, c, _, _, _, h1⟩ | ⟨t0, ti, d, q, _, _, _, _, _, _, _, _, h1⟩⟩ | ⟨_, _, h1⟩
  · unfold memOf at h1
    split at h1
    · exact .inr ⟨_, _, h1⟩
    · exact .inl h1
  · exact .inr ⟨_, _, h1⟩
  · exact .inr ⟨_, _, h1⟩
  · exact .inr ⟨_, _, h1⟩
  · exact .inl h1
theorem Chain.memLt (hC : Chain E b all A S M) : ∀ m, m ≤ all.length → ∀ p ∈ M m, p.1 < m
  | 0, _, p, hp => by rw [hC.start] at hp; cases hp
  | m + 1, hm, p, hp => by
    rcases hC.memStep (j := m) (by omega) with h | ⟨q, w, h⟩
    · rw [h] at hp; have := hC.memLt m (by omega) p hp; omega
    · rw [h] at hp
      rcases List.mem_cons.1 hp with e | e
      · subst e; simp
      · have := hC.memLt m (by omega) p e; omega
theorem Chain.memMono (hC : Chain E b all A S M) {j : Nat} : ∀ m, j ≤ m → m ≤ all.length → ∀ p ∈ M j, p ∈ M m
  | 0, h1, _, p, hp => by rw [show j = 0 by omega] at hp; exact hp
  | m + 1, h1, h2, p, hp => by
    by_cases e : j = m + 1
    · rw [e] at hp; exact hp
    · have := hC.memMono m (by omega) (by omega) p hp
      rcases hC.memStep (j := m) (by omega) with h | ⟨q, w, h⟩
      · rw [h]; exact this
      · rw [h]; exact List.mem_cons_of_mem _ this
theorem Chain.memAfter (hC : Chain E b all A S M) : ∀ m, m ≤ all.length → memOk all (M m) = true → ∀ i q w j w', (i, q, w) ∈ M m → (j, q, w') ∈ M m → j < i → (w || w') = true → afterOf all i j = true
  | 0, _, _, i, q, w, j, w', hi, _, _, _ => by rw [hC.start] at hi; cases hi
  | m + 1, hm, hok, i, q, w, j, w', hi, hj, hlt, hw => by
    rcases hC.memStep (j := m) (by omega) with h | ⟨b0, w0, h⟩
    · rw [h] at hi hj hok
      exact hC.memAfter m (by omega) hok i q w j w' hi hj hlt hw
    · rw [h] at hi hj hok
      simp only [memOk, Bool.and_eq_true] at hok
      rcases List.mem_cons.1 hi with e | e
      · rcases List.mem_cons.1 hj with f | f
        · injection e with e1 _; injection f with f1 _; omega
        · have := List.all_eq_true.1 hok.1 _ f
          injection e with e1 e2
          injection e2 with e2 e3
          subst e1 e2 e3
          simp only [Nat.beq_refl, Bool.not_true, Bool.false_or, hw, Bool.not_true] at this
          exact this
      · rcases List.mem_cons.1 hj with f | f
        · injection f with f1 _
          have := hC.memLt m (by omega) _ e
          simp only at this
          omega
        · exact hC.memAfter m (by omega) hok.2 i q w j w' e f hlt hw
def Writes (M : Nat → Mem) (all : List Oper) (k q : Nat) : Prop := (k, q, true) ∈ M all.length
theorem Chain.memAt (hC : Chain E b all A S M) {k q : Nat} {w : Bool} (h : (k, q, w) ∈ M all.length) : k < all.length ∧ M (k + 1) = (k, q, w) :: M k := by
  have hk : k < all.length := hC.memLt _ (Nat.le_refl _) _ h
  refine ⟨hk, ?_⟩
  -- it came in at its own step
  have key : ∀ m, m ≤ all.length → (k, q, w) ∈ M m → M (k + 1) = (k, q, w) :: M k := by
    intro m
    induction m with
    | zero => intro _ hm; rw [hC.start] at hm; cases hm
    | succ m ih =>
      intro hm hmem
      rcases hC.memStep (j := m) (by omega) with h | ⟨b0, w0, h⟩
      · rw [h] at hmem; exact ih (by omega) hmem
      · rw [h] at hmem
        rcases List.mem_cons.1 hmem with e | e
        · injection e with e1 e2
          injection e2 with e2 e3
          subst e1 e2 e3
          exact h
        · exact ih (by omega) e
  exact key _ (Nat.le_refl _) h
theorem step_blk {i : Nat} {o : Oper} {σ σ' : St} {mem mem' : Mem} (h : StepD E b all A i o σ mem σ' mem') {q : Nat} (hb : (i, 2 * q, true) ∉ mem') : getB σ'.blks q = getB σ.blks q := by
  obtain ⟨σ1, yes, hg, h⟩ := h
  have := (guards_rest hg).1
  rcases h with ⟨_, ⟨r, p, _, _, h1, _⟩ | ⟨b0, c, _, _, h1, h2, _⟩ | ⟨b0, c, _, _, h1, h2⟩ | ⟨t0, ti, d, q0, _, _, _, _, _, _, _, h1, h2⟩⟩ | ⟨_, h1, _⟩
  · rw [h1, put_rest.1, this]
  · rw [h1, ← this]
    simp only [getB_setB]
    rw [if_neg]
    intro e
    subst e
    exact hb (by rw [h2]; exact List.mem_cons_self ..)
  · rw [h1, ← this]
  · rw [h1, ← this]
    simp only [getB_cons]
    rw [if_neg]
    intro e
    subst e
    exact hb (by rw [h2]; exact List.mem_cons_self ..)
  · rw [h1, put_rest.1, this]
theorem step_row {i : Nat} {o : Oper} {σ σ' : St} {mem mem' : Mem} (h : StepD E b all A i o σ mem σ' mem') {q : Nat} (hb : (i, 2 * q + 1, true) ∉ mem') : getR σ'.rows q = getR σ.rows q := by
  obtain ⟨σ1, yes, hg, h⟩ := h
  have := (guards_rest hg).2
  rcases h with ⟨_, ⟨r, p, _, _, h1, _⟩ | ⟨b0, c, _, _, h1, h2, _⟩ | ⟨b0, c, _, _, h1, h2⟩ | ⟨t0, ti, d, q0, _, _, _, _, _, _, _, h1, h2⟩⟩ | ⟨_, h1, _⟩
  · rw [h1, put_rest.2, this]
  · rw [h1, ← this]
  · rw [h1, ← this]
    simp only [getR_setR]
    rw [if_neg]
    intro e
    subst e
    exact hb (by rw [h2]; exact List.mem_cons_self ..)
  · rw [h1, ← this]
  · rw [h1, put_rest.2, this]
theorem step_shape {i : Nat} {o : Oper} {σ σ' : St} {mem mem' : Mem} (h : StepD E b all A i o σ mem σ' mem') (q : Nat) : SameShape (getR σ'.rows q) (getR σ.rows q) := by
  obtain ⟨σ1, yes, hg, h⟩ := h
  have := (guards_rest hg).2
  rcases h with ⟨_, ⟨r, p, _, _, h1, _⟩ | ⟨b0, c, _, _, h1, h2, _⟩ | ⟨b0, c, hc, _, h1, h2⟩ | ⟨t0, ti, d, q0, _, _, _, _, _, _, _, h1, h2⟩⟩ | ⟨_, h1, _⟩
  · rw [h1, put_rest.2, this]; exact SameShape.refl _
  · rw [h1, ← this]; exact SameShape.refl _
  · rw [h1, ← this]
    simp only [getR_setR]
    by_cases e : b0 = q
    · subst e
      rw [if_pos rfl]
      have hs := (rowStore_shape hc).1
      cases hr : getR σ1.rows b0 with
      | none => rw [hr] at hs; exact hs.elim
      | some R => rw [hr] at hs; exact hs.symm
    · rw [if_neg e]; exact SameShape.refl _
  · rw [h1, ← this]; exact SameShape.refl _
  · rw [h1, put_rest.2, this]; exact SameShape.refl _
theorem Chain.shape (hC : Chain E b all A S M) (q : Nat) : ∀ m, m ≤ all.length → SameShape (getR (S m).rows q) (getR (S 0).rows q)
  | 0, _ => SameShape.refl _
  | m + 1, hm => (step_shape (hC.step m _ (List.getElem?_eq_getElem (by omega))) q).trans (hC.shape q m (by omega))
theorem Chain.slot (hC : Chain E b all A S M) {i t : Nat} : ∀ m, i ≤ m → m ≤ all.length → (∀ (k : Nat) o, all[k]? = some o → i ≤ k → k < m → dstAt b o.dst ≠ some t) → Eqv (getS (S i).slots t) (getS (S m).slots t)
  | 0, h1, _, _ => by rw [show i = 0 by omega]; exact Eqv.refl _
  | m + 1, h1, h2, h3 => by
    by_cases e : i = m + 1
    · rw [e]; exact Eqv.refl _
    · refine (hC.slot m (by omega) (by omega) fun k o ho hk hkm => h3 k o ho hk (by omega)).trans ?_
      exact step_slot (hC.step m _ (List.getElem?_eq_getElem (by omega))) (h3 m _ (List.getElem?_eq_getElem (by omega)) (by omega) (by omega))
theorem Chain.blk (hC : Chain E b all A S M) {i q : Nat} : ∀ m, i ≤ m → m ≤ all.length → (∀ k, i ≤ k → k < m → ¬ Writes M all k (2 * q)) → getB (S m).blks q = getB (S i).blks q
  | 0, h1, _, _ => by rw [show i = 0 by omega]
  | m + 1, h1, h2, h3 => by
    by_cases e : i = m + 1
    · rw [e]
    · rw [← hC.blk m (by omega) (by omega) fun k hk hkm => h3 k hk (by omega)]
      exact step_blk (hC.step m _ (List.getElem?_eq_getElem (by omega))) fun hm => h3 m (by omega) (by omega) (hC.memMono _ (by omega) (Nat.le_refl _) _ hm)
theorem Chain.row (hC : Chain E b all A S M) {i q : Nat} : ∀ m, i ≤ m → m ≤ all.length → (∀ k, i ≤ k → k < m → ¬ Writes M all k (2 * q + 1)) → getR (S m).rows q = getR (S i).rows q
  | 0, h1, _, _ => by rw [show i = 0 by omega]
  | m + 1, h1, h2, h3 => by
    by_cases e : i = m + 1
    · rw [e]
    · rw [← hC.row m (by omega) (by omega) fun k hk hkm => h3 k hk (by omega)]
      exact step_row (hC.step m _ (List.getElem?_eq_getElem (by omega))) fun hm => h3 m (by omega) (by omega) (hC.memMono _ (by omega) (Nat.le_refl _) _ hm)
theorem guards_names {g : Option (Nat × Bool)} {σ σ1 : St} {yes : Bool} (hg : Guards b all g σ σ1 yes) {q t : Nat} (h : (getS σ1.slots t).anyL (Leaf.namesB q) = true) : (getS σ.slots t).anyL (Leaf.namesB q) = true := by
  unfold Guards at hg
  split at hg
  · rw [hg.1] at h; exact h
  · obtain ⟨t0, _, hg⟩ := hg
    rcases hg with ⟨c, _, h1, _⟩ | ⟨c, h1, h2, _⟩ | ⟨_, h1, _⟩
    · rw [h1] at h; exact h
    · rw [h2] at h
      replace h : (getS ((b + t0, SV.leaf (Leaf.blit c)) :: σ.slots) t).anyL (Leaf.namesB q) = true := h
      rw [getS_cons] at h
      split at h
      · cases h
      · exact h
    · rw [h1] at h; exact h
theorem put_names {σ : St} {d : Option Nat} {s : SV} {q t : Nat} (h : (getS (σ.put d s).slots t).anyL (Leaf.namesB q) = true) : (d = some t ∧ s.anyL (Leaf.namesB q) = true) ∨ (getS σ.slots t).anyL (Leaf.namesB q) = true := by
  cases d with
  | none => exact .inr h
  | some k =>
    replace h : (getS ((k, s) :: σ.slots) t).anyL (Leaf.namesB q) = true := h
    rw [getS_cons] at h
    split at h
    · rename_i e; subst e; exact .inl ⟨rfl, h⟩
    · exact .inr h
theorem Chain.slotNames (hC : Chain E b all A S M) {p : Nat × Nat} (hp : p ∈ A) {t : Nat} : ∀ m, m ≤ all.length → (getS (S m).slots t).anyL (Leaf.namesB p.2) = true →
    ∃ (k : Nat) (x : Oper), all[k]? = some x ∧ dstAt b x.dst = some t ∧ (k = p.1 ∨ afterOf all k p.1 = true)
  | 0, _, h => by
    have := hC.fresh p hp
    unfold usedB at this
    simp only [Bool.or_eq_false_iff] at this
    cases (anySlots_false this.1 t h)
  | m + 1, hm, h => by
    have ho : all[m]? = some all[m] := List.getElem?_eq_getElem (by omega)
    obtain ⟨σ1, yes, hg, hc⟩ := hC.step m _ ho
    have back : (getS σ1.slots t).anyL (Leaf.namesB p.2) = true → ∃ (k : Nat) (x : Oper), all[k]? = some x ∧ dstAt b x.dst = some t ∧ (k = p.1 ∨ afterOf all k p.1 = true) :=
      fun h => hC.slotNames hp m (by omega) (guards_names hg h)
    rcases hc with ⟨_, ⟨r, p0, _, _, h1, _, hb⟩ | ⟨q, c, _, _, h1, _⟩ | ⟨q, c, _, _, h1, _⟩ | ⟨t0, ti, d, q, _, _, _, hd, _, honly, _, h1, _⟩⟩ | ⟨_, h1, _⟩
    · rw [h1] at h
      rcases put_names h with ⟨e1, e2⟩ | e
      · exact ⟨m, _, ho, e1, hb p hp e2⟩
      · exact back e
    · rw [h1] at h; exact back h
    · rw [h1] at h; exact back h
    · rw [h1] at h
      replace h : (getS ((b + d, SV.leaf (Leaf.ptr q 0)) :: σ1.slots) t).anyL (Leaf.namesB p.2) = true := h
      rw [getS_cons] at h
      split at h
      · rename_i e
        have hq : p.2 = q := (Nat.eq_of_beq_eq_true h).symm
        exact ⟨m, _, ho, by rw [hd, ← e]; rfl, .inl (honly p hp hq)⟩
      · exact back h
    · rw [h1] at h
      rcases put_names h with ⟨_, e2⟩ | e
      · cases e2
      · exact back e
theorem Chain.blkNames (hC : Chain E b all A S M) {p : Nat × Nat} (hp : p ∈ A) {q' : Nat} {c' : Blk} : ∀ m, m ≤ all.length → getB (S m).blks q' = some c' → anyLeaf (Leaf.namesB p.2) c'.cells = true →
    ∃ k, k < m ∧ Writes M all k (2 * q') ∧ (k = p.1 ∨ afterOf all k p.1 = true)
  | 0, _, hb, h => by
    have := hC.fresh p hp
    unfold usedB at this
    simp only [Bool.or_eq_false_iff] at this
    rw [anyBlks_false this.2 _ _ hb] at h
    cases h
  | m + 1, hm, hb, h => by
    have ho : all[m]? = some all[m] := List.getElem?_eq_getElem (by omega)
    obtain ⟨σ1, yes, hg, hc⟩ := hC.step m _ ho
    have hrest := (guards_rest hg).1
    have back : getB σ1.blks q' = some c' → ∃ k, k < m + 1 ∧ Writes M all k (2 * q') ∧ (k = p.1 ∨ afterOf all k p.1 = true) := by
      intro e
      rw [hrest] at e
      obtain ⟨k, k1, k2, k3⟩ := hC.blkNames hp m (by omega) e h
      exact ⟨k, by omega, k2, k3⟩
    have here : ∀ q, M (m + 1) = (m, 2 * q, true) :: M m → Writes M all m (2 * q) := fun q e => hC.memMono (j := m + 1) _ (by omega) (Nat.le_refl _) _ (by rw [e]; exact List.mem_cons_self ..)
    rcases hc with ⟨_, ⟨r, p0, _, _, h1, _, _⟩ | ⟨q, c, _, _, h1, h2, hbe⟩ | ⟨q, c, _, _, h1, _⟩ | ⟨t0, ti, d, q, _, _, _, hd, _, honly, hz, h1, h2⟩⟩ | ⟨_, h1, _⟩
    · rw [h1, put_rest.1] at hb; exact back hb
    · rw [h1] at hb
      simp only [getB_setB] at hb
      by_cases e : q = q'
      · subst e
        rw [if_pos rfl] at hb
        cases hgb : getB σ1.blks q with
        | none => rw [hgb] at hb; cases hb
        | some c0 =>
          rw [hgb] at hb
          simp only [Option.map_some] at hb
          injection hb with hb
          subst hb
          exact ⟨m, by omega, here _ h2, hbe p hp h⟩
      · rw [if_neg e] at hb; exact back hb
    · rw [h1] at hb; exact back hb
    · rw [h1] at hb
      simp only [getB_cons] at hb
      by_cases e : q = q'
      · subst e
        rw [if_pos rfl] at hb
        injection hb with hb
        subst hb
        rw [hz p hp] at h
        cases h
      · rw [if_neg e] at hb; exact back hb
    · rw [h1, put_rest.1] at hb; exact back hb
theorem Chain.blk_stage (hC : Chain E b all A S M) {i j q : Nat} (hi : i ≤ all.length) (hj : j ≤ all.length) (h : ∀ k, Writes M all k (2 * q) → (k < i ↔ k < j)) : getB (S i).blks q = getB (S j).blks q := by
  rcases Nat.le_total i j with hij | hij
  · exact (hC.blk j hij hj fun k hk hkj hw => by have := (h k hw).2 hkj; omega).symm
  · exact hC.blk i hij hi fun k hk hki hw => by have := (h k hw).1 hki; omega
theorem Chain.row_stage (hC : Chain E b all A S M) {i j q : Nat} (hi : i ≤ all.length) (hj : j ≤ all.length) (h : ∀ k, Writes M all k (2 * q + 1) → (k < i ↔ k < j)) : getR (S i).rows q = getR (S j).rows q := by
  rcases Nat.le_total i j with hij | hij
  · exact (hC.row j hij hj fun k hk hkj hw => by have := (h k hw).2 hkj; omega).symm
  · exact hC.row i hij hi fun k hk hki hw => by have := (h k hw).1 hki; omega
theorem MemSat.same {B : Nat} {w0 w : World} {bs bs' : Blks} {rs rs' : Rows} {N : Names} {h : PHeap} (hM : MemSat B w0 bs rs N h w) (he : ∀ i, getB bs' i = getB bs i) (hr : ∀ i, getR rs' i = getR rs i) : MemSat B w0 bs' rs' N h w :=
  ⟨hM.below, hM.size, hM.pin, fun i b hb => hM.blk i b (by rw [← he]; exact hb), fun i j b c hb hc => hM.inj i j b c (by rw [← he]; exact hb) (by rw [← he]; exact hc), fun r R hR => hM.row r R (by rw [← hr]; exact hR), fun r R g hR => hM.rowh r R g (by rw [← hr]; exact hR),
    fun r R g i b hR hg hb => hM.rowb r R g i b (by rw [← hr]; exact hR) hg (by rw [← he]; exact hb), fun r s R T g hR hT => hM.rowr r s R T g (by rw [← hr]; exact hR) (by rw [← hr]; exact hT)⟩
def lst (listed : Array Bool) (k : Nat) : Prop := listed.getD k false = true
structure Inv (B : Nat) (w0 : World) (h0 : PHeap) (b : Nat) (u : Nat → Value) (n : Nat) (all : List Oper) (S : Nat → St) (M : Nat → Mem) (N : Names) (listed : Array Bool) (h : PHeap) (bsL : Blks) (rsL : Rows) (a : Act) (w : World) : Prop where
  mem : MemSat B w0 bsL rsL N h w
  grow : PLe h0 h
  dom : ∀ k, h k ≠ none → h0 k ≠ none ∨ B ≤ k
  size : a.tmps.size = n
  defers : a.defers = []
  llen : listed.size = all.length
  closed : ∀ i j, lst listed i → afterOf all i j = true → lst listed j
  wrote : ∀ (t k : Nat) o, all[k]? = some o → dstAt b o.dst = some t → lst listed k → (getS (S all.length).slots t).rel N h (vals b u a t)
  first : ∀ t, (∀ (k : Nat) o, all[k]? = some o → dstAt b o.dst = some t → ¬ lst listed k) → (getS (S 0).slots t).rel N h (vals b u a t)
  blks : ∀ q, ∃ s, s ≤ all.length ∧ (∀ k, Writes M all k (2 * q) → (lst listed k ↔ k < s)) ∧ getB bsL q = getB (S s).blks q
  rows : ∀ q, ∃ s, s ≤ all.length ∧ (∀ k, Writes M all k (2 * q + 1) → (lst listed k ↔ k < s)) ∧ getR rsL q = getR (S s).rows q
theorem lst_set {listed : Array Bool} {i k : Nat} (hi : i < listed.size) : lst (listed.setIfInBounds i true) k ↔ k = i ∨ lst listed k := by
  unfold lst
  simp only [Array.getD_eq_getD_getElem?, Array.getElem?_setIfInBounds]
  by_cases e : i = k
  · subst e; simp [hi]
  · rw [if_neg e]
    constructor
    · exact .inr
    · rintro (h | h)
      · exact absurd h.symm e
      · exact h
variable {P : Program} {B : Nat} {w0 : World} {h0 : PHeap} {u : Nat → Value} {n : Nat} {N : Names}
theorem any_step (hE : EnvOk P E) (hG : GlobOk E.gl h0) {ops : Array Oper} (hall : ops.toList = all) (hC : Chain E b all A S M) (hd : ∀ o ∈ all, ∀ t, o.dst = some t → t < n) {Q : Exit → Act → World → Prop}
    {listed : Array Bool} {h : PHeap} {bsL : Blks} {rsL : Rows} {a : Act} {w : World} (hI : Inv B w0 h0 b u n all S M N listed h bsL rsL a w) {i : Nat} (hr : i ∈ Region.ready .any ops listed) {K : Act → World → Prop}
    (hK : ∀ N' h' bs' rs' a' w', Inv B w0 h0 b u n all S M N' (listed.setIfInBounds i true) h' bs' rs' a' w' → K a' w') : wpOp P ops Q i K a w := by
  simp only [Region.ready, List.mem_filter, List.mem_range, Bool.and_eq_true, Bool.not_eq_true'] at hr
  obtain ⟨hisz, hnl, hready⟩ := hr
  have hil : i < all.length := by rw [← hall]; simpa using hisz
  have hls : i < listed.size := by rw [hI.llen]; exact hil
  have hoi : all[i]? = some all[i] := List.getElem?_eq_getElem hil
  generalize all[i] = o at hoi
  have hopi : ops[i]? = some o := by rw [← Array.getElem?_toList, hall]; exact hoi
  have hnl' : ¬ lst listed i := by
    unfold lst
    rw [Array.getD_eq_getD_getElem?] at hnl ⊢
    rw [Array.getElem?_eq_getElem hls] at hnl ⊢
    simp at hnl ⊢
    exact hnl
  -- what it must come behind is listed
  have hafter : ∀ j, afterOf all i j = true → lst listed j := by
    intro j hj
    unfold afterOf at hj
    rw [hoi] at hj
    obtain ⟨e, he, h1, h2⟩ := onList_get.1 hj
    rw [hopi] at hready
    simp only [Option.map_some, Option.getD_some, Array.all_eq_true] at hready
    obtain ⟨m, hm, hme⟩ := List.getElem_of_mem he
    have := hready m (by simpa using hm)
    have hme' : o.after[m]'(by simpa using hm) = e := by rw [← hme]; simp
    rw [hme', h2, h1] at this
    simpa [lst] using this
  have hok := hC.ok i o hoi
  obtain ⟨σ1, yes, hg, hcase⟩ := hC.step i o hoi
  have hdo := hd o (List.mem_of_getElem? hoi)
  have hlset : ∀ k, lst (listed.setIfInBounds i true) k ↔ k = i ∨ lst listed k := fun k => lst_set hls
  have hdst_lt : ∀ (k : Nat) x t, all[k]? = some x → x.dst = some t → t < n := fun k x t hx ht => hd x (List.mem_of_getElem? hx) t ht
  have hat : ∀ (x : Oper) (t : Nat), dstAt b x.dst = some (b + t) ↔ x.dst = some t := by
    intro x t
    constructor
    · intro e
      obtain ⟨k, e1, e2⟩ := dstAt_some e
      rw [e1]
      congr 1
      omega
    · intro e; rw [e]; rfl
  -- a slot that the operation looks at
  have hlook : ∀ t, t ∈ looks all o → (getS (S i).slots (b + t)).rel N h (a.tmps.getD t undef) := by
    intro t ht
    rw [← vals_at b u a t]
    have hreads := hok.reads t ht
    by_cases hex : ∃ (k : Nat) (x : Oper), all[k]? = some x ∧ x.dst = some t
    · obtain ⟨k, x, hx, hxt⟩ := hex
      have hkl : k < all.length := (List.getElem?_eq_some_iff.1 hx).1
      have huniq : ∀ (j : Nat) y, all[j]? = some y → dstAt b y.dst = some (b + t) → j = k := fun j y hy hyt => (hC.ok k x hx).once t hxt j y hy ((hat y t).1 hyt)
      by_cases hki : k < i
      · have hl := hafter k ((hreads k x hx hxt).1 hki)
        have h1 := hI.wrote (b + t) k x hx ((hat x t).2 hxt) hl
        have := hC.slot (i := i) (t := b + t) all.length (by omega) (Nat.le_refl _) fun j y hy hj _ hyt => by
          have := huniq j y hy hyt
          omega
        exact (this N h _).2 h1
      · have hnk : ¬ lst listed k := by
          intro hl
          by_cases e : k = i
          · subst e; exact hnl' hl
          · exact hnl' (hI.closed k i hl ((hreads k x hx hxt).2 (by omega)))
        have h1 := hI.first (b + t) fun j y hy hyt hl => by
          have := huniq j y hy hyt
          subst this
          exact hnk hl
        have := hC.slot (i := 0) (t := b + t) i (Nat.zero_le _) (by omega) fun j y hy _ hji hyt => by
          have := huniq j y hy hyt
          omega
        exact (this N h _).1 h1
    · have h1 := hI.first (b + t) fun k x hx hxt => absurd ⟨k, x, hx, (hat x t).1 hxt⟩ hex
      have := hC.slot (i := 0) (t := b + t) i (Nat.zero_le _) (by omega) fun k x hx _ _ hxt => hex ⟨k, x, hx, (hat x t).1 hxt⟩
      exact (this N h _).1 h1
  -- its operands
  have hops : ∀ x ∈ o.op.operands.toList, (evO b σ1.slots x).rel N h (a.eval x) := by
    intro x hx
    cases x with
    | tmp t =>
      have ht : t ∈ looks all o := by
        unfold looks
        refine List.mem_append_left _ ?_
        exact List.mem_flatMap.2 ⟨_, hx, by simp [tmpOf]⟩
      exact ((guards_slot hg (b + t)) N h _).1 (hlook t ht)
    | const v => exact evO_const_rel N h v
    | global g => exact raw_rel N h _
    | func f => exact raw_rel N h _
  -- whether it is wanted
  have hwant : Region.wanted o (yielded ops a.tmps) = yes := by
    unfold Guards at hg
    split at hg
    · rename_i hgn
      simp [Region.wanted, hgn, hg.2]
    · rename_i j w hgn
      obtain ⟨t, ht, hg⟩ := hg
      have htl : t ∈ looks all o := by
        unfold looks
        refine List.mem_append_right _ ?_
        rw [hgn]
        simp only
        rw [ht]
        exact List.mem_cons_self ..
      have hslot := hlook t htl
      have hyield : yielded ops a.tmps j = match a.tmps.getD t undef with | .bool b => some b | _ => none := by
        unfold dstOf at ht
        split at ht
        · rename_i oj hoj
          have : ops[j]? = some oj := by rw [← Array.getElem?_toList, hall]; exact hoj
          have htn : t < a.tmps.size := by rw [hI.size]; exact hdst_lt j oj t hoj ht
          have e1 : ((ops[j]?).bind (·.dst)).bind (a.tmps[·]?) = some (a.tmps.getD t undef) := by
            rw [this]
            simp only [Option.bind_some, ht]
            rw [Array.getElem?_eq_getElem htn, Array.getD_eq_getD_getElem?, Array.getElem?_eq_getElem htn]
            rfl
          unfold yielded
          rw [e1]
          cases a.tmps.getD t undef <;> rfl
        · cases ht
      have hw : ∀ b, a.tmps.getD t undef = .bool b → Region.wanted o (yielded ops a.tmps) = (b == w) := by
        intro b hb
        simp [Region.wanted, hgn, hyield, hb]
      rcases hg with ⟨c, h1, _, h3⟩ | ⟨c, h1, _, h3⟩ | ⟨h1, _, h3⟩
      · rw [h1] at hslot
        rw [h3]; exact hw c (by simpa only [SV.rel, Leaf.rel] using hslot)
      · rw [h1] at hslot
        rw [h3]; exact hw c (by simpa only [SV.rel, Leaf.rel] using (tv_blit c N h _).1 hslot)
      · rw [h1] at hslot
        have : a.tmps.getD t undef = undef := by simpa only [SV.rel, Leaf.rel] using hslot
        have hn : yielded ops a.tmps j = none := by rw [hyield, this]; rfl
        rw [h3]
        unfold Region.wanted
        rw [hgn]
        simp only
        rw [hn]
        rfl
  -- a slot behind it
  have finN : ∀ (N' : Names) (h' : PHeap) (bs' : Blks) (rs' : Rows) (w' : World) (r : SV) (v : Value), PLe h h' → (∀ k, h' k ≠ none → h0 k ≠ none ∨ B ≤ k) → MemSat B w0 bs' rs' N' h' w' →
      (∀ (t k : Nat) x, all[k]? = some x → dstAt b x.dst = some t → lst listed k → (getS (S all.length).slots t).rel N' h' (vals b u a t)) →
      (∀ t, (∀ (k : Nat) x, all[k]? = some x → dstAt b x.dst = some t → ¬ lst listed k) → (getS (S 0).slots t).rel N' h' (vals b u a t)) →
      (∀ d, o.dst = some d → r.rel N' h' v ∧ getS (S (i + 1)).slots (b + d) = r) →
      (∀ q, ∃ s, s ≤ all.length ∧ (∀ k, Writes M all k (2 * q) → ((k = i ∨ lst listed k) ↔ k < s)) ∧ getB bs' q = getB (S s).blks q) →
      (∀ q, ∃ s, s ≤ all.length ∧ (∀ k, Writes M all k (2 * q + 1) → ((k = i ∨ lst listed k) ↔ k < s)) ∧ getR rs' q = getR (S s).rows q) → K (a.put o.dst v) w' := by
    intro N' h' bs' rs' w' r v hle hdom hM hwr hfi hv hb hrr
    refine hK N' h' bs' rs' _ w' ⟨hM, hI.grow.trans hle, hdom, by rw [size_put]; exact hI.size, by rw [defers_put]; exact hI.defers, by simpa using hI.llen, ?_, ?_, ?_, ?_, ?_⟩
    · intro p q hp hq
      rcases (hlset p).1 hp with e | e
      · subst e; exact (hlset q).2 (.inr (hafter q hq))
      · exact (hlset q).2 (.inr (hI.closed p q e hq))
    · intro t k x hx hxt hk
      obtain ⟨t0, ht0, rfl⟩ := dstAt_some hxt
      by_cases e : k = i
      · subst e
        rw [hoi] at hx
        injection hx with hx
        subst hx
        obtain ⟨hr1, hr2⟩ := hv t0 ht0
        rw [ht0, vals_put (by rw [hI.size]; exact hdo t0 ht0), if_pos rfl]
        have := hC.slot (i := k + 1) (t := b + t0) all.length (by omega) (Nat.le_refl _) fun j y hy hj _ hyt => by
          have := hok.once t0 ht0 j y hy ((hat y t0).1 hyt)
          omega
        exact (this N' h' _).1 (by rw [hr2]; exact hr1)
      · have hkl : lst listed k := by
          rcases (hlset k).1 hk with f | f
          · exact absurd f e
          · exact f
        have h1 := hwr (b + t0) k x hx hxt hkl
        cases hdst : o.dst with
        | none => exact h1
        | some d =>
          rw [vals_put (by rw [hI.size]; exact hdo d hdst), if_neg]
          · exact h1
          · intro f
            have : d = t0 := Nat.add_left_cancel f
            subst this
            exact e (hok.once d hdst k x hx ht0)
    · intro t ht
      have hni : dstAt b o.dst ≠ some t := fun f => ht i o hoi f ((hlset i).2 (.inl rfl))
      have h1 := hfi t fun k x hx hxt hk => ht k x hx hxt ((hlset k).2 (.inr hk))
      cases hdst : o.dst with
      | none => exact h1
      | some d =>
        rw [vals_put (by rw [hI.size]; exact hdo d hdst), if_neg (fun f => hni (by rw [hdst, ← f]; rfl))]
        exact h1
    · intro q
      obtain ⟨s, s1, s2, s3⟩ := hb q
      exact ⟨s, s1, fun k hk => by rw [hlset k]; exact s2 k hk, s3⟩
    · intro q
      obtain ⟨s, s1, s2, s3⟩ := hrr q
      exact ⟨s, s1, fun k hk => by rw [hlset k]; exact s2 k hk, s3⟩
  have fin : ∀ (h' : PHeap) (bs' : Blks) (rs' : Rows) (w' : World) (r : SV) (v : Value), PLe h h' → (∀ k, h' k ≠ none → h0 k ≠ none ∨ B ≤ k) → MemSat B w0 bs' rs' N h' w' → (∀ d, o.dst = some d → r.rel N h' v ∧ getS (S (i + 1)).slots (b + d) = r) →
      (∀ q, ∃ s, s ≤ all.length ∧ (∀ k, Writes M all k (2 * q) → ((k = i ∨ lst listed k) ↔ k < s)) ∧ getB bs' q = getB (S s).blks q) →
      (∀ q, ∃ s, s ≤ all.length ∧ (∀ k, Writes M all k (2 * q + 1) → ((k = i ∨ lst listed k) ↔ k < s)) ∧ getR rs' q = getR (S s).rows q) → K (a.put o.dst v) w' :=
    fun h' bs' rs' w' r v hle hdom hM hv hb hrr => finN N h' bs' rs' w' r v hle hdom hM (fun t k x hx hxt hk => SV.rel_mono hle _ _ (hI.wrote t k x hx hxt hk)) (fun t ht => SV.rel_mono hle _ _ (hI.first t ht)) hv hb hrr
  -- the blocks, the rows, where it writes none
  have keep1 : ∀ (q s : Nat), ¬ Writes M all i q → (∀ k, Writes M all k q → (lst listed k ↔ k < s)) → ∀ k, Writes M all k q → ((k = i ∨ lst listed k) ↔ k < s) := by
    intro q s hno s2 k hk
    rw [← s2 k hk]
    constructor
    · rintro (e | e)
      · subst e; exact absurd hk hno
      · exact e
    · exact .inr
  have keepB : ∀ q, ¬ Writes M all i (2 * q) → ∃ s, s ≤ all.length ∧ (∀ k, Writes M all k (2 * q) → ((k = i ∨ lst listed k) ↔ k < s)) ∧ getB bsL q = getB (S s).blks q := by
    intro q hno
    obtain ⟨s, s1, s2, s3⟩ := hI.blks q
    exact ⟨s, s1, keep1 _ s hno s2, s3⟩
  have keepR : ∀ q, ¬ Writes M all i (2 * q + 1) → ∃ s, s ≤ all.length ∧ (∀ k, Writes M all k (2 * q + 1) → ((k = i ∨ lst listed k) ↔ k < s)) ∧ getR rsL q = getR (S s).rows q := by
    intro q hno
    obtain ⟨s, s1, s2, s3⟩ := hI.rows q
    exact ⟨s, s1, keep1 _ s hno s2, s3⟩
  -- what it touches is as in the order of the text
  have hord : ∀ (q : Nat) (wr : Bool), M (i + 1) = (i, q, wr) :: M i → ∀ k, Writes M all k q → k ≠ i → (lst listed k ↔ k < i) := by
    intro q wr hm k hk hne
    have hin : (i, q, wr) ∈ M all.length := hC.memMono (j := i + 1) _ (by omega) (Nat.le_refl _) _ (by rw [hm]; exact List.mem_cons_self ..)
    constructor
    · intro hl
      by_cases hki : k < i
      · exact hki
      · exfalso
        have := hC.memAfter _ (Nat.le_refl _) hC.mem k q true i wr hk hin (by omega) (by simp)
        exact hnl' (hI.closed k i hl this)
    · intro hki
      exact hafter k (hC.memAfter _ (Nat.le_refl _) hC.mem i q wr k true hin hk hki (by simp))
  have stage : ∀ (q : Nat) (wr : Bool) (s : Nat), M (i + 1) = (i, q, wr) :: M i → (∀ k, Writes M all k q → (lst listed k ↔ k < s)) → ∀ k, Writes M all k q → (k < s ↔ k < i) := by
    intro q wr s hm s2 k hk
    by_cases e : k = i
    · subst e
      rw [← s2 k hk]
      exact ⟨fun f => absurd f hnl', fun f => absurd f (Nat.lt_irrefl _)⟩
    · rw [← s2 k hk]
      exact hord q wr hm k hk e
  have touchB : ∀ (q : Nat) (wr : Bool), M (i + 1) = (i, 2 * q, wr) :: M i → getB bsL q = getB (S i).blks q := by
    intro q wr hm
    obtain ⟨s, s1, s2, s3⟩ := hI.blks q
    rw [s3]
    exact hC.blk_stage s1 (by omega) (stage _ wr s hm s2)
  have touchR : ∀ (q : Nat) (wr : Bool), M (i + 1) = (i, 2 * q + 1, wr) :: M i → getR rsL q = getR (S i).rows q := by
    intro q wr hm
    obtain ⟨s, s1, s2, s3⟩ := hI.rows q
    rw [s3]
    exact hC.row_stage s1 (by omega) (stage _ wr s hm s2)
  have hrest := guards_rest hg
  have hshape : ∀ q, SameShape (getR σ1.rows q) (getR rsL q) := by
    intro q
    obtain ⟨s, s1, _, s3⟩ := hI.rows q
    rw [hrest.2, s3]
    exact (hC.shape q i (by omega)).trans (hC.shape q s s1).symm
  have notOther : ∀ (q q' : Nat) (wr : Bool), M (i + 1) = (i, q, wr) :: M i → q' ≠ q → ¬ Writes M all i q' := by
    intro q q' wr hm hne hw
    obtain ⟨_, hm'⟩ := hC.memAt hw
    rw [hm] at hm'
    injection hm' with hm' _
    injection hm' with _ hm'
    injection hm' with hm1 _
    exact hne hm1.symm
  unfold wpOp
  rw [hopi]
  simp only [hwant]
  rcases hcase with ⟨hy, ⟨r, p, he, hp, h1, h2, _⟩ | ⟨q, c, he, hdst, h1, h2, _⟩ | ⟨q, c, he, hdst, h1, h2⟩ | ⟨t0, ti, d, q, hop, hti, hzl, hdst, hqA, honly, hzn, h1, h2⟩⟩ | ⟨hy, h1, h2⟩
  · rw [hy]
    simp only [if_true]
    refine .inl ?_
    -- nothing is written
    have hno : ∀ q, ¬ Writes M all i q := by
      intro q hw
      obtain ⟨_, hm⟩ := hC.memAt hw
      rw [h2] at hm
      unfold memOf at hm
      split at hm
      · rename_i b' w' ht
        injection hm with hm _
        injection hm with _ hm
        injection hm with hm1 hm2
        have := pure_touch he ht
        rw [this] at hm2
        cases hm2
      · have := congrArg List.length hm
        simp at this
    have hmm : ∀ q wr, touches b σ1.slots o.op = some (q, wr) → M (i + 1) = (i, q, wr) :: M i := by
      intro q wr ht
      rw [h2]
      unfold memOf
      rw [ht]
    have he' : pureEv E b σ1.slots bsL rsL o.op = some (r, p) := by
      rw [← he]
      refine (pure_mem (fun q wr ht => ?_) (fun q wr ht => ?_) hshape).symm
      · rw [hrest.1]; exact (touchB q wr (hmm _ _ ht)).symm
      · rw [hrest.2]; exact (touchR q wr (hmm _ _ ht)).symm
    refine pure_sound hE hI.mem (hG.mono hI.grow) he' hp hops fun v h' w' g1 g2 _ hM' hv => ?_
    refine fin h' bsL rsL w' r v g1 (fun k hk => ?_) hM' (fun d hd' => ⟨hv, by rw [h1, hd']; exact put_slot_same⟩) (fun q => keepB q (hno _)) (fun q => keepR q (hno _))
    rcases g2 k hk with g | g
    · exact hI.dom k g
    · exact .inr (Nat.le_trans hI.mem.size g)
  · rw [hy]
    simp only [if_true]
    refine .inl ?_
    have t1 := touchB q true h2
    have he' : storeEv E b σ1.slots bsL o.op = some (q, c) := store_mem he (by rw [hrest.1]; exact t1.symm)
    refine store_sound hE (σ := ⟨σ1.slots, bsL, rsL⟩) he' hops hI.mem fun w' hM' => ?_
    refine fin h _ rsL w' (.leaf .undef) undef (PLe.refl h) hI.dom hM' (fun d hd' => by rw [hdst] at hd'; cases hd') ?_ (fun q' => keepR q' (notOther _ _ true h2 (by omega)))
    intro q'
    by_cases e : q = q'
    · subst e
      refine ⟨i + 1, by omega, fun k hk => ?_, ?_⟩
      · by_cases e : k = i
        · subst e; exact ⟨fun _ => by omega, fun _ => .inl rfl⟩
        · rw [show (k = i ∨ lst listed k) ↔ lst listed k from ⟨fun f => f.elim (fun g => absurd g e) id, .inr⟩, hord _ true h2 k hk e]
          omega
      · rw [h1]
        simp only [getB_setB, if_true]
        rw [t1, hrest.1]
    · obtain ⟨s, s1, s2, s3⟩ := keepB q' (notOther _ _ true h2 (by omega))
      exact ⟨s, s1, s2, by rw [getB_setB, if_neg e]; exact s3⟩
  · rw [hy]
    simp only [if_true]
    refine .inl ?_
    have t1 := touchR q true h2
    have he' : rowStoreEv E b σ1.slots rsL o.op = some (q, c) := rowStore_mem he (by rw [hrest.2]; exact t1.symm)
    refine rowStore_sound hE (σ := ⟨σ1.slots, bsL, rsL⟩) he' hops hI.mem fun w' hM' => ?_
    refine fin h bsL _ w' (.leaf .undef) undef (PLe.refl h) hI.dom hM' (fun d hd' => by rw [hdst] at hd'; cases hd') (fun q' => keepB q' (notOther _ _ true h2 (by omega))) ?_
    intro q'
    by_cases e : q = q'
    · subst e
      refine ⟨i + 1, by omega, fun k hk => ?_, ?_⟩
      · by_cases e : k = i
        · subst e; exact ⟨fun _ => by omega, fun _ => .inl rfl⟩
        · rw [show (k = i ∨ lst listed k) ↔ lst listed k from ⟨fun f => f.elim (fun g => absurd g e) id, .inr⟩, hord _ true h2 k hk e]
          omega
      · rw [h1]
        simp only [getR_setR, if_true]
        rw [t1, hrest.2]
    · obtain ⟨s, s1, s2, s3⟩ := keepR q' (notOther _ _ true h2 (by omega))
      exact ⟨s, s1, s2, by rw [getR_setR, if_neg e]; exact s3⟩
  · rw [hy]
    simp only [if_true]
    refine .inl ?_
    obtain ⟨ii, hi1, hsz, _, hz⟩ := (hE.tt t0 ti hti).info
    obtain ⟨z, hz1, cs, hz2, hz3, hz4⟩ := hz hzl
    -- who is listed does not name what is made
    have hsl : ∀ (k : Nat), lst listed k → ¬ (k = i ∨ afterOf all k i = true) := by
      intro k hk hh
      rcases hh with e | e
      · subst e; exact hnl' hk
      · exact hnl' (hI.closed k i hk e)
    have hbn : ∀ q' c', getB bsL q' = some c' → anyLeaf (Leaf.namesB q) c'.cells = false := by
      intro q' c' hb
      cases hh : anyLeaf (Leaf.namesB q) c'.cells with
      | false => rfl
      | true =>
        exfalso
        obtain ⟨s, s1, s2, s3⟩ := hI.blks q'
        obtain ⟨k, k1, k2, k3⟩ := hC.blkNames hqA s s1 (s3 ▸ hb) hh
        exact hsl k ((s2 k k2).2 k1) k3
    have hM' := hI.mem.newB' (d := q) (b := ⟨t0, ti.zero, none⟩) (o := .cells cs.toArray t0 (0, 0)) (BlkSat.cells.2 ⟨cs, rfl, hz3 _ _, hz4⟩) hbn
    have hnames : ∀ (s : SV) (v : Value), s.anyL (Leaf.namesB q) = false → s.rel N h v → s.rel (N.setB q w.heap.size) h v := by
      intro s v hs hv
      refine SV.rel_names _ hv (fun j hj => ?_) (fun _ _ => rfl)
      simp only [Names.setB]
      rw [if_neg]
      intro e
      subst e
      rw [hs] at hj
      cases hj
    have := finN (N.setB q w.heap.size) h ((q, ⟨t0, ti.zero, none⟩) :: bsL) rsL (w.alloc (.cells cs.toArray t0 (0, 0))) (.leaf (.ptr q 0)) (.pointer (some ⟨w.heap.size, 0, none⟩)) (PLe.refl h) hI.dom hM' ?_ ?_ ?_ ?_ (fun q' => keepR q' (notOther _ _ true h2 (by omega)))
    · unfold Oper.wp
      simp only [hop, execOp, Instr.alloc, zeroValue, Sem.run_bind, run_typeInfo_of hi1, Result.andThen_ok, hz1, Sem.run_pure, newVar, newRow, run_newObj, hz2]
      exact this
    · intro t k x hx hxt hk
      refine hnames _ _ ?_ (hI.wrote t k x hx hxt hk)
      cases hh : (getS (S all.length).slots t).anyL (Leaf.namesB q) with
      | false => rfl
      | true =>
        exfalso
        obtain ⟨k', x', hx', hxt', hk'⟩ := hC.slotNames hqA _ (Nat.le_refl _) hh
        obtain ⟨t1, ht1, e1⟩ := dstAt_some hxt
        have : k' = k := (hC.ok k x hx).once t1 ht1 k' x' hx' (by rw [e1] at hxt'; exact (hat x' t1).1 hxt')
        subst this
        exact hsl _ hk hk'
    · intro t ht
      refine hnames _ _ ?_ (hI.first t ht)
      have := hC.fresh (i, q) hqA
      unfold usedB at this
      simp only [Bool.or_eq_false_iff] at this
      cases hh : (getS (S 0).slots t).anyL (Leaf.namesB q) with
      | false => rfl
      | true => cases (anySlots_false this.1 t hh)
    · intro d' hd'
      rw [hdst] at hd'
      injection hd' with hd'
      subst hd'
      refine ⟨SV.leaf_iff.2 (by simp [Leaf.rel, Names.setB]), ?_⟩
      rw [h1]
      show getS ((b + d, SV.leaf (Leaf.ptr q 0)) :: σ1.slots) (b + d) = _
      rw [getS_cons, if_pos rfl]
    · intro q'
      by_cases e : q = q'
      · subst e
        refine ⟨i + 1, by omega, fun k hk => ?_, ?_⟩
        · by_cases e : k = i
          · subst e; exact ⟨fun _ => by omega, fun _ => .inl rfl⟩
          · rw [show (k = i ∨ lst listed k) ↔ lst listed k from ⟨fun f => f.elim (fun g => absurd g e) id, .inr⟩, hord _ true h2 k hk e]
            omega
        · rw [h1]
          simp only [getB_cons, if_true]
      · obtain ⟨s, s1, s2, s3⟩ := keepB q' (notOther _ _ true h2 (by omega))
        exact ⟨s, s1, s2, by rw [getB_cons, if_neg e]; exact s3⟩
  · rw [hy]
    simp only [Bool.false_eq_true, if_false]
    have hno : ∀ q, ¬ Writes M all i q := by
      intro q hw
      obtain ⟨_, hm⟩ := hC.memAt hw
      rw [h2] at hm
      have := congrArg List.length hm
      simp at this
    exact fin h bsL rsL w (.leaf .undef) undef (PLe.refl h) hI.dom hI.mem (fun d hd' => ⟨SV.leaf_iff.2 (by simp only [Leaf.rel]), by rw [h1, hd']; exact put_slot_same⟩) (fun q => keepB q (hno _)) (fun q => keepR q (hno _))
def openOf : List Bool → Nat
  | [] => 0
  | true :: r => openOf r
  | false :: r => openOf r + 1
theorem openOf_set : (l : List Bool) → (i : Nat) → l[i]? = some false → openOf (l.set i true) + 1 = openOf l
  | [], _, e => by simp at e
  | b :: r, 0, e => by simp at e; subst e; rfl
  | b :: r, i + 1, e => by
    have := openOf_set r i (by simpa using e)
    cases b <;> simp only [List.set_cons_succ, openOf] <;> omega
theorem openOf_zero : (l : List Bool) → openOf l = 0 → ∀ (i : Nat) b, l[i]? = some b → b = true
  | [], _, i, b, hb => by simp at hb
  | true :: r, e, 0, b, hb => by simp at hb; exact hb
  | true :: r, e, i + 1, b, hb => openOf_zero r e i b (by simpa using hb)
  | false :: r, e, _, _, _ => by simp [openOf] at e
theorem any_run (hE : EnvOk P E) (hG : GlobOk E.gl h0) {ops : Array Oper} (hall : ops.toList = all) (hC : Chain E b all A S M) (hd : ∀ o ∈ all, ∀ t, o.dst = some t → t < n) {Q : Exit → Act → World → Prop}
    (hQ : ∀ N h' a' w', Sat B w0 h0 b u n (S all.length) N h' a' w' → Q .normal a' w') :
    ∀ (fuel : Nat) (N : Names) (listed : Array Bool) (h : PHeap) (bsL : Blks) (rsL : Rows) (a : Act) (w : World), openOf listed.toList ≤ fuel → Inv B w0 h0 b u n all S M N listed h bsL rsL a w → wpAny P .any ops Q fuel listed a w := by
  -- where nothing may come up any more all is listed
  have done : ∀ (N : Names) (listed : Array Bool) (h : PHeap) (bsL : Blks) (rsL : Rows) (a : Act) (w : World), Inv B w0 h0 b u n all S M N listed h bsL rsL a w → Region.ready .any ops listed = [] → Q .normal a w := by
    intro N listed h bsL rsL a w hI hr
    have hl : ∀ k, k < all.length → lst listed k := by
      intro k
      induction k using Nat.strongRecOn with
      | _ k ih =>
        intro hk
        rcases Classical.em (lst listed k) with f | f
        · exact f
        · exfalso
          have hoi : all[k]? = some all[k] := List.getElem?_eq_getElem hk
          have hsz : k < ops.size := by rw [← hall] at hk; simpa using hk
          have hopi : ops[k]? = some all[k] := by rw [← Array.getElem?_toList, hall]; exact hoi
          have : k ∈ Region.ready .any ops listed := by
            simp only [Region.ready, List.mem_filter, List.mem_range, Bool.and_eq_true, Bool.not_eq_true']
            have hls : k < listed.size := by rw [hI.llen]; exact hk
            refine ⟨hsz, ?_, ?_⟩
            · unfold lst at f
              rw [Array.getD_eq_getD_getElem?, Array.getElem?_eq_getElem hls] at f ⊢
              simpa using f
            · rw [hopi]
              simp only [Option.map_some, Option.getD_some, Array.all_eq_true]
              intro m hm
              rcases Bool.eq_false_or_eq_true (Region.binds .any (all[k].after[m])) with hbd | hbd
              · have hb := (hC.ok k _ hoi).back (all[k].after[m]) (by simp) hbd
                have := ih _ hb (by omega)
                unfold lst at this
                simp [this]
              · simp [hbd]
          rw [hr] at this
          cases this
    refine hQ N h a w ⟨?_, hI.grow, hI.dom, fun t => ?_, hI.size, hI.defers⟩
    · refine hI.mem.same (fun q => ?_) (fun q => ?_)
      · obtain ⟨s, s1, s2, s3⟩ := hI.blks q
        rw [s3]
        refine hC.blk_stage (Nat.le_refl _) s1 fun k hk => ?_
        rw [← s2 k hk]
        exact ⟨fun hh => hl k hh, fun _ => (hC.memAt hk).1⟩
      · obtain ⟨s, s1, s2, s3⟩ := hI.rows q
        rw [s3]
        refine hC.row_stage (Nat.le_refl _) s1 fun k hk => ?_
        rw [← s2 k hk]
        exact ⟨fun hh => hl k hh, fun _ => (hC.memAt hk).1⟩
    · by_cases hex : ∃ (k : Nat) (x : Oper), all[k]? = some x ∧ dstAt b x.dst = some t
      · obtain ⟨k, x, hx, hxt⟩ := hex
        exact hI.wrote t k x hx hxt (hl k (List.getElem?_eq_some_iff.1 hx).1)
      · have h1 := hI.first t fun k x hx hxt => absurd ⟨k, x, hx, hxt⟩ hex
        have := hC.slot (i := 0) (t := t) all.length (Nat.zero_le _) (Nat.le_refl _) fun k x hx _ _ hxt => hex ⟨k, x, hx, hxt⟩
        exact (this N h _).1 h1
  intro fuel
  induction fuel with
  | zero =>
    intro N listed h bsL rsL a w hf hI
    have hr : Region.ready .any ops listed = [] := by
      cases hrr : Region.ready .any ops listed with
      | nil => rfl
      | cons i r =>
        exfalso
        have hi : i ∈ Region.ready .any ops listed := by rw [hrr]; exact List.mem_cons_self ..
        simp only [Region.ready, List.mem_filter, List.mem_range, Bool.and_eq_true, Bool.not_eq_true'] at hi
        have hls : i < listed.size := by rw [hI.llen, ← hall]; simpa using hi.1
        have h1 := openOf_zero listed.toList (by omega) i listed[i] (by simp [hls])
        have h2 := hi.2.1
        rw [Array.getD_eq_getD_getElem?, Array.getElem?_eq_getElem hls] at h2
        simp [h1] at h2
    exact ⟨hr, done N listed h bsL rsL a w hI hr⟩
  | succ fuel ih =>
    intro N listed h bsL rsL a w hf hI
    refine ⟨done N listed h bsL rsL a w hI, fun i hi => any_step hE hG hall hC hd hI hi fun N' h' bs' rs' a' w' hI' => ih N' _ h' bs' rs' a' w' ?_ hI'⟩
    have hi' := hi
    simp only [Region.ready, List.mem_filter, List.mem_range, Bool.and_eq_true, Bool.not_eq_true'] at hi'
    have hls : i < listed.size := by rw [hI.llen, ← hall]; simpa using hi'.1
    have h2 := hi'.2.1
    rw [Array.getD_eq_getD_getElem?, Array.getElem?_eq_getElem hls] at h2
    have := openOf_set listed.toList i (by simp [hls]; simpa using h2)
    rw [Array.toList_setIfInBounds]
    omega
theorem execD_sound (hE : EnvOk P E) (hG : GlobOk E.gl h0) (hm : P.follows .mixedOrders = true) (ops : Array Oper) (id : Nat) (hok : okOps ops.toList 0 ops.toList = true) {Q : Exit → Act → World → Prop} {k : St → Prop}
    (hd : ∀ o ∈ ops.toList, ∀ t, o.dst = some t → t < n) (hQ : ∀ σ' N' h' a' w', k σ' → Sat B w0 h0 b u n σ' N' h' a' w' → Q .normal a' w')
    {σ : St} {h : PHeap} {a : Act} {w : World} (hfr : freshM σ.slots σ.blks A = true) (e : execD E b ops.toList A 0 ops.toList σ [] k) (hS : Sat B w0 h0 b u n σ N h a w) : (Code.region id ops true).wp P Q a w := by
  obtain ⟨S, M, s1, s2, s3, s4, s5⟩ := execD_chain ops.toList 0 σ [] e
  simp only [Nat.zero_add] at s3 s4 s5
  have hC : Chain E b ops.toList A S M := ⟨s2, by rw [s1]; exact freshM_all hfr, s3, s4, fun j o ho => by have := okOps_get ops.toList 0 hok j o ho; rwa [Nat.zero_add] at this⟩
  refine wp_region_any hm ?_
  refine any_run (S := S) (M := M) (B := B) (w0 := w0) (h0 := h0) (u := u) (n := n) hE hG rfl hC hd (fun N' h' a' w' hS' => hQ _ N' h' a' w' s5 hS') ops.size N _ h σ.blks σ.rows a _ ?_ ?_
  · have : ∀ m, openOf (List.replicate m false) = m := by
      intro m
      induction m with
      | zero => rfl
      | succ m ih => simp [List.replicate_succ, openOf, ih]
    rw [Array.toList_replicate, this]
    exact Nat.le_refl _
  · have hno : ∀ k, ¬ lst (Array.replicate ops.size false) k := by
      intro k hk
      unfold lst at hk
      rw [Array.getD_eq_getD_getElem?, Array.getElem?_replicate] at hk
      split at hk <;> simp at hk
    have hmem : MemSat B w0 σ.blks σ.rows N h { w with drawn := w.drawn + 1 } := by
      have := hS.mem
      exact ⟨⟨this.below.os, this.below.tape, this.below.output, this.below.size, this.below.block, Nat.le_succ_of_le this.below.drawn⟩, this.size, this.pin, this.blk, this.inj, this.row, this.rowh, this.rowb, this.rowr⟩
    refine ⟨hmem, hS.grow, hS.dom, hS.size, hS.defers, by simp, fun i j hi _ => absurd hi (hno i), fun t k o _ _ hk => absurd hk (hno k), fun t _ => by rw [s1]; exact hS.slots t, fun q => ⟨0, Nat.zero_le _, fun k _ => ⟨fun hk => absurd hk (hno k), fun hk => by omega⟩, by rw [s1]⟩, fun q => ⟨0, Nat.zero_le _, fun k _ => ⟨fun hk => absurd hk (hno k), fun hk => by omega⟩, by rw [s1]⟩⟩
theorem execM_sound (hE : EnvOk P E) (hG : GlobOk E.gl h0) (hm : P.follows .mixedOrders = true) (ops : Array Oper) (id : Nat) (hok : okOps ops.toList 0 ops.toList = true) {Q : Exit → Act → World → Prop} {k : St → Prop}
    (hd : ∀ o ∈ ops.toList, ∀ t, o.dst = some t → t < n) (hQ : ∀ σ' N' h' a' w', k σ' → Sat B w0 h0 b u n σ' N' h' a' w' → Q .normal a' w')
    {σ : St} {h : PHeap} {a : Act} {w : World} (e : execM E b ops.toList σ k) (hS : Sat B w0 h0 b u n σ N h a w) : (Code.region id ops true).wp P Q a w := by
  unfold execM at e
  cases h1 : freshM σ.slots σ.blks (madeOf b 0 0 ops.toList) with
  | true => rw [h1] at e; exact execD_sound hE hG hm ops id hok hd hQ h1 e hS
  | false =>
    rw [h1] at e
    simp only [cond_false] at e
    cases h2 : freshM σ.slots σ.blks (madeOf b 100000000 0 ops.toList) with
    | true => rw [h2] at e; exact execD_sound hE hG hm ops id hok hd hQ h2 e hS
    | false =>
      rw [h2] at e
      simp only [cond_false] at e
      cases h3 : freshM σ.slots σ.blks (madeOf b 200000000 0 ops.toList) with
      | true => rw [h3] at e; exact execD_sound hE hG hm ops id hok hd hQ h3 e hS
      | false => rw [h3] at e; exact e.elim
end
end Go.Fr
namespace Go.Fr
open Go Go.RowKit
universe u
section
variable {P : Program} {E : Env} {B : Nat} {w0 w : World} {N : Names} {h0 h : PHeap} {b : Nat} {u : Nat → Value} {a : Act} {n : Nat}
theorem evFieldAddr_any (hE : EnvOk P E) {s : TypeId} {x : SV} {f : Nat} {r : SV} {p : Option Prop} (e : evFieldAddr E s x f = some (r, p)) {u : Value} (hx : x.rel N h u) :
    ∃ v, (∀ w, (Instr.fieldAt s u f).run P w = .ok v w) ∧ r.rel N h v := by
  unfold evFieldAddr at e
  split at e
  · rename_i ti hti
    have hT := hE.tt s ti hti
    obtain ⟨d, hd, _, hk⟩ := hT.und
    split at e
    · rename_i fs hfs
      rw [hfs] at hk
      obtain ⟨gs, rfl, hgl, hg⟩ := hk
      split at e
      · rename_i o n _ hf
        obtain ⟨g, i, dd, g1, g2, g3, g4, _⟩ := hg f _ hf
        simp only at g2 g4
        cases hn : Nat.beq n 0 with
        | true => rw [hn] at e; cases e
        | false =>
          rw [hn] at e
          have hn0 : ¬ i.size = 0 := fun hh => by rw [g4] at hh; subst hh; cases hn
          simp only [cond_false] at e
          have run : ∀ (ad : Addr) (w : World), (Instr.fieldAt s (.pointer (some ad)) f).run P w = .ok (.pointer (some (ad.add o))) w := by
            intro ad w
            simp [Instr.fieldAt, run_underlying hd, g1, Instr.sureAddr, fieldPlace, run_sizeOf_of g3, hn0, g2]
          split at e
          · injection e with e; injection e with e1 e2; subst e1 e2
            simp only [SV.rel, Leaf.rel] at hx
            subst hx
            exact ⟨_, run _, by rw [add_lit]; rfl⟩
          · injection e with e; injection e with e1 e2; subst e1 e2
            obtain ⟨h1, ad, rfl, h2⟩ := hx
            exact ⟨_, run _, h1, ad, by rw [add_add, Nat.add_assoc], h2⟩
          · injection e with e; injection e with e1 e2; subst e1 e2
            obtain ⟨g, len, cap, h1, h2, rfl⟩ := hx
            exact ⟨_, run _, g, len, cap, h1, h2, by rw [add_lit, Nat.add_assoc]⟩
          · cases e
      · cases e
    · cases e
  · cases e
theorem eager_val (hE : EnvOk P E) {sl : Slots} {bs : Blks} {rs : Rows} {o : Oper} {r : SV} {p : Option Prop} (e : pureEv E b sl bs rs o.op = some (r, p)) (hp : ∀ q, p = some q → q) (ho : ∀ x, (evO b sl x).rel N h (a.eval x)) (hk : eagerOp o.op = true) :
    ∃ v, (∀ w, (execOp a.eval o).run P w = .ok (.value v) w) ∧ r.rel N h v := by
  obtain ⟨dst, op, type, pos, after, guard⟩ := o
  cases op <;> try (cases hk; done)
  case move x =>
    injection e with e; injection e with e1 e2; subst e1 e2
    exact ⟨_, fun w => by simp [execOp], ho x⟩
  case assign x =>
    injection e with e; injection e with e1 e2; subst e1 e2
    exact ⟨_, fun w => by simp [execOp], ho x⟩
  case fieldAddr s x f =>
    simp only [pureEv] at e
    obtain ⟨v, g1, g2⟩ := evFieldAddr_any hE e (ho x)
    exact ⟨v, fun w => by simp [execOp, g1 w], g2⟩
  case extract x i =>
    simp only [pureEv] at e
    have hx := ho x
    split at e
    · rename_i t y hty
      split at e
      · rename_i s hs
        injection e with e; injection e with e1 e2; subst e1 e2
        rw [hty] at hx
        obtain ⟨vs, h1, h2⟩ := hx
        obtain ⟨v, g1, g2⟩ := tupGet_rel (N := N) t y i s hs vs h2
        exact ⟨v, fun w => by simp [execOp, h1, Instr.extract, g1], g2⟩
      · cases e
    · cases e
  case nilCheck x =>
    simp only [pureEv] at e
    have hx := ho x
    have fin : ∀ ad : Addr, a.eval x = .pointer (some ad) → r.rel N h (.pointer (some ad)) → ∃ v, (∀ w, (execOp a.eval ⟨dst, .nilCheck x, type, pos, after, guard⟩).run P w = .ok (.value v) w) ∧ r.rel N h v := fun ad hv hr =>
      ⟨_, fun w => by simp only [execOp, hv, Sem.run_pure], hr⟩
    unfold evNilCheck at e
    split at e
    · rename_i T y hy
      injection e with e; injection e with e1 e2; subst e1
      have hs := hp _ e2.symm
      rw [hy] at hx
      obtain ⟨cs, g1, g2⟩ := SV.tv_iff.1 hx
      rcases g1 with ⟨rfl, _⟩ | ⟨z, ad, ds, rfl, rfl, g3, g4⟩
      · cases hs
      · refine fin ad g2 ?_
        simp only [SV.rel, Leaf.rel]
        refine ⟨by simp [optL], ad, by simp [Addr.add], fun i x hx => ?_⟩
        cases i with
        | zero =>
          simp [optL] at hx
          subst hx
          exact ⟨ds, g3, by simpa [Addr.add] using g4⟩
        | succ i => simp [optL] at hx
    · rename_i i o hy
      injection e with e; injection e with e1 e2; subst e1 e2
      rw [hy] at hx
      have hx' := hx
      simp only [SV.rel, Leaf.rel] at hx'
      exact fin _ hx' (by rw [← hx']; exact hx)
    · rename_i T xs i o hy
      injection e with e; injection e with e1 e2; subst e1 e2
      rw [hy] at hx
      have hx' := hx
      simp only [SV.rel, Leaf.rel] at hx'
      obtain ⟨_, ad, hv, _⟩ := hx'
      exact fin _ hv (by rw [← hv]; exact hx)
    · rename_i rr s i o hy
      injection e with e; injection e with e1 e2; subst e1 e2
      rw [hy] at hx
      have hx' := hx
      simp only [SV.rel, Leaf.rel] at hx'
      obtain ⟨g, len, cap, _, _, hv⟩ := hx'
      exact fin _ hv (by rw [← hv]; exact hx)
    · cases e
theorem exec1_eager (hE : EnvOk P E) {J : Inliner} {top : Nat} {σ : St} (hS : Sat B w0 h0 b u n σ N h a w) {o : Oper} (hd : ∀ t, o.dst = some t → t < n) (hk : eagerOp o.op = true) {k : St → Prop} (e : exec1 E J b top o σ k) :
    ∃ v σ', (∀ w, (execOp a.eval o).run P w = .ok (.value v) w) ∧ k σ' ∧ Sat B w0 h0 b u n σ' N h (a.put o.dst v) w := by
  have ho : ∀ x, (evO b σ.slots x).rel N h (a.eval x) := evO_rel hS.slots
  have main : ∀ r p, pureEv E b σ.slots σ.blks σ.rows o.op = some (r, p) → (oblige p (nameK (nmAt E.nm (dstAt b o.dst)) r fun r' => putK σ.slots σ.blks σ.rows (dstAt b o.dst) r' k)) → ∃ v σ', (∀ w, (execOp a.eval o).run P w = .ok (.value v) w) ∧ k σ' ∧ Sat B w0 h0 b u n σ' N h (a.put o.dst v) w := by
    intro r p hr e
    obtain ⟨hp, e⟩ := oblige_some e
    have e := nameK_at e
    rw [putK_eq] at e
    obtain ⟨v, g1, g2⟩ := eager_val hE hr hp ho hk
    exact ⟨v, _, g1, e, hS.put hd g2⟩
  obtain ⟨sl, bs, rs⟩ := σ
  obtain ⟨dst, op, type, pos, after, guard⟩ := o
  unfold exec1 fzK at e
  cases op <;> try (cases hk; done)
  all_goals
    simp only [ownBuild] at e
    split at e
    · rename_i r p hr
      exact main r p hr e
    · rename_i hr
      simp only [storeEv, rowStoreEv, inlEv, rowCall, seqEv, seqEv0, mapOrClear, mapEv, clearK] at e
      split at e <;> exact e.elim
theorem stepG_cases {J : Inliner} {top : Nat} (ops : Array Oper) {k : St → Prop} (hd : ∀ o ∈ ops.toList, ∀ t, o.dst = some t → t < n) {o : Oper} {σ : St} {N : Names} {h : PHeap} {a : Act} {w : World} (e : stepG E J b top ops.toList o σ k) (hS : Sat B w0 h0 b u n σ N h a w) :
    ((Region.wanted o (yielded ops a.tmps) = true ∧ ∃ σ1, Sat B w0 h0 b u n σ1 N h a w ∧ exec1 E J b top o σ1 k) ∨ (Region.wanted o (yielded ops a.tmps) = false ∧ ∃ σ1, Sat B w0 h0 b u n σ1 N h a w ∧ k (σ1.put (dstAt b o.dst) (.leaf .undef)))) := by
    have run : ∀ (σ : St) (N : Names) (h : PHeap) (a : Act) (w : World), Sat B w0 h0 b u n σ N h a w → Region.wanted o (yielded ops a.tmps) = true → exec1 E J b top o σ k →
        ((Region.wanted o (yielded ops a.tmps) = true ∧ ∃ σ1, Sat B w0 h0 b u n σ1 N h a w ∧ exec1 E J b top o σ1 k) ∨ (Region.wanted o (yielded ops a.tmps) = false ∧ ∃ σ1, Sat B w0 h0 b u n σ1 N h a w ∧ k (σ1.put (dstAt b o.dst) (.leaf .undef)))) := by
      intro σ N h a w hS hw e
      exact .inl ⟨hw, σ, hS, e⟩
    have skip : ∀ (σ : St) (N : Names) (h : PHeap) (a : Act) (w : World), Sat B w0 h0 b u n σ N h a w → Region.wanted o (yielded ops a.tmps) = false → setK σ (dstAt b o.dst) (.leaf .undef) k →
        ((Region.wanted o (yielded ops a.tmps) = true ∧ ∃ σ1, Sat B w0 h0 b u n σ1 N h a w ∧ exec1 E J b top o σ1 k) ∨ (Region.wanted o (yielded ops a.tmps) = false ∧ ∃ σ1, Sat B w0 h0 b u n σ1 N h a w ∧ k (σ1.put (dstAt b o.dst) (.leaf .undef)))) := by
      intro σ N h a w hS hw e
      rw [setK_eq] at e
      exact .inr ⟨hw, σ, hS, e⟩
    unfold stepG at e
    split at e
    · rename_i hg
      exact run σ N h a w hS (by simp [Region.wanted, hg]) e
    · rename_i j wt hg
      split at e
      · exact e.elim
      · rename_i t ht
        have hyield : yielded ops a.tmps j = match a.tmps.getD t undef with | .bool b => some b | _ => none := by
          unfold dstOf at ht
          split at ht
          · rename_i oj hoj
            have : ops[j]? = some oj := by rw [← hoj]; simp
            have htn : t < a.tmps.size := by rw [hS.size]; exact hd oj (List.mem_of_getElem? hoj) t ht
            have e1 : ((ops[j]?).bind (·.dst)).bind (a.tmps[·]?) = some (a.tmps.getD t undef) := by
              rw [this]
              simp only [Option.bind_some, ht]
              rw [Array.getElem?_eq_getElem htn, Array.getD_eq_getD_getElem?, Array.getElem?_eq_getElem htn]
              rfl
            unfold yielded
            rw [e1]
            cases a.tmps.getD t undef <;> rfl
          · cases ht
        have hwant : ∀ b, a.tmps.getD t undef = .bool b → Region.wanted o (yielded ops a.tmps) = (b == wt) := by
          intro b hb
          simp [Region.wanted, hg, hyield, hb]
        have hslot := hS.slots (b + t)
        rw [vals_at] at hslot
        have gd : ∀ (c : Bool) (σ : St) (N : Names) (h : PHeap), Sat B w0 h0 b u n σ N h a w → a.tmps.getD t undef = .bool c → guarded wt c (exec1 E J b top o σ k) (setK σ (dstAt b o.dst) (.leaf .undef) k) →
            ((Region.wanted o (yielded ops a.tmps) = true ∧ ∃ σ1, Sat B w0 h0 b u n σ1 N h a w ∧ exec1 E J b top o σ1 k) ∨ (Region.wanted o (yielded ops a.tmps) = false ∧ ∃ σ1, Sat B w0 h0 b u n σ1 N h a w ∧ k (σ1.put (dstAt b o.dst) (.leaf .undef)))) := by
          intro c σ N h hS hb e
          have hw := hwant c hb
          cases c <;> cases wt <;> simp only [guarded] at e
          · exact run σ N h a w hS (by rw [hw]; rfl) e
          · exact skip σ N h a w hS (by rw [hw]; rfl) e
          · exact skip σ N h a w hS (by rw [hw]; rfl) e
          · exact run σ N h a w hS (by rw [hw]; rfl) e
        split at e
        · rename_i c hb
          rw [hb] at hslot
          simp only [SV.rel, Leaf.rel] at hslot
          exact gd c σ N h hS hslot e
        · rename_i c hb
          rw [hb] at hslot
          have hval : a.tmps.getD t undef = .bool c := by
            obtain ⟨cs, q1, q2⟩ := SV.tv_iff.1 hslot
            simp only [rep] at q1
            subst q1
            exact q2
          have known : ∀ c' : Bool, c = c' → Sat B w0 h0 b u n (σ.put (some (b + t)) (.leaf (.blit c'))) N h a w := by
            intro c' hc
            subst hc
            refine ⟨hS.mem, hS.grow, hS.dom, fun t' => ?_, hS.size, hS.defers⟩
            show (getS ((b + t, SV.leaf (Leaf.blit c)) :: σ.slots) t').rel N h (vals b u a t')
            rw [getS_cons]
            split
            · rename_i e; subst e; rw [vals_at]; exact SV.leaf_iff.2 (by simp only [Leaf.rel]; exact hval)
            · exact hS.slots t'
          cases c with
          | true =>
            have e := e.1 rfl
            rw [setK_eq] at e
            exact gd true _ N h (known true rfl) hval e
          | false =>
            have e := e.2 rfl
            rw [setK_eq] at e
            exact gd false _ N h (known false rfl) hval e
        · rename_i hu
          rw [hu] at hslot
          have hw : Region.wanted o (yielded ops a.tmps) = false := by
            have : a.tmps.getD t undef = undef := by simpa only [SV.rel, Leaf.rel] using hslot
            have hn : yielded ops a.tmps j = none := by rw [hyield, this]; rfl
            unfold Region.wanted
            rw [hg]
            simp only
            rw [hn]
            rfl
          exact skip σ N h a w hS hw e
        · exact e.elim
theorem stepG_sound (hE : EnvOk P E) {J : Inliner} (hJ : InlSound P E J) (hG : GlobOk E.gl h0) {top : Nat} (ops : Array Oper) {Q : Exit → Act → World → Prop} {k : St → Prop} {K : Act → World → Prop}
    (hd : ∀ o ∈ ops.toList, ∀ t, o.dst = some t → t < n) {i : Nat} {o : Oper} (hi : ops.toList[i]? = some o) {σ : St} {N : Names} {h : PHeap} {a : Act} {w : World} (e : stepG E J b top ops.toList o σ k) (hS : Sat B w0 h0 b u n σ N h a w)
    (hK : ∀ σ' N' h' a' w', k σ' → Sat B w0 h0 b u n σ' N' h' a' w' → K a' w') : wpOp P ops Q i K a w := by
  have hoi : ops[i]? = some o := by rw [← hi]; simp
  have hdo := hd o (List.mem_of_getElem? hi)
  unfold wpOp
  rw [hoi]
  simp only
  rcases stepG_cases ops hd e hS with ⟨hw, σ1, hS1, e1⟩ | ⟨hw, σ1, hS1, e1⟩
  · simp only [hw, if_true]
    exact .inl (exec1_sound hE hJ hG hS1 hdo e1 fun σ' N' h' a' w' hk hS' => hK σ' N' h' a' w' hk hS')
  · simp only [hw, Bool.false_eq_true, if_false]
    exact hK _ N h _ w e1 (hS1.put hdo (SV.leaf_iff.2 (by simp only [Leaf.rel])))
theorem stepG_eager (hE : EnvOk P E) {J : Inliner} {top : Nat} (ops : Array Oper) {k : St → Prop}
    (hd : ∀ o ∈ ops.toList, ∀ t, o.dst = some t → t < n) {i : Nat} {o : Oper} (hi : ops.toList[i]? = some o) (hk : eagerOp o.op = true) {σ : St} {N : Names} {h : PHeap} {a : Act} {w : World} (e : stepG E J b top ops.toList o σ k) (hS : Sat B w0 h0 b u n σ N h a w) :
    ∃ v σ', Go.Yields P ops o v a ∧ k σ' ∧ Sat B w0 h0 b u n σ' N h (a.put o.dst v) w := by
  have hdo := hd o (List.mem_of_getElem? hi)
  rcases stepG_cases ops hd e hS with ⟨hw, σ1, hS1, e1⟩ | ⟨hw, σ1, hS1, e1⟩
  · obtain ⟨v, σ', g1, g2, g3⟩ := exec1_eager hE hS1 hdo hk e1
    exact ⟨v, σ', .inl ⟨hw, g1⟩, g2, g3⟩
  · exact ⟨undef, _, .inr ⟨hw, rfl⟩, e1, hS1.put hdo (SV.leaf_iff.2 (by simp only [Leaf.rel]))⟩
theorem lget_eq : (l : List Bool) → (i : Nat) → lget l i = (l[i]?).getD false
  | [], _ => by simp [lget]
  | x :: _, 0 => by simp [lget]
  | _ :: r, i + 1 => by simpa [lget] using lget_eq r i
theorem noSel_all : {l : List Oper} → noSel l = true → ∀ o ∈ l, (match o.op with | .select _ _ => false | _ => true) = true
  | [], _, o, ho => by cases ho
  | x :: r, e, o, ho => by
    simp only [noSel, Bool.and_eq_true] at e
    rcases List.mem_cons.1 ho with h | h
    · subst h; exact e.1
    · exact noSel_all e.2 o h
theorem isReadyL_iff {listed : List Bool} : {es : List Edge} → (isReadyL listed es = true ↔ ∀ e ∈ es, Region.binds .any e = true → listed.toArray.getD e.on false = true)
  | [] => by simp [isReadyL]
  | e :: r => by
    simp only [isReadyL, Bool.and_eq_true, List.mem_cons, forall_eq_or_imp]
    rw [isReadyL_iff (es := r)]
    refine and_congr_left fun _ => ?_
    have hl : listed.toArray.getD e.on false = lget listed e.on := by
      rw [lget_eq]
      simp [Array.getD_eq_getD_getElem?]
    rw [hl]
    unfold Region.binds
    cases hg : e.ground <;> first | exact ⟨fun h _ => h, fun h => h rfl⟩ | exact ⟨fun _ h => absurd (show (Region.Mode.any == Region.Mode.text) = true from h) (by decide), fun _ => rfl⟩ | exact ⟨fun _ h => absurd (show (Region.Mode.any == Region.Mode.gc) = true from h) (by decide), fun _ => rfl⟩
theorem readyL_iff {all : List Oper} {listed : List Bool} (hl : listed.length = all.length) {j : Nat} : j ∈ readyL listed 0 all listed ↔ j ∈ Region.ready .any all.toArray listed.toArray := by
  have key : ∀ (l : List Oper) (fs : List Bool) (i : Nat), fs.length = l.length → ∀ j, j ∈ readyL listed i l fs ↔ ∃ k o, j = i + k ∧ l[k]? = some o ∧ fs[k]? = some false ∧ isReadyL listed o.after.toList = true := by
    intro l
    induction l with
    | nil => intro fs i hf j; cases fs <;> simp [readyL]
    | cons o l ih =>
      intro fs i hf j
      cases fs with
      | nil => simp at hf
      | cons f fs =>
        have ih' := ih fs (i + 1) (by simpa using hf) j
        have tail : (∃ k x, j = i + 1 + k ∧ l[k]? = some x ∧ fs[k]? = some false ∧ isReadyL listed x.after.toList = true) → ∃ k x, j = i + k ∧ (o :: l)[k]? = some x ∧ (f :: fs)[k]? = some false ∧ isReadyL listed x.after.toList = true :=
          fun ⟨k, x, h1, h2, h3, h4⟩ => ⟨k + 1, x, by omega, by simpa using h2, by simpa using h3, h4⟩
        have back : ∀ k x, j = i + k → (o :: l)[k]? = some x → (f :: fs)[k]? = some false → isReadyL listed x.after.toList = true → (k = 0 ∧ f = false ∧ isReadyL listed o.after.toList = true) ∨ ∃ k x, j = i + 1 + k ∧ l[k]? = some x ∧ fs[k]? = some false ∧ isReadyL listed x.after.toList = true := by
          intro k x h1 h2 h3 h4
          cases k with
          | zero => simp at h2 h3; subst h2 h3; exact .inl ⟨rfl, rfl, h4⟩
          | succ k => exact .inr ⟨k, x, by omega, by simpa using h2, by simpa using h3, h4⟩
        unfold readyL
        cases f with
        | true =>
          simp only [cond_true]
          rw [ih']
          constructor
          · exact tail
          · rintro ⟨k, x, h1, h2, h3, h4⟩
            rcases back k x h1 h2 h3 h4 with ⟨_, h, _⟩ | h
            · cases h
            · exact h
        | false =>
          simp only [cond_false]
          cases hr : isReadyL listed o.after.toList with
          | true =>
            simp only [cond_true, List.mem_cons]
            rw [ih']
            constructor
            · rintro (rfl | h)
              · exact ⟨0, o, rfl, rfl, rfl, hr⟩
              · exact tail h
            · rintro ⟨k, x, h1, h2, h3, h4⟩
              rcases back k x h1 h2 h3 h4 with ⟨h, _⟩ | h
              · subst h; exact .inl h1
              · exact .inr h
          | false =>
            simp only [cond_false]
            rw [ih']
            constructor
            · exact tail
            · rintro ⟨k, x, h1, h2, h3, h4⟩
              rcases back k x h1 h2 h3 h4 with ⟨_, _, h⟩ | h
              · rw [hr] at h; cases h
              · exact h
  rw [key all listed 0 hl j, mem_ready]
  constructor
  · rintro ⟨k, o, rfl, h2, h3, h4⟩
    refine ⟨?_, o, by simpa using h2, fun e he hb => (isReadyL_iff.1 h4) e (by simpa using he) hb⟩
    simp only [Nat.zero_add]
    rw [Array.getD_eq_getD_getElem?]
    simp [h3]
  · rintro ⟨h0, o, ho, h4⟩
    have ho' : all[j]? = some o := by simpa using ho
    have hj : j < listed.length := by rw [hl]; exact (List.getElem?_eq_some_iff.1 ho').1
    refine ⟨j, o, by omega, ho', ?_, isReadyL_iff.2 fun e he hb => h4 e (by simpa using he) hb⟩
    rw [Array.getD_eq_getD_getElem?] at h0
    rw [List.getElem?_eq_getElem hj]
    simp [hj] at h0
    rw [h0]
theorem looks_of_looksAt {ops : Array Oper} {o : Oper} {d : Nat} (h : d ∈ o.looksAt ops) : d ∈ looks ops.toList o := by
  unfold Oper.looksAt at h
  unfold looks
  rcases List.mem_append.1 h with h | h
  · obtain ⟨x, hx, e⟩ := List.mem_filterMap.1 h
    refine List.mem_append_left _ (List.mem_flatMap.2 ⟨x, hx, ?_⟩)
    cases x <;> simp at e
    subst e
    simp [tmpOf]
  · refine List.mem_append_right _ ?_
    split at h
    · rename_i g wt hg
      rw [hg]
      simp only [Option.mem_toList] at h
      cases hx : ops[g]? with
      | none => rw [hx] at h; cases h
      | some x =>
        rw [hx] at h
        have hx' : ops.toList[g]? = some x := by rw [Array.getElem?_toList]; exact hx
        have : dstOf ops.toList g = some d := by
          unfold dstOf
          rw [hx']
          simpa using h
        simp only [this]
        exact List.mem_singleton.2 rfl
    · cases h
theorem conjL_all {f : Nat → Prop} : {l : List Nat} → conjL f l → ∀ i ∈ l, f i
  | [], _, i, hi => by cases hi
  | [x], e, i, hi => by
    rw [List.mem_singleton.1 hi]
    exact e
  | x :: y :: r, e, i, hi => by
    rcases List.mem_cons.1 hi with h | h
    · subst h; exact e.1
    · exact conjL_all e.2 i h
theorem firstEager_some {all : List Oper} : {l : List Nat} → {j : Nat} → firstEager all l = some j → j ∈ l ∧ ∃ o, all[j]? = some o ∧ eagerOp o.op = true
  | [], j, e => by cases e
  | i :: r, j, e => by
    unfold firstEager at e
    split at e
    · rename_i o ho
      cases hb : eagerOp o.op with
      | true =>
        rw [hb] at e
        injection e with e
        subst e
        exact ⟨List.mem_cons_self .., o, ho, hb⟩
      | false =>
        rw [hb] at e
        obtain ⟨h1, h2⟩ := firstEager_some e
        exact ⟨List.mem_cons_of_mem _ h1, h2⟩
    · obtain ⟨h1, h2⟩ := firstEager_some e
      exact ⟨List.mem_cons_of_mem _ h1, h2⟩
theorem lset_eq : (l : List Bool) → (i : Nat) → (lset l i).toArray = l.toArray.setIfInBounds i true := by
  intro l i
  have : lset l i = l.set i true := by
    induction l generalizing i with
    | nil => rfl
    | cons x r ih => cases i with
      | zero => rfl
      | succ i => simp [lset, ih]
  rw [this]
  simp
theorem lset_len : (l : List Bool) → (i : Nat) → (lset l i).length = l.length
  | [], _ => rfl
  | _ :: _, 0 => rfl
  | _ :: r, i + 1 => by simp [lset, lset_len r i]
theorem execA_run (hE : EnvOk P E) {J : Inliner} (hJ : InlSound P E J) (hG : GlobOk E.gl h0) {top : Nat} (ops : Array Oper) (hok : ∀ (j : Nat) o, ops.toList[j]? = some o → OkAt ops.toList j o) (hsel : ∀ (j : Nat) (o : Oper) cs b, ops[j]? = some o → o.op ≠ .select cs b)
    {Q : Exit → Act → World → Prop} (hp : ∀ c a w, ¬ Q (.panic c) a w) {k : St → Prop}
    (hd : ∀ o ∈ ops.toList, ∀ t, o.dst = some t → t < n) (hQ : ∀ σ' N' h' a' w', k σ' → Sat B w0 h0 b u n σ' N' h' a' w' → Q .normal a' w') :
    ∀ (m : Nat) (listed : List Bool) (σ : St) (N : Names) (h : PHeap) (a : Act) (w : World), listed.length = ops.toList.length → execA E J b top ops.toList m listed σ k → Sat B w0 h0 b u n σ N h a w → wpAny P .any ops Q m listed.toArray a w := by
  intro m
  induction m with
  | zero =>
    intro listed σ N h a w hl e hS
    simp only [execA] at e
    split at e
    · rename_i hr
      refine ⟨?_, hQ σ N h a w e hS⟩
      cases hrr : Region.ready .any ops listed.toArray with
      | nil => rfl
      | cons i r =>
        have : i ∈ readyL listed 0 ops.toList listed := (readyL_iff hl).2 (by rw [Array.toArray_toList, hrr]; exact List.mem_cons_self ..)
        rw [hr] at this
        cases this
    · exact e.elim
  | succ m ih =>
    intro listed σ N h a w hl e hS
    simp only [execA] at e
    split at e
    · rename_i hr
      refine wpAny_done ?_ (hQ σ N h a w e hS) _
      cases hrr : Region.ready .any ops listed.toArray with
      | nil => rfl
      | cons i r =>
        have : i ∈ readyL listed 0 ops.toList listed := (readyL_iff hl).2 (by rw [Array.toArray_toList, hrr]; exact List.mem_cons_self ..)
        rw [hr] at this
        cases this
    · rename_i i0 r0 hr
      split at e
      · rename_i j hj
        obtain ⟨h1, o, ho, hk⟩ := firstEager_some hj
        rw [ho] at e
        simp only at e
        obtain ⟨v, σ', g1, g2, g3⟩ := stepG_eager hE ops hd ho hk e hS
        have hoj : ops[j]? = some o := by rw [← ho]; simp
        have hjr : j ∈ Region.ready .any ops listed.toArray := by
          have := (readyL_iff hl).1 (by rw [hr]; exact h1)
          rwa [Array.toArray_toList] at this
        have hw := ih (lset listed j) σ' N h (a.put o.dst v) w (by rw [lset_len, hl]) g2 g3
        rw [lset_eq] at hw
        refine wpAny_first hoj hsel (fun c a w hh => absurd hh (hp c _ w)) m listed.toArray a w ?_ hjr g1 hw
        -- it stands apart from all that may come up ahead of it
        intro i oi hoi hij hun hno
        have hoi' : ops.toList[i]? = some oi := by rw [Array.getElem?_toList]; exact hoi
        have hnot : ¬ afterOf ops.toList i j = true := by
          intro hh
          unfold afterOf at hh
          rw [hoi'] at hh
          obtain ⟨x, hx, q1, q2⟩ := onList_get.1 hh
          exact hno x (by simpa using hx) q2 q1
        have hnot2 : ¬ afterOf ops.toList j i = true := by
          intro hh
          unfold afterOf at hh
          rw [ho] at hh
          obtain ⟨x, hx, q1, q2⟩ := onList_get.1 hh
          obtain ⟨_, o', ho', hall⟩ := mem_ready.1 hjr
          rw [hoj] at ho'
          injection ho' with ho'
          subst ho'
          have := hall x (by simpa using hx) q2
          rw [q1] at this
          rw [Array.getD_eq_getD_getElem?] at this hun
          cases hx : listed.toArray[i]? with
          | none => rw [hx] at this; cases this
          | some f => rw [hx] at this hun; simp at this hun; rw [this] at hun; cases hun
        have okj := hok j o ho
        have oki := hok i oi hoi'
        unfold Oper.apart
        simp only [Bool.and_eq_true]
        refine ⟨?_, ?_⟩
        · split
          · rename_i d hdst
            simp only [Bool.and_eq_true, Bool.not_eq_true', bne_iff_ne, ne_eq]
            refine ⟨?_, fun hh => hij (okj.once d hdst i oi hoi' hh)⟩
            cases hc : (oi.looksAt ops).contains d with
            | false => rfl
            | true =>
              have := oki.reads d (looks_of_looksAt (List.contains_iff_mem.1 hc)) j o ho hdst
              rcases Nat.lt_or_gt_of_ne hij with q | q
              · exact absurd (this.2 q) hnot2
              · exact absurd (this.1 q) hnot
          · rfl
        · split
          · rename_i d hdst
            simp only [Bool.not_eq_true']
            cases hc : (o.looksAt ops).contains d with
            | false => rfl
            | true =>
              have := okj.reads d (looks_of_looksAt (List.contains_iff_mem.1 hc)) i oi hoi' hdst
              rcases Nat.lt_or_gt_of_ne hij with q | q
              · exact absurd (this.1 q) hnot2
              · exact absurd (this.2 q) hnot
          · rfl
      · refine ⟨fun h0 => ?_, fun i hi => ?_⟩
        · have : i0 ∈ Region.ready .any ops listed.toArray := by
            have := (readyL_iff hl).1 (by rw [hr]; exact List.mem_cons_self ..)
            rwa [Array.toArray_toList] at this
          rw [h0] at this
          cases this
        · have hi' : i ∈ readyL listed 0 ops.toList listed := (readyL_iff hl).2 (by rw [Array.toArray_toList]; exact hi)
          rw [hr] at hi'
          have e := conjL_all e i hi'
          split at e
          · rename_i o ho
            refine stepG_sound hE hJ hG ops hd ho e hS fun σ' N' h' a' w' hk hS' => ?_
            have := ih (lset listed i) σ' N' h' a' w' (by rw [lset_len, hl]) hk hS'
            rwa [lset_eq] at this
          · exact e.elim
theorem execA_sound (hE : EnvOk P E) {J : Inliner} (hJ : InlSound P E J) (hG : GlobOk E.gl h0) (hm : P.follows .mixedOrders = true) {top : Nat} (ops : Array Oper) (id : Nat) (hok : okOps ops.toList 0 ops.toList = true) {Q : Exit → Act → World → Prop} {k : St → Prop}
    (hd : ∀ o ∈ ops.toList, ∀ t, o.dst = some t → t < n) (hQ : ∀ σ' N' h' a' w', k σ' → Sat B w0 h0 b u n σ' N' h' a' w' → Q .normal a' w')
    {σ : St} {h : PHeap} {a : Act} {w : World} (e : execAll E J b top ops.toList σ k) (hS : Sat B w0 h0 b u n σ N h a w) : (Code.region id ops true).wp P Q a w := by
  unfold execAll at e
  cases hs : noSel ops.toList with
  | false => rw [hs] at e; exact e.elim
  | true =>
    rw [hs] at e
    simp only at e
    refine Code.wp_mono (Q := fun e a w => (∀ c, e ≠ .panic c) ∧ Q e a w) (fun _ _ _ hh => hh.2) ?_
    refine wp_region_any hm ?_
    have hmem : MemSat B w0 σ.blks σ.rows N h { w with drawn := w.drawn + 1 } := by
      have := hS.mem
      exact ⟨⟨this.below.os, this.below.tape, this.below.output, this.below.size, this.below.block, Nat.le_succ_of_le this.below.drawn⟩, this.size, this.pin, this.blk, this.inj, this.row, this.rowh, this.rowb, this.rowr⟩
    have := execA_run (B := B) (w0 := w0) (h0 := h0) (u := u) (n := n) hE hJ hG ops (fun j o ho => by have := okOps_get ops.toList 0 hok j o ho; rwa [Nat.zero_add] at this) (fun j o cs b ho heq => ?_)
      (Q := fun e a w => (∀ c, e ≠ .panic c) ∧ Q e a w) (fun c a w hh => hh.1 c rfl) hd (fun σ' N' h' a' w' hk hS' => ⟨fun c hc => (by cases hc), hQ σ' N' h' a' w' hk hS'⟩) ops.toList.length (List.replicate ops.toList.length false) σ N h a { w with drawn := w.drawn + 1 } (by simp) e ⟨hmem, hS.grow, hS.dom, hS.slots, hS.size, hS.defers⟩
    · simpa using this
    · have ho' : o ∈ ops.toList := List.mem_of_getElem? (by rw [Array.getElem?_toList]; exact ho)
      have := noSel_all hs o ho'
      rw [heq] at this
      cases this
end
end Go.Fr
namespace Go.Fr
open Go Go.RowKit
universe u
theorem opsBd_get {n : Nat} : {l : List Oper} → opsBd n l = true → ∀ o ∈ l, ∀ t, o.dst = some t → t < n
  | [], _, o, ho, _, _ => by cases ho
  | x :: r, e, o, ho, t, ht => by
    simp only [opsBd, Bool.and_eq_true] at e
    rcases List.mem_cons.1 ho with h | h
    · subst h
      rw [ht] at e
      exact Nat.le_of_ble_eq_true e.1
    · exact opsBd_get e.2 o h t ht
theorem wp_loop_rel {P : Program} {Q : Exit → Act → World → Prop} {X : Type} {c : Code} (I : X → Act → World → Prop) (μ : X → Nat) {x0 : X} {a : Act} {w : World} (hi : I x0 a w)
    (round : ∀ x a w, I x a w → c.wp P (Exit.then (fun a' w' => ∃ y, I y a' w' ∧ μ y < μ x) Q) a w) : (Code.loop c).wp P Q a w := by
  intro b k cs
  have key : ∀ m x a w, μ x = m → I x a w → ∃ e a' w', Q e a' w' ∧ Arrives P (lone (b.at a (.code c :: .inLoop c :: k)) cs w) b k cs e a' w' := by
    intro m
    induction m using Nat.strongRecOn with
    | _ m ih =>
      intro x a w hm hI
      obtain ⟨e, a₁, w₁, hq, harr⟩ := round x a w hI b (.inLoop c :: k) cs
      cases e with
      | normal =>
        obtain ⟨y, hI₁, hlt⟩ := hq
        obtain ⟨e₂, a₂, w₂, hq₂, harr₂⟩ := ih (μ y) (hm ▸ hlt) y a₁ w₁ rfl hI₁
        exact ⟨e₂, a₂, w₂, hq₂, .of_steps (Steps.trans harr (.one step_inLoop)) harr₂⟩
      | exit id => exact ⟨_, a₁, w₁, hq, .pass (x := .inLoop c) rfl (fun _ _ => .inl (by simp)) harr⟩
      | goto l => exact ⟨_, a₁, w₁, hq, .pass (x := .inLoop c) rfl (fun _ _ => .inl (by simp)) harr⟩
      | ret => exact ⟨_, a₁, w₁, hq, .pass (x := .inLoop c) rfl (fun _ _ => .inl (by simp)) harr⟩
      | panic ch => exact ⟨_, a₁, w₁, hq, .pass (x := .inLoop c) rfl (fun _ _ => .inl (by simp)) harr⟩
      | outgrown => exact ⟨_, a₁, w₁, hq, .pass (x := .inLoop c) rfl (fun _ _ => .inl (by simp)) harr⟩
  obtain ⟨e, a', w', hq, harr⟩ := key _ x0 a w rfl hi
  exact ⟨e, a', w', hq, .of_steps (.one step_loop) harr⟩
def Ex.to : Ex → Exit
  | .normal => .normal
  | .exit i => .exit i
  | .ret => .ret
section
variable {P : Program} {E : Env} {B : Nat} {w0 : World} {h0 : PHeap} {b : Nat} {u : Nat → Value} {n : Nat}
def Posts (B : Nat) (w0 : World) (h0 : PHeap) (b : Nat) (u : Nat → Value) (n : Nat) (Q : Ex → St → Prop) (Q' : Exit → Act → World → Prop) : Prop :=
  ∀ e σ N h a w, Q e σ → Sat B w0 h0 b u n σ N h a w → Q' e.to a w
theorem vc_sound (hE : EnvOk P E) (hm : P.follows .mixedOrders = true) {J : Inliner} (hJ : InlSound P E J) (hG : GlobOk E.gl h0) {top : Nat} : (c : Code) → codeBd n c = true → ∀ (σ : St) (Q : Ex → St → Prop) (Q' : Exit → Act → World → Prop) (N : Names) (h : PHeap) (a : Act) (w : World),
    vc E J b top c σ Q → Sat B w0 h0 b u n σ N h a w → Posts B w0 h0 b u n Q Q' → c.wp P Q' a w
  | .skip, _, σ, Q, Q', N, h, a, w, e, hS, hQ => wp_skip (hQ .normal σ N h a w e hS)
  | .ret, _, σ, Q, Q', N, h, a, w, e, hS, hQ => wp_ret (hQ .ret σ N h a w e hS)
  | .exit id, _, σ, Q, Q', N, h, a, w, e, hS, hQ => wp_exit (hQ (.exit id) σ N h a w e hS)
  | .seq x y, hb, σ, Q, Q', N, h, a, w, e, hS, hQ => by
    simp only [codeBd, Bool.and_eq_true] at hb
    simp only [vc] at e
    refine wp_seq (vc_sound hE hm hJ hG x hb.1 σ _ _ N h a w e hS ?_)
    intro ex σ' N' h' a' w' he hS'
    cases ex with
    | normal => exact vc_sound hE hm hJ hG y hb.2 σ' Q Q' N' h' a' w' he hS' hQ
    | exit i => exact hQ (.exit i) σ' N' h' a' w' he hS'
    | ret => exact hQ .ret σ' N' h' a' w' he hS'
  | .cond c x y, hb, σ, Q, Q', N, h, a, w, e, hS, hQ => by
    simp only [codeBd, Bool.and_eq_true] at hb
    simp only [vc] at e
    have hc := evO_rel hS.slots c
    split at e
    · rename_i t hbb
      rw [hbb] at hc
      have hc : a.eval c = .bool t := by simpa only [SV.rel, Leaf.rel] using hc
      cases t with
      | true => exact wp_cond_true hc (vc_sound hE hm hJ hG x hb.1 σ Q Q' N h a w e hS hQ)
      | false => exact wp_cond_false hc (vc_sound hE hm hJ hG y hb.2 σ Q Q' N h a w e hS hQ)
    · rename_i t hbb
      rw [hbb] at hc
      have hc : a.eval c = .bool t := by
        obtain ⟨cs, q1, q2⟩ := SV.tv_iff.1 hc
        simp only [rep] at q1
        subst q1
        exact q2
      exact wp_cond_split hc (fun ht => vc_sound hE hm hJ hG x hb.1 σ Q Q' N h a w (e.1 ht) hS hQ) (fun hf => vc_sound hE hm hJ hG y hb.2 σ Q Q' N h a w (e.2 hf) hS hQ)
    · exact e.elim
  | .block id x, hb, σ, Q, Q', N, h, a, w, e, hS, hQ => by
    simp only [codeBd] at hb
    simp only [vc] at e
    refine wp_block (vc_sound hE hm hJ hG x hb σ _ _ N h a w e hS ?_)
    intro ex σ' N' h' a' w' he hS'
    cases ex with
    | normal => exact hQ .normal σ' N' h' a' w' he hS'
    | exit i =>
      simp only at he
      split at he
      · rename_i hi
        have := Nat.eq_of_beq_eq_true hi
        subst this
        simp only [Ex.to, Exit.inBlock, if_true]
        exact hQ .normal σ' N' h' a' w' he hS'
      · rename_i hi
        have := Nat.ne_of_beq_eq_false hi
        simp only [Ex.to, Exit.inBlock, if_neg this]
        exact hQ (.exit i) σ' N' h' a' w' he hS'
    | ret => exact hQ .ret σ' N' h' a' w' he hS'
  | .loop x, hb, σ, Q, Q', N, h, a, w, e, hS, hQ => by
    simp only [codeBd] at hb
    simp only [vc] at e
    split at e
    · exact e.elim
    rename_i hh _
    split at e
    · rename_i m _
      refine wp_loop_rel (X := Nat) (fun m a w => ∃ σ N h, rounds (fun σ Q => vc E J b top x σ Q) m σ Q ∧ Sat B w0 h0 b u n σ N h a w) id (x0 := m + 1) ⟨σ, N, h, e, hS⟩ ?_
      rintro m a1 w1 ⟨σ1, N1, h1, e1, hS1⟩
      cases m with
      | zero => exact e1.elim
      | succ m =>
        refine vc_sound hE hm hJ hG x hb σ1 _ _ N1 h1 a1 w1 e1 hS1 ?_
        intro ex σ' N' h' a' w' he hS'
        cases ex with
        | normal => exact ⟨m, ⟨σ', N', h', he, hS'⟩, Nat.lt_succ_self m⟩
        | exit i => exact hQ (.exit i) σ' N' h' a' w' he hS'
        | ret => exact hQ .ret σ' N' h' a' w' he hS'
    · obtain ⟨x0, hent, Z, μ, hj, hround⟩ := exV_get hh.vars e
      obtain ⟨N0, hS0⟩ := entH_sat hS hent
      refine wp_loop_rel (fun x a w => Z x ∧ ∃ N h, Sat B w0 h0 b u n (atHead hh σ x) N h a w) μ (x0 := x0) ⟨hj, N0, h, hS0⟩ ?_
      rintro z a1 w1 ⟨hjx, N1, h1, hS1⟩
      have hr := allV_all hh.vars hround z hjx
      rw [fSt_eq] at hr
      refine vc_sound hE hm hJ hG x hb (atHead hh σ z) _ _ N1 h1 a1 w1 hr hS1 ?_
      intro ex σ' N' h' a' w' he hS'
      cases ex with
      | normal =>
        obtain ⟨y, hey, hjy, hlt⟩ := exV_get hh.vars he
        obtain ⟨N2, hS2⟩ := entH_sat hS' hey
        exact ⟨y, ⟨hjy, N2, h', hS2⟩, hlt⟩
      | exit i => exact hQ (.exit i) σ' N' h' a' w' he hS'
      | ret => exact hQ .ret σ' N' h' a' w' he hS'
  | .region id ops draw, hb, σ, Q, Q', N, h, a, w, e, hS, hQ => by
    simp only [codeBd] at hb
    simp only [vc] at e
    cases draw with
    | false =>
      simp only at e
      simp only [Bool.and_eq_true] at hb
      obtain ⟨σ1, h1, e1, hS1⟩ := freezeK_sound hS e
      have := execOps_sound (b := b) (u := u) (n := n) hE hJ hG ops (Q := Q') (k := Q .normal) (opsBd_get hb.1) (fun σ' N' h' a' w' hk hS' => hQ .normal σ' N' h' a' w' hk hS') ops.toList 0 σ1 N h1 a w rfl e1 hS1
      refine wp_region ?_
      rw [List.range_eq_range', ← Array.length_toList]
      exact this
    | true =>
      simp only at e
      simp only [Bool.and_eq_true] at hb
      split at e
      rotate_left
      · obtain ⟨σ1, h1, e1, hS1⟩ := freezeK_sound hS e
        exact execA_sound hE hJ hG hm ops id hb.2 (opsBd_get hb.1) (fun σ' N' h' a' w' hk hS' => hQ .normal σ' N' h' a' w' hk hS') e1 hS1
      obtain ⟨σ1, h1, e1, hS1⟩ := freezeK_sound hS e
      exact execM_sound hE hG hm ops id hb.2 (opsBd_get hb.1) (fun σ' N' h' a' w' hk hS' => hQ .normal σ' N' h' a' w' hk hS') e1 hS1
  | .rangeFunc .., _, _, _, _, _, _, _, _, e, _, _ => e.elim
  | .scope x, hb, σ, Q, Q', N, h, a, w, e, hS, hQ => by
    simp only [codeBd] at hb
    simp only [vc] at e
    refine wp_scope_straight (vc_sound hE hm hJ hG x hb σ Q _ N h a w e hS ?_)
    intro ex σ' N' h' a' w' he hS'
    cases ex with
    | normal => exact hQ .normal σ' N' h' a' w' he hS'
    | exit i => exact hQ (.exit i) σ' N' h' a' w' he hS'
    | ret => exact hQ .ret σ' N' h' a' w' he hS'
  | .label _, _, σ, Q, Q', N, h, a, w, e, hS, hQ => wp_label (hQ .normal σ N h a w e hS)
  | .goto _, _, _, _, _, _, _, _, _, e, _, _ => e.elim
  | .refuse _, _, _, _, _, _, _, _, _, e, _, _ => e.elim
end
end Go.Fr
namespace Go.Fr
open Go Go.RowKit
universe u
def Ty.chain : Ty → Nat
  | .pair _ b => b.chain + 1
  | _ => 0
section
variable {P : Program} {E : Env} {B : Nat} {w0 w : World} {h0 h : PHeap} {b : Nat} {u : Nat → Value} {n : Nat} {N : Names} {a : Act}
theorem trep_len : (t : Ty) → (x : t.den) → (vs : List Value) → trep h t x vs → vs.length = t.chain
  | .unit, _, _, e => by simp only [trep] at e; subst e; rfl
  | .pair a b, x, _, ⟨v, r, e, _, h2⟩ => by subst e; simp [Ty.chain, trep_len b x.2 r h2]
  | .bool, _, _, e => e.elim
  | .int _, _, _, e => e.elim
  | .str, _, _, e => e.elim
  | .sl _, _, _, e => e.elim
  | .opt _, _, _, e => e.elim
  | .mp _ _, _, _, e => e.elim
  | .nd _ _ _ _, _, _, e => e.elim
theorem tails_sat : (tl : List FuncId) → (i : Nat) → ∀ (tmps : Array Value), (∀ (j : Nat) v, (tailVals tl)[j]? = some v → tmps.getD (i + j) undef = v) → ∀ k, (getS (tailSlots tl i) k).rel N h (tmps.getD k undef)
  | [], _, _, _, _ => SV.leaf_iff.2 (by simp only [Leaf.rel])
  | f :: r, i, tmps, hv, k => by
    simp only [tailSlots]
    rw [getS_cons]
    split
    · rename_i hk
      subst hk
      have := hv 0 _ rfl
      rw [Nat.add_zero] at this
      rw [this]
      exact SV.leaf_iff.2 (by simp only [Leaf.rel])
    · exact tails_sat r (i + 1) tmps (fun j u hu => by
        have := hv (j + 1) u (by simpa [tailVals] using hu)
        rw [← this]
        congr 1
        omega) k
theorem params_sat : (t : Ty) → (x : t.den) → (tl : List FuncId) → (vs : List Value) → trep h t x vs → (i : Nat) → ∀ (tmps : Array Value), (∀ (j : Nat) v, (vs ++ tailVals tl)[j]? = some v → tmps.getD (i + j) undef = v) → ∀ k, (getS (entrySlots t x tl i) k).rel N h (tmps.getD k undef)
  | .pair a b, x, tl, _, ⟨v, r, e, h1, h2⟩, i, tmps, hv, k => by
    subst e
    simp only [entrySlots]
    rw [getS_cons]
    split
    · rename_i hk
      subst hk
      have := hv 0 v rfl
      rw [Nat.add_zero] at this
      rw [this]
      exact SV.tv_iff.2 h1
    · exact params_sat b x.2 tl r h2 (i + 1) tmps (fun j u hu => by
        have := hv (j + 1) u (by simpa using hu)
        rw [← this]
        congr 1
        omega) k
  | .unit, _, tl, vs, e, i, tmps, hv, k => by
    simp only [trep] at e
    subst e
    exact tails_sat tl i tmps (fun j v hj => hv j v (by simpa using hj)) k
  | .bool, _, _, _, e, _, _, _, _ => e.elim
  | .int _, _, _, _, e, _, _, _, _ => e.elim
  | .str, _, _, _, e, _, _, _, _ => e.elim
  | .sl _, _, _, _, e, _, _, _, _ => e.elim
  | .opt _, _, _, _, e, _, _, _, _ => e.elim
  | .mp _ _, _, _, _, e, _, _, _, _ => e.elim
  | .nd _ _ _ _, _, _, _, e, _, _, _, _ => e.elim
theorem rmR_len : (rs : Rows) → ∀ r, (rmR rs r).length ≤ rs.length
  | [], _ => Nat.le_refl _
  | (k, R) :: rs, r => by
    unfold rmR
    cases Nat.beq k r with
    | true => exact Nat.le_succ_of_le (rmR_len rs r)
    | false => exact Nat.succ_le_succ (rmR_len rs r)
theorem thaw_all {σ : St} (hS : Sat B w0 h0 b u n σ N h a w) : ∃ h', PLe h h' ∧ (∀ k, h' k ≠ none → h0 k ≠ none ∨ B ≤ k) ∧ PIn h' w ∧ ∀ r R, getR σ.rows r = some R → vrep h' (.sl R.t) R.xs (N.V r) := by
  have key : ∀ (m : Nat) (σ : St) (h : PHeap), σ.rows.length = m → Sat B w0 h0 b u n σ N h a w → ∃ h', PLe h h' ∧ (∀ k, h' k ≠ none → h0 k ≠ none ∨ B ≤ k) ∧ PIn h' w ∧ ∀ r R, getR σ.rows r = some R → vrep h' (.sl R.t) R.xs (N.V r) := by
    intro m
    induction m using Nat.strongRecOn with
    | _ m ih =>
      intro σ h hm hS
      obtain ⟨sl, bs, rs⟩ := σ
      cases rs with
      | nil => exact ⟨h, PLe.refl h, hS.dom, hS.mem.pin, fun r R hr => by cases hr⟩
      | cons p rest =>
        obtain ⟨r0, R0⟩ := p
        obtain ⟨h1, hS1, hl1, hv1⟩ := freeze_sound hS r0
        have hrows : (freeze ⟨sl, bs, (r0, R0) :: rest⟩ r0).rows = rmR rest r0 := by
          simp only [freeze, getR, rmR, Nat.beq_refl, cond_true]
        obtain ⟨h2, hl2, hd2, hp2, hv2⟩ := ih (rmR rest r0).length (by
          have := rmR_len rest r0
          simp only [List.length_cons] at hm
          omega) _ h1 (by rw [hrows]) hS1
        refine ⟨h2, hl1.trans hl2, hd2, hp2, fun r R hr => ?_⟩
        by_cases e : r0 = r
        · subst e
          exact vrep_mono hl2 (hv1 R hr)
        · refine hv2 r R ?_
          rw [hrows, rmR_get, if_neg e]
          rw [getR_cons, if_neg e] at hr
          exact hr
  exact key _ σ h rfl hS
theorem thaw_keeps {h' : PHeap} {rs : Rows} (hv : ∀ r R, getR rs r = some R → vrep h' (.sl R.t) R.xs (N.V r)) : Keeps N h h' (thawS rs) := by
  intro i l hl v hvi
  unfold thawS at hl
  split at hl
  · rename_i R hR
    injection hl with hl; subst hl
    simp only [Leaf.rel]
    rw [hvi.1]
    exact hv i R hR
  · injection hl with hl; subst hl
    simp only [Leaf.rel]
def resVal (tmps : Array Value) : ResultVar → Sem Value
  | .tmp t => pure (tmps.getD t undef)
  | .cell a t => do loadVar t (← asAddr (tmps.getD a undef))
theorem results_eq (fn : Func) (tmps : Array Value) : results fn tmps = (do
    let vs ← fn.results.mapM (resVal tmps)
    pure (if h : vs.size = 1 then vs[0] else .tuple vs)) := by
  unfold results
  congr 1
theorem resSV_run (hE : EnvOk P E) {σ : St} (hS : Sat B w0 h0 b u n σ N h a w) {r : ResultVar} {s : SV} (e : resSV E b σ r = some s) :
    ∃ v, (resVal a.tmps r).run P w = .ok v w ∧ s.rel N h v := by
  cases r with
  | tmp t =>
    simp only [resSV] at e
    injection e with e; subst e
    have := hS.slots (b + t)
    rw [vals_at] at this
    exact ⟨_, rfl, this⟩
  | cell q t =>
    simp only [resSV] at e
    split at e
    · rename_i ti hti
      have hT := hE.tt t ti hti
      split at e
      · rename_i i off hi
        split at e
        · rename_i bt bc hbl
          have hb := hS.slots (b + q)
          rw [vals_at, hi] at hb
          simp only [SV.rel, Leaf.rel] at hb
          obtain ⟨o0, q1, q2, _⟩ := hS.mem.blk i _ hbl
          obtain ⟨cs, rfl, q2, q3⟩ := BlkSat.cells.1 q2
          have := partOf_load (P := P) (w := w) hT e q2 q3 ⟨N.ρ i, 0, none⟩ (fun j u hu => by
            rw [add_lit]
            simp only [World.cell?, q1]
            simpa using hu)
          rw [add_lit, Nat.zero_add] at this
          obtain ⟨v, g1, g2⟩ := this
          refine ⟨v, ?_, g2⟩
          simp only [resVal, hb, Sem.run_bind, asAddr, Sem.run_pure, Result.andThen_ok]
          simpa [Instr.loadAt, Instr.sureAddr] using g1
        · cases e
      · cases e
    · cases e
theorem resSVs_run (hE : EnvOk P E) {σ : St} (hS : Sat B w0 h0 b u n σ N h a w) {h' : PHeap} (hl : PLe h h') (hv : ∀ r R, getR σ.rows r = some R → vrep h' (.sl R.t) R.xs (N.V r)) : (rs : List ResultVar) → (ss : List SV) → resSVs E b σ rs = some ss →
    ∃ vs : List Value, (rs.mapM (resVal a.tmps)).run P w = .ok vs w ∧ ss.length = vs.length ∧ ∀ (i : Nat) s v, ss[i]? = some s → vs[i]? = some v → s.rel N h' v
  | [], ss, e => by
    simp only [resSVs] at e
    injection e with e; subst e
    exact ⟨[], rfl, rfl, fun i s v hs => by simp at hs⟩
  | r :: rs, ss, e => by
    simp only [resSVs] at e
    split at e
    · rename_i s hs
      split at e
      · rename_i ss' hss
        injection e with e; subst e
        obtain ⟨v, g1, g2⟩ := resSV_run hE hS hs
        obtain ⟨vs, q1, q2, q3⟩ := resSVs_run hE hS hl hv rs ss' hss
        refine ⟨v :: vs, ?_, by simp [q2], fun i s' v' hs' hv' => ?_⟩
        · rw [List.mapM_cons]
          simp only [Sem.run_bind, g1, Result.andThen_ok, q1, Sem.run_pure]
        · cases i with
          | zero =>
            simp at hs' hv'
            subst hs' hv'
            exact SV.rel_sub (thaw_keeps hv) hl s g2
          | succ i => exact q3 i s' v' (by simpa using hs') (by simpa using hv')
      · cases e
    · cases e
noncomputable def hmaps (N : Names) (bs : Blks) (w : World) (h : PHeap) : PHeap := fun g =>
  open Classical in if (∃ i b, getB bs i = some b ∧ b.it = some .map ∧ N.ρ i = g) then w.heap[g]? else h g
theorem hmaps_le {bs : Blks} (hp : PIn h w) : PLe h (hmaps N bs w h) := fun k o e => by
  unfold hmaps
  split
  · exact hp k o e
  · exact e
theorem hmaps_in {bs : Blks} (hp : PIn h w) : PIn (hmaps N bs w h) w := fun k o e => by
  unfold hmaps at e
  split at e
  · exact e
  · exact hp k o e
theorem thawM_rel {bs : Blks} {h1 : PHeap} (hp : PIn h1 w) (hb : ∀ i b, getB bs i = some b → ∃ o, w.heap[N.ρ i]? = some o ∧ BlkSat N h1 b o ∧ B ≤ N.ρ i) : (ls : List Leaf) → (vs : List Value) → LeafRels N h1 ls vs → LeafRels N (hmaps N bs w h1) (thawM bs ls) vs
  | [], _, e => by rw [LeafRels] at e; subst e; exact LeafRels.nil _ _
  | l :: ls, _, e => by
    rw [LeafRels] at e
    obtain ⟨v, r, rfl, g1, g2⟩ := e
    refine LeafRels.cons ?_ (thawM_rel hp hb ls r g2)
    split
    · rename_i q
      split
      · rename_i bt K V xs hq
        obtain ⟨o, q1, q2, _⟩ := hb q _ hq
        obtain ⟨K', V', xs', es, cl, c1, rfl, q3⟩ := BlkSat.map.1 q2
        injection c1 with c1
        injection c1 with c1 c2
        injection c1 with c1
        injection c1 with c1 c3
        injection c3 with c3
        subst c1 c3
        have c2 := eq_of_heq c2
        subst c2
        simp only [Leaf.rel] at g1
        subst g1
        refine tv_rel.2 ⟨[.map (some (N.ρ q))], mp_rep.2 (.inr ⟨_, es, cl, rfl, ?_, MapRep.mono (hmaps_le hp) _ _ q3⟩), rfl⟩
        unfold hmaps
        rw [if_pos ⟨q, _, hq, rfl, rfl⟩]
        exact q1
      · simp only [Leaf.rel]
    · exact Leaf.rel_mono (hmaps_le hp) _ _ g1
theorem thawP_sound (_hE : EnvOk P E) {bs : Blks} {h1 : PHeap} (hp : PIn h1 w) (hd : ∀ k, h1 k ≠ none → h0 k ≠ none ∨ B ≤ k)
    (hb : ∀ i b, getB bs i = some b → ∃ o, w.heap[N.ρ i]? = some o ∧ BlkSat N h1 b o ∧ B ≤ N.ρ i) {s : SV} {v : Value} (hr : s.rel N h1 v) {k : SV → Prop} (e : thawP E bs s k) :
    ∃ s' h2, k s' ∧ PLe h1 h2 ∧ PIn h2 w ∧ (∀ k, h2 k ≠ none → h0 k ≠ none ∨ B ≤ k) ∧ s'.rel N h2 v := by
  have stay : k s → ∃ s' h2, k s' ∧ PLe h1 h2 ∧ PIn h2 w ∧ (∀ k, h2 k ≠ none → h0 k ≠ none ∨ B ≤ k) ∧ s'.rel N h2 v := fun e => ⟨s, h1, e, PLe.refl h1, hp, hd, hr⟩
  unfold thawP at e
  split at e
  rotate_left
  · exact stay e
  rename_i i
  split at e
  rotate_left
  · exact stay e
  rename_i t cs hbi
  split at e
  rotate_left
  · exact stay e
  rename_i ti hti
  split at e
  rotate_left
  · exact stay e
  rename_i T hT
  rw [implodeK_eq] at e
  split at e
  rotate_left
  · exact stay e
  rename_i x r hx
  split at e
  rotate_left
  · exact stay e
  obtain ⟨o, q1, q2, q3⟩ := hb i _ hbi
  obtain ⟨vs, rfl, q2, q4⟩ := BlkSat.cells.1 q2
  have q2 := thawM_rel hp hb _ _ q2
  have hle0 : PLe h1 (hmaps N bs w h1) := hmaps_le hp
  have hd0 : ∀ k, hmaps N bs w h1 k ≠ none → h0 k ≠ none ∨ B ≤ k := fun k hk => by
    unfold hmaps at hk
    split at hk
    · rename_i he
      obtain ⟨i, b, p1, p2, p3⟩ := he
      obtain ⟨o, _, _, p4⟩ := hb i b p1
      exact .inr (by omega)
    · exact hd k hk
  have hp0 : PIn (hmaps N bs w h1) w := hmaps_in hp
  revert hle0 hd0 hp0 q2
  generalize hmaps N bs w h1 = h1'
  intro q2 hle0 hd0 hp0
  have hrep : rep h1' T x vs := implode_all hx q2
  have hle : PLe h1' (hnew h1' (N.ρ i) (.cells vs.toArray t (0, 0))) := fun k p hk => by
    unfold hnew
    split
    · rename_i he
      subst he
      have := hp0 _ p hk
      rw [q1] at this
      exact this
    · exact hk
  refine ⟨_, _, e, hle0.trans hle, hnew_in hp0 q1, fun k hk => ?_, ?_⟩
  · unfold hnew at hk
    split at hk
    · rename_i he
      subst he
      exact .inr q3
    · exact hd0 k hk
  · simp only [SV.rel, Leaf.rel] at hr
    subst hr
    refine SV.tv_iff.2 ⟨[.pointer (some ⟨N.ρ i, 0, none⟩)], .inr ⟨x, _, vs, rfl, rfl, rep_mono hle T x vs hrep, fun j u hu => ?_⟩, rfl⟩
    rw [add_lit, Nat.zero_add]
    unfold hcell hnew
    simp only [if_true]
    simpa using hu
theorem thawPs_sound (hE : EnvOk P E) {bs : Blks} : (ss : List SV) → (vs : List Value) → {h1 : PHeap} → PIn h1 w → (∀ k, h1 k ≠ none → h0 k ≠ none ∨ B ≤ k) →
    (∀ i b, getB bs i = some b → ∃ o, w.heap[N.ρ i]? = some o ∧ BlkSat N h1 b o ∧ B ≤ N.ρ i) → ss.length = vs.length → (∀ (i : Nat) s v, ss[i]? = some s → vs[i]? = some v → s.rel N h1 v) → {k : List SV → Prop} → thawPs E bs ss k →
    ∃ ss' h2, k ss' ∧ PLe h1 h2 ∧ PIn h2 w ∧ (∀ k, h2 k ≠ none → h0 k ≠ none ∨ B ≤ k) ∧ ss'.length = vs.length ∧ ∀ (i : Nat) s v, ss'[i]? = some s → vs[i]? = some v → s.rel N h2 v
  | [], vs, h1, hp, hd, _, hl, hr, k, e => ⟨[], h1, e, PLe.refl h1, hp, hd, hl, hr⟩
  | s :: r, vs, h1, hp, hd, hb, hl, hr, k, e => by
    match vs, hl with
    | v :: vs, hl =>
      simp only [thawPs] at e
      obtain ⟨s', h2, e, g1, g2, g3, g4⟩ := thawP_sound hE hp hd hb (hr 0 s v rfl rfl) e
      obtain ⟨ss', h3, e, p1, p2, p3, p4, p5⟩ := thawPs_sound hE r vs g2 g3 (fun i b hi => by
        obtain ⟨o, q1, q2, q3⟩ := hb i b hi
        exact ⟨o, q1, q2.mono g1, q3⟩) (by simpa using hl) (fun i s v hs hv => SV.rel_mono g1 _ _ (hr (i + 1) s v (by simpa using hs) (by simpa using hv))) e
      refine ⟨_, h3, e, g1.trans p1, p2, p3, by simp [p4], fun i s v' hs hv => ?_⟩
      cases i with
      | zero =>
        simp at hs hv
        subst hs hv
        exact SV.rel_mono p1 _ _ g4
      | succ i => exact p5 i s v' (by simpa using hs) (by simpa using hv)
theorem cutS_get (top : Nat) : (sl : Slots) → ∀ t, getS (cutS top sl) t = if top ≤ t then .leaf .any else getS sl t
  | [], t => by
    show SV.leaf Leaf.any = if top ≤ t then SV.leaf Leaf.any else SV.leaf Leaf.any
    split <;> rfl
  | (k, s) :: r, t => by
    unfold cutS
    cases hb : Nat.ble top k with
    | true =>
      have := Nat.le_of_ble_eq_true hb
      rw [cond_true, cutS_get top r, getS_cons]
      by_cases ht : top ≤ t
      · rw [if_pos ht, if_pos ht]
      · rw [if_neg ht, if_neg ht, if_neg (by omega)]
    | false =>
      have hk : ¬ top ≤ k := fun hh => by rw [Nat.ble_eq_true_of_le hh] at hb; cases hb
      rw [cond_false, getS_cons, getS_cons, cutS_get top r]
      by_cases hkt : k = t
      · subst hkt
        rw [if_pos rfl, if_neg hk, if_pos rfl]
      · rw [if_neg hkt, if_neg hkt]
theorem argSlots_get : (args : List SV) → (i : Nat) → (sl : Slots) → ∀ t, (t < i ∨ i + args.length ≤ t → getS (argSlots args i sl) t = getS sl t) ∧ (∀ s, i ≤ t → args[t - i]? = some s → getS (argSlots args i sl) t = s)
  | [], i, sl, t => ⟨fun _ => rfl, fun s _ h => by simp at h⟩
  | x :: r, i, sl, t => by
    obtain ⟨h1, h2⟩ := argSlots_get r (i + 1) sl t
    unfold argSlots
    rw [getS_cons]
    refine ⟨fun h => ?_, fun s hi hs => ?_⟩
    · simp only [List.length_cons] at h
      rw [if_neg (by omega)]
      exact h1 (by omega)
    · by_cases e : i = t
      · subst e
        rw [if_pos rfl]
        simpa using hs
      · rw [if_neg e]
        refine h2 s (by omega) ?_
        rw [show t - i = (t - (i + 1)) + 1 by omega] at hs
        simpa using hs
theorem vcN_sound (hE : EnvOk P E) (hm : P.follows .mixedOrders = true) : (d : Nat) → InlSound P E (vcN E d)
  | 0 => fun _ _ _ _ _ e => e.elim
  | d + 1 => by
    intro f top args σ k e B w0 h0 N h w v vs hG hS hlen hrel
    unfold vcN at e
    simp only at e
    split at e
    · exact e.elim
    · rename_i F hF
      obtain ⟨⟨fn, hf, hname, hb, hnt, hres⟩, hbd⟩ := hE.inl f F hF
      split at e
      · exact e.elim
      · rename_i hle
        have hle := Nat.le_of_ble_eq_true hle
        obtain ⟨sl, bs, rs⟩ := σ
        simp only [fSlots_eq] at e
        generalize top + 10000 * (f + 1) = top at e
        refine ⟨⟨fn, F.body, hf, hname, hb⟩, ?_⟩
        refine calls_of_wp hf hb ?_
        have hS' : Sat B w0 h0 top v F.n ⟨argSlots args top (cutS top sl), bs, rs⟩ N h { tmps := vs.toArray ++ Array.replicate (fn.ntmps - vs.toArray.size) undef, defers := [] } w := by
          refine ⟨hS.mem, hS.grow, hS.dom, ?_, by simp; omega, rfl⟩
          intro t
          obtain ⟨g1, g2⟩ := argSlots_get args top (cutS top sl) t
          unfold vals
          by_cases ht : t < top
          · rw [if_pos ht, g1 (.inl ht), cutS_get, if_neg (by omega)]
            exact hS.slots t
          · rw [if_neg ht]
            by_cases ha : t - top < args.length
            · rw [g2 _ (by omega) (List.getElem?_eq_getElem ha)]
              have hav : t - top < vs.length := by omega
              refine hrel (t - top) _ _ (List.getElem?_eq_getElem ha) ?_
              rw [Array.getD_eq_getD_getElem?, Array.getElem?_append_left (by simpa using hav)]
              simp [hav]
            · rw [g1 (.inr (by omega)), cutS_get, if_pos (by omega)]
              exact SV.leaf_iff.2 (by simp only [Leaf.rel])
        refine vc_sound hE hm (vcN_sound hE hm d) hG F.body hbd _ _ _ N h _ w e hS' ?_
        have fin : ∀ (σ : St) N' h' a' w', inlRet E top F.res σ k → Sat B w0 h0 top v F.n σ N' h' a' w' →
            a'.defers = [] ∧ ∃ r, (results fn a'.tmps).run P w' = .ok r w' ∧ ∃ r2 s σ' N' h', Ending.returned r = .returned r2 ∧ k s σ' ∧ s.rel N' h' r2 ∧ SatV B w0 h0 σ' N' h' v w' := by
          intro σ N' h' a' w' he hSa
          refine ⟨hSa.defers, ?_⟩
          unfold inlRet at he
          split at he
          · rename_i s hs
            obtain ⟨sl2, bs2, rs2⟩ := σ
            simp only [fSV_eq, fSlots_eq] at he
            have hV : SatV B w0 h0 ⟨cutS top sl2, bs2, rs2⟩ N' h' v w' := by
              refine ⟨hSa.mem, hSa.grow, hSa.dom, fun t => ?_⟩
              rw [cutS_get]
              by_cases ht : top ≤ t
              · rw [if_pos ht]
                exact SV.leaf_iff.2 (by simp only [Leaf.rel])
              · rw [if_neg ht]
                have := hSa.slots t
                unfold vals at this
                rwa [if_pos (by omega)] at this
            have hr : ∃ r, (results fn a'.tmps).run P w' = .ok r w' ∧ s.rel N' h' r := by
              rw [results_eq, Array.mapM_eq_mapM_toList]
              unfold resInl at hs
              split at hs
              · rename_i hres0
                injection hs with hs; subst hs
                rw [hres, hres0]
                exact ⟨_, by simp [List.mapM_nil]; rfl, SV.leaf_iff.2 (by simp only [Leaf.rel])⟩
              · rename_i r rs' hres0
                split at hs
                · obtain ⟨x, g1, g2⟩ := resSV_run hE hSa hs
                  rw [hres, hres0]
                  refine ⟨x, ?_, g2⟩
                  simp only [List.mapM_cons, List.mapM_nil, Sem.run_bind, Sem.run_map, g1, Result.andThen_ok, Sem.run_pure]
                  rfl
                · cases hs
            obtain ⟨r, hr1, hr2⟩ := hr
            exact ⟨r, hr1, r, s, _, N', h', rfl, he, hr2, hV⟩
          · exact he.elim
        intro ex σ' N' h' a' w' he hSa
        cases ex with
        | normal => exact fin σ' N' h' a' w' he hSa
        | exit i => exact he.elim
        | ret => exact fin σ' N' h' a' w' he hSa
theorem fn_sound (hE : EnvOk P E) (hm : P.follows .mixedOrders = true) {f : FuncId} {fn : Func} {c : Code} {C : Contract} (hf : P.funcs[f]? = some fn) (hname : fn.name ≠ "runtime.NumGoroutine") (hb : fn.body = some c)
    (hbd : codeBd fn.ntmps c = true) (hpn : C.arg.chain + C.tail.length ≤ fn.ntmps) (hrn : (fn.results.size = 1) = (C.one = true)) (hon : C.own = none) (hv : fnVC E fn c C) : CallSpec P E.gl f C := by
  refine ⟨⟨fn, c, hf, hname, hb⟩, ?_⟩
  intro x h w args hpre hargs hpin hG
  refine calls_of_wp hf hb ?_
  have hlen := trep_len C.arg x args hargs
  have htl : (tailVals C.tail).length = C.tail.length := by simp [tailVals]
  have hS : Sat w.heap.size w h bot (fun _ => undef) fn.ntmps ⟨entrySlots C.arg x C.tail bot, [], []⟩ ⟨fun k => k, fun _ => .nilFunc⟩ h { tmps := (args ++ tailVals C.tail).toArray ++ Array.replicate (fn.ntmps - (args ++ tailVals C.tail).toArray.size) undef, defers := [] } w := by
    refine ⟨⟨Below.refl _ _, Nat.le_refl _, hpin, fun i b hh => (by cases hh), fun i j b c hh => (by cases hh), fun r R hh => (by cases hh), fun r R g hh => (by cases hh), fun r R g i b hh => (by cases hh), fun r s R S g hh => (by cases hh)⟩, PLe.refl h, fun k hk => .inl hk, ?_, ?_, rfl⟩
    · intro t
      have hv0 : ∀ a : Act, vals bot (fun _ => undef) a t = a.tmps.getD t undef := fun a => by
        unfold vals bot
        rw [if_neg (by omega), Nat.sub_zero]
      rw [hv0]
      refine params_sat C.arg x C.tail args hargs bot _ (fun j v hj => ?_) t
      have hlt : j < (args ++ tailVals C.tail).length := (List.getElem?_eq_some_iff.1 hj).1
      unfold bot
      rw [Nat.zero_add, Array.getD_eq_getD_getElem?, Array.getElem?_append_left (by simpa using hlt)]
      simp [hj]
    · simp
      omega
  refine vc_sound hE hm (vcN_sound hE hm deep) hG c hbd _ _ _ _ h _ w (hv x hpre) hS ?_
  have fin : ∀ σ N h' a' w', retVC E bot fn.results.toList C.one C.res σ (C.fn x) → Sat w.heap.size w h bot (fun _ => undef) fn.ntmps σ N h' a' w' → a'.defers = [] ∧ ∃ v, (results fn a'.tmps).run P w' = .ok v w' ∧
      ∃ u h2, Ending.returned v = .returned u ∧ PLe h h2 ∧ (∀ k, h2 k ≠ none → h k ≠ none ∨ w.heap.size ≤ k) ∧ PIn h2 w' ∧ resOr w.heap.size w' h2 C (C.fn x) u ∧ Below w.heap.size w w' := by
    intro σ N h' a' w' e hS'
    refine ⟨hS'.defers, ?_⟩
    obtain ⟨h2, hl2, hd2, hp2, hv2⟩ := thaw_all hS'
    unfold retVC at e
    split at e
    · rename_i ss hss
      obtain ⟨vs, q1, q2, q3⟩ := resSVs_run hE hS' hl2 hv2 _ ss hss
      have hlen2 := q2
      obtain ⟨ss, h3, e, hl3, hp3, hd3, q2, q3⟩ := thawPs_sound hE (h0 := h) (B := w.heap.size) ss vs hp2 hd2 (fun i bb hi => by
        rw [mapBlks_get] at hi
        cases hh : getB σ.blks i with
        | none => rw [hh] at hi; cases hi
        | some b' =>
          rw [hh] at hi
          injection hi with hi
          subst hi
          obtain ⟨o, r1, r2, r3, _⟩ := hS'.mem.blk i b' hh
          exact ⟨o, r1, r2.mapped (thaw_keeps hv2) hl2, r3⟩) q2 q3 e
      have hl2 := hl2.trans hl3
      have hd2 := hd3
      have hp2 := hp3
      have hres : (results fn a'.tmps).run P w' = .ok (if _ : vs.toArray.size = 1 then vs.toArray[0] else .tuple vs.toArray) w' := by
        rw [results_eq, Array.mapM_eq_mapM_toList]
        simp only [Sem.run_bind, Sem.run_map, q1, Result.andThen_ok, Sem.run_pure]
      have hsz : fn.results.toList.length = vs.length := by
        have : ∀ (rs : List ResultVar) (ss : List SV), resSVs E bot σ rs = some ss → rs.length = ss.length := by
          intro rs
          induction rs with
          | nil => intro ss h; simp only [resSVs] at h; injection h with h; subst h; rfl
          | cons r rs ih =>
            intro ss h
            simp only [resSVs] at h
            split at h
            · split at h
              · rename_i ss' hss'
                injection h with h; subst h
                simp [ih ss' hss']
              · cases h
            · cases h
        rw [this _ _ hss, hlen2]
      split at e
      · rename_i hone
        split at e
        · rename_i s
          rw [argValK_eq] at e
          split at e
          · rename_i y hy
            subst e
            obtain ⟨v, rfl⟩ : ∃ v, vs = [v] := by
              cases vs with
              | nil => simp at q2
              | cons v r => cases r with
                | nil => exact ⟨v, rfl⟩
                | cons _ _ => simp at q2
            · refine ⟨v, by rw [hres]; rfl, v, h3, rfl, hS'.grow.trans hl2, hd2, hp2, ?_, hS'.mem.below⟩
              unfold resOr
              rw [hon]
              unfold resRep
              rw [hone]
              exact argVal_rel hy (q3 0 s v rfl rfl)
          · exact e.elim
        · exact e.elim
      · rename_i hone
        rw [argsK_eq] at e
        split at e
        · rename_i y hy
          have hne : ¬ vs.toArray.size = 1 := by
            intro h1
            have : fn.results.size = 1 := by
              rw [← Array.length_toList, hsz]
              simpa using h1
            rw [hrn, hone] at this
            cases this
          refine ⟨.tuple vs.toArray, by rw [hres, dif_neg hne], .tuple vs.toArray, h3, rfl, hS'.grow.trans hl2, hd2, hp2, ?_, hS'.mem.below⟩
          unfold resOr
          rw [hon]
          unfold resRep
          rw [hone]
          refine ⟨vs, rfl, ?_⟩
          rw [← e]
          exact argsOf_rel C.res ss y hy vs q2 q3
        · exact e.elim
    · exact e.elim
  intro ex σ N h' a' w' he hS'
  cases ex with
  | normal => exact fin σ N h' a' w' he hS'
  | exit i => exact he.elim
  | ret => exact fin σ N h' a' w' he hS'
end
end Go.Fr
namespace Go.Fr
open Go Go.RowKit
universe u
def fieldsTy (P : Program) (rec : TypeId → Ty → Bool) : List Field → Ty → Nat → Bool
  | [], .unit, _ => true
  | f :: fs, .pair a b, off => f.name != "_" && Nat.beq f.offset off && (match P.info? f.type, P.underlying f.type with
      | some i, some d => Nat.beq i.size a.size && (aggDesc d == a.isAgg)
      | _, _ => false) && rec f.type a && fieldsTy P rec fs b (off + a.size)
  | _, _, _ => false
def arrTy (P : Program) (rec : TypeId → Ty → Bool) (e : TypeId) : Nat → Ty → Bool
  | 0, .unit => true
  | n + 1, .pair a b => (match P.info? e, P.underlying e with
      | some i, some d => Nat.beq i.size a.size && (aggDesc d == a.isAgg)
      | _, _ => false) && rec e a && arrTy P rec e n b
  | _, _ => false
def eqTy (P : Program) : Nat → TypeId → Ty → Bool
  | 0, _, _ => false
  | d + 1, t, T => match P.underlying t with
    | some .bool => (match T with | .bool => true | _ => false)
    | some (.int k) => (match T with | .int k' => sameKind k k' | _ => false)
    | some .string => (match T with | .str => true | _ => false)
    | some (.struct fs) => !P.stoodInHeld t && fieldsTy P (eqTy P d) fs.toList T 0
    | some (.array n e) => Nat.ble 1 n && arrTy P (eqTy P d) e n T
    | _ => false
section
variable {P : Program} {w : World} {h : PHeap}
theorem run_part_mid {t : TypeId} {i : TypeInfo} {d : TypeDesc} {a : Ty} (hi : P.info? t = some i) (hd : P.underlying t = some d) (hs : i.size = a.size) (hg : aggDesc d = a.isAgg) {x : a.den} {pre c1 rest : List Value} (hr : rep h a x c1) :
    (part t (pre ++ (c1 ++ rest)).toArray pre.length).run P w = .ok (a.val c1) w := by
  have hl := rep_len a x c1 hr
  unfold part
  simp only [Sem.run_bind, run_isAgg_of hd, Result.andThen_ok, hg]
  cases ha : a.isAgg with
  | true =>
    simp only [if_true, Sem.run_bind, run_sizeOf_of hi, hs, Result.andThen_ok, Sem.run_pure]
    have : (pre ++ (c1 ++ rest)).toArray.extract pre.length (pre.length + a.size) = c1.toArray := by
      apply Array.ext'
      simp [← hl]
    rw [this]
    cases a <;> first | rfl | cases ha
  | false =>
    obtain ⟨e1, _⟩ := val_one a x c1 hr ha
    have : (pre ++ (c1 ++ rest))[pre.length]? = some (a.val c1) := by
      rw [List.getElem?_append_right (Nat.le_refl _), Nat.sub_self]
      have h0 : c1[0]? = some (a.val c1) := by
        conv => lhs; rw [e1]
        rfl
      rw [List.getElem?_append_left (List.getElem?_eq_some_iff.1 h0).1]
      exact h0
    simp [this]
theorem agg_of_agg {t : Ty} {cs : List Value} (ha : t.isAgg = true) : t.val cs = .agg cs.toArray := by cases t <;> first | rfl | cases ha
theorem eqFields_run {rec : TypeId → Ty → Bool} {D : Nat} (hrec : ∀ t T, rec t T = true → ∀ (x y : T.den) cs ds (w : World), rep h T x cs → rep h T y ds → (Op.equalIn D t (T.val cs) (T.val ds)).run P w = .ok (T.beq x y) w) :
    (fs : List Field) → (T : Ty) → (off : Nat) → fieldsTy P rec fs T off = true → ∀ (x y : T.den) (pre pre' cs ds : List Value), pre.length = off → pre'.length = off → rep h T x cs → rep h T y ds →
      (Op.eqFields D (pre ++ cs).toArray (pre' ++ ds).toArray fs).run P w = .ok (T.beq x y) w
  | [], .unit, off, _, x, y, pre, pre', cs, ds, _, _, _, _ => rfl
  | f :: fs, .pair a b, off, e, x, y, pre, pre', cs, ds, hp, hp', hx, hy => by
    simp only [fieldsTy, Bool.and_eq_true] at e
    obtain ⟨⟨⟨⟨e1, e2⟩, e3⟩, e4⟩, e5⟩ := e
    split at e3
    · rename_i i d hi hd
      simp only [Bool.and_eq_true] at e3
      have s1 : i.size = a.size := Nat.eq_of_beq_eq_true e3.1
      have s2 : aggDesc d = a.isAgg := by simpa using e3.2
      have s3 : f.offset = off := Nat.eq_of_beq_eq_true e2
      obtain ⟨c1, c2, rfl, q1, q2⟩ := hx
      obtain ⟨d1, d2, rfl, r1, r2⟩ := hy
      have p1 := run_part_mid (P := P) (w := w) (pre := pre) (rest := c2) hi hd s1 s2 q1
      have p2 := run_part_mid (P := P) (w := w) (pre := pre') (rest := d2) hi hd s1 s2 r1
      rw [hp, ← s3] at p1
      rw [hp', ← s3] at p2
      have p3 := hrec f.type a e4 x.1 y.1 c1 d1 w q1 r1
      have hname : f.name ≠ "_" := by simpa using e1
      simp only [Op.eqFields, if_pos hname, Sem.run_bind, p1, p2, p3, Result.andThen_ok]
      have ih := eqFields_run hrec fs b (off + a.size) e5 x.2 y.2 (pre ++ c1) (pre' ++ d1) c2 d2 (by rw [List.length_append, hp, rep_len a _ _ q1]) (by rw [List.length_append, hp', rep_len a _ _ r1]) q2 r2
      rw [List.append_assoc, List.append_assoc] at ih
      cases hb : a.beq x.1 y.1 with
      | true => simp only [Bool.not_true, Bool.false_eq_true, if_false, Ty.beq, hb, Bool.true_and]; exact ih
      | false => simp only [Bool.not_false, if_true, Ty.beq, hb, Bool.false_and]; rfl
    · cases e3
  | [], .pair _ _, _, e, _, _, _, _, _, _, _, _, _, _ => by cases e
  | [], .bool, _, e, _, _, _, _, _, _, _, _, _, _ => by cases e
  | [], .int _, _, e, _, _, _, _, _, _, _, _, _, _ => by cases e
  | [], .str, _, e, _, _, _, _, _, _, _, _, _, _ => by cases e
  | [], .sl _, _, e, _, _, _, _, _, _, _, _, _, _ => by cases e
  | _ :: _, .unit, _, e, _, _, _, _, _, _, _, _, _, _ => by cases e
  | _ :: _, .bool, _, e, _, _, _, _, _, _, _, _, _, _ => by cases e
  | _ :: _, .int _, _, e, _, _, _, _, _, _, _, _, _, _ => by cases e
  | _ :: _, .str, _, e, _, _, _, _, _, _, _, _, _, _ => by cases e
  | _ :: _, .sl _, _, e, _, _, _, _, _, _, _, _, _, _ => by cases e
def eqArr (D : Nat) (e : TypeId) (n : Nat) (xs ys : Array Value) : List Nat → Sem Bool
  | [] => pure true
  | i :: is => do
    let a ← part e xs (i * n)
    let b ← part e ys (i * n)
    let r ← Op.equalIn D e a b
    if (!r) = true then pure false else eqArr D e n xs ys is
theorem run_equalIn_arr {D n s : Nat} {t e : TypeId} {xs ys : Array Value} {i : TypeInfo} (ht : P.underlying t = some (.array n e)) (hi : P.info? e = some i) (hs : i.size = s) :
    (Op.equalIn (D + 1) t (.agg xs) (.agg ys)).run P w = (eqArr D e s xs ys (List.range' 0 n)).run P w := by
  simp only [Op.equalIn, Sem.run_bind, run_underlying ht, Result.andThen_ok, run_sizeOf_of hi, hs]
  rw [Std.Legacy.Range.forIn_eq_forIn_range']
  simp only [Std.Legacy.Range.size, Nat.sub_zero, Nat.add_sub_cancel, Nat.div_one]
  generalize List.range' 0 n = l
  induction l generalizing w with
  | nil => simp [eqArr]
  | cons j l ih =>
    simp only [List.forIn_cons, eqArr, Sem.run_bind]
    generalize (part e xs (j * s)).run P w = r1
    cases r1 with
    | ok a w1 =>
      simp only [Result.andThen_ok]
      generalize (part e ys (j * s)).run P w1 = r2
      cases r2 with
      | ok b w2 =>
        simp only [Result.andThen_ok]
        generalize (Op.equalIn D e a b).run P w2 = r3
        cases r3 with
        | ok r w3 =>
          cases r
          · simp only [Result.andThen_ok, Bool.not_false, if_true, Sem.run_pure]
          · simp only [Result.andThen_ok, Bool.not_true, Bool.false_eq_true, if_false, Sem.run_pure]
            exact ih
        | halt x w3 => simp [Result.andThen]
      | halt x w2 => simp [Result.andThen]
    | halt x w1 => simp [Result.andThen]
theorem eqArr_run {rec : TypeId → Ty → Bool} {D : Nat} (hrec : ∀ t T, rec t T = true → ∀ (x y : T.den) cs ds (w : World), rep h T x cs → rep h T y ds → (Op.equalIn D t (T.val cs) (T.val ds)).run P w = .ok (T.beq x y) w) {e : TypeId} {s : Nat} {i : TypeInfo} (hi : P.info? e = some i) (hs : i.size = s) :
    (m : Nat) → (T : Ty) → (k : Nat) → arrTy P rec e m T = true → ∀ (x y : T.den) (pre pre' cs ds : List Value), pre.length = k * s → pre'.length = k * s → rep h T x cs → rep h T y ds →
      (eqArr D e s (pre ++ cs).toArray (pre' ++ ds).toArray (List.range' k m)).run P w = .ok (T.beq x y) w
  | 0, .unit, k, _, x, y, pre, pre', cs, ds, _, _, _, _ => rfl
  | m + 1, .pair a b, k, e0, x, y, pre, pre', cs, ds, hp, hp', hx, hy => by
    simp only [arrTy, Bool.and_eq_true] at e0
    obtain ⟨⟨e1, e2⟩, e3⟩ := e0
    split at e1
    · rename_i i' d hi' hd
      rw [hi] at hi'
      injection hi' with hi'
      subst hi'
      simp only [Bool.and_eq_true] at e1
      have s1 : i.size = a.size := Nat.eq_of_beq_eq_true e1.1
      have s2 : aggDesc d = a.isAgg := by simpa using e1.2
      obtain ⟨c1, c2, rfl, q1, q2⟩ := hx
      obtain ⟨d1, d2, rfl, r1, r2⟩ := hy
      have p1 := run_part_mid (P := P) (w := w) (pre := pre) (rest := c2) hi hd s1 s2 q1
      have p2 := run_part_mid (P := P) (w := w) (pre := pre') (rest := d2) hi hd s1 s2 r1
      rw [hp] at p1
      rw [hp'] at p2
      have p3 := hrec e a e2 x.1 y.1 c1 d1 w q1 r1
      simp only [List.range'_succ, eqArr, Sem.run_bind, p1, p2, p3, Result.andThen_ok]
      have ih := eqArr_run hrec hi hs m b (k + 1) e3 x.2 y.2 (pre ++ c1) (pre' ++ d1) c2 d2 (by rw [List.length_append, hp, rep_len a _ _ q1, Nat.add_mul]; omega) (by rw [List.length_append, hp', rep_len a _ _ r1, Nat.add_mul]; omega) q2 r2
      rw [List.append_assoc, List.append_assoc] at ih
      cases hb : a.beq x.1 y.1 with
      | true => simp only [Bool.not_true, Bool.false_eq_true, if_false, Ty.beq, hb, Bool.true_and]; exact ih
      | false => simp only [Bool.not_false, if_true, Ty.beq, hb, Bool.false_and]; rfl
    · cases e1
  | 0, .pair _ _, _, e, _, _, _, _, _, _, _, _, _, _ => by cases e
  | 0, .bool, _, e, _, _, _, _, _, _, _, _, _, _ => by cases e
  | 0, .int _, _, e, _, _, _, _, _, _, _, _, _, _ => by cases e
  | 0, .str, _, e, _, _, _, _, _, _, _, _, _, _ => by cases e
  | 0, .sl _, _, e, _, _, _, _, _, _, _, _, _, _ => by cases e
  | _ + 1, .unit, _, e, _, _, _, _, _, _, _, _, _, _ => by cases e
  | _ + 1, .bool, _, e, _, _, _, _, _, _, _, _, _, _ => by cases e
  | _ + 1, .int _, _, e, _, _, _, _, _, _, _, _, _, _ => by cases e
  | _ + 1, .str, _, e, _, _, _, _, _, _, _, _, _, _ => by cases e
  | _ + 1, .sl _, _, e, _, _, _, _, _, _, _, _, _, _ => by cases e
theorem eqTy_run : (d : Nat) → ∀ (D : Nat), d ≤ D → ∀ (t : TypeId) (T : Ty), eqTy P d t T = true → ∀ (x y : T.den) cs ds (w : World), rep h T x cs → rep h T y ds → (Op.equalIn D t (T.val cs) (T.val ds)).run P w = .ok (T.beq x y) w
  | 0, _, _, _, _, e, _, _, _, _, _, _, _ => by cases e
  | d + 1, 0, hd, _, _, _, _, _, _, _, _, _, _ => by omega
  | d + 1, D + 1, hd, t, T, e, x, y, cs, ds, w, hx, hy => by
    simp only [eqTy] at e
    have hrec : ∀ t T, eqTy P d t T = true → ∀ (x y : T.den) cs ds (w : World), rep h T x cs → rep h T y ds → (Op.equalIn D t (T.val cs) (T.val ds)).run P w = .ok (T.beq x y) w :=
      fun t T e x y cs ds w hx hy => eqTy_run d D (by omega) t T e x y cs ds w hx hy
    split at e
    · rename_i hu
      cases T <;> first | (cases e; done) | skip
      simp only [rep] at hx hy
      subst hx hy
      exact run_equalIn_bool' w D t x y hu
    · rename_i k hu
      cases T <;> first | (cases e; done) | skip
      rename_i k'
      have := sameKind_eq e
      subst this
      simp only [rep] at hx hy
      subst hx hy
      exact run_equalIn_int w D t k k x y hu
    · rename_i hu
      cases T <;> first | (cases e; done) | skip
      simp only [rep] at hx hy
      subst hx hy
      have := run_equalIn_string w D t x y hu
      rw [← beq_toListBytes] at this
      exact this
    · rename_i fs hu
      simp only [Bool.and_eq_true, Bool.not_eq_true'] at e
      have hagg : T.isAgg = true := by
        obtain ⟨_, e2⟩ := e
        generalize fs.toList = l at e2
        cases l <;> cases T <;> first | rfl | cases e2
      rw [agg_of_agg hagg, agg_of_agg hagg]
      have hf : P.fieldsOf t = fs := by simp [Program.fieldsOf, hu]
      rw [run_equalIn_struct w D t _ _ (by rw [hf]; exact hu) e.1, hf]
      exact eqFields_run hrec fs.toList T 0 e.2 x y [] [] cs ds rfl rfl hx hy
    · rename_i n el hu
      simp only [Bool.and_eq_true] at e
      obtain ⟨e0, e⟩ := e
      have hagg : T.isAgg = true := by
        cases n <;> cases T <;> first | rfl | cases e
      rw [agg_of_agg hagg, agg_of_agg hagg]
      cases n with
      | zero => cases e0
      | succ n =>
        cases T <;> first | (cases e; done) | skip
        have e' := e
        simp only [arrTy, Bool.and_eq_true] at e
        obtain ⟨⟨e1, _⟩, _⟩ := e
        split at e1
        · rename_i i dd hi hdd
          rw [run_equalIn_arr hu hi rfl]
          exact eqArr_run hrec hi rfl (n + 1) _ 0 e' x y [] [] cs ds (by simp) (by simp) hx hy
        · cases e1
    · cases e
end
end Go.Fr
namespace Go.Fr
open Go Go.RowKit
universe u
def zeroLeaf (l : Leaf) (v : Value) : Bool :=
  match l with
  | .blit b => (match v with | .bool c => b == c | _ => false)
  | .tv (.int k) n => (match v with | .int k' m => sameKind k k' && decide ((n : Int) = m) | _ => false)
  | .tv .str s => (match v with | .string s' => Nat.beq (ByteArray.size s) 0 && Nat.beq s'.size 0 | _ => false)
  | .raw (.pointer none) => (match v with | .pointer none => true | _ => false)
  | .raw (.slice none 0 0) => (match v with | .slice none 0 0 => true | _ => false)
  | .raw (.map none) => (match v with | .map none => true | _ => false)
  | .raw .nilFunc => (match v with | .nilFunc => true | _ => false)
  | .raw .nilIface => (match v with | .nilIface => true | _ => false)
  | _ => false
def zeroLeaves : List Leaf → List Value → Bool
  | [], [] => true
  | l :: ls, v :: vs => zeroLeaf l v && zeroLeaves ls vs
  | _, _ => false
theorem bytes_empty {s : ByteArray} (h : s.size = 0) : s = ByteArray.empty := by
  obtain ⟨⟨l⟩⟩ := s
  have : l = [] := List.eq_nil_of_length_eq_zero h
  subst this
  rfl
theorem zeroLeaf_rel {l : Leaf} {v : Value} (e : zeroLeaf l v = true) : (∀ N h, l.rel N h v) ∧ v.oneCell' = true := by
  unfold zeroLeaf at e
  split at e
  · split at e
    · have := eq_of_beq e
      subst this
      exact ⟨fun N h => by simp only [Leaf.rel], rfl⟩
    · cases e
  · split at e
    · simp only [Bool.and_eq_true, decide_eq_true_eq] at e
      have := sameKind_eq e.1
      subst this
      obtain ⟨_, e2⟩ := e
      subst e2
      exact ⟨fun N h => SV.leaf_iff.1 (mkInt_rel N h _ _), rfl⟩
    · cases e
  · split at e
    · simp only [Bool.and_eq_true] at e
      have h1 := bytes_empty (Nat.eq_of_beq_eq_true e.1)
      have h2 := bytes_empty (Nat.eq_of_beq_eq_true e.2)
      rw [h1, h2]
      exact ⟨fun N h => SV.leaf_iff.1 (mkStr_rel N h _), rfl⟩
    · cases e
  · split at e
    · exact ⟨fun N h => by simp only [Leaf.rel], rfl⟩
    · cases e
  · split at e
    · exact ⟨fun N h => by simp only [Leaf.rel], rfl⟩
    · cases e
  · split at e
    · exact ⟨fun N h => by simp only [Leaf.rel], rfl⟩
    · cases e
  · split at e
    · exact ⟨fun N h => by simp only [Leaf.rel], rfl⟩
    · cases e
  · split at e
    · exact ⟨fun N h => by simp only [Leaf.rel], rfl⟩
    · cases e
  · cases e
theorem zeroLeaves_rel : {ls : List Leaf} → {vs : List Value} → zeroLeaves ls vs = true → ZeroCells ls vs ∧ ∀ u ∈ vs, u.oneCell' = true
  | [], [], _ => ⟨fun _ _ => LeafRels.nil _ _, by simp⟩
  | l :: ls, v :: vs, e => by
    simp only [zeroLeaves, Bool.and_eq_true] at e
    obtain ⟨h1, h2⟩ := zeroLeaf_rel e.1
    obtain ⟨h3, h4⟩ := zeroLeaves_rel e.2
    refine ⟨fun N h => LeafRels.cons (h1 N h) (h3 N h), fun u hu => ?_⟩
    rcases List.mem_cons.1 hu with e | e
    · subst e; exact h2
    · exact h4 u e
  | [], _ :: _, e => by cases e
  | _ :: _, [], e => by cases e
def structOk (P : Program) : List (Nat × Nat × Bool) → List Field → Bool
  | [], [] => true
  | f :: fs, g :: gs => Nat.beq g.offset f.1 && (match P.info? g.type, P.underlying g.type with
      | some i, some e => Nat.beq i.size f.2.1 && (aggDesc e == f.2.2)
      | _, _ => false) && structOk P fs gs
  | _, _ => false
theorem structOk_get {P : Program} : (fs : List (Nat × Nat × Bool)) → (gs : List Field) → structOk P fs gs = true → gs.length = fs.length ∧ ∀ (n : Nat) f, fs[n]? = some f → ∃ g i e, gs[n]? = some g ∧ g.offset = f.1 ∧ P.info? g.type = some i ∧ i.size = f.2.1 ∧ P.underlying g.type = some e ∧ aggDesc e = f.2.2
  | [], [], _ => ⟨rfl, fun n f hf => by simp at hf⟩
  | f :: fs, g :: gs, h => by
    simp only [structOk, Bool.and_eq_true] at h
    obtain ⟨⟨h1, h2⟩, h3⟩ := h
    split at h2
    · rename_i i e hi he
      simp only [Bool.and_eq_true] at h2
      obtain ⟨l1, l2⟩ := structOk_get fs gs h3
      refine ⟨by simp [l1], fun n x hx => ?_⟩
      cases n with
      | zero =>
        simp at hx; subst hx
        exact ⟨g, i, e, rfl, Nat.eq_of_beq_eq_true h1, hi, Nat.eq_of_beq_eq_true h2.1, he, by simpa using h2.2⟩
      | succ n => 
        obtain ⟨g', i', e', q1, q2⟩ := l2 n x (by simpa using hx)
        exact ⟨g', i', e', by simpa using q1, q2⟩
    · cases h2
  | [], _ :: _, e => by cases e
  | _ :: _, [], e => by cases e
def kindOk (P : Program) (d : TypeDesc) (k : TK) : Bool :=
  match k with
  | .bool => (match d with | .bool => true | _ => false)
  | .int k => (match d with | .int k' => sameKind k' k | _ => false)
  | .str => (match d with | .string => true | _ => false)
  | .struct fs => (match d with | .struct gs => structOk P fs gs.toList | _ => false)
  | .array n e es => (match d with | .array n' e' => Nat.beq n n' && Nat.beq e e' && (match P.info? e with | some i => Nat.beq i.size es | none => false) | _ => false)
  | .slice e => (match d with | .slice e' => Nat.beq e e' | _ => false)
  | .ptr e => (match d with | .pointer e' => Nat.beq e e' | _ => false)
  | .map k e => (match d with | .map k' e' => Nat.beq k k' && Nat.beq e e' && keyB P k && zeroMB P e | _ => false)
  | .iface => (match d with | .interface ms => ms.isEmpty | _ => false)
  | .other => true
def checkTI (P : Program) (t : TypeId) (ti : TI) : Bool :=
  match P.info? t with
  | none => false
  | some i => match P.underlying t with
    | none => false
    | some d => Nat.beq i.size ti.size && Nat.beq i.bytes ti.bytes && (bif Nat.beq ti.zero.length ti.size then (match i.zero with | some z => zeroLeaves ti.zero z.cells.toList | none => false) else true) &&
      (aggDesc d == ti.isAgg) && kindOk P d ti.k && (match ti.k with | .ptr _ => zeroMB P t | _ => true) && (match ti.ty with
        | none => true
        | some T => Nat.beq T.size ti.size && (T.isAgg == ti.isAgg) && (bif T.plain then eqTy P 100 t T && (bif T.isAgg then !(P.eqGuardType P.depth t) else true) else true))
theorem kindOk_struct {P : Program} {d : TypeDesc} {fs : List (Nat × Nat × Bool)} (h : kindOk P d (.struct fs) = true) :
    ∃ gs, d = .struct gs ∧ structOk P fs gs.toList = true := by
  cases d <;> first | (cases h; done) | exact ⟨_, rfl, h⟩
theorem checkTI_ok {P : Program} {t : TypeId} {ti : TI} (h : checkTI P t ti = true) : TIok P t ti := by
  unfold checkTI at h
  split at h
  · cases h
  · rename_i i hi
    split at h
    · cases h
    · rename_i d hd
      simp only [Bool.and_eq_true] at h
      obtain ⟨⟨⟨⟨⟨⟨h1, h2⟩, h3⟩, h4⟩, h5⟩, h5z⟩, h6⟩ := h
      have h4 : aggDesc d = ti.isAgg := by simpa using h4
      refine ⟨⟨i, hi, Nat.eq_of_beq_eq_true h1, Nat.eq_of_beq_eq_true h2, fun hz => ?_⟩, ⟨d, hd, h4, ?_⟩, ?_, fun e he => by rw [he] at h5z; exact h5z⟩
      · rw [hz, Nat.beq_refl] at h3
        simp only [cond_true] at h3
        split at h3
        · rename_i z hzz
          obtain ⟨g1, g2⟩ := zeroLeaves_rel h3
          exact ⟨z, hzz, z.cells.toList, by simp, g1, g2⟩
        · cases h3
      · have h5' := h5
        unfold kindOk at h5
        split at h5
        · rename_i hk
          rw [hk]
          split at h5
          · rfl
          · cases h5
        · rename_i k hk
          rw [hk]
          split at h5
          · simp only; rw [sameKind_eq h5]
          · cases h5
        · rename_i hk
          rw [hk]
          split at h5
          · rfl
          · cases h5
        · rename_i fs hk
          rw [hk]
          rw [hk] at h5'
          obtain ⟨gs, rfl, h5⟩ := kindOk_struct h5'
          obtain ⟨g1, g2⟩ := structOk_get fs gs.toList h5
          refine ⟨gs, rfl, by simpa using g1, fun n f hf => ?_⟩
          obtain ⟨g, j, e, q1, q2⟩ := g2 n f hf
          exact ⟨g, j, e, by simpa using q1, q2⟩
        · rename_i n e es hk
          rw [hk]
          split at h5
          · simp only [Bool.and_eq_true] at h5
            obtain ⟨⟨p1, p2⟩, p3⟩ := h5
            split at p3
            · rename_i j hj
              refine ⟨by rw [Nat.eq_of_beq_eq_true p1, Nat.eq_of_beq_eq_true p2], j, hj, Nat.eq_of_beq_eq_true p3⟩
            · cases p3
          · cases h5
        · rename_i e hk
          rw [hk]
          split at h5
          · simp only; rw [Nat.eq_of_beq_eq_true h5]
          · cases h5
        · rename_i e hk
          rw [hk]
          split at h5
          · simp only; rw [Nat.eq_of_beq_eq_true h5]
          · cases h5
        · rename_i k e hk
          rw [hk]
          split at h5
          · simp only [Bool.and_eq_true] at h5
            obtain ⟨⟨⟨p1, p2⟩, p3⟩, p4⟩ := h5
            exact ⟨by rw [Nat.eq_of_beq_eq_true p1, Nat.eq_of_beq_eq_true p2], p3, p4⟩
          · cases h5
        · rename_i hk
          rw [hk]
          split at h5
          · simp only
            rw [Array.isEmpty_iff.1 h5]
          · cases h5
        · rename_i hk
          rw [hk]
          trivial
      · intro T hT
        rw [hT] at h6
        simp only [Bool.and_eq_true] at h6
        obtain ⟨⟨q1, q2⟩, q3⟩ := h6
        have q2 : T.isAgg = ti.isAgg := by simpa using q2
        refine ⟨Nat.eq_of_beq_eq_true q1, q2, fun hp => ?_⟩
        rw [hp] at q3
        simp only [cond_true, Bool.and_eq_true] at q3
        intro x y h cs ds w xo yo op hx hy
        have heq : (Op.equal t (T.val cs) (T.val ds)).run P w = .ok (T.beq x y) w := eqTy_run 100 10000 (by decide) t T q3.1 x y cs ds w hx hy
        refine ⟨?_, heq⟩
        cases ha : T.isAgg with
        | true =>
          rw [ha] at q3
          simp only [cond_true, Bool.not_eq_true'] at q3
          rw [agg_of_agg ha, agg_of_agg ha]
          exact run_eqGuard_agg w op t xo yo _ _ q3.2
        | false =>
          cases T with
          | bool => simp only [rep] at hx hy; subst hx hy; cases op <;> simp [eqGuard, Ty.val]
          | int k => simp only [rep] at hx hy; subst hx hy; cases op <;> simp [eqGuard, Ty.val]
          | str => simp only [rep] at hx hy; subst hx hy; cases op <;> simp [eqGuard, Ty.val]
          | sl t => cases hp
          | opt t => cases hp
          | mp _ _ => cases hp
          | nd _ _ _ _ => cases hp
          | unit => cases ha
          | pair a b => cases ha
def tabGet : List (TypeId × TI) → TypeId → Option TI
  | [], _ => none
  | (k, i) :: r, t => bif Nat.beq k t then some i else tabGet r t
def tabOk (P : Program) : List (TypeId × TI) → Bool
  | [] => true
  | (k, i) :: r => checkTI P k i && tabOk P r
theorem tabOk_get {P : Program} : (l : List (TypeId × TI)) → tabOk P l = true → ∀ t ti, tabGet l t = some ti → TIok P t ti
  | [], _, t, ti, h => by cases h
  | (k, i) :: r, e, t, ti, h => by
    simp only [tabOk, Bool.and_eq_true] at e
    simp only [tabGet] at h
    cases hb : Nat.beq k t with
    | true =>
      rw [hb] at h
      simp only [cond_true] at h
      injection h with h
      subst h
      rw [← Nat.eq_of_beq_eq_true hb]
      exact checkTI_ok e.1
    | false =>
      rw [hb] at h
      exact tabOk_get r e.2 t ti h
end Go.Fr
namespace Go.Fr
open Go Go.RowKit Go.ChangeShapes Go.WideShapes Go.ChangeAt
def isTy (P : Program) : Nat → TypeId → Ty → Bool
  | 0, _, _ => false
  | d + 1, t, T => match P.underlying t with
    | some .bool => (match T with | .bool => true | _ => false)
    | some (.int k) => (match T with | .int k' => sameKind k k' | _ => false)
    | some .string => (match T with | .str => true | _ => false)
    | some (.slice e) => (match T with | .sl T' => Nat.beq (P.cellsOf e) T'.size && isTy P d e T' && Nat.ble 1 (P.bytesOf e) | _ => false)
    | some (.struct fs) => T.isAgg && Nat.beq (P.cellsOf t) T.size && fieldsTy P (isTy P d) fs.toList T 0
    | some (.array n e) => T.isAgg && Nat.beq (P.cellsOf t) T.size && arrTy P (isTy P d) e n T
    | _ => false
def isTys (P : Program) : List TypeId → Ty → Bool
  | [], .unit => true
  | t :: ts, .pair a b => isTy P 40 t a && isTys P ts b
  | _, _ => false
def wf : (T : Ty) → T.den → Prop
  | .bool, _ => True
  | .int k, n => (Lit.int k n).wf = true
  | .str, s => s.size ≤ maxLen
  | .unit, _ => True
  | .sl t, xs => xs.length ≤ maxLen ∧ ∀ x ∈ xs, wf t x
  | .opt t, x => ∀ y, x = some y → wf t y
  | .mp _ _, _ => False
  | .nd _ _ _ _, _ => False
  | .pair a b, x => wf a x.1 ∧ wf b x.2
def wfm (m : Nat) : (T : Ty) → T.den → Prop
  | .bool, _ => True
  | .int _, _ => True
  | .str, s => s.size ≤ m
  | .unit, _ => True
  | .sl t, xs => xs.length ≤ m ∧ ∀ x ∈ xs, wfm m t x
  | .opt t, x => ∀ y, x = some y → wfm m t y
  | .mp _ _, _ => False
  | .nd _ _ _ _, _ => False
  | .pair a b, x => wfm m a x.1 ∧ wfm m b x.2
def bulk : (T : Ty) → T.den → Nat
  | .bool, _ => 1
  | .int _, _ => 1
  | .str, s => s.size + 1
  | .unit, _ => 0
  | .sl t, xs => (xs.map (bulk t)).sum + 1
  | .opt t, x => match x with | some y => bulk t y + 1 | none => 1
  | .mp _ _, _ => 0
  | .nd _ _ _ _, _ => 0
  | .pair a b, x => bulk a x.1 + bulk b x.2
structure IsBulk {H : Type} (β : DataW H → Nat) : Prop where
  one : ∀ d, 1 ≤ β d
  str : ∀ s, s.length + 1 ≤ β (.lit (.string s))
  slice : ∀ a b, (a.map β).sum + 1 ≤ β (.slice a b)
  agg : ∀ a, (a.map β).sum ≤ β (.agg a)
theorem list_of_each {α : Type} {Q : Nat → α → Prop} : (n : Nat) → (∀ i, i < n → ∃ y, Q i y) → ∃ xs : List α, xs.length = n ∧ ∀ (i : Nat) x, xs[i]? = some x → Q i x
  | 0, _ => ⟨[], rfl, fun i x h => by simp at h⟩
  | n + 1, h => by
    obtain ⟨xs, hl, hx⟩ := list_of_each n (fun i hi => h i (by omega))
    obtain ⟨y, hy⟩ := h n (by omega)
    refine ⟨xs ++ [y], by simp [hl], fun i x hi => ?_⟩
    rcases Nat.lt_or_ge i n with hlt | hge
    · rw [List.getElem?_append_left (by omega)] at hi
      exact hx i x hi
    · rw [List.getElem?_append_right (by omega)] at hi
      have : i - xs.length = 0 := by
        rcases Nat.eq_zero_or_pos (i - xs.length) with h0 | h0
        · exact h0
        · rw [List.getElem?_eq_none (by simp; omega)] at hi
          cases hi
      rw [this] at hi
      simp only [List.getElem?_cons_zero, Option.some.injEq] at hi
      have : i = n := by omega
      subst this hi
      exact hy
theorem sum_le_of_each {α : Type} {f : α → Nat} {β : Type} {g : β → Nat} : (xs : List α) → (ys : List β) → (∀ (i : Nat) x y, xs[i]? = some x → ys[i]? = some y → f x ≤ g y) → xs.length ≤ ys.length → (xs.map f).sum ≤ (ys.map g).sum
  | [], ys, _, _ => by simp
  | x :: xs, [], _, h => by simp at h
  | x :: xs, y :: ys, h, hl => by
    have h0 := h 0 x y rfl rfl
    have h1 := sum_le_of_each xs ys (fun i a b ha hb => h (i + 1) a b (by simpa using ha) (by simpa using hb)) (by simpa using hl)
    simp only [List.map_cons, List.sum_cons]
    omega
section
variable {H : Type} {enc : TypeId × Value → H} {P : Program} {w : World} {β : DataW H → Nat}
def heapOf (w : World) : PHeap := fun k => w.heap[k]?
theorem hcell_heapOf {a : Addr} : hcell (heapOf w) a = w.cell? a := by
  unfold hcell heapOf World.cell?
  rfl
theorem cellsAt_of_cells? {a : Addr} {n : Nat} {cs : List Value} (h : w.cells? 0 a n = some cs) : CellsAt (heapOf w) a cs := by
  intro j u hu
  rw [hcell_heapOf]
  obtain ⟨_, hl, hc⟩ := World.cells?_some h
  have hj : j < cs.length := (List.getElem?_eq_some_iff.1 hu).1
  rw [hc j (by omega), hu]
def Opens (P : Program) (w : World) (β : DataW H → Nat) (t : TypeId) (T : Ty) (cs : List Value) (d : DataW H) : Prop :=
  ∃ y : T.den, rep (heapOf w) T y cs ∧ wf T y ∧ (IsBulk β → bulk T y ≤ β d) ∧ ∀ m, (∀ q ∈ d.weights P t, q ≤ m) → wfm m T y
theorem open_fields {d n : Nat} {cs : List Value} (IH : ∀ t T fuel cs x, isTy P d t T = true → DataW.trod enc P w 0 (fun _ => true) true fuel t cs = some x → Opens P w β t T cs x.1) :
    (fs : List Field) → (T : Ty) → (off : Nat) → fieldsTy P (isTy P d) fs T off = true → (xs : List (DataW H × List MemPlace)) →
    (∀ (i : Nat) f, fs[i]? = some f → DataW.trod enc P w 0 (fun _ => true) true n f.type ((cs.drop f.offset).take (P.cellsOf f.type)) = xs[i]?) → xs.length = fs.length →
    ∃ y : T.den, rep (heapOf w) T y ((cs.drop off).take T.size) ∧ wf T y ∧ (IsBulk β → bulk T y ≤ ((xs.map (·.1)).map β).sum) ∧ ∀ m, (∀ q ∈ DataW.weightsEach P (fs.map (·.type)) (xs.map (·.1)), q ≤ m) → wfm m T y
  | [], .unit, off, _, xs, _, _ => ⟨(), by simp [rep, Ty.size], trivial, fun _ => Nat.zero_le _, fun _ _ => trivial⟩
  | [], .bool, _, e, _, _, _ => by cases e
  | [], .int _, _, e, _, _, _ => by cases e
  | [], .str, _, e, _, _, _ => by cases e
  | [], .sl _, _, e, _, _, _ => by cases e
  | [], .pair _ _, _, e, _, _, _ => by cases e
  | _ :: _, .unit, _, e, _, _, _ => by cases e
  | _ :: _, .bool, _, e, _, _, _ => by cases e
  | _ :: _, .int _, _, e, _, _, _ => by cases e
  | _ :: _, .str, _, e, _, _, _ => by cases e
  | _ :: _, .sl _, _, e, _, _, _ => by cases e
  | f :: fs, .pair a b, off, e, xs, hx, hl => by
    match xs, hl with
    | [], hl => simp at hl
    | x :: xs, hl =>
    simp only [fieldsTy, Bool.and_eq_true] at e
    obtain ⟨⟨⟨⟨_, e1⟩, e2⟩, e3⟩, e4⟩ := e
    have e1 := Nat.eq_of_beq_eq_true e1
    have hsz : P.cellsOf f.type = a.size := by
      unfold Program.cellsOf
      cases hi : P.info? f.type with
      | none => rw [hi] at e2; simp at e2
      | some i =>
        cases hu : P.underlying f.type with
        | none => rw [hi, hu] at e2; simp at e2
        | some dd =>
          rw [hi, hu] at e2
          simp only [Bool.and_eq_true] at e2
          simpa using Nat.eq_of_beq_eq_true e2.1
    have h0 := hx 0 f rfl
    simp only [List.getElem?_cons_zero] at h0
    obtain ⟨y1, p1, p2, p3, p4⟩ := IH f.type a n _ x e3 h0
    obtain ⟨y2, q1, q2, q3, q4⟩ := open_fields IH fs b (off + a.size) e4 xs (fun i g hg => hx (i + 1) g (by simpa using hg)) (by simpa using hl)
    refine ⟨(y1, y2), ⟨_, _, ?_, p1, q1⟩, ⟨p2, q2⟩, fun hb => ?_, fun m hm => ⟨p4 m fun q hq => hm q ?_, q4 m fun q hq => hm q ?_⟩⟩
    rotate_right 2
    · simp only [List.map_cons, DataW.weightsEach, List.mem_append]; exact .inl hq
    · simp only [List.map_cons, DataW.weightsEach, List.mem_append]; exact .inr hq
    · rw [e1, hsz]
      simp only [Ty.size]
      rw [List.take_add, List.drop_drop]
    · have := p3 hb
      have := q3 hb
      simp only [bulk, List.map_cons, List.sum_cons]
      omega
theorem open_arr {d n : Nat} {cs : List Value} {e : TypeId} (IH : ∀ t T fuel cs x, isTy P d t T = true → DataW.trod enc P w 0 (fun _ => true) true fuel t cs = some x → Opens P w β t T cs x.1) :
    (m : Nat) → (T : Ty) → (off : Nat) → arrTy P (isTy P d) e m T = true → (xs : List (DataW H × List MemPlace)) →
    (∀ (i : Nat), i < m → DataW.trod enc P w 0 (fun _ => true) true n e ((cs.drop (off + i * P.cellsOf e)).take (P.cellsOf e)) = xs[i]?) → xs.length = m →
    ∃ y : T.den, rep (heapOf w) T y ((cs.drop off).take T.size) ∧ wf T y ∧ (IsBulk β → bulk T y ≤ ((xs.map (·.1)).map β).sum) ∧ ∀ q0, (∀ q ∈ DataW.weightsAll P e (xs.map (·.1)), q ≤ q0) → wfm q0 T y
  | 0, .unit, off, _, xs, _, _ => ⟨(), by simp [rep, Ty.size], trivial, fun _ => Nat.zero_le _, fun _ _ => trivial⟩
  | 0, .bool, _, e, _, _, _ => by cases e
  | 0, .int _, _, e, _, _, _ => by cases e
  | 0, .str, _, e, _, _, _ => by cases e
  | 0, .sl _, _, e, _, _, _ => by cases e
  | 0, .pair _ _, _, e, _, _, _ => by cases e
  | _ + 1, .unit, _, e, _, _, _ => by cases e
  | _ + 1, .bool, _, e, _, _, _ => by cases e
  | _ + 1, .int _, _, e, _, _, _ => by cases e
  | _ + 1, .str, _, e, _, _, _ => by cases e
  | _ + 1, .sl _, _, e, _, _, _ => by cases e
  | m + 1, .pair a b, off, he, xs, hx, hl => by
    match xs, hl with
    | [], hl => simp at hl
    | x :: xs, hl =>
    simp only [arrTy, Bool.and_eq_true] at he
    obtain ⟨⟨e2, e3⟩, e4⟩ := he
    have hsz : P.cellsOf e = a.size := by
      unfold Program.cellsOf
      cases hi : P.info? e with
      | none => rw [hi] at e2; simp at e2
      | some i =>
        cases hu : P.underlying e with
        | none => rw [hi, hu] at e2; simp at e2
        | some dd =>
          rw [hi, hu] at e2
          simp only [Bool.and_eq_true] at e2
          simpa using Nat.eq_of_beq_eq_true e2.1
    have h0 := hx 0 (by omega)
    simp only [List.getElem?_cons_zero, Nat.zero_mul, Nat.add_zero] at h0
    obtain ⟨y1, p1, p2, p3, p4⟩ := IH e a n _ x e3 h0
    obtain ⟨y2, q1, q2, q3, q4⟩ := open_arr IH m b (off + a.size) e4 xs (fun i hi => by
      have := hx (i + 1) (by omega)
      simp only [List.getElem?_cons_succ] at this
      rw [← this, ← hsz, Nat.succ_mul]
      congr 3
      omega) (by simpa using hl)
    refine ⟨(y1, y2), ⟨_, _, ?_, p1, q1⟩, ⟨p2, q2⟩, fun hb => ?_, fun m hm => ⟨p4 m fun q hq => hm q ?_, q4 m fun q hq => hm q ?_⟩⟩
    rotate_right 2
    · simp only [List.map_cons, DataW.weightsAll, List.mem_append]; exact .inl hq
    · simp only [List.map_cons, DataW.weightsAll, List.mem_append]; exact .inr hq
    · rw [hsz]
      simp only [Ty.size]
      rw [List.take_add, List.drop_drop]
    · have := p3 hb
      have := q3 hb
      simp only [bulk, List.map_cons, List.sum_cons]
      omega
theorem open_trod : (d : Nat) → ∀ t T fuel cs x, isTy P d t T = true → DataW.trod enc P w 0 (fun _ => true) true fuel t cs = some x → Opens P w β t T cs x.1
  | 0, t, T, fuel, cs, x, e, _ => by cases e
  | d + 1, t, T, fuel, cs, x, e, h => by
    have IH := fun t T fuel cs x => open_trod d t T fuel cs x
    simp only [isTy] at e
    split at e
    · rename_i hu
      split at e
      · obtain ⟨b, rfl, rfl⟩ := DataW.trod_bool hu h
        exact ⟨b, rfl, trivial, fun hb => hb.one _, fun _ _ => trivial⟩
      · cases e
    · rename_i k hu
      split at e
      · have := sameKind_eq e
        subst this
        obtain ⟨n, rfl, rfl, hw⟩ := DataW.trod_int hu h
        exact ⟨n, rfl, hw, fun hb => hb.one _, fun _ _ => trivial⟩
      · cases e
    · rename_i hu
      split at e
      · obtain ⟨s, rfl, rfl, hw⟩ := DataW.trod_string hu h
        refine ⟨s, rfl, hw, fun hb => ?_, fun m hm => (by have h1 := hm s.data.toList.length (by rw [DataW.weights]; exact List.mem_singleton.2 rfl); rw [Array.length_toList] at h1; exact h1)⟩
        have := hb.str s.data.toList
        simp only [bulk]
        have e2 : s.data.toList.length = s.size := Array.length_toList
        rw [e2] at this
        exact this
      · cases e
    · rename_i el hu
      split at e
      · rename_i T'
        simp only [Bool.and_eq_true] at e
        obtain ⟨⟨e1, e2⟩, e0⟩ := e
        have e1 := Nat.eq_of_beq_eq_true e1
        have e0 := Nat.le_of_ble_eq_true e0
        rcases DataW.trod_slice hu h with ⟨rfl, rfl⟩ | ⟨a, len, cap, elems, rest, n, _, rfl, rfl, _, hlc, hcm, hel, hget, _⟩
        · exact ⟨[], ⟨none, 0, rfl, Nat.le_refl _, fun _ => rfl, fun i x ad hx => by simp at hx⟩, ⟨Nat.zero_le _, fun x hx => (by cases hx)⟩, fun hb => hb.one _, fun m _ => ⟨Nat.zero_le _, fun x hx => (by cases hx)⟩⟩
        · have hq : ∀ i, i < len → ∃ y : T'.den, (∃ ds, rep (heapOf w) T' y ds ∧ CellsAt (heapOf w) (a.add (i * T'.size)) ds) ∧ wf T' y ∧ (IsBulk β → ∀ z, elems[i]? = some z → bulk T' y ≤ β z.1) ∧ ∀ m z, elems[i]? = some z → (∀ q ∈ z.1.weights P el, q ≤ m) → wfm m T' y := by
            intro i hi
            have hg := hget i hi
            have hs : elems[i]? = some elems[i] := List.getElem?_eq_getElem (by omega)
            rw [hs] at hg
            cases hc : w.cells? 0 (a.add (i * P.cellsOf el)) (P.cellsOf el) with
            | none => rw [hc] at hg; cases hg
            | some cs' =>
              rw [hc] at hg
              obtain ⟨y, r1, r2, r3, r4⟩ := IH el T' n cs' _ e2 hg
              refine ⟨y, ⟨cs', r1, ?_⟩, r2, fun hb z hz => ?_, fun m z hz hm => ?_⟩
              · rw [← e1]; exact cellsAt_of_cells? hc
              · rw [hs] at hz
                cases hz
                exact r3 hb
              · rw [hs] at hz
                cases hz
                exact r4 m hm
          obtain ⟨xs, hl, hx⟩ := list_of_each len hq
          refine ⟨xs, ⟨some a, cap, by rw [hl], by omega, fun h => (by cases h), fun i x ad hxi had => ?_⟩, ⟨by omega, fun x hx' => ?_⟩, fun hb => ?_, fun m hm => ⟨?_, fun x hx' => ?_⟩⟩
          · cases had
            exact (hx i x hxi).1
          · obtain ⟨i, hi⟩ := List.getElem?_of_mem hx'
            exact (hx i x hi).2.1
          · simp only [bulk]
            have h1 : (xs.map (bulk T')).sum ≤ ((elems.map (·.1)).map β).sum := by
              refine sum_le_of_each xs (elems.map (·.1)) (fun i x y hxi hyi => ?_) (by simp; omega)
              rw [List.getElem?_map] at hyi
              cases hz : elems[i]? with
              | none => rw [hz] at hyi; cases hyi
              | some z =>
                rw [hz] at hyi
                cases hyi
                exact (hx i x hxi).2.2.1 hb z hz
            have h2 := hb.slice (elems.map (·.1)) (rest.map (·.1))
            exact Nat.le_trans (Nat.add_le_add_right h1 1) h2
          · have h1 := hm _ (by rw [DataW.weights, hu]; exact List.mem_cons_self ..)
            rw [List.length_map, List.length_map] at h1
            have h2 : (elems.length + rest.length) * 1 ≤ (elems.length + rest.length) * P.bytesOf el := Nat.mul_le_mul_left _ e0
            omega
          · obtain ⟨i, hi⟩ := List.getElem?_of_mem hx'
            have hil : i < xs.length := (List.getElem?_eq_some_iff.1 hi).1
            have hs : elems[i]? = some elems[i] := List.getElem?_eq_getElem (by omega)
            refine (hx i x hi).2.2.2 m _ hs fun q hq => hm q ?_
            rw [DataW.weights, hu]
            refine List.mem_cons_of_mem _ (List.mem_append_left _ ?_)
            have key : ∀ (l : List (DataW H)) (i : Nat) d, l[i]? = some d → q ∈ d.weights P el → q ∈ DataW.weightsAll P el l := by
              intro l
              induction l with
              | nil => intro i d hd; simp at hd
              | cons d0 l ih =>
                intro i d hd hq
                rw [DataW.weightsAll, List.mem_append]
                cases i with
                | zero => simp at hd; subst hd; exact .inl hq
                | succ i => exact .inr (ih i d (by simpa using hd) hq)
            exact key _ i _ (by rw [List.getElem?_map, hs]; rfl) hq
      · cases e
    · rename_i fs hu
      simp only [Bool.and_eq_true] at e
      obtain ⟨⟨e0, e1⟩, e2⟩ := e
      have e1 := Nat.eq_of_beq_eq_true e1
      obtain ⟨xs, n, _, rfl, hlen, hxl, hget⟩ := DataW.trod_struct hu h
      obtain ⟨y, r1, r2, r3, r4⟩ := open_fields (n := n) (cs := cs) IH fs.toList T 0 e2 xs (fun i f hf => hget i f (by simpa using hf)) (by simpa using hxl)
      refine ⟨y, ?_, r2, fun hb => Nat.le_trans (r3 hb) (hb.agg _), fun m hm => r4 m (by rw [DataW.weights, hu] at hm; exact hm)⟩
      rw [List.drop_zero, List.take_of_length_le (by omega)] at r1
      exact r1
    · rename_i m el hu
      simp only [Bool.and_eq_true] at e
      obtain ⟨⟨e0, e1⟩, e2⟩ := e
      have e1 := Nat.eq_of_beq_eq_true e1
      obtain ⟨xs, n, _, rfl, hlen, hxl, hget⟩ := DataW.trod_array hu h
      obtain ⟨y, r1, r2, r3, r4⟩ := open_arr (n := n) (cs := cs) IH m T 0 e2 xs (fun i hi => by rw [Nat.zero_add]; exact hget i hi) hxl
      refine ⟨y, ?_, r2, fun hb => Nat.le_trans (r3 hb) (hb.agg _), fun m hm => r4 m (by rw [DataW.weights, hu] at hm; exact hm)⟩
      rw [List.drop_zero, List.take_of_length_le (by omega)] at r1
      exact r1
    · cases e
theorem val_of_ok {r : Reach} {b0 : Nat} {t : TypeId} {T : Ty} {v : Value} {d : Nat} (e : isTy P d t T = true) (hv : Value.okWide P w r b0 t v) : v = T.val v.cells.toList := by
  cases d with
  | zero => cases e
  | succ d =>
    simp only [isTy] at e
    split at e
    · rename_i hu
      obtain ⟨b, rfl⟩ := okWide_bool hu hv
      split at e
      · rfl
      · cases e
    · rename_i k hu
      obtain ⟨b, rfl⟩ := okWide_int hu hv
      split at e
      · rfl
      · cases e
    · rename_i hu
      obtain ⟨b, rfl⟩ := okWide_string hu hv
      split at e
      · rfl
      · cases e
    · rename_i el hu
      obtain ⟨a, b, c, rfl⟩ := okWide_slice hu hv
      split at e
      · rfl
      · cases e
    · rename_i fs hu
      simp only [Bool.and_eq_true] at e
      obtain ⟨cs, rfl, _⟩ := okWide_struct hu hv
      rw [agg_of_agg e.1.1]
      simp [Value.cells]
    · rename_i m el hu
      simp only [Bool.and_eq_true] at e
      simp only [Value.okWide, hu] at hv
      obtain ⟨cs, rfl, _⟩ := hv
      rw [agg_of_agg e.1.1]
      simp [Value.cells]
    · cases e
theorem open_all {r : Reach} {b0 : Nat} : (ts : List TypeId) → (A : Ty) → isTys P ts A = true → (vs : List Value) → (ds : List (DataW H)) → (ps : List MemPlace) →
    DataW.TrodAll enc P w 0 (fun _ => true) true ts vs ds ps → (∀ (j : Nat) t v, ts[j]? = some t → vs[j]? = some v → Value.okWide P w r b0 t v) →
    ∃ y : A.den, trep (heapOf w) A y vs ∧ wf A y ∧ (IsBulk β → bulk A y ≤ (ds.map β).sum) ∧ ∀ m, (∀ q ∈ DataW.weightsEach P ts ds, q ≤ m) → wfm m A y
  | [], .unit, _, vs, ds, ps, h, _ => by
    obtain ⟨rfl, rfl, rfl⟩ := trodAll_nil h
    exact ⟨(), rfl, trivial, fun _ => Nat.zero_le _, fun _ _ => trivial⟩
  | [], .bool, e, _, _, _, _, _ => by cases e
  | [], .int _, e, _, _, _, _, _ => by cases e
  | [], .str, e, _, _, _, _, _ => by cases e
  | [], .sl _, e, _, _, _, _, _ => by cases e
  | [], .opt _, e, _, _, _, _, _ => by cases e
  | [], .mp _ _, e, _, _, _, _, _ => by cases e
  | [], .nd _ _ _ _, e, _, _, _, _, _ => by cases e
  | [], .pair _ _, e, _, _, _, _, _ => by cases e
  | _ :: _, .unit, e, _, _, _, _, _ => by cases e
  | _ :: _, .bool, e, _, _, _, _, _ => by cases e
  | _ :: _, .int _, e, _, _, _, _, _ => by cases e
  | _ :: _, .str, e, _, _, _, _, _ => by cases e
  | _ :: _, .sl _, e, _, _, _, _, _ => by cases e
  | _ :: _, .opt _, e, _, _, _, _, _ => by cases e
  | _ :: _, .mp _ _, e, _, _, _, _, _ => by cases e
  | _ :: _, .nd _ _ _ _, e, _, _, _, _, _ => by cases e
  | t :: ts, .pair a b, e, vs, ds, ps, h, hv => by
    simp only [isTys, Bool.and_eq_true] at e
    obtain ⟨v0, vs0, d0, ds0, p0, q0, rfl, rfl, rfl, h0, r0⟩ := trodAll_cons h
    obtain ⟨fuel, h0⟩ := h0
    obtain ⟨y1, s1, s2, s3, s4⟩ := open_trod (β := β) 40 t a fuel _ _ e.1 h0
    obtain ⟨y2, u1, u2, u3, u4⟩ := open_all ts b e.2 vs0 ds0 q0 r0 (fun j t v ht hv' => hv (j + 1) t v (by simpa using ht) (by simpa using hv'))
    refine ⟨(y1, y2), ⟨v0, vs0, rfl, ⟨_, s1, val_of_ok e.1 (hv 0 t v0 rfl rfl)⟩, u1⟩, ⟨s2, u2⟩, fun hb => ?_, fun m hm => ⟨s4 m fun q hq => hm q (by rw [DataW.weightsEach, List.mem_append]; exact .inl hq), u4 m fun q hq => hm q (by rw [DataW.weightsEach, List.mem_append]; exact .inr hq)⟩⟩
    have : bulk a y1 ≤ β d0 := s3 hb
    have := u3 hb
    simp only [bulk, List.map_cons, List.sum_cons]
    omega
theorem trodAll_below (hl : laidOutB P = true) {W W' : World} (hb : Below W.heap.size W W') : (ts : List TypeId) → (ts.all fun t => P.readableRec t && decide (t < P.types.size)) = true → (vs : List Value) → (ds : List (DataW H)) → (ps : List MemPlace) →
    DataW.TrodAll enc P W 0 (fun _ => true) true ts vs ds ps → DataW.TrodAll enc P W' 0 (fun b => decide (b < W.heap.size)) true ts vs ds ps
  | [], _, vs, ds, ps, h => by
    obtain ⟨rfl, rfl, rfl⟩ := trodAll_nil h
    exact trodAll_mk0
  | t :: ts, e, vs, ds, ps, h => by
    simp only [List.all_cons, Bool.and_eq_true, decide_eq_true_eq] at e
    obtain ⟨v0, vs0, d0, ds0, p0, q0, rfl, rfl, rfl, h0, r0⟩ := trodAll_cons h
    have lt0 : ∀ x ∈ p0, x.block < W.heap.size := by obtain ⟨m, hm⟩ := h0; exact DataW.trod_lt m _ _ _ hm
    exact trodAll_cons_mk (RowKit.Below.trod hl e.1.1 e.1.2 h0 hb.kit lt0) (trodAll_below hl hb ts e.2 vs0 ds0 q0 r0)
end
def noGl : Nat → Option ((t : Ty) × t.den) := fun _ => none
def lawC (A : Ty) (pre : A.den → Prop) : Contract := { arg := A, res := .bool, one := true, pre := pre, fn := fun _ => true }
def lawOk (P : Program) (fn : Func) (A : Ty) (tb : TypeId) : Bool :=
  isTys P fn.params.toList A && (fn.params.toList.all fun t => P.readableRec t && decide (t < P.types.size)) && (match P.underlying tb with | some .bool => true | _ => false)
theorem law_post {H : Type} {enc : TypeId × Value → H} {P : Program} {fn : Func} {A : Ty} {tb : TypeId} {s : ChangeSpec} {f : FuncId} {pre : A.den → Prop} {W : World} {base : Nat} {args : Array Value} {ds gs : List (DataW H)} {before : List MemPlace} {apart : Bool}
    {β : DataW H → Nat} {gl : Nat → Option ((t : Ty) × t.den)} (hG : GlobOk gl (heapOf W))
    (hok : lawOk P fn A tb = true) (hl : laidOutB P = true) (hr : fn.resultTypes = #[tb]) (hs : s.vars = []) (hf : ∀ ds : List (DataW H), ds.length = fn.params.toList.length → s.fn H ds = { results := [.lit (.bool true)], args := ds })
    (hK : CallSpec P gl f (lawC A pre))
    (hval : ∀ (j : Nat) t v, fn.params[j]? = some t → args[j]? = some v → Value.okWide P W .any base t v)
    (hW : DataW.Whole enc P fn.params.toList s.vars apart W args.toList ds gs before)
    (hpre : ∀ y : A.den, wf A y → (IsBulk β → bulk A y ≤ (ds.map β).sum) → (∀ m, (∀ q ∈ DataW.weightsEach P fn.params.toList ds, q ≤ m) → wfm m A y) → pre y) :
    Calls P f args W fun e W' => ∃ v, e = .returned v ∧ s.post enc P fn apart true false false W args v W' := by
  have hW' := hW
  unfold lawOk at hok
  simp only [Bool.and_eq_true] at hok
  obtain ⟨⟨o1, o2⟩, o3⟩ := hok
  have hb : P.underlying tb = some .bool := by
    split at o3
    · assumption
    · cases o3
  obtain ⟨p, q, hA, hV, rfl, hfz, hnd⟩ := hW
  rw [hs] at hV
  obtain ⟨rfl, rfl⟩ := trodVars_none hV
  obtain ⟨y, y1, y2, y3, y4⟩ := open_all (β := β) (r := .any) (b0 := base) fn.params.toList A o1 args.toList ds p hA (fun j t v ht hv => hval j t v (by simpa using ht) (by simpa using hv))
  have hlen := Go.trodAll_length hA
  have hc := hK.2 y (heapOf W) W args.toList (hpre y y2 y3 y4) y1 (fun k o h => h) hG
  have htl : args.toList ++ tailVals (lawC A pre).tail = args.toList := by simp [tailVals, lawC]
  rw [htl, Array.toArray_toList] at hc
  refine hc.mono fun e W' hq => ?_
  obtain ⟨v, h', rfl, _, _, _, hv, bel⟩ := hq
  obtain ⟨cs, hcs, rfl⟩ := hv
  simp only [lawC, rep] at hcs
  subst hcs
  refine ⟨_, rfl, ds, [], p ++ [], [], p, [], hW', ?_, ?_, ?_, bel.kit.frame _, fun h => by cases h⟩
  · rw [List.append_nil, hf ds hlen.2, hr]
    exact trodAll_mk1 (shut_bool hb _)
  · rw [List.append_nil, hf ds hlen.2]
    exact trodAll_below hl bel _ o2 _ _ _ hA
  · rw [List.append_nil, hf ds hlen.2, hs]
    rfl
end Go.Fr
namespace Go.Fr
open Go Go.RowKit Go.ChangeShapes Go.WideShapes Go.ChangeAt
def ctGet : List (FuncId × Contract) → FuncId → Option Contract
  | [], _ => none
  | (k, i) :: r, t => bif Nat.beq k t then some i else ctGet r t
def CtOk (P : Program) (G : Nat → Option ((t : Ty) × t.den)) (l : List (FuncId × Contract)) : Prop := ∀ f C, ctGet l f = some C → CallSpec P G f C
theorem ct_nil {P : Program} {G : Nat → Option ((t : Ty) × t.den)} : CtOk P G [] := fun f C h => by cases h
theorem ct_cons {P : Program} {G : Nat → Option ((t : Ty) × t.den)} {f : FuncId} {C : Contract} {l : List (FuncId × Contract)} (h : CallSpec P G f C) (r : CtOk P G l) : CtOk P G ((f, C) :: l) := by
  intro g D hg
  simp only [ctGet] at hg
  cases hb : Nat.beq f g with
  | true =>
    rw [hb] at hg
    have := Nat.eq_of_beq_eq_true hb
    subst this
    cases hg
    exact h
  | false =>
    rw [hb] at hg
    exact r g D hg
def bodyOf (f : Func) : Code := match f.body with | some c => c | none => .skip
def inlOf (f : Func) : Inl := ⟨bodyOf f, f.ntmps, f.results.toList⟩
def inlGet : List (FuncId × Func) → FuncId → Option Inl
  | [], _ => none
  | (k, i) :: r, t => bif Nat.beq k t then some (inlOf i) else inlGet r t
def IlOk (P : Program) (l : List (FuncId × Func)) : Prop := ∀ f F, inlGet l f = some F → InlOk P f F
theorem il_nil {P : Program} : IlOk P [] := fun f F h => by cases h
def inlB (fn : Func) : Bool := fn.body.isSome && fn.name != "runtime.NumGoroutine" && codeBd fn.ntmps (bodyOf fn)
theorem il_cons {P : Program} {f : FuncId} {fn : Func} {l : List (FuncId × Func)} (hf : P.funcs[f]? = some fn) (hk : inlB fn = true) (r : IlOk P l) : IlOk P ((f, fn) :: l) := by
  intro g F hg
  simp only [inlGet] at hg
  cases hb : Nat.beq f g with
  | true =>
    rw [hb] at hg
    have := Nat.eq_of_beq_eq_true hb
    subst this
    cases hg
    unfold inlB at hk
    simp only [Bool.and_eq_true] at hk
    refine ⟨⟨fn, hf, by simpa using hk.1.2, ?_, rfl, rfl⟩, hk.2⟩
    unfold inlOf bodyOf
    cases hbd : fn.body with
    | none => rw [hbd] at hk; simp at hk
    | some c => rfl
  | false =>
    rw [hb] at hg
    exact r g F hg
def hintGet : List (Nat × Nat × Hint) → Nat → Nat → Option Hint
  | [], _, _ => none
  | (b, r, h) :: l, b', r' => bif Nat.beq b b' && Nat.beq r r' then some h else hintGet l b' r'
def ifcOf : List (TypeId × TI) → TypeId → Option Ty
  | [], _ => none
  | (_, i) :: r, t => match i.ty with
    | some (.nd tl ti l j) => bif Nat.beq tl t || Nat.beq ti t then some (.nd tl ti l j) else ifcOf r t
    | _ => ifcOf r t
def env (tab : List (TypeId × TI)) (l : List (FuncId × Contract)) (il : List (FuncId × Func)) (gl : Nat → Option ((t : Ty) × t.den)) (hs : List (Nat × Nat × Hint)) (nm : List Nat) : Env := ⟨tabGet tab, ctGet l, inlGet il, gl, hintGet hs, anyNat nm, fun _ => none, ifcOf tab⟩
def rctGet : List (FuncId × RContract) → FuncId → Option RContract
  | [], _ => none
  | (k, i) :: r, t => bif Nat.beq k t then some i else rctGet r t
def RctOk (P : Program) (l : List (FuncId × RContract)) : Prop := ∀ f C, rctGet l f = some C → RSpec P f C
theorem rct_nil {P : Program} : RctOk P [] := fun f C h => by cases h
theorem rct_cons {P : Program} {f : FuncId} {C : RContract} {l : List (FuncId × RContract)} (h : RSpec P f C) (r : RctOk P l) : RctOk P ((f, C) :: l) := by
  intro g D hg
  simp only [rctGet] at hg
  cases hb : Nat.beq f g with
  | true =>
    rw [hb] at hg
    have := Nat.eq_of_beq_eq_true hb
    subst this
    cases hg
    exact h
  | false =>
    rw [hb] at hg
    exact r g D hg
def envR (tab : List (TypeId × TI)) (l : List (FuncId × Contract)) (il : List (FuncId × Func)) (gl : Nat → Option ((t : Ty) × t.den)) (hs : List (Nat × Nat × Hint)) (nm : List Nat) (rl : List (FuncId × RContract)) : Env := ⟨tabGet tab, ctGet l, inlGet il, gl, hintGet hs, anyNat nm, rctGet rl, ifcOf tab⟩
def fnOk (fn : Func) (C : Contract) : Bool :=
  (match fn.body with | some c => codeBd fn.ntmps c | none => false) && fn.name != "runtime.NumGoroutine" && Nat.ble (C.arg.chain + C.tail.length) fn.ntmps && (C.one == Nat.beq fn.results.size 1) && (match C.own with | none => true | some _ => false)
theorem fn_spec {P : Program} {tab : List (TypeId × TI)} {l : List (FuncId × Contract)} {il : List (FuncId × Func)} {gl : Nat → Option ((t : Ty) × t.den)} {hs : List (Nat × Nat × Hint)} {nm : List Nat} {f : FuncId} {fn : Func} {C : Contract} (ht : tabOk P tab = true) (hm : P.follows .mixedOrders = true) (hc : CtOk P gl l) (hi : IlOk P il)
    (hf : P.funcs[f]? = some fn) (hk : fnOk fn C = true) (hv : fnVC (env tab l il gl hs nm) fn (bodyOf fn) C) : CallSpec P gl f C := by
  unfold fnOk at hk
  simp only [Bool.and_eq_true] at hk
  obtain ⟨⟨⟨⟨k1, k2⟩, k3⟩, k4⟩, k5⟩ := hk
  have k5 : C.own = none := by
    cases ho : C.own with
    | none => rfl
    | some _ => rw [ho] at k5; cases k5
  cases hb : fn.body with
  | none => rw [hb] at k1; cases k1
  | some c =>
    rw [hb] at k1
    have hbc : bodyOf fn = c := by unfold bodyOf; rw [hb]
    rw [hbc] at hv
    refine fn_sound (E := env tab l il gl hs nm) ⟨fun t ti h => tabOk_get tab ht t ti h, hc, hi, fun f C h => by cases h⟩ hm hf (by simpa using k2) hb k1 (Nat.le_of_ble_eq_true k3) ?_ k5 hv
    have k4 : C.one = Nat.beq fn.results.size 1 := by simpa using k4
    rw [k4]
    apply propext
    exact ⟨fun h => by rw [h]; rfl, Nat.eq_of_beq_eq_true⟩
theorem fn_specR {P : Program} {tab : List (TypeId × TI)} {l : List (FuncId × Contract)} {il : List (FuncId × Func)} {gl : Nat → Option ((t : Ty) × t.den)} {hs : List (Nat × Nat × Hint)} {nm : List Nat} {rl : List (FuncId × RContract)} {f : FuncId} {fn : Func} {C : Contract} (ht : tabOk P tab = true) (hm : P.follows .mixedOrders = true) (hc : CtOk P gl l) (hi : IlOk P il) (hr : RctOk P rl)
    (hf : P.funcs[f]? = some fn) (hk : fnOk fn C = true) (hv : fnVC (envR tab l il gl hs nm rl) fn (bodyOf fn) C) : CallSpec P gl f C := by
  unfold fnOk at hk
  simp only [Bool.and_eq_true] at hk
  obtain ⟨⟨⟨⟨k1, k2⟩, k3⟩, k4⟩, k5⟩ := hk
  have k5 : C.own = none := by
    cases ho : C.own with
    | none => rfl
    | some _ => rw [ho] at k5; cases k5
  cases hb : fn.body with
  | none => rw [hb] at k1; cases k1
  | some c =>
    rw [hb] at k1
    have hbc : bodyOf fn = c := by unfold bodyOf; rw [hb]
    rw [hbc] at hv
    refine fn_sound (E := envR tab l il gl hs nm rl) ⟨fun t ti h => tabOk_get tab ht t ti h, hc, hi, hr⟩ hm hf (by simpa using k2) hb k1 (Nat.le_of_ble_eq_true k3) ?_ k5 hv
    have k4 : C.one = Nat.beq fn.results.size 1 := by simpa using k4
    rw [k4]
    apply propext
    exact ⟨fun h => by rw [h]; rfl, Nat.eq_of_beq_eq_true⟩
@[reducible] def Contract.cut (C : Contract) (μ : C.arg.den → Nat) (n : Nat) : Contract := { arg := C.arg, res := C.res, one := C.one, pre := fun x => C.pre x ∧ μ x < n, fn := C.fn, tail := C.tail, own := C.own }
theorem cut_all {P : Program} {G : Nat → Option ((t : Ty) × t.den)} {f : FuncId} {C : Contract} {μ : C.arg.den → Nat} (h : ∀ n, CallSpec P G f (C.cut μ n)) : CallSpec P G f C :=
  ⟨(h 0).1, fun x h' w args hp => (h (μ x + 1)).2 x h' w args ⟨hp, Nat.lt_succ_self _⟩⟩
theorem cut_zero {P : Program} {G : Nat → Option ((t : Ty) × t.den)} {f : FuncId} {C : Contract} {μ : C.arg.den → Nat} {fn : Func} (hf : P.funcs[f]? = some fn) (hk : fnOk fn C = true) : CallSpec P G f (C.cut μ 0) := by
  unfold fnOk at hk
  simp only [Bool.and_eq_true] at hk
  obtain ⟨⟨⟨⟨k1, k2⟩, k3⟩, k4⟩, k5⟩ := hk
  cases hb : fn.body with
  | none => rw [hb] at k1; cases k1
  | some c => exact ⟨⟨fn, c, hf, by simpa using k2, hb⟩, fun x h' w args hp => absurd hp.2 (Nat.not_lt_zero _)⟩
theorem law_lifted_laid {C : Checked} {os : Os} {H : Type} {enc : TypeId × Value → H} {f : FuncId} {fn : Func} {A : Ty} {tb : TypeId} {s : ChangeSpec} {pre : A.den → Prop} {conds : List PathCond} {gl : Nat → Option ((t : Ty) × t.den)} {X : World → Prop}
    (hX : ∀ (w w' : World), w.heap = w'.heap → X w → X w') (own : ownKnob C.prog.godebug = none) (started : os.Started) (noInit : C.prog.inits.idxOf? f = none) (hfn : C.prog.funcs[f]? = some fn)
    (witness : ∃ (w : World) (tape : Tape) (i : Input), w.os = os ∧ (w.forCall tape i).Shaped C.prog ∧ i.vars = [] ∧ Input.okWide C.prog (w.forCall tape i) .any w.heap.size f i ∧
      ((s.pre enc C.prog fn conds false (w.forCall tape i).memory i.args ∧ X (w.forCall tape i).memory) ∧ sizedMet enc C.prog fn (OpenSpec.ofChange s) false (w.forCall tape i).memory i.args) ∧ (({} : Assume)).holds C.prog (lone (Frame.enter C.prog f i.args .normal) [] (w.forCall tape i)))
    (hok : lawOk C.prog fn A tb = true) (hl : laidOutB C.prog = true) (hr : fn.resultTypes = #[tb]) (hs : s.vars = []) (hf : ∀ ds : List (DataW H), ds.length = fn.params.toList.length → s.fn H ds = { results := [.lit (.bool true)], args := ds })
    (hG : ∀ W : World, X W → GlobOk gl (heapOf W)) (hK : CallSpec C.prog gl f (lawC A pre)) (hpre : ∀ y : A.den, wf A y → pre y) :
    ReturnsInHanded {} C os f .any (fun w args => (s.pre enc C.prog fn conds false w args ∧ X w) ∧ sizedMet enc C.prog fn (OpenSpec.ofChange s) false w args) (s.post enc C.prog fn false true false false) := by
  refine returnsInHanded_of_change_and (C := C) (X := fun w _ => X w) (fun w w' _ hh h => hX w w' hh h) own started noInit hfn witness ?_
  intro W base args ds gs before hval hW _ _ hXW _
  exact law_post (β := fun _ => 0) (gl := gl) (hG W hXW) hok hl hr hs hf hK hval hW (fun y hy _ _ => hpre y hy)
theorem wrap_id {n : Int} (h0 : -9223372036854775808 ≤ n) (h1 : n ≤ 9223372036854775807) : IntKind.i64.wrap n = n := by
  have e : IntKind.i64.wrap n = if n % 18446744073709551616 ≥ 9223372036854775808 then n % 18446744073709551616 - 18446744073709551616 else n % 18446744073709551616 := by
    unfold IntKind.wrap
    have hb : IntKind.i64.bits = 64 := rfl
    have hs : IntKind.i64.signed = true := rfl
    rw [hb, hs]
    simp
  rw [e]
  split <;> omega
theorem wrap_succ {i : Nat} (h : i + 1 ≤ 9223372036854775807) : IntKind.i64.wrap ((i : Int) + 1) = ((i + 1 : Nat) : Int) := by
  rw [wrap_id (by omega) (by omega)]
  omega
theorem getD_of {α : Type} {l : List α} {i : Nat} (d : α) (h : i < l.length) : l.getD i d = l[i] := by simp [List.getD, h]
theorem foldl_take_succ {α β : Type} {f : β → α → β} {b : β} {l : List α} {i : Nat} (h : i < l.length) : (l.take (i + 1)).foldl f b = f ((l.take i).foldl f b) l[i] := by
  rw [List.take_succ_eq_append_getElem h, List.foldl_append]
  rfl
end Go.Fr
namespace Go.Fr
open Go Go.RowKit
universe u
section
variable {P : Program} {E : Env} {B : Nat} {w0 w : World} {h0 h : PHeap} {b : Nat} {u : Nat → Value} {n : Nat} {N : Names} {a : Act}
def Ty.flat : Ty → Bool
  | .sl _ => false
  | .opt _ => false
  | .mp _ _ => false
  | .nd _ _ _ _ => false
  | .pair a b => a.flat && b.flat
  | _ => true
end
def cOrd (T : Ty) (cf : T.den → T.den → Int) : Contract := { arg := .pair T (.pair T .unit), res := .int .i64, one := true, pre := fun _ => True, fn := fun x => cf x.1 x.2.1 }
def sortBy {α : Type} (cf : α → α → Int) (l : List α) : List α := l.mergeSort fun x y => !decide (cf y x < 0)
end Go.Fr
namespace Go.Fr
open Go
theorem drop_cons {α : Type} {l : List α} {k : Nat} (d : α) (h : k < l.length) : l.drop k = l.getD k d :: l.drop (k + 1) := by
  rw [List.drop_eq_getElem_cons h, getD_of d h]
theorem toNat_cast (k : Nat) : Int.toNat (k : Int) = k := rfl
theorem maxLen_eq : maxLen = 9223372036854775807 := rfl
end Go.Fr
namespace Go.Fr
open Go
def byt (s : ByteArray) (k : Nat) : Nat := (s.get! k).toNat
theorem byt_lt (s : ByteArray) (k : Nat) : byt s k < 256 := (s.get! k).toNat_lt
def uSize (r : Int) : Int := if r < 0 ∨ r > 1114111 ∨ (r ≥ 55296 ∧ r ≤ 57343) then 0 else if r < 128 then 1 else if r < 2048 then 2 else if r < 65536 then 3 else 4
def uBytes (r n : Int) : List Int :=
  if n = 1 then [r] else if n = 2 then [192 + r / 64, 128 + r % 64] else if n = 3 then [224 + r / 4096, 128 + r / 64 % 64, 128 + r % 64] else [240 + r / 262144, 128 + r / 4096 % 64, 128 + r / 64 % 64, 128 + r % 64]
theorem decode_eq (s : ByteArray) (i : Nat) : Utf8.decode s i =
    if byt s i < 128 then (byt s i, 1)
    else if byt s i / 32 = 6 ∧ i + 1 < s.size ∧ byt s (i + 1) / 64 = 2 then
      (if (byt s i % 32) * 64 + byt s (i + 1) % 64 ≥ 128 then ((byt s i % 32) * 64 + byt s (i + 1) % 64, 2) else (65533, 1))
    else if byt s i / 16 = 14 ∧ (i + 1 < s.size ∧ byt s (i + 1) / 64 = 2) ∧ (i + 2 < s.size ∧ byt s (i + 2) / 64 = 2) then
      (if (byt s i % 16) * 4096 + (byt s (i + 1) % 64) * 64 + byt s (i + 2) % 64 ≥ 2048 ∧ Utf8.valid (((byt s i % 16) * 4096 + (byt s (i + 1) % 64) * 64 + byt s (i + 2) % 64 : Nat) : Int) = true then
        ((byt s i % 16) * 4096 + (byt s (i + 1) % 64) * 64 + byt s (i + 2) % 64, 3) else (65533, 1))
    else if byt s i / 8 = 30 ∧ (i + 1 < s.size ∧ byt s (i + 1) / 64 = 2) ∧ (i + 2 < s.size ∧ byt s (i + 2) / 64 = 2) ∧ (i + 3 < s.size ∧ byt s (i + 3) / 64 = 2) then
      (if (byt s i % 8) * 262144 + (byt s (i + 1) % 64) * 4096 + (byt s (i + 2) % 64) * 64 + byt s (i + 3) % 64 ≥ 65536 ∧ Utf8.valid (((byt s i % 8) * 262144 + (byt s (i + 1) % 64) * 4096 + (byt s (i + 2) % 64) * 64 + byt s (i + 3) % 64 : Nat) : Int) = true then
        ((byt s i % 8) * 262144 + (byt s (i + 1) % 64) * 4096 + (byt s (i + 2) % 64) * 64 + byt s (i + 3) % 64, 4) else (65533, 1))
    else (65533, 1) := by
  unfold Utf8.decode byt
  simp only [Nat.add_zero, Bool.and_eq_true, decide_eq_true_eq, beq_iff_eq, and_assoc]
  rfl
theorem valid_iff (r : Int) : Utf8.valid r = true ↔ (0 ≤ r ∧ r < 55296) ∨ (57344 ≤ r ∧ r ≤ 1114111) := by
  simp [Utf8.valid]
theorem decode_width (s : ByteArray) (i : Nat) (h : i < s.size) : 1 ≤ (Utf8.decode s i).2 ∧ (Utf8.decode s i).2 ≤ 4 ∧ i + (Utf8.decode s i).2 ≤ s.size := by
  rw [decode_eq]
  repeat' split
  all_goals simp only
  all_goals omega
def decFrom (s : ByteArray) : Nat → Nat → List Int
  | 0, _ => []
  | f + 1, p => if p < s.size then ((Utf8.decode s p).1 : Int) :: decFrom s f (p + (Utf8.decode s p).2) else []
def decodeL (s : ByteArray) : List Int := decFrom s s.size 0
theorem decFrom_fuel (s : ByteArray) : ∀ (f g p : Nat), s.size ≤ p + f → s.size ≤ p + g → decFrom s f p = decFrom s g p
  | 0, 0, _, _, _ => rfl
  | 0, g + 1, p, h, _ => by simp only [decFrom]; rw [if_neg (by omega)]
  | f + 1, 0, p, _, h => by simp only [decFrom]; rw [if_neg (by omega)]
  | f + 1, g + 1, p, h1, h2 => by
    simp only [decFrom]
    by_cases h : p < s.size
    · rw [if_pos h, if_pos h]
      have := decode_width s p h
      rw [decFrom_fuel s f g _ (by omega) (by omega)]
    · rw [if_neg h, if_neg h]
def decAt (s : ByteArray) (p : Nat) : List Int := decFrom s s.size p
theorem decAt_step {s : ByteArray} {p : Nat} (h : p < s.size) : decAt s p = ((Utf8.decode s p).1 : Int) :: decAt s (p + (Utf8.decode s p).2) := by
  unfold decAt
  have hw := decode_width s p h
  obtain ⟨n, hn⟩ : ∃ n, s.size = n + 1 := ⟨s.size - 1, by omega⟩
  have e : decFrom s s.size p = decFrom s (n + 1) p := by rw [hn]
  rw [e]
  simp only [decFrom]
  rw [if_pos h, decFrom_fuel s n s.size _ (by omega) (by omega)]
theorem decAt_end {s : ByteArray} {p : Nat} (h : s.size ≤ p) : decAt s p = [] := by
  unfold decAt
  cases hs : s.size with
  | zero => rfl
  | succ n => simp only [decFrom]; rw [if_neg (by omega)]
theorem decAt_len (s : ByteArray) : ∀ (f p : Nat), s.size ≤ p + f → (decAt s p).length ≤ s.size - p
  | 0, p, h => by rw [decAt_end (by omega)]; exact Nat.zero_le _
  | f + 1, p, h => by
    by_cases hp : p < s.size
    · rw [decAt_step hp]
      have hw := decode_width s p hp
      have := decAt_len s f (p + (Utf8.decode s p).2) (by omega)
      simp only [List.length_cons]
      omega
    · rw [decAt_end (by omega)]; exact Nat.zero_le _
theorem uSize_1 {r : Int} : uSize r = 1 ↔ 0 ≤ r ∧ r < 128 := by
  unfold uSize; repeat' split
  all_goals omega
theorem uSize_2 {r : Int} : uSize r = 2 ↔ 128 ≤ r ∧ r < 2048 := by
  unfold uSize; repeat' split
  all_goals omega
theorem uSize_3 {r : Int} : uSize r = 3 ↔ 2048 ≤ r ∧ r < 65536 ∧ (r < 55296 ∨ 57343 < r) := by
  unfold uSize; repeat' split
  all_goals omega
theorem uSize_4 {r : Int} : uSize r = 4 ↔ 65536 ≤ r ∧ r ≤ 1114111 := by
  unfold uSize; repeat' split
  all_goals omega
theorem byt_data (s : ByteArray) (k : Nat) : UInt8.toNat (Option.getD s.data[k]? (0 : UInt8)) = byt s k := by
  have e : s.get! k = s.data[k]! := by cases s; rfl
  unfold byt
  rw [e, getElem!_def]
  cases s.data[k]? <;> rfl
theorem toListLoop (s : ByteArray) : ∀ (n i : Nat) (r : List UInt8), s.size ≤ i + n → ByteArray.toList.loop s i r = r.reverse ++ s.data.toList.drop i
  | 0, i, r, h => by
    rw [ByteArray.toList.loop]
    rw [if_neg (by omega), List.drop_eq_nil_of_le (by rw [Array.length_toList]; exact h)]
    simp
  | n + 1, i, r, h => by
    rw [ByteArray.toList.loop]
    by_cases hi : i < s.size
    · rw [if_pos hi, toListLoop s n (i + 1) _ (by omega)]
      have hl : i < s.data.toList.length := by rw [Array.length_toList]; exact hi
      rw [List.drop_eq_getElem_cons hl]
      have : s.get! i = s.data.toList[i] := by
        have e : s.get! i = s.data[i]! := by cases s; rfl
        rw [e, getElem!_pos s.data i hi]
        simp
      simp [this]
    · rw [if_neg hi, List.drop_eq_nil_of_le (by rw [Array.length_toList]; exact Nat.not_lt.1 hi)]
      simp
theorem toList_data (s : ByteArray) : s.toList = s.data.toList := by
  unfold ByteArray.toList
  rw [toListLoop s s.size 0 [] (by omega)]
  simp
theorem strBytes_get (s : ByteArray) (k : Nat) (h : k < s.size) : (strBytes s)[k]? = some (byt s k : Int) := by
  unfold strBytes
  have hl : k < s.data.toList.length := by rw [Array.length_toList]; exact h
  rw [List.getElem?_map, List.getElem?_eq_getElem hl]
  have := byt_data s k
  have e : s.data[k]? = some s.data.toList[k] := by
    rw [Array.getElem?_eq_getElem h]; simp
  rw [e] at this
  simp only [Option.getD_some] at this
  show some ((s.data.toList[k].toNat : Nat) : Int) = _
  rw [this]
theorem strBytes_len (s : ByteArray) : (strBytes s).length = s.size := by
  unfold strBytes
  rw [List.length_map, Array.length_toList]
  rfl
theorem strBytes_inj {a b : ByteArray} : strBytes a = strBytes b ↔ a.toList = b.toList := by
  rw [toList_data, toList_data]
  unfold strBytes
  constructor
  · intro h
    apply List.ext_getElem?
    intro k
    have := congrArg (fun l => l[k]?) h
    simp only [List.getElem?_map] at this
    cases h1 : a.data.toList[k]? <;> cases h2 : b.data.toList[k]? <;> rw [h1, h2] at this <;> simp_all
    exact UInt8.toNat_inj.1 (by omega)
  · intro h; rw [h]
theorem strBytes_of {l : List Int} (h : ∀ x ∈ l, 0 ≤ x ∧ x < 256) : strBytes (bytesOf l) = l := by
  unfold strBytes bytesOf
  simp only [List.map_map]
  conv => rhs; rw [← List.map_id l]
  apply List.map_congr_left
  intro x hx
  have := h x hx
  simp only [Function.comp, id]
  rw [UInt8.toNat_ofNat']
  omega
end Go.Fr
namespace Go.Fr.D16
open Go Go.Fr Go.Proofs
abbrev t3 : Ty := .int .i64
abbrev t4 : Ty := .bool
abbrev t5 : Ty := .int .u8
abbrev t9 : Ty := .str
abbrev t21 : Ty := .int .i32
abbrev t23 : Ty := .int .i64
abbrev t29 : Ty := .pair t3 (.pair t3 .unit)
abbrev t68 : Ty := .pair t3 (.pair t3 .unit)
abbrev t32 : Ty := .sl t68
abbrev t37 : Ty := .pair t3 (.pair t3 (.pair t3 .unit))
abbrev t39 : Ty := .pair t3 (.pair t37 (.pair t3 (.pair t3 .unit)))
abbrev t41 : Ty := .pair t3 (.pair t39 (.pair t3 .unit))
abbrev t47 : Ty := .pair t3 (.pair t3 (.pair t37 (.pair t3 (.pair t9 .unit))))
abbrev t51 : Ty := .sl t29
abbrev t61 : Ty := .sl t47
abbrev t87 : Ty := .pair t61 (.pair t39 .unit)
abbrev t75 : Ty := .nd 84 77 t87 (.pair t3 (.pair t39 .unit))
abbrev t95 : Ty := .pair t75 .unit
abbrev t43 : Ty := .opt t95
abbrev t64 : Ty := .pair t43 .unit
abbrev t79 : Ty := .sl t75
abbrev t81 : Ty := .pair t79 (.pair t3 (.pair t39 .unit))
abbrev t105 : Ty := .pair t3 (.pair t3 (.pair t3 (.pair t3 (.pair t9 .unit))))
abbrev t100 : Ty := .sl t105
abbrev t102 : Ty := .pair t3 (.pair t100 .unit)
abbrev t107 : Ty := .unit
abbrev t103 : Ty := .mp t3 t107
abbrev t115 : Ty := .pair t43 .unit
abbrev t124 : Ty := .sl t21
abbrev t128 : Ty := .int .u64
abbrev t138 : Ty := .sl t5
abbrev t141 : Ty := .int .i64
abbrev t149 : Ty := .int .u32
abbrev t151 : Ty := .int .u64
abbrev t152 : Ty := .sl t3
abbrev t153 : Ty := .pair t21 (.pair t21 (.pair t21 (.pair t21 .unit)))
abbrev t154 : Ty := .int .u64
abbrev t69 : Ty := .opt t102
abbrev t50 : Ty := .opt t115
abbrev t84 : Ty := .opt t87
abbrev t77 : Ty := .opt t81
abbrev t22 : Ty := .opt t64
def tab : List (TypeId × TI) := [
  (3, ⟨.int .i64, 1, 8, [.tv (.int .i64) (0 : Int)], some t3⟩),
  (4, ⟨.bool, 1, 1, [.blit false], some t4⟩),
  (5, ⟨.int .u8, 1, 1, [.tv (.int .u8) (0 : Int)], some t5⟩),
  (9, ⟨.str, 1, 16, [.tv .str ByteArray.empty], some t9⟩),
  (21, ⟨.int .i32, 1, 4, [.tv (.int .i32) (0 : Int)], some t21⟩),
  (23, ⟨.int .i64, 1, 8, [.tv (.int .i64) (0 : Int)], some t23⟩),
  (29, ⟨.struct [(0, 1, false), (1, 1, false)], 2, 16, [.tv (.int .i64) (0 : Int), .tv (.int .i64) (0 : Int)], some t29⟩),
  (68, ⟨.struct [(0, 1, false), (1, 1, false)], 2, 16, [.tv (.int .i64) (0 : Int), .tv (.int .i64) (0 : Int)], some t68⟩),
  (32, ⟨.slice 68, 1, 24, [.raw (.slice none 0 0)], some t32⟩),
  (37, ⟨.array 3 3 1, 3, 24, [.tv (.int .i64) (0 : Int), .tv (.int .i64) (0 : Int), .tv (.int .i64) (0 : Int)], some t37⟩),
  (39, ⟨.struct [(0, 1, false), (1, 3, true), (4, 1, false), (5, 1, false)], 6, 48, [.tv (.int .i64) (0 : Int), .tv (.int .i64) (0 : Int), .tv (.int .i64) (0 : Int), .tv (.int .i64) (0 : Int), .tv (.int .i64) (0 : Int), .tv (.int .i64) (0 : Int)], some t39⟩),
  (41, ⟨.struct [(0, 1, false), (1, 6, true), (7, 1, false)], 8, 64, [.tv (.int .i64) (0 : Int), .tv (.int .i64) (0 : Int), .tv (.int .i64) (0 : Int), .tv (.int .i64) (0 : Int), .tv (.int .i64) (0 : Int), .tv (.int .i64) (0 : Int), .tv (.int .i64) (0 : Int), .tv (.int .i64) (0 : Int)], some t41⟩),
  (47, ⟨.struct [(0, 1, false), (1, 1, false), (2, 3, true), (5, 1, false), (6, 1, false)], 7, 64, [.tv (.int .i64) (0 : Int), .tv (.int .i64) (0 : Int), .tv (.int .i64) (0 : Int), .tv (.int .i64) (0 : Int), .tv (.int .i64) (0 : Int), .tv (.int .i64) (0 : Int), .tv .str ByteArray.empty], some t47⟩),
  (51, ⟨.slice 29, 1, 24, [.raw (.slice none 0 0)], some t51⟩),
  (61, ⟨.slice 47, 1, 24, [.raw (.slice none 0 0)], some t61⟩),
  (87, ⟨.struct [(0, 1, false), (1, 6, true)], 7, 72, [.raw (.slice none 0 0), .tv (.int .i64) (0 : Int), .tv (.int .i64) (0 : Int), .tv (.int .i64) (0 : Int), .tv (.int .i64) (0 : Int), .tv (.int .i64) (0 : Int), .tv (.int .i64) (0 : Int)], some t87⟩),
  (75, ⟨.iface, 1, 16, [.raw .nilIface], some t75⟩),
  (95, ⟨.struct [(0, 1, false)], 1, 16, [.raw .nilIface], some t95⟩),
  (43, ⟨.ptr 95, 1, 8, [.raw (.pointer none)], some t43⟩),
  (64, ⟨.struct [(0, 1, false)], 1, 8, [.raw (.pointer none)], some t64⟩),
  (79, ⟨.slice 75, 1, 24, [.raw (.slice none 0 0)], some t79⟩),
  (81, ⟨.struct [(0, 1, false), (1, 1, false), (2, 6, true)], 8, 80, [.raw (.slice none 0 0), .tv (.int .i64) (0 : Int), .tv (.int .i64) (0 : Int), .tv (.int .i64) (0 : Int), .tv (.int .i64) (0 : Int), .tv (.int .i64) (0 : Int), .tv (.int .i64) (0 : Int), .tv (.int .i64) (0 : Int)], some t81⟩),
  (105, ⟨.struct [(0, 1, false), (1, 1, false), (2, 1, false), (3, 1, false), (4, 1, false)], 5, 48, [.tv (.int .i64) (0 : Int), .tv (.int .i64) (0 : Int), .tv (.int .i64) (0 : Int), .tv (.int .i64) (0 : Int), .tv .str ByteArray.empty], some t105⟩),
  (100, ⟨.slice 105, 1, 24, [.raw (.slice none 0 0)], some t100⟩),
  (102, ⟨.struct [(0, 1, false), (1, 1, false)], 2, 32, [.tv (.int .i64) (0 : Int), .raw (.slice none 0 0)], some t102⟩),
  (107, ⟨.struct [], 0, 0, [], some t107⟩),
  (103, ⟨.map 3 107, 1, 8, [.raw (.map none)], some t103⟩),
  (115, ⟨.struct [(0, 1, false)], 1, 8, [.raw (.pointer none)], some t115⟩),
  (124, ⟨.slice 21, 1, 24, [.raw (.slice none 0 0)], some t124⟩),
  (128, ⟨.int .u64, 1, 8, [.tv (.int .u64) (0 : Int)], some t128⟩),
  (138, ⟨.slice 5, 1, 24, [.raw (.slice none 0 0)], some t138⟩),
  (141, ⟨.int .i64, 1, 8, [.tv (.int .i64) (0 : Int)], some t141⟩),
  (149, ⟨.int .u32, 1, 4, [.tv (.int .u32) (0 : Int)], some t149⟩),
  (151, ⟨.int .u64, 1, 8, [.tv (.int .u64) (0 : Int)], some t151⟩),
  (152, ⟨.slice 3, 1, 24, [.raw (.slice none 0 0)], some t152⟩),
  (153, ⟨.array 4 21 1, 4, 16, [.tv (.int .i32) (0 : Int), .tv (.int .i32) (0 : Int), .tv (.int .i32) (0 : Int), .tv (.int .i32) (0 : Int)], some t153⟩),
  (154, ⟨.int .u64, 1, 8, [.tv (.int .u64) (0 : Int)], some t154⟩),
  (69, ⟨.ptr 102, 1, 8, [.raw (.pointer none)], some t69⟩),
  (50, ⟨.ptr 115, 1, 8, [.raw (.pointer none)], some t50⟩),
  (84, ⟨.ptr 87, 1, 8, [.raw (.pointer none)], some t84⟩),
  (77, ⟨.ptr 81, 1, 8, [.raw (.pointer none)], some t77⟩),
  (22, ⟨.ptr 64, 1, 8, [.raw (.pointer none)], some t22⟩)]
theorem tab_ok : tabOk Tryd.prog tab = true := by kernel_rfl
theorem mixed : Tryd.prog.follows .mixedOrders = true := by kernel_rfl
def gl : Nat → Option ((t : Ty) × t.den) := fun g => bif Nat.beq g 0 then some ⟨t153, ((127 : Int), (2047 : Int), (65535 : Int), (1114111 : Int), ())⟩ else none
def right (r : Int) : Bool := decide (0 ≤ r ∧ r ≤ 1114111 ∧ (r < 55296 ∨ r > 57343))
def encB (x : Int) : ByteArray := if uSize x = 0 then bytesOf (uBytes 65533 3) else bytesOf (uBytes x (uSize x))
def encode (l : List Int) : ByteArray := l.foldl (fun s x => s ++ encB x) ByteArray.empty
def clean (s : ByteArray) : ByteArray := encode (decodeL s)
abbrev Span := Int × Int × Unit
abbrev Chg := Span × Span × Unit
abbrev Inl := Int × Int × Int × Int × ByteArray × Unit
abbrev ISet := Int × List Inl × Unit
abbrev WSet := Int × List Inl × Int × Unit
def w64 (n : Int) : Int := IntKind.i64.wrap n
def within (s : Span) : Bool := decide (0 ≤ s.1) && decide (s.1 ≤ s.2.1) && decide (s.2.1 ≤ 1099511627776)
def zeroC : Chg := ((0, 0, ()), (0, 0, ()), ())
def okStep (last c : Chg) (first : Bool) : Bool :=
  within c.1 && within c.2.1 && !(decide (c.1.1 = c.1.2.1) && decide (c.2.1.1 = c.2.1.2.1)) &&
    decide (c.1.1 - last.1.2.1 = c.2.1.1 - last.2.1.2.1) && decide (last.1.2.1 ≤ c.1.1) && (first || decide (c.1.1 ≠ last.1.2.1))
def normFrom (last : Chg) (first : Bool) : List Chg → Bool
  | [] => true
  | c :: r => okStep last c first && normFrom c false r
def normal (l : List Chg) : Bool := normFrom zeroC true l
def size (s : Span) : Int := w64 (s.2.1 - s.1)
def cmpI (a b : Int) : Int := if a < b then -1 else if b < a then 1 else 0
def firstNZ : List Int → Int
  | [] => 0
  | x :: r => if x = 0 then firstNZ r else x
def txt (x : Inl) : ByteArray := x.2.2.2.2.1
def hasNL (s : ByteArray) : Bool := s.data.toList.contains 10
def wrongI (n : Int) (x : Inl) : Int :=
  if x.1 < 1 ∨ x.2.1 < 0 ∨ x.2.1 > n ∨ (x.2.2.1 ≠ 0 ∧ x.2.2.1 ≠ 1) then 1 else if ((decodeL (txt x)).length : Int) > 40 then 2 else if (txt x).size = 0 ∨ hasNL (txt x) = true then 4 else 0
def hasId (i : Int) (l : List Inl) : Bool := l.any fun x => decide (x.1 = i)
def wrongW (n : Int) (l : List Inl) (x : Inl) : Int := if wrongI n x ≠ 0 then wrongI n x else if hasId x.1 l = true then 8 else 0
def errI (n : Int) : List Inl → List Inl → Int
  | _, [] => 0
  | seen, x :: r => if wrongW n seen x ≠ 0 then wrongW n seen x else errI n (seen ++ [x]) r
def cmpL (a b : Inl) : Int := firstNZ [cmpI a.2.1 b.2.1, cmpI a.2.2.2.1 b.2.2.2.1, cmpI a.1 b.1]
def sortI (l : List Inl) : List Inl := sortBy cmpL l
def cleanI (x : Inl) : Inl := (x.1, x.2.1, x.2.2.1, x.2.2.2.1, clean (txt x), ())
def wrongN (n : Int) (l : List Inl) : Int := if n < 0 ∨ n > 1099511627776 then 1 else if (l.length : Int) > 60 then 5 else errI n [] l
def newI (n : Int) (l : List Inl) : Option ISet × Int × Unit := if wrongN n l = 0 then (some (n, sortI (l.map cleanI), ()), 0, ()) else (none, wrongN n l, ())
def allI (s : Option ISet) : List Inl := match s with | none => [] | some s => s.2.1
def lenI (s : Option ISet) : Int := match s with | none => 0 | some s => s.1
def shortL (l : List Inl) : Prop := ∀ x ∈ l, (txt x).size ≤ 2000000
def cCmp : Contract := { arg := .pair t3 (.pair t3 .unit), res := .int .i64, one := true, pre := fun _ => True, fn := fun x => cmpI x.1 x.2.1 }
def cOr : Contract := { arg := .pair t152 .unit, res := .int .i64, one := true, pre := fun x => x.1.length ≤ maxLen, fn := fun x => firstNZ x.1 }
def cRight : Contract := { arg := .pair t21 .unit, res := .bool, one := true, pre := fun _ => True, fn := fun x => right x.1 }
def cDecode : Contract := { arg := .pair t9 .unit, res := t124, one := true, pre := fun x => x.1.size ≤ 1000000000, fn := fun x => decodeL x.1 }
def cCount : Contract := { arg := .pair t9 .unit, res := t3, one := true, pre := fun x => x.1.size ≤ maxLen, fn := fun x => ((decodeL x.1).length : Int) }
def cEncode : Contract := { arg := .pair t124 .unit, res := t9, one := true, pre := fun x => x.1.length ≤ 1000000000, fn := fun x => encode x.1 }
def cClean : Contract := { arg := .pair t9 .unit, res := t9, one := true, pre := fun x => x.1.size ≤ 100000000, fn := fun x => clean x.1 }
def cContains : Contract := { arg := .pair t9 (.pair t9 .unit), res := .bool, one := true, pre := fun x => x.2.1 = (ByteArray.mk #[10]), fn := fun x => hasNL x.1 }
def cOrder : Contract := cOrd t105 cmpL
def cWrong : Contract := { arg := .pair t3 (.pair t105 .unit), res := t23, one := true, pre := fun x => (txt x.2.1).size ≤ maxLen, fn := fun x => wrongI x.1 x.2.1 }
def cClone : Contract := { arg := .pair t100 .unit, res := t100, one := true, pre := fun x => x.1.length ≤ 10000, fn := fun x => x.1 }
def cAll : Contract := { arg := .pair t69 .unit, res := t100, one := true, pre := fun x => (allI x.1).length ≤ 10000, fn := fun x => allI x.1 }
def cLen : Contract := { arg := .pair t69 .unit, res := t3, one := true, pre := fun _ => True, fn := fun x => lenI x.1 }
def cNew : Contract := { arg := .pair t3 (.pair t100 .unit), res := .pair t69 (.pair t23 .unit), one := false, pre := fun x => x.2.1.length ≤ maxLen ∧ shortL x.2.1, fn := fun x => newI x.1 x.2.1 }
def rSort : RContract := { t := t105, e := 105, pre := fun xs => List.length xs ≤ 100000, post := fun xs ys => ys.Perm xs ∧ ys.Pairwise (fun a b => ¬ cmpL b a < 0), back := false, tail := [48] }
end Go.Fr.D16
namespace Go.Fr.D16
open Go Go.Fr Go.Proofs
set_option maxRecDepth 100000
def hs45 : List (Nat × Nat × Hint) := []
def nm45 : List Nat := [3000000047]
noncomputable def E45 : Env := env tab [(57, cCount), (58, cContains)] [] gl hs45 nm45
def vc45 : Prop :=
 ∀ (x : Int × Inl × Unit),
 let y := x.snd.fst.snd.snd.snd.snd.fst;
 let y_1 := x.snd.fst;
 let y_2 := y_1.snd.fst;
 let y_3 := y_1.snd.snd.fst;
 let y_4 := wrongI x.fst y_1;
 let y_5 := decide (y_1.fst < (1 : Int));
 let y_6 := decide (y_2 > x.fst);
 let y_7 := decide ((↑(List.length (decodeL y)) : Int) > (40 : Int));
 let y_8 := ByteArray.toList y == ByteArray.toList (ByteArray.mk #[]);
 ByteArray.size (txt y_1) ≤ maxLen →
 (y_5 = true → (1 : Int) = y_4) ∧
 (y_5 = false →
 (decide (y_2 < (0 : Int)) = true → (1 : Int) = y_4) ∧
 (decide (y_2 < (0 : Int)) = false →
 (y_6 = true → (1 : Int) = y_4) ∧
 (y_6 = false →
 ((y_3 != (0 : Int)) = true →
 ((y_3 != (1 : Int)) = true → (1 : Int) = y_4) ∧
 ((y_3 != (1 : Int)) = false →
 ByteArray.size y ≤ maxLen ∧
 (y_7 = true → (2 : Int) = y_4) ∧
 (y_7 = false →
 (y_8 = true → (4 : Int) = y_4) ∧
 (y_8 = false →
 (ByteArray.mk #[(10 : UInt8)]) = (ByteArray.mk #[(10 : UInt8)]) ∧
 (hasNL y = true → (4 : Int) = y_4) ∧ (hasNL y = false → (0 : Int) = y_4))))) ∧
 ((y_3 != (0 : Int)) = false →
 ByteArray.size y ≤ maxLen ∧
 (y_7 = true → (2 : Int) = y_4) ∧
 (y_7 = false →
 (y_8 = true → (4 : Int) = y_4) ∧
 (y_8 = false →
 (ByteArray.mk #[(10 : UInt8)]) = (ByteArray.mk #[(10 : UInt8)]) ∧
 (hasNL y = true → (4 : Int) = y_4) ∧ (hasNL y = false → (0 : Int) = y_4)))))))
theorem vcEq45 : fnVC E45 Tryd.f45 (bodyOf Tryd.f45) cWrong = vc45 := by kernel_rfl
def hs46 : List (Nat × Nat × Hint) := []
def nm46 : List Nat := [3000000047]
noncomputable def E46 : Env := env tab [(60, cDecode), (59, cEncode)] [] gl hs46 nm46
def vc46 : Prop :=
 ∀ (x : ByteArray × Unit),
 ByteArray.size x.fst ≤ (100000000 : Nat) →
 ByteArray.size x.fst ≤ (1000000000 : Nat) ∧
 List.length (decodeL x.fst) ≤ (1000000000 : Nat) ∧ encode (decodeL x.fst) = clean x.fst
theorem vcEq46 : fnVC E46 Tryd.f46 (bodyOf Tryd.f46) cClean = vc46 := by kernel_rfl
def hs48 : List (Nat × Nat × Hint) := []
def nm48 : List Nat := [3000000047]
noncomputable def E48 : Env := env tab [(64, cCmp), (63, cOr)] [] gl hs48 nm48
def vc48 : Prop :=
 ∀ (x : Inl × Inl × Unit),
 True →
 True ∧
 True ∧
 True ∧
 List.length
 [cmpI x.fst.snd.fst x.snd.fst.snd.fst, cmpI x.fst.snd.snd.snd.fst x.snd.fst.snd.snd.snd.fst,
 cmpI x.fst.fst x.snd.fst.fst] ≤
 maxLen ∧
 firstNZ
 [cmpI x.fst.snd.fst x.snd.fst.snd.fst, cmpI x.fst.snd.snd.snd.fst x.snd.fst.snd.snd.snd.fst,
 cmpI x.fst.fst x.snd.fst.fst] =
 cmpL x.fst x.snd.fst
theorem vcEq48 : fnVC E48 Tryd.f48 (bodyOf Tryd.f48) cOrder = vc48 := by kernel_rfl
def hs50 : List (Nat × Nat × Hint) := []
def nm50 : List Nat := [3000000047]
noncomputable def E50 : Env := env tab [] [] gl hs50 nm50
def vc50 : Prop :=
 ∀ (x : Option (Int × List Inl × Unit) × Unit),
 True →
 (Option.isNone x.fst = true → (0 : Int) = lenI x.fst) ∧
 (Option.isNone x.fst = false →
 Option.isSome x.fst = true ∧ (List.getD (optL x.fst) (0 : Nat) (Ty.dflt t102)).fst = lenI x.fst)
theorem vcEq50 : fnVC E50 Tryd.f50 (bodyOf Tryd.f50) cLen = vc50 := by kernel_rfl
def hs51 : List (Nat × Nat × Hint) := []
def nm51 : List Nat := [3000000047]
noncomputable def E51 : Env := env tab [(67, cClone)] [] gl hs51 nm51
def vc51 : Prop :=
 ∀ (x : Option (Int × List Inl × Unit) × Unit),
 List.length (allI x.fst) ≤ (10000 : Nat) →
 (Option.isNone x.fst = true → [] = allI x.fst) ∧
 (Option.isNone x.fst = false →
 Option.isSome x.fst = true ∧
 List.length (List.getD (optL x.fst) (0 : Nat) (Ty.dflt t102)).snd.fst ≤ (10000 : Nat) ∧
 (List.getD (optL x.fst) (0 : Nat) (Ty.dflt t102)).snd.fst = allI x.fst)
theorem vcEq51 : fnVC E51 Tryd.f51 (bodyOf Tryd.f51) cAll = vc51 := by kernel_rfl
def hs57 : List (Nat × Nat × Hint) := [(0, 3, ⟨[.slot 3 t3, .pos 5], [5], [5], []⟩)]
def nm57 : List Nat := [3000000047]
noncomputable def E57 : Env := env tab [] [] gl hs57 nm57
def vc57 : Prop :=
 ∀ (x : ByteArray × Unit),
 ByteArray.size x.fst ≤ maxLen →
 (((0 : Int) = (0 : Int) ∧ True) ∧ True ∧ x.fst = x.fst ∧ (0 : Nat) = (0 : Nat)) ∧
 ∃ (Z : Int × Nat × Unit → Prop),
 ∃ (μ : Int × Nat × Unit → Nat),
 Z ((0 : Int), (0 : Nat), ()) ∧
 ∀ (a : Int) (a_1 : Nat),
 Z (a, a_1, ()) →
 (decide (a_1 < ByteArray.size x.fst) = true →
 (true = true →
 ((IntKind.wrap IntKind.i64 (a + (1 : Int)) = IntKind.wrap IntKind.i64 (a + (1 : Int)) ∧ True) ∧
 True ∧
 x.fst = x.fst ∧ a_1 + (Utf8.decode x.fst a_1).snd = a_1 + (Utf8.decode x.fst a_1).snd) ∧
 Z (IntKind.wrap IntKind.i64 (a + (1 : Int)), a_1 + (Utf8.decode x.fst a_1).snd, ()) ∧
 μ (IntKind.wrap IntKind.i64 (a + (1 : Int)), a_1 + (Utf8.decode x.fst a_1).snd, ()) <
 μ (a, a_1, ())) ∧
 (true = false → a = (↑(List.length (decodeL x.fst)) : Int))) ∧
 (decide (a_1 < ByteArray.size x.fst) = false →
 (false = true →
 ((IntKind.wrap IntKind.i64 (a + (1 : Int)) = IntKind.wrap IntKind.i64 (a + (1 : Int)) ∧ True) ∧
 True ∧ x.fst = x.fst ∧ a_1 = a_1) ∧
 Z (IntKind.wrap IntKind.i64 (a + (1 : Int)), a_1, ()) ∧
 μ (IntKind.wrap IntKind.i64 (a + (1 : Int)), a_1, ()) < μ (a, a_1, ())) ∧
 (false = false → a = (↑(List.length (decodeL x.fst)) : Int)))
theorem vcEq57 : fnVC E57 Tryd.f57 (bodyOf Tryd.f57) cCount = vc57 := by kernel_rfl
def hs59 : List (Nat × Nat × Hint) := [(0, 3, ⟨[.rowS 3 900000003 t5 5, .slot 8 t3], [6, 7], [], []⟩)]
def nm59 : List Nat := [3000000047]
noncomputable def E59 : Env := env tab [(74, cRight)] [] gl hs59 nm59
def vc59 : Prop :=
 ∀ (x : List Int × Unit),
 let y := x.fst;
 let y_1 := (↑(List.length y) : Int);
 List.length y ≤ (1000000000 : Nat) →
 (((0 : Int) = (0 : Int) ∧ True ∧ y = y ∧ y_1 = y_1) ∧ True ∧ True) ∧
 ∃ (Z : List Int × Int × Unit → Prop),
 ∃ (μ : List Int × Int × Unit → Nat),
 Z ([], (0 : Int), ()) ∧
 ∀ (a : List Int),
 let y_2 := a ++ strBytes (Utf8.encode (65533 : Int));
 ∀ (a_1 : Int),
 let y_3 := IntKind.wrap IntKind.i64 (a_1 + (1 : Int));
 let y_4 := (a, a_1, ());
 let y_5 := a ++ strBytes (Utf8.encode (List.getD y (Int.toNat a_1) (Ty.dflt t21)));
 let y_6 :=  List.length a + List.length (strBytes (Utf8.encode (List.getD y (Int.toNat a_1) (Ty.dflt t21))));
 let y_7 := (y_5, y_3, ());
 let y_8 := (y_2, y_3, ());
 Z y_4 →
 (decide (a_1 < y_1) = true →
 ((0 : Int) ≤ a_1 ∧ a_1 < y_1) ∧
 True ∧
 ((!right (List.getD y (Int.toNat a_1) (Ty.dflt t21))) = true →
 (List.length a + List.length (strBytes (Utf8.encode (65533 : Int)))) * (1 : Nat) ≤
 (140737488355328 : Nat) ∧
 List.length a + List.length (strBytes (Utf8.encode (65533 : Int))) ≤ maxLen ∧
 ((y_3 = y_3 ∧ True ∧ y = y ∧ y_1 = y_1) ∧ y_2 = y_2 ∧ True) ∧ Z y_8 ∧ μ y_8 < μ y_4) ∧
 ((!right (List.getD y (Int.toNat a_1) (Ty.dflt t21))) = false →
 y_6 * (1 : Nat) ≤ (140737488355328 : Nat) ∧
 y_6 ≤ maxLen ∧
 ((y_3 = y_3 ∧ True ∧ y = y ∧ y_1 = y_1) ∧ y_5 = y_5 ∧ True) ∧
 Z y_7 ∧ μ y_7 < μ y_4)) ∧
 (decide (a_1 < y_1) = false → bytesOf a = encode y)
theorem vcEq59 : fnVC E59 Tryd.f59 (bodyOf Tryd.f59) cEncode = vc59 := by kernel_rfl
def hs60 : List (Nat × Nat × Hint) := [(0, 3, ⟨[.rowS 3 900000003 t21 21, .pos 7], [7], [7], []⟩)]
def nm60 : List Nat := [3000000047]
noncomputable def E60 : Env := env tab [] [] gl hs60 nm60
def vc60 : Prop :=
 ∀ (x : ByteArray × Unit),
 ByteArray.size x.fst ≤ (1000000000 : Nat) →
 ((True ∧ True) ∧ (True ∧ x.fst = x.fst ∧ (0 : Nat) = (0 : Nat)) ∧ True ∧ True) ∧
 ∃ (Z : List Int × Nat × Unit → Prop),
 ∃ (μ : List Int × Nat × Unit → Nat),
 Z ([], (0 : Nat), ()) ∧
 ∀ (a : List Int) (a_1 : Nat),
 Z (a, a_1, ()) →
 (decide (a_1 < ByteArray.size x.fst) = true →
 (true = true →
 (List.length a + List.length [(↑(Utf8.decode x.fst a_1).fst : Int)]) * (4 : Nat) ≤
 (140737488355328 : Nat) ∧
 List.length a + List.length [(↑(Utf8.decode x.fst a_1).fst : Int)] ≤ maxLen ∧
 ((True ∧ True) ∧
 (True ∧
 x.fst = x.fst ∧
 a_1 + (Utf8.decode x.fst a_1).snd = a_1 + (Utf8.decode x.fst a_1).snd) ∧
 a ++ [(↑(Utf8.decode x.fst a_1).fst : Int)] =
 a ++ [(↑(Utf8.decode x.fst a_1).fst : Int)] ∧
 True) ∧
 Z (a ++ [(↑(Utf8.decode x.fst a_1).fst : Int)], a_1 + (Utf8.decode x.fst a_1).snd, ()) ∧
 μ (a ++ [(↑(Utf8.decode x.fst a_1).fst : Int)], a_1 + (Utf8.decode x.fst a_1).snd, ()) <
 μ (a, a_1, ())) ∧
 (true = false → a = decodeL x.fst)) ∧
 (decide (a_1 < ByteArray.size x.fst) = false →
 (false = true → False) ∧ (false = false → a = decodeL x.fst))
theorem vcEq60 : fnVC E60 Tryd.f60 (bodyOf Tryd.f60) cDecode = vc60 := by kernel_rfl
def hs63 : List (Nat × Nat × Hint) := [(0, 3, ⟨[.slot 8 t3], [3, 6, 7], [], []⟩)]
def nm63 : List Nat := [3000000047]
noncomputable def E63 : Env := env tab [] [] gl hs63 nm63
def vc63 : Prop :=
 ∀ (x : List Int × Unit),
 List.length x.fst ≤ maxLen →
 ((0 : Int) = (0 : Int) ∧
 (0 : Int) = (0 : Int) ∧ x.fst = x.fst ∧ (↑(List.length x.fst) : Int) = (↑(List.length x.fst) : Int)) ∧
 ∃ (Z : Int × Unit → Prop),
 ∃ (μ : Int × Unit → Nat),
 Z ((0 : Int), ()) ∧
 ∀ (a : Int),
 Z (a, ()) →
 (decide (a < (↑(List.length x.fst) : Int)) = true →
 ((0 : Int) ≤ a ∧ a < (↑(List.length x.fst) : Int)) ∧
 ((List.getD x.fst (Int.toNat a) (Ty.dflt t3) != (0 : Int)) = true →
 List.getD x.fst (Int.toNat a) (Ty.dflt t3) = firstNZ x.fst) ∧
 ((List.getD x.fst (Int.toNat a) (Ty.dflt t3) != (0 : Int)) = false →
 (IntKind.wrap IntKind.i64 (a + (1 : Int)) = IntKind.wrap IntKind.i64 (a + (1 : Int)) ∧
 (0 : Int) = (0 : Int) ∧
 x.fst = x.fst ∧ (↑(List.length x.fst) : Int) = (↑(List.length x.fst) : Int)) ∧
 Z (IntKind.wrap IntKind.i64 (a + (1 : Int)), ()) ∧
 μ (IntKind.wrap IntKind.i64 (a + (1 : Int)), ()) < μ (a, ()))) ∧
 (decide (a < (↑(List.length x.fst) : Int)) = false → (0 : Int) = firstNZ x.fst)
theorem vcEq63 : fnVC E63 Tryd.f63 (bodyOf Tryd.f63) cOr = vc63 := by kernel_rfl
def hs64 : List (Nat × Nat × Hint) := []
def nm64 : List Nat := [3000000047]
noncomputable def E64 : Env := env tab [] [(85, Tryd.f85)] gl hs64 nm64
def vc64 : Prop :=
 ∀ (x : Int × Int × Unit),
 True →
 ((x.fst != x.fst) = true →
 ((x.snd.fst != x.snd.fst) = true → (0 : Int) = cmpI x.fst x.snd.fst) ∧
 ((x.snd.fst != x.snd.fst) = false → (-1 : Int) = cmpI x.fst x.snd.fst)) ∧
 ((x.fst != x.fst) = false →
 ((x.snd.fst != x.snd.fst) = true → (1 : Int) = cmpI x.fst x.snd.fst) ∧
 ((x.snd.fst != x.snd.fst) = false →
 (decide (x.fst < x.snd.fst) = true → (-1 : Int) = cmpI x.fst x.snd.fst) ∧
 (decide (x.fst < x.snd.fst) = false →
 (decide (x.fst > x.snd.fst) = true → (1 : Int) = cmpI x.fst x.snd.fst) ∧
 (decide (x.fst > x.snd.fst) = false → (0 : Int) = cmpI x.fst x.snd.fst))))
theorem vcEq64 : fnVC E64 Tryd.f64 (bodyOf Tryd.f64) cCmp = vc64 := by kernel_rfl
def hs67 : List (Nat × Nat × Hint) := []
def nm67 : List Nat := [1000000005, 3000000047]
noncomputable def E67 : Env := env tab [] [] gl hs67 nm67
def vc67 : Prop :=
 ∀ (x : List Inl × Unit),
 List.length x.fst ≤ (10000 : Nat) →
 ∀ (c : Bool),
 (c = true → List.length x.fst = (0 : Nat)) →
 (c = true → [] = x.fst) ∧
 (c = false →
 ((0 : Nat) + List.length x.fst) * (48 : Nat) ≤ (140737488355328 : Nat) ∧
 (0 : Nat) + List.length x.fst ≤ maxLen ∧ [] ++ x.fst = x.fst)
theorem vcEq67 : fnVC E67 Tryd.f67 (bodyOf Tryd.f67) cClone = vc67 := by kernel_rfl
def hs74 : List (Nat × Nat × Hint) := []
def nm74 : List Nat := [3000000047]
noncomputable def E74 : Env := env tab [] [] gl hs74 nm74
def vc74 : Prop :=
 ∀ (x : Int × Unit),
 True →
 (decide (x.fst ≥ (0 : Int)) = true →
 ((0 : Int) ≤ (3 : Int) ∧ (3 : Int) < (↑(4 : Nat) : Int)) ∧
 (decide (x.fst ≤ (1114111 : Int)) = true →
 (decide (x.fst < (55296 : Int)) = true → true = right x.fst) ∧
 (decide (x.fst < (55296 : Int)) = false → decide (x.fst > (57343 : Int)) = right x.fst)) ∧
 (decide (x.fst ≤ (1114111 : Int)) = false → false = right x.fst)) ∧
 (decide (x.fst ≥ (0 : Int)) = false → false = right x.fst)
theorem vcEq74 : fnVC E74 Tryd.f74 (bodyOf Tryd.f74) cRight = vc74 := by kernel_rfl
end Go.Fr.D16
namespace Go.Fr.D16
open Go Go.Fr Go.Proofs
theorem right_iff {r : Int} : right r = true ↔ 0 ≤ r ∧ r ≤ 1114111 ∧ (r < 55296 ∨ r > 57343) := by simp [right]
theorem right_no {r : Int} : right r = false ↔ ¬ (0 ≤ r ∧ r ≤ 1114111 ∧ (r < 55296 ∨ r > 57343)) := by rw [← right_iff]; simp
theorem p74 : vc74 := by
  unfold vc74
  simp only [decide_eq_true_eq, decide_eq_false_iff_not]
  rintro ⟨r, ⟨⟩⟩ _
  simp only
  refine ⟨fun h1 => ⟨by decide, fun h2 => ⟨fun h3 => ?_, fun h3 => ?_⟩, fun h2 => ?_⟩, fun h1 => ?_⟩
  · exact (right_iff.2 (by omega)).symm
  · rw [Bool.eq_iff_iff, decide_eq_true_eq, right_iff]; omega
  · exact (right_no.2 (by omega)).symm
  · exact (right_no.2 (by omega)).symm
theorem uSize_bd {r n : Int} (h : uSize r = n) (hn : n ≠ 0) : 0 ≤ r ∧ r ≤ 1114111 := by
  unfold uSize at h
  split at h
  · omega
  · omega
theorem d21 : Ty.dflt t21 = (0 : Int) := rfl
theorem encB_size (x : Int) : (encB x).size ≤ 4 := by
  have h : ∀ l : List Int, (bytesOf l).size = l.length := fun l => by
    show ((l.map fun n => UInt8.ofNat n.toNat).toArray).size = l.length
    simp
  unfold encB
  split
  · rw [h]; decide
  · rw [h]
    unfold uBytes
    repeat' split
    all_goals simp
theorem encode_take {l : List Int} {k : Nat} (h : k < l.length) : encode (l.take (k + 1)) = encode (l.take k) ++ encB (l.getD k 0) := by
  unfold encode
  rw [foldl_take_succ h, getD_of _ h]
theorem encode_len (l : List Int) : ∀ k, k ≤ l.length → (encode (l.take k)).size ≤ 4 * k
  | 0, _ => by show ByteArray.empty.size ≤ _; exact Nat.zero_le _
  | k + 1, h => by
    have ih := encode_len l k (by omega)
    rw [encode_take (by omega), ByteArray.size_append]
    have := encB_size (l.getD k 0)
    omega
theorem p57 : vc57 := by
  unfold vc57
  simp only [eq_self, true_and, and_true, decide_eq_true_eq, decide_eq_false_iff_not]
  rintro ⟨s, ⟨⟩⟩
  simp only
  intro hl
  rw [maxLen_eq] at hl
  refine ⟨fun z => ∃ k : Nat, z.1 = (k : Int) ∧ k + (decAt s z.2.1).length = (decodeL s).length ∧ z.2.1 ≤ s.size, fun z => s.size - z.2.1, ⟨0, rfl, Nat.zero_add _, Nat.zero_le _⟩, ?_⟩
  rintro a p ⟨k, hi, hs, hp⟩
  simp only at hi hs hp
  subst hi
  have hd := decAt_len s s.size 0 (by omega)
  have e0 : decAt s 0 = decodeL s := rfl
  rw [e0] at hd
  refine ⟨fun h => ?_, fun h => ?_⟩
  · have wd := decode_width s p h
    rw [decAt_step h] at hs
    simp only [List.length_cons] at hs
    have hw : IntKind.i64.wrap ((k : Int) + 1) = ((k + 1 : Nat) : Int) := wrap_succ (by omega)
    rw [hw]
    simp only [reduceCtorEq, false_implies, and_true, forall_const]
    refine ⟨⟨k + 1, rfl, ?_, ?_⟩, ?_⟩ <;> first | omega | (simp only; omega)
  · rw [decAt_end (by omega)] at hs
    simp only [List.length_nil] at hs
    simp only [reduceCtorEq, false_implies, true_and, forall_const]
    omega
theorem size_cases (x : Int) : uSize x = 0 ∨ uSize x = 1 ∨ uSize x = 2 ∨ uSize x = 3 ∨ uSize x = 4 := by
  unfold uSize
  repeat' split
  all_goals omega
theorem strBytes_append (a b : ByteArray) : strBytes (a ++ b) = strBytes a ++ strBytes b := by
  unfold strBytes
  simp
theorem toList_inj {a b : ByteArray} (h : a.toList = b.toList) : a = b := by
  rw [toList_data, toList_data] at h
  cases a; cases b
  simp only [ByteArray.mk.injEq]
  exact Array.toList_inj.1 h
theorem decL_len (s : ByteArray) : (decodeL s).length ≤ s.size := by
  have := decAt_len s s.size 0 (by omega)
  exact this
theorem utf_enc (x : Int) : Utf8.encode x = encB x := by
  unfold Utf8.encode encB
  by_cases h : uSize x = 0
  · have hv : Utf8.valid x = false := by
      cases hh : Utf8.valid x with
      | false => rfl
      | true =>
        exfalso
        rw [valid_iff] at hh
        unfold uSize at h
        repeat' split at h
        all_goals omega
    rw [if_pos h, hv]
    rfl
  · have hv : Utf8.valid x = true := by
      rw [valid_iff]
      unfold uSize at h
      repeat' split at h
      all_goals omega
    rw [if_neg h, hv]
    obtain ⟨m, rfl⟩ : ∃ m : Nat, x = (m : Int) := ⟨x.toNat, by have := uSize_bd (r := x) rfl h; omega⟩
    simp only [if_true, toNat_cast]
    have q : ∀ (n : Int) (k : Nat), n = (k : Int) → UInt8.ofNat n.toNat = UInt8.ofNat k := fun n k e => by rw [e]; rfl
    rcases size_cases (m : Int) with e | e | e | e | e
    · exact absurd e h
    · have := uSize_1.1 e
      rw [if_pos (by omega), e]
      show _ = ByteArray.mk ([UInt8.ofNat (m : Int).toNat].toArray)
      rfl
    · have := uSize_2.1 e
      rw [if_neg (by omega), if_pos (by omega), e]
      show _ = ByteArray.mk ([UInt8.ofNat (192 + (m : Int) / 64).toNat, UInt8.ofNat (128 + (m : Int) % 64).toNat].toArray)
      rw [q _ (192 + m / 64) (by omega), q _ (128 + m % 64) (by omega)]
    · have := uSize_3.1 e
      rw [if_neg (by omega), if_neg (by omega), if_pos (by omega), e]
      show _ = ByteArray.mk ([UInt8.ofNat (224 + (m : Int) / 4096).toNat, UInt8.ofNat (128 + (m : Int) / 64 % 64).toNat, UInt8.ofNat (128 + (m : Int) % 64).toNat].toArray)
      rw [q _ (224 + m / 4096) (by omega), q _ (128 + m / 64 % 64) (by omega), q _ (128 + m % 64) (by omega)]
    · have := uSize_4.1 e
      rw [if_neg (by omega), if_neg (by omega), if_neg (by omega), e]
      show _ = ByteArray.mk ([UInt8.ofNat (240 + (m : Int) / 262144).toNat, UInt8.ofNat (128 + (m : Int) / 4096 % 64).toNat, UInt8.ofNat (128 + (m : Int) / 64 % 64).toNat, UInt8.ofNat (128 + (m : Int) % 64).toNat].toArray)
      rw [q _ (240 + m / 262144) (by omega), q _ (128 + m / 4096 % 64) (by omega), q _ (128 + m / 64 % 64) (by omega), q _ (128 + m % 64) (by omega)]
theorem bytesOf_str (s : ByteArray) : bytesOf (strBytes s) = s := by
  apply toList_inj
  rw [← strBytes_inj, strBytes_of]
  intro x hx
  obtain ⟨k, hk, rfl⟩ := List.getElem_of_mem hx
  have hks : k < s.size := by rw [strBytes_len] at hk; exact hk
  have := strBytes_get s k hks
  rw [List.getElem?_eq_getElem hk] at this
  injection this with this
  rw [this]
  have := byt_lt s k
  omega
theorem right_0 {x : Int} (h : right x = false) : uSize x = 0 := by
  rw [right_no] at h
  unfold uSize
  rw [if_pos (by omega)]
theorem encB_bad {x : Int} (h : right x = false) : encB 65533 = encB x := by
  unfold encB
  rw [if_pos (right_0 h)]
  rfl
theorem p59 : vc59 := by
  unfold vc59
  simp only [eq_self, true_and, and_true, decide_eq_true_eq, decide_eq_false_iff_not, Bool.not_eq_true', Bool.not_eq_false']
  rintro ⟨l, ⟨⟩⟩
  simp only
  intro hl
  rw [d21, maxLen_eq]
  refine ⟨fun z => ∃ k : Nat, k ≤ l.length ∧ z.2.1 = (k : Int) ∧ z.1 = strBytes (encode (l.take k)), fun z => l.length - z.2.1.toNat, ⟨0, Nat.zero_le _, rfl, rfl⟩, ?_⟩
  rintro a i ⟨k, hk, hi, ha⟩
  simp only at hi ha
  subst hi ha
  refine ⟨fun h => ?_, fun h => ?_⟩
  · have hlt : k < l.length := by omega
    have hw : IntKind.i64.wrap ((k : Int) + 1) = ((k + 1 : Nat) : Int) := wrap_succ (by omega)
    have el := encode_len l k hk
    have et := encode_take hlt
    rw [toNat_cast, hw, utf_enc, utf_enc]
    generalize l.getD k 0 = x at *
    have es := encB_size x
    have e6 := encB_size 65533
    have hdec : l.length - (((k + 1 : Nat) : Int)).toNat < l.length - (k : Int).toNat := by rw [toNat_cast, toNat_cast]; omega
    simp only [strBytes_len]
    refine ⟨by omega, fun g => ⟨by omega, by omega, ⟨k + 1, hlt, rfl, ?_⟩, hdec⟩, fun g => ⟨by omega, by omega, ⟨k + 1, hlt, rfl, ?_⟩, hdec⟩⟩
    · rw [encB_bad g, ← strBytes_append, et]
    · rw [← strBytes_append, et]
  · have : k = l.length := by omega
    subst this
    rw [List.take_length, bytesOf_str]
theorem p60 : vc60 := by
  unfold vc60
  simp only [eq_self, true_and, and_true, decide_eq_true_eq, decide_eq_false_iff_not]
  rintro ⟨s, ⟨⟩⟩
  simp only
  intro hl
  rw [maxLen_eq]
  refine ⟨fun z => z.1 ++ decAt s z.2.1 = decodeL s ∧ z.1.length ≤ z.2.1 ∧ z.2.1 ≤ s.size, fun z => s.size - z.2.1, ⟨rfl, Nat.le_refl _, Nat.zero_le _⟩, ?_⟩
  rintro a p ⟨hs, hlen, hp⟩
  simp only at hs hlen hp
  have e2 : ∀ c : Int, [c].length = 1 := fun _ => rfl
  refine ⟨fun h => ⟨fun _ => ?_, (fun h => by cases h)⟩, fun h => ⟨(fun h => by cases h), fun _ => ?_⟩⟩
  · have wd := decode_width s p h
    rw [e2]
    refine ⟨by omega, by omega, ⟨?_, ?_, by simp only; omega⟩, by simp only; omega⟩
    · rw [decAt_step h] at hs
      simp only [List.append_assoc, List.cons_append, List.nil_append]
      exact hs
    · simp only [List.length_append, List.length_cons, List.length_nil]; omega
  · rw [decAt_end (by omega), List.append_nil] at hs
    exact hs
theorem p46 : vc46 := by
  rintro ⟨s, ⟨⟩⟩
  simp only
  intro hl
  have := decL_len s
  exact ⟨by omega, by omega, rfl⟩
end Go.Fr.D16
