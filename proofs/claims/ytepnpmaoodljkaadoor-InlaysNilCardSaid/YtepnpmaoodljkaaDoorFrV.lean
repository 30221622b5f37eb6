/-
  What a law's arguments read as; a law's row out of a callee's contract. Conditions: none.
-/
import Derived.Test.YtepnpmaoodljkaaDoorFrU
import Derived.ProofKit
import Derived.OpenShut
import Derived.ShutString
import Derived.ChangeOld
import Derived.Below
import Derived.Carry
import Derived.SizedLaws
import Derived.ChangeCalls
namespace Go.Fr
open Go Go.RowKit Go.ChangeShapes Go.WideShapes Go.ChangeAt

/-- A type's values read as these data. -/
def isTy (P : Program) : Nat → TypeId → Ty → Bool
  | 0, _, _ => false
  | d + 1, t, T => match P.underlying t with
    | some .bool => (match T with | .bool => true | _ => false)
    | some (.int k) => (match T with | .int k' => sameKind k k' | _ => false)
    | some .string => (match T with | .str => true | _ => false)
    | some (.slice e) => (match T with | .sl T' => Nat.beq (P.cellsOf e) T'.size && isTy P d e T' && Nat.ble 1 (P.bytesOf e) | _ => false)
    | some (.struct fs) => T.isAgg && Nat.beq (P.cellsOf t) T.size && fieldsTy P (isTy P d) fs.toList T 0
    | some (.array n e) => T.isAgg && Nat.beq (P.cellsOf t) T.size && arrTy P (isTy P d) e n T
    | _ => false
def isTys (P : Program) : List TypeId → Ty → Bool
  | [], .unit => true
  | t :: ts, .pair a b => isTy P 40 t a && isTys P ts b
  | _, _ => false

/-- Data as they may come in. -/
def wf : (T : Ty) → T.den → Prop
  | .bool, _ => True
  | .int k, n => (Lit.int k n).wf = true
  | .str, s => s.size ≤ maxLen
  | .unit, _ => True
  | .sl t, xs => xs.length ≤ maxLen ∧ ∀ x ∈ xs, wf t x
  | .opt t, x => ∀ y, x = some y → wf t y
  | .mp _ _, _ => False
  | .nd _ _ _ _, _ => False
  | .pair a b, x => wf a x.1 ∧ wf b x.2

/-- No slice, no text is longer than a bound. -/
def wfm (m : Nat) : (T : Ty) → T.den → Prop
  | .bool, _ => True
  | .int _, _ => True
  | .str, s => s.size ≤ m
  | .unit, _ => True
  | .sl t, xs => xs.length ≤ m ∧ ∀ x ∈ xs, wfm m t x
  | .opt t, x => ∀ y, x = some y → wfm m t y
  | .mp _ _, _ => False
  | .nd _ _ _ _, _ => False
  | .pair a b, x => wfm m a x.1 ∧ wfm m b x.2

def bulk : (T : Ty) → T.den → Nat
  | .bool, _ => 1
  | .int _, _ => 1
  | .str, s => s.size + 1
  | .unit, _ => 0
  | .sl t, xs => (xs.map (bulk t)).sum + 1
  | .opt t, x => match x with | some y => bulk t y + 1 | none => 1
  | .mp _ _, _ => 0
  | .nd _ _ _ _, _ => 0
  | .pair a b, x => bulk a x.1 + bulk b x.2

/-- A measure of readings. -/
structure IsBulk {H : Type} (β : DataW H → Nat) : Prop where
  one : ∀ d, 1 ≤ β d
  str : ∀ s, s.length + 1 ≤ β (.lit (.string s))
  slice : ∀ a b, (a.map β).sum + 1 ≤ β (.slice a b)
  agg : ∀ a, (a.map β).sum ≤ β (.agg a)

theorem list_of_each {α : Type} {Q : Nat → α → Prop} : (n : Nat) → (∀ i, i < n → ∃ y, Q i y) → ∃ xs : List α, xs.length = n ∧ ∀ (i : Nat) x, xs[i]? = some x → Q i x
  | 0, _ => ⟨[], rfl, fun i x h => by simp at h⟩
  | n + 1, h => by
    obtain ⟨xs, hl, hx⟩ := list_of_each n (fun i hi => h i (by omega))
    obtain ⟨y, hy⟩ := h n (by omega)
    refine ⟨xs ++ [y], by simp [hl], fun i x hi => ?_⟩
    rcases Nat.lt_or_ge i n with hlt | hge
    · rw [List.getElem?_append_left (by omega)] at hi
      exact hx i x hi
    · rw [List.getElem?_append_right (by omega)] at hi
      have : i - xs.length = 0 := by
        rcases Nat.eq_zero_or_pos (i - xs.length) with h0 | h0
        · exact h0
        · rw [List.getElem?_eq_none (by simp; omega)] at hi
          cases hi
      rw [this] at hi
      simp only [List.getElem?_cons_zero, Option.some.injEq] at hi
      have : i = n := by omega
      subst this hi
      exact hy

theorem sum_le_of_each {α : Type} {f : α → Nat} {β : Type} {g : β → Nat} : (xs : List α) → (ys : List β) → (∀ (i : Nat) x y, xs[i]? = some x → ys[i]? = some y → f x ≤ g y) → xs.length ≤ ys.length → (xs.map f).sum ≤ (ys.map g).sum
  | [], ys, _, _ => by simp
  | x :: xs, [], _, h => by simp at h
  | x :: xs, y :: ys, h, hl => by
    have h0 := h 0 x y rfl rfl
    have h1 := sum_le_of_each xs ys (fun i a b ha hb => h (i + 1) a b (by simpa using ha) (by simpa using hb)) (by simpa using hl)
    simp only [List.map_cons, List.sum_cons]
    omega

section
variable {H : Type} {enc : TypeId × Value → H} {P : Program} {w : World} {β : DataW H → Nat}

def heapOf (w : World) : PHeap := fun k => w.heap[k]?
theorem hcell_heapOf {a : Addr} : hcell (heapOf w) a = w.cell? a := by
  unfold hcell heapOf World.cell?
  rfl

theorem cellsAt_of_cells? {a : Addr} {n : Nat} {cs : List Value} (h : w.cells? 0 a n = some cs) : CellsAt (heapOf w) a cs := by
  intro j u hu
  rw [hcell_heapOf]
  obtain ⟨_, hl, hc⟩ := World.cells?_some h
  have hj : j < cs.length := (List.getElem?_eq_some_iff.1 hu).1
  rw [hc j (by omega), hu]

def Opens (P : Program) (w : World) (β : DataW H → Nat) (t : TypeId) (T : Ty) (cs : List Value) (d : DataW H) : Prop :=
  ∃ y : T.den, rep (heapOf w) T y cs ∧ wf T y ∧ (IsBulk β → bulk T y ≤ β d) ∧ ∀ m, (∀ q ∈ d.weights P t, q ≤ m) → wfm m T y

theorem open_fields {d n : Nat} {cs : List Value} (IH : ∀ t T fuel cs x, isTy P d t T = true → DataW.trod enc P w 0 (fun _ => true) true fuel t cs = some x → Opens P w β t T cs x.1) :
    (fs : List Field) → (T : Ty) → (off : Nat) → fieldsTy P (isTy P d) fs T off = true → (xs : List (DataW H × List MemPlace)) →
    (∀ (i : Nat) f, fs[i]? = some f → DataW.trod enc P w 0 (fun _ => true) true n f.type ((cs.drop f.offset).take (P.cellsOf f.type)) = xs[i]?) → xs.length = fs.length →
    ∃ y : T.den, rep (heapOf w) T y ((cs.drop off).take T.size) ∧ wf T y ∧ (IsBulk β → bulk T y ≤ ((xs.map (·.1)).map β).sum) ∧ ∀ m, (∀ q ∈ DataW.weightsEach P (fs.map (·.type)) (xs.map (·.1)), q ≤ m) → wfm m T y
  | [], .unit, off, _, xs, _, _ => ⟨(), by simp [rep, Ty.size], trivial, fun _ => Nat.zero_le _, fun _ _ => trivial⟩
  | [], .bool, _, e, _, _, _ => by cases e
  | [], .int _, _, e, _, _, _ => by cases e
  | [], .str, _, e, _, _, _ => by cases e
  | [], .sl _, _, e, _, _, _ => by cases e
  | [], .pair _ _, _, e, _, _, _ => by cases e
  | _ :: _, .unit, _, e, _, _, _ => by cases e
  | _ :: _, .bool, _, e, _, _, _ => by cases e
  | _ :: _, .int _, _, e, _, _, _ => by cases e
  | _ :: _, .str, _, e, _, _, _ => by cases e
  | _ :: _, .sl _, _, e, _, _, _ => by cases e
  | f :: fs, .pair a b, off, e, xs, hx, hl => by
    match xs, hl with
    | [], hl => simp at hl
    | x :: xs, hl =>
    simp only [fieldsTy, Bool.and_eq_true] at e
    obtain ⟨⟨⟨⟨_, e1⟩, e2⟩, e3⟩, e4⟩ := e
    have e1 := Nat.eq_of_beq_eq_true e1
    have hsz : P.cellsOf f.type = a.size := by
      unfold Program.cellsOf
      cases hi : P.info? f.type with
      | none => rw [hi] at e2; simp at e2
      | some i =>
        cases hu : P.underlying f.type with
        | none => rw [hi, hu] at e2; simp at e2
        | some dd =>
          rw [hi, hu] at e2
          simp only [Bool.and_eq_true] at e2
          simpa using Nat.eq_of_beq_eq_true e2.1
    have h0 := hx 0 f rfl
    simp only [List.getElem?_cons_zero] at h0
    obtain ⟨y1, p1, p2, p3, p4⟩ := IH f.type a n _ x e3 h0
    obtain ⟨y2, q1, q2, q3, q4⟩ := open_fields IH fs b (off + a.size) e4 xs (fun i g hg => hx (i + 1) g (by simpa using hg)) (by simpa using hl)
    refine ⟨(y1, y2), ⟨_, _, ?_, p1, q1⟩, ⟨p2, q2⟩, fun hb => ?_, fun m hm => ⟨p4 m fun q hq => hm q ?_, q4 m fun q hq => hm q ?_⟩⟩
    rotate_right 2
    · simp only [List.map_cons, DataW.weightsEach, List.mem_append]; exact .inl hq
    · simp only [List.map_cons, DataW.weightsEach, List.mem_append]; exact .inr hq
    · rw [e1, hsz]
      simp only [Ty.size]
      rw [List.take_add, List.drop_drop]
    · have := p3 hb
      have := q3 hb
      simp only [bulk, List.map_cons, List.sum_cons]
      omega

theorem open_arr {d n : Nat} {cs : List Value} {e : TypeId} (IH : ∀ t T fuel cs x, isTy P d t T = true → DataW.trod enc P w 0 (fun _ => true) true fuel t cs = some x → Opens P w β t T cs x.1) :
    (m : Nat) → (T : Ty) → (off : Nat) → arrTy P (isTy P d) e m T = true → (xs : List (DataW H × List MemPlace)) →
    (∀ (i : Nat), i < m → DataW.trod enc P w 0 (fun _ => true) true n e ((cs.drop (off + i * P.cellsOf e)).take (P.cellsOf e)) = xs[i]?) → xs.length = m →
    ∃ y : T.den, rep (heapOf w) T y ((cs.drop off).take T.size) ∧ wf T y ∧ (IsBulk β → bulk T y ≤ ((xs.map (·.1)).map β).sum) ∧ ∀ q0, (∀ q ∈ DataW.weightsAll P e (xs.map (·.1)), q ≤ q0) → wfm q0 T y
  | 0, .unit, off, _, xs, _, _ => ⟨(), by simp [rep, Ty.size], trivial, fun _ => Nat.zero_le _, fun _ _ => trivial⟩
  | 0, .bool, _, e, _, _, _ => by cases e
  | 0, .int _, _, e, _, _, _ => by cases e
  | 0, .str, _, e, _, _, _ => by cases e
  | 0, .sl _, _, e, _, _, _ => by cases e
  | 0, .pair _ _, _, e, _, _, _ => by cases e
  | _ + 1, .unit, _, e, _, _, _ => by cases e
  | _ + 1, .bool, _, e, _, _, _ => by cases e
  | _ + 1, .int _, _, e, _, _, _ => by cases e
  | _ + 1, .str, _, e, _, _, _ => by cases e
  | _ + 1, .sl _, _, e, _, _, _ => by cases e
  | m + 1, .pair a b, off, he, xs, hx, hl => by
    match xs, hl with
    | [], hl => simp at hl
    | x :: xs, hl =>
    simp only [arrTy, Bool.and_eq_true] at he
    obtain ⟨⟨e2, e3⟩, e4⟩ := he
    have hsz : P.cellsOf e = a.size := by
      unfold Program.cellsOf
      cases hi : P.info? e with
      | none => rw [hi] at e2; simp at e2
      | some i =>
        cases hu : P.underlying e with
        | none => rw [hi, hu] at e2; simp at e2
        | some dd =>
          rw [hi, hu] at e2
          simp only [Bool.and_eq_true] at e2
          simpa using Nat.eq_of_beq_eq_true e2.1
    have h0 := hx 0 (by omega)
    simp only [List.getElem?_cons_zero, Nat.zero_mul, Nat.add_zero] at h0
    obtain ⟨y1, p1, p2, p3, p4⟩ := IH e a n _ x e3 h0
    obtain ⟨y2, q1, q2, q3, q4⟩ := open_arr IH m b (off + a.size) e4 xs (fun i hi => by
      have := hx (i + 1) (by omega)
      simp only [List.getElem?_cons_succ] at this
      rw [← this, ← hsz, Nat.succ_mul]
      congr 3
      omega) (by simpa using hl)
    refine ⟨(y1, y2), ⟨_, _, ?_, p1, q1⟩, ⟨p2, q2⟩, fun hb => ?_, fun m hm => ⟨p4 m fun q hq => hm q ?_, q4 m fun q hq => hm q ?_⟩⟩
    rotate_right 2
    · simp only [List.map_cons, DataW.weightsAll, List.mem_append]; exact .inl hq
    · simp only [List.map_cons, DataW.weightsAll, List.mem_append]; exact .inr hq
    · rw [hsz]
      simp only [Ty.size]
      rw [List.take_add, List.drop_drop]
    · have := p3 hb
      have := q3 hb
      simp only [bulk, List.map_cons, List.sum_cons]
      omega

theorem open_trod : (d : Nat) → ∀ t T fuel cs x, isTy P d t T = true → DataW.trod enc P w 0 (fun _ => true) true fuel t cs = some x → Opens P w β t T cs x.1
  | 0, t, T, fuel, cs, x, e, _ => by cases e
  | d + 1, t, T, fuel, cs, x, e, h => by
    have IH := fun t T fuel cs x => open_trod d t T fuel cs x
    simp only [isTy] at e
    split at e
    · rename_i hu
      split at e
      · obtain ⟨b, rfl, rfl⟩ := DataW.trod_bool hu h
        exact ⟨b, rfl, trivial, fun hb => hb.one _, fun _ _ => trivial⟩
      · cases e
    · rename_i k hu
      split at e
      · have := sameKind_eq e
        subst this
        obtain ⟨n, rfl, rfl, hw⟩ := DataW.trod_int hu h
        exact ⟨n, rfl, hw, fun hb => hb.one _, fun _ _ => trivial⟩
      · cases e
    · rename_i hu
      split at e
      · obtain ⟨s, rfl, rfl, hw⟩ := DataW.trod_string hu h
        refine ⟨s, rfl, hw, fun hb => ?_, fun m hm => (by have h1 := hm s.data.toList.length (by rw [DataW.weights]; exact List.mem_singleton.2 rfl); rw [Array.length_toList] at h1; exact h1)⟩
        have := hb.str s.data.toList
        simp only [bulk]
        have e2 : s.data.toList.length = s.size := Array.length_toList
        rw [e2] at this
        exact this
      · cases e
    · rename_i el hu
      split at e
      · rename_i T'
        simp only [Bool.and_eq_true] at e
        obtain ⟨⟨e1, e2⟩, e0⟩ := e
        have e1 := Nat.eq_of_beq_eq_true e1
        have e0 := Nat.le_of_ble_eq_true e0
        rcases DataW.trod_slice hu h with ⟨rfl, rfl⟩ | ⟨a, len, cap, elems, rest, n, _, rfl, rfl, _, hlc, hcm, hel, hget, _⟩
        · exact ⟨[], ⟨none, 0, rfl, Nat.le_refl _, fun _ => rfl, fun i x ad hx => by simp at hx⟩, ⟨Nat.zero_le _, fun x hx => (by cases hx)⟩, fun hb => hb.one _, fun m _ => ⟨Nat.zero_le _, fun x hx => (by cases hx)⟩⟩
        · have hq : ∀ i, i < len → ∃ y : T'.den, (∃ ds, rep (heapOf w) T' y ds ∧ CellsAt (heapOf w) (a.add (i * T'.size)) ds) ∧ wf T' y ∧ (IsBulk β → ∀ z, elems[i]? = some z → bulk T' y ≤ β z.1) ∧ ∀ m z, elems[i]? = some z → (∀ q ∈ z.1.weights P el, q ≤ m) → wfm m T' y := by
            intro i hi
            have hg := hget i hi
            have hs : elems[i]? = some elems[i] := List.getElem?_eq_getElem (by omega)
            rw [hs] at hg
            cases hc : w.cells? 0 (a.add (i * P.cellsOf el)) (P.cellsOf el) with
            | none => rw [hc] at hg; cases hg
            | some cs' =>
              rw [hc] at hg
              obtain ⟨y, r1, r2, r3, r4⟩ := IH el T' n cs' _ e2 hg
              refine ⟨y, ⟨cs', r1, ?_⟩, r2, fun hb z hz => ?_, fun m z hz hm => ?_⟩
              · rw [← e1]; exact cellsAt_of_cells? hc
              · rw [hs] at hz
                cases hz
                exact r3 hb
              · rw [hs] at hz
                cases hz
                exact r4 m hm
          obtain ⟨xs, hl, hx⟩ := list_of_each len hq
          refine ⟨xs, ⟨some a, cap, by rw [hl], by omega, fun h => (by cases h), fun i x ad hxi had => ?_⟩, ⟨by omega, fun x hx' => ?_⟩, fun hb => ?_, fun m hm => ⟨?_, fun x hx' => ?_⟩⟩
          · cases had
            exact (hx i x hxi).1
          · obtain ⟨i, hi⟩ := List.getElem?_of_mem hx'
            exact (hx i x hi).2.1
          · simp only [bulk]
            have h1 : (xs.map (bulk T')).sum ≤ ((elems.map (·.1)).map β).sum := by
              refine sum_le_of_each xs (elems.map (·.1)) (fun i x y hxi hyi => ?_) (by simp; omega)
              rw [List.getElem?_map] at hyi
              cases hz : elems[i]? with
              | none => rw [hz] at hyi; cases hyi
              | some z =>
                rw [hz] at hyi
                cases hyi
                exact (hx i x hxi).2.2.1 hb z hz
            have h2 := hb.slice (elems.map (·.1)) (rest.map (·.1))
            exact Nat.le_trans (Nat.add_le_add_right h1 1) h2
          · have h1 := hm _ (by rw [DataW.weights, hu]; exact List.mem_cons_self ..)
            rw [List.length_map, List.length_map] at h1
            have h2 : (elems.length + rest.length) * 1 ≤ (elems.length + rest.length) * P.bytesOf el := Nat.mul_le_mul_left _ e0
            omega
          · obtain ⟨i, hi⟩ := List.getElem?_of_mem hx'
            have hil : i < xs.length := (List.getElem?_eq_some_iff.1 hi).1
            have hs : elems[i]? = some elems[i] := List.getElem?_eq_getElem (by omega)
            refine (hx i x hi).2.2.2 m _ hs fun q hq => hm q ?_
            rw [DataW.weights, hu]
            refine List.mem_cons_of_mem _ (List.mem_append_left _ ?_)
            have key : ∀ (l : List (DataW H)) (i : Nat) d, l[i]? = some d → q ∈ d.weights P el → q ∈ DataW.weightsAll P el l := by
              intro l
              induction l with
              | nil => intro i d hd; simp at hd
              | cons d0 l ih =>
                intro i d hd hq
                rw [DataW.weightsAll, List.mem_append]
                cases i with
                | zero => simp at hd; subst hd; exact .inl hq
                | succ i => exact .inr (ih i d (by simpa using hd) hq)
            exact key _ i _ (by rw [List.getElem?_map, hs]; rfl) hq
      · cases e
    · rename_i fs hu
      simp only [Bool.and_eq_true] at e
      obtain ⟨⟨e0, e1⟩, e2⟩ := e
      have e1 := Nat.eq_of_beq_eq_true e1
      obtain ⟨xs, n, _, rfl, hlen, hxl, hget⟩ := DataW.trod_struct hu h
      obtain ⟨y, r1, r2, r3, r4⟩ := open_fields (n := n) (cs := cs) IH fs.toList T 0 e2 xs (fun i f hf => hget i f (by simpa using hf)) (by simpa using hxl)
      refine ⟨y, ?_, r2, fun hb => Nat.le_trans (r3 hb) (hb.agg _), fun m hm => r4 m (by rw [DataW.weights, hu] at hm; exact hm)⟩
      rw [List.drop_zero, List.take_of_length_le (by omega)] at r1
      exact r1
    · rename_i m el hu
      simp only [Bool.and_eq_true] at e
      obtain ⟨⟨e0, e1⟩, e2⟩ := e
      have e1 := Nat.eq_of_beq_eq_true e1
      obtain ⟨xs, n, _, rfl, hlen, hxl, hget⟩ := DataW.trod_array hu h
      obtain ⟨y, r1, r2, r3, r4⟩ := open_arr (n := n) (cs := cs) IH m T 0 e2 xs (fun i hi => by rw [Nat.zero_add]; exact hget i hi) hxl
      refine ⟨y, ?_, r2, fun hb => Nat.le_trans (r3 hb) (hb.agg _), fun m hm => r4 m (by rw [DataW.weights, hu] at hm; exact hm)⟩
      rw [List.drop_zero, List.take_of_length_le (by omega)] at r1
      exact r1
    · cases e

theorem val_of_ok {r : Reach} {b0 : Nat} {t : TypeId} {T : Ty} {v : Value} {d : Nat} (e : isTy P d t T = true) (hv : Value.okWide P w r b0 t v) : v = T.val v.cells.toList := by
  cases d with
  | zero => cases e
  | succ d =>
    simp only [isTy] at e
    split at e
    · rename_i hu
      obtain ⟨b, rfl⟩ := okWide_bool hu hv
      split at e
      · rfl
      · cases e
    · rename_i k hu
      obtain ⟨b, rfl⟩ := okWide_int hu hv
      split at e
      · rfl
      · cases e
    · rename_i hu
      obtain ⟨b, rfl⟩ := okWide_string hu hv
      split at e
      · rfl
      · cases e
    · rename_i el hu
      obtain ⟨a, b, c, rfl⟩ := okWide_slice hu hv
      split at e
      · rfl
      · cases e
    · rename_i fs hu
      simp only [Bool.and_eq_true] at e
      obtain ⟨cs, rfl, _⟩ := okWide_struct hu hv
      rw [agg_of_agg e.1.1]
      simp [Value.cells]
    · rename_i m el hu
      simp only [Bool.and_eq_true] at e
      simp only [Value.okWide, hu] at hv
      obtain ⟨cs, rfl, _⟩ := hv
      rw [agg_of_agg e.1.1]
      simp [Value.cells]
    · cases e

theorem open_all {r : Reach} {b0 : Nat} : (ts : List TypeId) → (A : Ty) → isTys P ts A = true → (vs : List Value) → (ds : List (DataW H)) → (ps : List MemPlace) →
    DataW.TrodAll enc P w 0 (fun _ => true) true ts vs ds ps → (∀ (j : Nat) t v, ts[j]? = some t → vs[j]? = some v → Value.okWide P w r b0 t v) →
    ∃ y : A.den, trep (heapOf w) A y vs ∧ wf A y ∧ (IsBulk β → bulk A y ≤ (ds.map β).sum) ∧ ∀ m, (∀ q ∈ DataW.weightsEach P ts ds, q ≤ m) → wfm m A y
  | [], .unit, _, vs, ds, ps, h, _ => by
    obtain ⟨rfl, rfl, rfl⟩ := trodAll_nil h
    exact ⟨(), rfl, trivial, fun _ => Nat.zero_le _, fun _ _ => trivial⟩
  | [], .bool, e, _, _, _, _, _ => by cases e
  | [], .int _, e, _, _, _, _, _ => by cases e
  | [], .str, e, _, _, _, _, _ => by cases e
  | [], .sl _, e, _, _, _, _, _ => by cases e
  | [], .opt _, e, _, _, _, _, _ => by cases e
  | [], .mp _ _, e, _, _, _, _, _ => by cases e
  | [], .nd _ _ _ _, e, _, _, _, _, _ => by cases e
  | [], .pair _ _, e, _, _, _, _, _ => by cases e
  | _ :: _, .unit, e, _, _, _, _, _ => by cases e
  | _ :: _, .bool, e, _, _, _, _, _ => by cases e
  | _ :: _, .int _, e, _, _, _, _, _ => by cases e
  | _ :: _, .str, e, _, _, _, _, _ => by cases e
  | _ :: _, .sl _, e, _, _, _, _, _ => by cases e
  | _ :: _, .opt _, e, _, _, _, _, _ => by cases e
  | _ :: _, .mp _ _, e, _, _, _, _, _ => by cases e
  | _ :: _, .nd _ _ _ _, e, _, _, _, _, _ => by cases e
  | t :: ts, .pair a b, e, vs, ds, ps, h, hv => by
    simp only [isTys, Bool.and_eq_true] at e
    obtain ⟨v0, vs0, d0, ds0, p0, q0, rfl, rfl, rfl, h0, r0⟩ := trodAll_cons h
    obtain ⟨fuel, h0⟩ := h0
    obtain ⟨y1, s1, s2, s3, s4⟩ := open_trod (β := β) 40 t a fuel _ _ e.1 h0
    obtain ⟨y2, u1, u2, u3, u4⟩ := open_all ts b e.2 vs0 ds0 q0 r0 (fun j t v ht hv' => hv (j + 1) t v (by simpa using ht) (by simpa using hv'))
    refine ⟨(y1, y2), ⟨v0, vs0, rfl, ⟨_, s1, val_of_ok e.1 (hv 0 t v0 rfl rfl)⟩, u1⟩, ⟨s2, u2⟩, fun hb => ?_, fun m hm => ⟨s4 m fun q hq => hm q (by rw [DataW.weightsEach, List.mem_append]; exact .inl hq), u4 m fun q hq => hm q (by rw [DataW.weightsEach, List.mem_append]; exact .inr hq)⟩⟩
    have : bulk a y1 ≤ β d0 := s3 hb
    have := u3 hb
    simp only [bulk, List.map_cons, List.sum_cons]
    omega

theorem trodAll_below (hl : laidOutB P = true) {W W' : World} (hb : Below W.heap.size W W') : (ts : List TypeId) → (ts.all fun t => P.readableRec t && decide (t < P.types.size)) = true → (vs : List Value) → (ds : List (DataW H)) → (ps : List MemPlace) →
    DataW.TrodAll enc P W 0 (fun _ => true) true ts vs ds ps → DataW.TrodAll enc P W' 0 (fun b => decide (b < W.heap.size)) true ts vs ds ps
  | [], _, vs, ds, ps, h => by
    obtain ⟨rfl, rfl, rfl⟩ := trodAll_nil h
    exact trodAll_mk0
  | t :: ts, e, vs, ds, ps, h => by
    simp only [List.all_cons, Bool.and_eq_true, decide_eq_true_eq] at e
    obtain ⟨v0, vs0, d0, ds0, p0, q0, rfl, rfl, rfl, h0, r0⟩ := trodAll_cons h
    have lt0 : ∀ x ∈ p0, x.block < W.heap.size := by obtain ⟨m, hm⟩ := h0; exact DataW.trod_lt m _ _ _ hm
    exact trodAll_cons_mk (RowKit.Below.trod hl e.1.1 e.1.2 h0 hb.kit lt0) (trodAll_below hl hb ts e.2 vs0 ds0 q0 r0)
end

/-- No package variable is known. -/
def noGl : Nat → Option ((t : Ty) × t.den) := fun _ => none
/-- A law's contract: it returns true. -/
def lawC (A : Ty) (pre : A.den → Prop) : Contract := { arg := A, res := .bool, one := true, pre := pre, fn := fun _ => true }

/-- What a law's row asks of the function's table of types. -/
def lawOk (P : Program) (fn : Func) (A : Ty) (tb : TypeId) : Bool :=
  isTys P fn.params.toList A && (fn.params.toList.all fun t => P.readableRec t && decide (t < P.types.size)) && (match P.underlying tb with | some .bool => true | _ => false)

theorem law_post {H : Type} {enc : TypeId × Value → H} {P : Program} {fn : Func} {A : Ty} {tb : TypeId} {s : ChangeSpec} {f : FuncId} {pre : A.den → Prop} {W : World} {base : Nat} {args : Array Value} {ds gs : List (DataW H)} {before : List MemPlace} {apart : Bool}
    {β : DataW H → Nat} {gl : Nat → Option ((t : Ty) × t.den)} (hG : GlobOk gl (heapOf W))
    (hok : lawOk P fn A tb = true) (hl : laidOutB P = true) (hr : fn.resultTypes = #[tb]) (hs : s.vars = []) (hf : ∀ ds : List (DataW H), ds.length = fn.params.toList.length → s.fn H ds = { results := [.lit (.bool true)], args := ds })
    (hK : CallSpec P gl f (lawC A pre))
    (hval : ∀ (j : Nat) t v, fn.params[j]? = some t → args[j]? = some v → Value.okWide P W .any base t v)
    (hW : DataW.Whole enc P fn.params.toList s.vars apart W args.toList ds gs before)
    (hpre : ∀ y : A.den, wf A y → (IsBulk β → bulk A y ≤ (ds.map β).sum) → (∀ m, (∀ q ∈ DataW.weightsEach P fn.params.toList ds, q ≤ m) → wfm m A y) → pre y) :
    Calls P f args W fun e W' => ∃ v, e = .returned v ∧ s.post enc P fn apart true false false W args v W' := by
  have hW' := hW
  unfold lawOk at hok
  simp only [Bool.and_eq_true] at hok
  obtain ⟨⟨o1, o2⟩, o3⟩ := hok
  have hb : P.underlying tb = some .bool := by
    split at o3
    · assumption
    · cases o3
  obtain ⟨p, q, hA, hV, rfl, hfz, hnd⟩ := hW
  rw [hs] at hV
  obtain ⟨rfl, rfl⟩ := trodVars_none hV
  obtain ⟨y, y1, y2, y3, y4⟩ := open_all (β := β) (r := .any) (b0 := base) fn.params.toList A o1 args.toList ds p hA (fun j t v ht hv => hval j t v (by simpa using ht) (by simpa using hv))
  have hlen := Go.trodAll_length hA
  have hc := hK.2 y (heapOf W) W args.toList (hpre y y2 y3 y4) y1 (fun k o h => h) hG
  have htl : args.toList ++ tailVals (lawC A pre).tail = args.toList := by simp [tailVals, lawC]
  rw [htl, Array.toArray_toList] at hc
  refine hc.mono fun e W' hq => ?_
  obtain ⟨v, h', rfl, _, _, _, hv, bel⟩ := hq
  obtain ⟨cs, hcs, rfl⟩ := hv
  simp only [lawC, rep] at hcs
  subst hcs
  refine ⟨_, rfl, ds, [], p ++ [], [], p, [], hW', ?_, ?_, ?_, bel.kit.frame _, fun h => by cases h⟩
  · rw [List.append_nil, hf ds hlen.2, hr]
    exact trodAll_mk1 (shut_bool hb _)
  · rw [List.append_nil, hf ds hlen.2]
    exact trodAll_below hl bel _ o2 _ _ _ hA
  · rw [List.append_nil, hf ds hlen.2, hs]
    rfl
end Go.Fr
