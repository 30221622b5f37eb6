/-
  The program's table of types, checked; equality of data. Conditions: none.
-/
import Derived.Test.YtepnpmaoodljkaaDoorFrR
namespace Go.Fr
open Go Go.RowKit
universe u

def fieldsTy (P : Program) (rec : TypeId → Ty → Bool) : List Field → Ty → Nat → Bool
  | [], .unit, _ => true
  | f :: fs, .pair a b, off => f.name != "_" && Nat.beq f.offset off && (match P.info? f.type, P.underlying f.type with
      | some i, some d => Nat.beq i.size a.size && (aggDesc d == a.isAgg)
      | _, _ => false) && rec f.type a && fieldsTy P rec fs b (off + a.size)
  | _, _, _ => false
def arrTy (P : Program) (rec : TypeId → Ty → Bool) (e : TypeId) : Nat → Ty → Bool
  | 0, .unit => true
  | n + 1, .pair a b => (match P.info? e, P.underlying e with
      | some i, some d => Nat.beq i.size a.size && (aggDesc d == a.isAgg)
      | _, _ => false) && rec e a && arrTy P rec e n b
  | _, _ => false

/-- A type's data are compared as these data are. -/
def eqTy (P : Program) : Nat → TypeId → Ty → Bool
  | 0, _, _ => false
  | d + 1, t, T => match P.underlying t with
    | some .bool => (match T with | .bool => true | _ => false)
    | some (.int k) => (match T with | .int k' => sameKind k k' | _ => false)
    | some .string => (match T with | .str => true | _ => false)
    | some (.struct fs) => !P.stoodInHeld t && fieldsTy P (eqTy P d) fs.toList T 0
    | some (.array n e) => Nat.ble 1 n && arrTy P (eqTy P d) e n T
    | _ => false

section
variable {P : Program} {w : World} {h : PHeap}

theorem run_part_mid {t : TypeId} {i : TypeInfo} {d : TypeDesc} {a : Ty} (hi : P.info? t = some i) (hd : P.underlying t = some d) (hs : i.size = a.size) (hg : aggDesc d = a.isAgg) {x : a.den} {pre c1 rest : List Value} (hr : rep h a x c1) :
    (part t (pre ++ (c1 ++ rest)).toArray pre.length).run P w = .ok (a.val c1) w := by
  have hl := rep_len a x c1 hr
  unfold part
  simp only [Sem.run_bind, run_isAgg_of hd, Result.andThen_ok, hg]
  cases ha : a.isAgg with
  | true =>
    simp only [if_true, Sem.run_bind, run_sizeOf_of hi, hs, Result.andThen_ok, Sem.run_pure]
    have : (pre ++ (c1 ++ rest)).toArray.extract pre.length (pre.length + a.size) = c1.toArray := by
      apply Array.ext'
      simp [← hl]
    rw [this]
    cases a <;> first | rfl | cases ha
  | false =>
    obtain ⟨e1, _⟩ := val_one a x c1 hr ha
    have : (pre ++ (c1 ++ rest))[pre.length]? = some (a.val c1) := by
      rw [List.getElem?_append_right (Nat.le_refl _), Nat.sub_self]
      have h0 : c1[0]? = some (a.val c1) := by
        conv => lhs; rw [e1]
        rfl
      rw [List.getElem?_append_left (List.getElem?_eq_some_iff.1 h0).1]
      exact h0
    simp [this]

theorem agg_of_agg {t : Ty} {cs : List Value} (ha : t.isAgg = true) : t.val cs = .agg cs.toArray := by cases t <;> first | rfl | cases ha

theorem eqFields_run {rec : TypeId → Ty → Bool} {D : Nat} (hrec : ∀ t T, rec t T = true → ∀ (x y : T.den) cs ds (w : World), rep h T x cs → rep h T y ds → (Op.equalIn D t (T.val cs) (T.val ds)).run P w = .ok (T.beq x y) w) :
    (fs : List Field) → (T : Ty) → (off : Nat) → fieldsTy P rec fs T off = true → ∀ (x y : T.den) (pre pre' cs ds : List Value), pre.length = off → pre'.length = off → rep h T x cs → rep h T y ds →
      (Op.eqFields D (pre ++ cs).toArray (pre' ++ ds).toArray fs).run P w = .ok (T.beq x y) w
  | [], .unit, off, _, x, y, pre, pre', cs, ds, _, _, _, _ => rfl
  | f :: fs, .pair a b, off, e, x, y, pre, pre', cs, ds, hp, hp', hx, hy => by
    simp only [fieldsTy, Bool.and_eq_true] at e
    obtain ⟨⟨⟨⟨e1, e2⟩, e3⟩, e4⟩, e5⟩ := e
    split at e3
    · rename_i i d hi hd
      simp only [Bool.and_eq_true] at e3
      have s1 : i.size = a.size := Nat.eq_of_beq_eq_true e3.1
      have s2 : aggDesc d = a.isAgg := by simpa using e3.2
      have s3 : f.offset = off := Nat.eq_of_beq_eq_true e2
      obtain ⟨c1, c2, rfl, q1, q2⟩ := hx
      obtain ⟨d1, d2, rfl, r1, r2⟩ := hy
      have p1 := run_part_mid (P := P) (w := w) (pre := pre) (rest := c2) hi hd s1 s2 q1
      have p2 := run_part_mid (P := P) (w := w) (pre := pre') (rest := d2) hi hd s1 s2 r1
      rw [hp, ← s3] at p1
      rw [hp', ← s3] at p2
      have p3 := hrec f.type a e4 x.1 y.1 c1 d1 w q1 r1
      have hname : f.name ≠ "_" := by simpa using e1
      simp only [Op.eqFields, if_pos hname, Sem.run_bind, p1, p2, p3, Result.andThen_ok]
      have ih := eqFields_run hrec fs b (off + a.size) e5 x.2 y.2 (pre ++ c1) (pre' ++ d1) c2 d2 (by rw [List.length_append, hp, rep_len a _ _ q1]) (by rw [List.length_append, hp', rep_len a _ _ r1]) q2 r2
      rw [List.append_assoc, List.append_assoc] at ih
      cases hb : a.beq x.1 y.1 with
      | true => simp only [Bool.not_true, Bool.false_eq_true, if_false, Ty.beq, hb, Bool.true_and]; exact ih
      | false => simp only [Bool.not_false, if_true, Ty.beq, hb, Bool.false_and]; rfl
    · cases e3
  | [], .pair _ _, _, e, _, _, _, _, _, _, _, _, _, _ => by cases e
  | [], .bool, _, e, _, _, _, _, _, _, _, _, _, _ => by cases e
  | [], .int _, _, e, _, _, _, _, _, _, _, _, _, _ => by cases e
  | [], .str, _, e, _, _, _, _, _, _, _, _, _, _ => by cases e
  | [], .sl _, _, e, _, _, _, _, _, _, _, _, _, _ => by cases e
  | _ :: _, .unit, _, e, _, _, _, _, _, _, _, _, _, _ => by cases e
  | _ :: _, .bool, _, e, _, _, _, _, _, _, _, _, _, _ => by cases e
  | _ :: _, .int _, _, e, _, _, _, _, _, _, _, _, _, _ => by cases e
  | _ :: _, .str, _, e, _, _, _, _, _, _, _, _, _, _ => by cases e
  | _ :: _, .sl _, _, e, _, _, _, _, _, _, _, _, _, _ => by cases e

/-- The comparison of arrays, element by element. -/
def eqArr (D : Nat) (e : TypeId) (n : Nat) (xs ys : Array Value) : List Nat → Sem Bool
  | [] => pure true
  | i :: is => do
    let a ← part e xs (i * n)
    let b ← part e ys (i * n)
    let r ← Op.equalIn D e a b
    if (!r) = true then pure false else eqArr D e n xs ys is

theorem run_equalIn_arr {D n s : Nat} {t e : TypeId} {xs ys : Array Value} {i : TypeInfo} (ht : P.underlying t = some (.array n e)) (hi : P.info? e = some i) (hs : i.size = s) :
    (Op.equalIn (D + 1) t (.agg xs) (.agg ys)).run P w = (eqArr D e s xs ys (List.range' 0 n)).run P w := by
  simp only [Op.equalIn, Sem.run_bind, run_underlying ht, Result.andThen_ok, run_sizeOf_of hi, hs]
  rw [Std.Legacy.Range.forIn_eq_forIn_range']
  simp only [Std.Legacy.Range.size, Nat.sub_zero, Nat.add_sub_cancel, Nat.div_one]
  generalize List.range' 0 n = l
  induction l generalizing w with
  | nil => simp [eqArr]
  | cons j l ih =>
    simp only [List.forIn_cons, eqArr, Sem.run_bind]
    generalize (part e xs (j * s)).run P w = r1
    cases r1 with
    | ok a w1 =>
      simp only [Result.andThen_ok]
      generalize (part e ys (j * s)).run P w1 = r2
      cases r2 with
      | ok b w2 =>
        simp only [Result.andThen_ok]
        generalize (Op.equalIn D e a b).run P w2 = r3
        cases r3 with
        | ok r w3 =>
          cases r
          · simp only [Result.andThen_ok, Bool.not_false, if_true, Sem.run_pure]
          · simp only [Result.andThen_ok, Bool.not_true, Bool.false_eq_true, if_false, Sem.run_pure]
            exact ih
        | halt x w3 => simp [Result.andThen]
      | halt x w2 => simp [Result.andThen]
    | halt x w1 => simp [Result.andThen]

theorem eqArr_run {rec : TypeId → Ty → Bool} {D : Nat} (hrec : ∀ t T, rec t T = true → ∀ (x y : T.den) cs ds (w : World), rep h T x cs → rep h T y ds → (Op.equalIn D t (T.val cs) (T.val ds)).run P w = .ok (T.beq x y) w) {e : TypeId} {s : Nat} {i : TypeInfo} (hi : P.info? e = some i) (hs : i.size = s) :
    (m : Nat) → (T : Ty) → (k : Nat) → arrTy P rec e m T = true → ∀ (x y : T.den) (pre pre' cs ds : List Value), pre.length = k * s → pre'.length = k * s → rep h T x cs → rep h T y ds →
      (eqArr D e s (pre ++ cs).toArray (pre' ++ ds).toArray (List.range' k m)).run P w = .ok (T.beq x y) w
  | 0, .unit, k, _, x, y, pre, pre', cs, ds, _, _, _, _ => rfl
  | m + 1, .pair a b, k, e0, x, y, pre, pre', cs, ds, hp, hp', hx, hy => by
    simp only [arrTy, Bool.and_eq_true] at e0
    obtain ⟨⟨e1, e2⟩, e3⟩ := e0
    split at e1
    · rename_i i' d hi' hd
      rw [hi] at hi'
      injection hi' with hi'
      subst hi'
      simp only [Bool.and_eq_true] at e1
      have s1 : i.size = a.size := Nat.eq_of_beq_eq_true e1.1
      have s2 : aggDesc d = a.isAgg := by simpa using e1.2
      obtain ⟨c1, c2, rfl, q1, q2⟩ := hx
      obtain ⟨d1, d2, rfl, r1, r2⟩ := hy
      have p1 := run_part_mid (P := P) (w := w) (pre := pre) (rest := c2) hi hd s1 s2 q1
      have p2 := run_part_mid (P := P) (w := w) (pre := pre') (rest := d2) hi hd s1 s2 r1
      rw [hp] at p1
      rw [hp'] at p2
      have p3 := hrec e a e2 x.1 y.1 c1 d1 w q1 r1
      simp only [List.range'_succ, eqArr, Sem.run_bind, p1, p2, p3, Result.andThen_ok]
      have ih := eqArr_run hrec hi hs m b (k + 1) e3 x.2 y.2 (pre ++ c1) (pre' ++ d1) c2 d2 (by rw [List.length_append, hp, rep_len a _ _ q1, Nat.add_mul]; omega) (by rw [List.length_append, hp', rep_len a _ _ r1, Nat.add_mul]; omega) q2 r2
      rw [List.append_assoc, List.append_assoc] at ih
      cases hb : a.beq x.1 y.1 with
      | true => simp only [Bool.not_true, Bool.false_eq_true, if_false, Ty.beq, hb, Bool.true_and]; exact ih
      | false => simp only [Bool.not_false, if_true, Ty.beq, hb, Bool.false_and]; rfl
    · cases e1
  | 0, .pair _ _, _, e, _, _, _, _, _, _, _, _, _, _ => by cases e
  | 0, .bool, _, e, _, _, _, _, _, _, _, _, _, _ => by cases e
  | 0, .int _, _, e, _, _, _, _, _, _, _, _, _, _ => by cases e
  | 0, .str, _, e, _, _, _, _, _, _, _, _, _, _ => by cases e
  | 0, .sl _, _, e, _, _, _, _, _, _, _, _, _, _ => by cases e
  | _ + 1, .unit, _, e, _, _, _, _, _, _, _, _, _, _ => by cases e
  | _ + 1, .bool, _, e, _, _, _, _, _, _, _, _, _, _ => by cases e
  | _ + 1, .int _, _, e, _, _, _, _, _, _, _, _, _, _ => by cases e
  | _ + 1, .str, _, e, _, _, _, _, _, _, _, _, _, _ => by cases e
  | _ + 1, .sl _, _, e, _, _, _, _, _, _, _, _, _, _ => by cases e

theorem eqTy_run : (d : Nat) → ∀ (D : Nat), d ≤ D → ∀ (t : TypeId) (T : Ty), eqTy P d t T = true → ∀ (x y : T.den) cs ds (w : World), rep h T x cs → rep h T y ds → (Op.equalIn D t (T.val cs) (T.val ds)).run P w = .ok (T.beq x y) w
  | 0, _, _, _, _, e, _, _, _, _, _, _, _ => by cases e
  | d + 1, 0, hd, _, _, _, _, _, _, _, _, _, _ => by omega
  | d + 1, D + 1, hd, t, T, e, x, y, cs, ds, w, hx, hy => by
    simp only [eqTy] at e
    have hrec : ∀ t T, eqTy P d t T = true → ∀ (x y : T.den) cs ds (w : World), rep h T x cs → rep h T y ds → (Op.equalIn D t (T.val cs) (T.val ds)).run P w = .ok (T.beq x y) w :=
      fun t T e x y cs ds w hx hy => eqTy_run d D (by omega) t T e x y cs ds w hx hy
    split at e
    · rename_i hu
      cases T <;> first | (cases e; done) | skip
      simp only [rep] at hx hy
      subst hx hy
      exact run_equalIn_bool' w D t x y hu
    · rename_i k hu
      cases T <;> first | (cases e; done) | skip
      rename_i k'
      have := sameKind_eq e
      subst this
      simp only [rep] at hx hy
      subst hx hy
      exact run_equalIn_int w D t k k x y hu
    · rename_i hu
      cases T <;> first | (cases e; done) | skip
      simp only [rep] at hx hy
      subst hx hy
      have := run_equalIn_string w D t x y hu
      rw [← beq_toListBytes] at this
      exact this
    · rename_i fs hu
      simp only [Bool.and_eq_true, Bool.not_eq_true'] at e
      have hagg : T.isAgg = true := by
        obtain ⟨_, e2⟩ := e
        generalize fs.toList = l at e2
        cases l <;> cases T <;> first | rfl | cases e2
      rw [agg_of_agg hagg, agg_of_agg hagg]
      have hf : P.fieldsOf t = fs := by simp [Program.fieldsOf, hu]
      rw [run_equalIn_struct w D t _ _ (by rw [hf]; exact hu) e.1, hf]
      exact eqFields_run hrec fs.toList T 0 e.2 x y [] [] cs ds rfl rfl hx hy
    · rename_i n el hu
      simp only [Bool.and_eq_true] at e
      obtain ⟨e0, e⟩ := e
      have hagg : T.isAgg = true := by
        cases n <;> cases T <;> first | rfl | cases e
      rw [agg_of_agg hagg, agg_of_agg hagg]
      cases n with
      | zero => cases e0
      | succ n =>
        cases T <;> first | (cases e; done) | skip
        have e' := e
        simp only [arrTy, Bool.and_eq_true] at e
        obtain ⟨⟨e1, _⟩, _⟩ := e
        split at e1
        · rename_i i dd hi hdd
          rw [run_equalIn_arr hu hi rfl]
          exact eqArr_run hrec hi rfl (n + 1) _ 0 e' x y [] [] cs ds (by simp) (by simp) hx hy
        · cases e1
    · cases e
end
end Go.Fr
