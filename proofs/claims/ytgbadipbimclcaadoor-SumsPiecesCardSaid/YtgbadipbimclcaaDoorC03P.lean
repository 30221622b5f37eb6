/-
  Chapter 03: proofs of the conditions, first part. Conditions: none.
-/
import Derived.Test.YtgbadipbimclcaaDoorC03V
namespace Go.Fr.C03
open Go Go.Fr Go.Proofs

theorem right_iff {r : Int} : right r = true ↔ 0 ≤ r ∧ r ≤ 1114111 ∧ (r < 55296 ∨ r > 57343) := by simp [right]
theorem right_no {r : Int} : right r = false ↔ ¬ (0 ≤ r ∧ r ≤ 1114111 ∧ (r < 55296 ∨ r > 57343)) := by rw [← right_iff]; simp
theorem p17 : vc17 := by
  unfold vc17
  simp only [eq_self, true_and, and_true, decide_eq_true_eq, decide_eq_false_iff_not, beq_iff_eq, beq_eq_false_iff_ne, bne_iff_ne, bne_eq_false_iff_eq, Bool.not_eq_true', Bool.not_eq_false', ne_eq, imp_true_iff, implies_true]
  rintro ⟨r, ⟨⟩⟩ _
  simp only
  refine ⟨fun h1 => ⟨by decide, fun h2 => ⟨fun h3 => ?_, fun h3 => ?_⟩, fun h2 => ?_⟩, fun h1 => ?_⟩
  · exact (right_iff.2 (by omega)).symm
  · rw [Bool.eq_iff_iff, decide_eq_true_eq, right_iff]; omega
  · exact (right_no.2 (by omega)).symm
  · exact (right_no.2 (by omega)).symm
theorem p18 : vc18 := by
  unfold vc18
  simp only [eq_self, true_and, and_true, decide_eq_true_eq, decide_eq_false_iff_not, beq_iff_eq, beq_eq_false_iff_ne, bne_iff_ne, bne_eq_false_iff_eq, Bool.not_eq_true', Bool.not_eq_false', ne_eq, imp_true_iff, implies_true]
  intro x _
  unfold uSize
  (repeat' (first | apply And.intro | intro _))
  all_goals (repeat' split)
  all_goals omega
theorem p9 : vc9 := fun _ _ => rfl
theorem p11 : vc11 := fun _ _ => rfl
theorem sizeR_1 {r : Int} (h : right r = true) : sizeR r = if r ≤ 127 then 1 else if r ≤ 2047 then 2 else if r ≤ 65535 then 3 else 4 := by
  rw [right_iff] at h
  unfold sizeR uSize
  repeat' split
  all_goals omega
theorem sizeR_0 {r : Int} (h : right r = false) : sizeR r = 3 := by
  rw [right_no] at h
  unfold sizeR uSize
  repeat' split
  all_goals omega
theorem p14 : vc14 := by
  unfold vc14
  simp only [eq_self, true_and, and_true, decide_eq_true_eq, decide_eq_false_iff_not, beq_iff_eq, beq_eq_false_iff_ne, bne_iff_ne, bne_eq_false_iff_eq, Bool.not_eq_true', Bool.not_eq_false', ne_eq, imp_true_iff, implies_true]
  rintro ⟨r, ⟨⟩⟩ _
  have h65 : right 65533 = true := by decide
  have w1 : IntKind.i64.wrap (0 + 1) = 1 := by decide
  have w2 : IntKind.i64.wrap (1 + 1) = 2 := by decide
  have w3 : IntKind.i64.wrap (2 + 1) = 3 := by decide
  have w4 : IntKind.i64.wrap (3 + 1) = 4 := by decide
  have u1 : IntKind.i64.wrap 1 = 1 := by decide
  simp only [h65, w1, w2, w3, w4, reduceCtorEq, false_implies, true_and, forall_const, and_true]
  refine ⟨fun h => ?_, fun h => ?_⟩
  · have := sizeR_0 h
    (repeat' (first | apply And.intro | intro _))
    all_goals first | omega | (exfalso; omega)
  · have := sizeR_1 h
    have := right_iff.1 h
    (repeat' (first | apply And.intro | intro _))
    all_goals (repeat' split at *)
    all_goals first | omega | (exfalso; omega)
theorem bytesOf_congr {a b : List Int} (h : a = b) : bytesOf a = bytesOf b := by rw [h]
theorem p19 : vc19 := by
  unfold vc19
  simp only [eq_self, true_and, and_true, decide_eq_true_eq, decide_eq_false_iff_not, beq_iff_eq, beq_eq_false_iff_ne, bne_iff_ne, bne_eq_false_iff_eq, Bool.not_eq_true', Bool.not_eq_false', ne_eq, imp_true_iff, implies_true]
  rintro ⟨r, n, ⟨⟩⟩
  simp only
  rintro ⟨h0, h1, hn⟩
  have t1 : ∀ d : Int, Int.tdiv r d = r / d := fun d => Int.tdiv_eq_ediv_of_nonneg h0
  have t2 : ∀ d : Int, Int.tmod r d = r % d := fun d => Int.tmod_eq_emod_of_nonneg h0
  have q64 : 0 ≤ r / 64 := by omega
  have q4096 : 0 ≤ r / 4096 := by omega
  have w1 : IntKind.i32.wrap (r / 64) = r / 64 := by rw [wrap32_eq]; omega
  have w2 : IntKind.i32.wrap (r / 4096) = r / 4096 := by rw [wrap32_eq]; omega
  have t3 : ∀ d : Int, Int.tmod (r / 64) d = r / 64 % d := fun d => Int.tmod_eq_emod_of_nonneg q64
  have t4 : ∀ d : Int, Int.tmod (r / 4096) d = r / 4096 % d := fun d => Int.tmod_eq_emod_of_nonneg q4096
  simp only [t1, t2, w1, w2, t3, t4]
  refine ⟨fun e => ?_, fun e1 => ⟨fun e => ⟨by decide, ?_⟩, fun e2 => ⟨fun e => ⟨by decide, by decide, ?_⟩, fun e3 => ⟨by decide, by decide, by decide, ?_⟩⟩⟩⟩
  · subst e
    have := uSize_1.1 hn
    refine bytesOf_congr ?_
    simp only [uBytes, if_true, wrap8_eq, List.cons.injEq, and_true]
    omega
  · subst e
    have := uSize_2.1 hn
    refine ⟨by decide, bytesOf_congr ?_⟩
    unfold uBytes
    rw [if_neg (by decide), if_pos rfl]
    simp only [wrap8_eq, wrap32_eq, List.cons.injEq, and_true]
    omega
  · subst e
    have := uSize_3.1 hn
    refine ⟨by decide, by decide, bytesOf_congr ?_⟩
    unfold uBytes
    rw [if_neg (by decide), if_neg (by decide), if_pos rfl]
    simp only [wrap8_eq, wrap32_eq, List.cons.injEq, and_true]
    omega
  · refine ⟨by decide, by decide, by decide, bytesOf_congr ?_⟩
    unfold uBytes
    rw [if_neg e1, if_neg e2, if_neg e3]
    simp only [wrap8_eq, wrap32_eq, List.cons.injEq, and_true]
    omega
theorem uBytes_bd {r n : Int} (h0 : 0 ≤ r) (h1 : r ≤ 1114111) (hn : uSize r = n) : ∀ x ∈ uBytes r n, 0 ≤ x ∧ x < 256 := by
  unfold uBytes
  intro x hx
  split at hx
  · rename_i e
    have := uSize_1.1 (hn.trans e)
    simp only [List.mem_cons, List.not_mem_nil, or_false] at hx
    omega
  split at hx
  · rename_i e
    have := uSize_2.1 (hn.trans e)
    simp only [List.mem_cons, List.not_mem_nil, or_false] at hx
    omega
  split at hx
  · rename_i e
    have := uSize_3.1 (hn.trans e)
    simp only [List.mem_cons, List.not_mem_nil, or_false] at hx
    omega
  · simp only [List.mem_cons, List.not_mem_nil, or_false] at hx
    omega
theorem uSize_bd {r n : Int} (h : uSize r = n) (hn : n ≠ 0) : 0 ≤ r ∧ r ≤ 1114111 := by
  unfold uSize at h
  split at h
  · omega
  · omega

theorem d21 : Ty.dflt t21 = (0 : Int) := rfl
theorem encB_size (x : Int) : (encB x).size ≤ 4 := by
  have h : ∀ l : List Int, (bytesOf l).size = l.length := fun l => by
    show ((l.map fun n => UInt8.ofNat n.toNat).toArray).size = l.length
    simp
  unfold encB
  split
  · rw [h]; decide
  · rw [h]
    unfold uBytes
    repeat' split
    all_goals simp
theorem encode_take {l : List Int} {k : Nat} (h : k < l.length) : encode (l.take (k + 1)) = encode (l.take k) ++ encB (l.getD k 0) := by
  unfold encode
  rw [foldl_take_succ h, getD_of _ h]
theorem encode_len (l : List Int) : ∀ k, k ≤ l.length → (encode (l.take k)).size ≤ 4 * k
  | 0, _ => by show ByteArray.empty.size ≤ _; exact Nat.zero_le _
  | k + 1, h => by
    have ih := encode_len l k (by omega)
    rw [encode_take (by omega), ByteArray.size_append]
    have := encB_size (l.getD k 0)
    omega
theorem p16 : vc16 := by
  unfold vc16
  simp only [eq_self, true_and, and_true, decide_eq_true_eq, decide_eq_false_iff_not, beq_iff_eq, beq_eq_false_iff_ne, bne_iff_ne, bne_eq_false_iff_eq, Bool.not_eq_true', Bool.not_eq_false', ne_eq, imp_true_iff, implies_true]
  rintro ⟨l, ⟨⟩⟩
  simp only
  intro hl
  rw [d21]
  refine ⟨fun z => ∃ k : Nat, k ≤ l.length ∧ z.2.1 = (k : Int) ∧ z.1 = encode (l.take k), fun z => l.length - z.2.1.toNat, ⟨0, Nat.zero_le _, rfl, rfl⟩, ?_⟩
  rintro a i ⟨k, hk, hi, ha⟩
  simp only at hi ha
  subst hi ha
  refine ⟨fun h => ?_, fun h => ?_⟩
  · have hlt : k < l.length := by omega
    have hw : IntKind.i64.wrap ((k : Int) + 1) = ((k + 1 : Nat) : Int) := wrap_succ (by omega)
    have el := encode_len l k hk
    have es := encB_size (l.getD k 0)
    have et := encode_take hlt
    rw [toNat_cast, hw]
    have hdec : l.length - (((k + 1 : Nat) : Int)).toNat < l.length - (k : Int).toNat := by rw [toNat_cast, toNat_cast]; omega
    unfold encB at es et
    refine ⟨by omega, fun g => ?_, fun g => ?_⟩
    · rw [if_pos g] at es et
      exact ⟨⟨by decide, by decide, by decide⟩, by omega, ⟨k + 1, hlt, rfl, et.symm⟩, hdec⟩
    · rw [if_neg g] at es et
      have := uSize_bd (r := l.getD k 0) rfl g
      exact ⟨⟨this.1, this.2⟩, by omega, ⟨k + 1, hlt, rfl, et.symm⟩, hdec⟩
  · have : k = l.length := by omega
    subst this
    rw [List.take_length]
end Go.Fr.C03
