/-
  Chapter 01: proofs of the conditions, first part. Conditions: none.
-/
import Derived.Test.YtldninnfpindoaaDoorC01V
namespace Go.Fr.C01
open Go Go.Fr Go.Proofs

theorem right_iff {r : Int} : right r = true ↔ 0 ≤ r ∧ r ≤ 1114111 ∧ (r < 55296 ∨ r > 57343) := by simp [right]
theorem right_no {r : Int} : right r = false ↔ ¬ (0 ≤ r ∧ r ≤ 1114111 ∧ (r < 55296 ∨ r > 57343)) := by rw [← right_iff]; simp
theorem p23 : vc23 := by
  unfold vc23
  simp only [eq_self, true_and, and_true, decide_eq_true_eq, decide_eq_false_iff_not, beq_iff_eq, beq_eq_false_iff_ne, bne_iff_ne, bne_eq_false_iff_eq, Bool.not_eq_true', Bool.not_eq_false', ne_eq, imp_true_iff, implies_true]
  rintro ⟨r, ⟨⟩⟩ _
  simp only
  refine ⟨fun h1 => ⟨by decide, fun h2 => ⟨fun h3 => ?_, fun h3 => ?_⟩, fun h2 => ?_⟩, fun h1 => ?_⟩
  · exact (right_iff.2 (by omega)).symm
  · rw [Bool.eq_iff_iff, decide_eq_true_eq, right_iff]; omega
  · exact (right_no.2 (by omega)).symm
  · exact (right_no.2 (by omega)).symm
theorem p24 : vc24 := by
  unfold vc24
  simp only [eq_self, true_and, and_true, decide_eq_true_eq, decide_eq_false_iff_not, beq_iff_eq, beq_eq_false_iff_ne, bne_iff_ne, bne_eq_false_iff_eq, Bool.not_eq_true', Bool.not_eq_false', ne_eq, imp_true_iff, implies_true]
  intro x _
  unfold uSize
  (repeat' (first | apply And.intro | intro _))
  all_goals (repeat' split)
  all_goals omega
theorem sizeR_1 {r : Int} (h : right r = true) : sizeR r = if r ≤ 127 then 1 else if r ≤ 2047 then 2 else if r ≤ 65535 then 3 else 4 := by
  rw [right_iff] at h
  unfold sizeR uSize
  repeat' split
  all_goals omega
theorem sizeR_0 {r : Int} (h : right r = false) : sizeR r = 3 := by
  rw [right_no] at h
  unfold sizeR uSize
  repeat' split
  all_goals omega
theorem p10 : vc10 := by
  unfold vc10
  simp only [eq_self, true_and, and_true, decide_eq_true_eq, decide_eq_false_iff_not, beq_iff_eq, beq_eq_false_iff_ne, bne_iff_ne, bne_eq_false_iff_eq, Bool.not_eq_true', Bool.not_eq_false', ne_eq, imp_true_iff, implies_true]
  rintro ⟨r, ⟨⟩⟩ _
  have h65 : right 65533 = true := by decide
  have w1 : IntKind.i64.wrap (0 + 1) = 1 := by decide
  have w2 : IntKind.i64.wrap (1 + 1) = 2 := by decide
  have w3 : IntKind.i64.wrap (2 + 1) = 3 := by decide
  have w4 : IntKind.i64.wrap (3 + 1) = 4 := by decide
  have u1 : IntKind.i64.wrap 1 = 1 := by decide
  simp only [h65, w1, w2, w3, w4, reduceCtorEq, false_implies, true_and, forall_const, and_true]
  refine ⟨fun h => ?_, fun h => ?_⟩
  · have := sizeR_0 h
    (repeat' (first | apply And.intro | intro _))
    all_goals first | omega | (exfalso; omega)
  · have := sizeR_1 h
    have := right_iff.1 h
    (repeat' (first | apply And.intro | intro _))
    all_goals (repeat' split at *)
    all_goals first | omega | (exfalso; omega)
theorem bytesOf_congr {a b : List Int} (h : a = b) : bytesOf a = bytesOf b := by rw [h]
theorem p25 : vc25 := by
  unfold vc25
  simp only [eq_self, true_and, and_true, decide_eq_true_eq, decide_eq_false_iff_not, beq_iff_eq, beq_eq_false_iff_ne, bne_iff_ne, bne_eq_false_iff_eq, Bool.not_eq_true', Bool.not_eq_false', ne_eq, imp_true_iff, implies_true]
  rintro ⟨r, n, ⟨⟩⟩
  simp only
  rintro ⟨h0, h1, hn⟩
  have t1 : ∀ d : Int, Int.tdiv r d = r / d := fun d => Int.tdiv_eq_ediv_of_nonneg h0
  have t2 : ∀ d : Int, Int.tmod r d = r % d := fun d => Int.tmod_eq_emod_of_nonneg h0
  have q64 : 0 ≤ r / 64 := by omega
  have q4096 : 0 ≤ r / 4096 := by omega
  have w1 : IntKind.i32.wrap (r / 64) = r / 64 := by rw [wrap32_eq]; omega
  have w2 : IntKind.i32.wrap (r / 4096) = r / 4096 := by rw [wrap32_eq]; omega
  have t3 : ∀ d : Int, Int.tmod (r / 64) d = r / 64 % d := fun d => Int.tmod_eq_emod_of_nonneg q64
  have t4 : ∀ d : Int, Int.tmod (r / 4096) d = r / 4096 % d := fun d => Int.tmod_eq_emod_of_nonneg q4096
  simp only [t1, t2, w1, w2, t3, t4]
  refine ⟨fun e => ?_, fun e1 => ⟨fun e => ⟨by decide, ?_⟩, fun e2 => ⟨fun e => ⟨by decide, by decide, ?_⟩, fun e3 => ⟨by decide, by decide, by decide, ?_⟩⟩⟩⟩
  · subst e
    have := uSize_1.1 hn
    refine bytesOf_congr ?_
    simp only [uBytes, if_true, wrap8_eq, List.cons.injEq, and_true]
    omega
  · subst e
    have := uSize_2.1 hn
    refine ⟨by decide, bytesOf_congr ?_⟩
    unfold uBytes
    rw [if_neg (by decide), if_pos rfl]
    simp only [wrap8_eq, wrap32_eq, List.cons.injEq, and_true]
    omega
  · subst e
    have := uSize_3.1 hn
    refine ⟨by decide, by decide, bytesOf_congr ?_⟩
    unfold uBytes
    rw [if_neg (by decide), if_neg (by decide), if_pos rfl]
    simp only [wrap8_eq, wrap32_eq, List.cons.injEq, and_true]
    omega
  · refine ⟨by decide, by decide, by decide, bytesOf_congr ?_⟩
    unfold uBytes
    rw [if_neg e1, if_neg e2, if_neg e3]
    simp only [wrap8_eq, wrap32_eq, List.cons.injEq, and_true]
    omega
theorem uBytes_bd {r n : Int} (h0 : 0 ≤ r) (h1 : r ≤ 1114111) (hn : uSize r = n) : ∀ x ∈ uBytes r n, 0 ≤ x ∧ x < 256 := by
  unfold uBytes
  intro x hx
  split at hx
  · rename_i e
    have := uSize_1.1 (hn.trans e)
    simp only [List.mem_cons, List.not_mem_nil, or_false] at hx
    omega
  split at hx
  · rename_i e
    have := uSize_2.1 (hn.trans e)
    simp only [List.mem_cons, List.not_mem_nil, or_false] at hx
    omega
  split at hx
  · rename_i e
    have := uSize_3.1 (hn.trans e)
    simp only [List.mem_cons, List.not_mem_nil, or_false] at hx
    omega
  · simp only [List.mem_cons, List.not_mem_nil, or_false] at hx
    omega
theorem uSize_bd {r n : Int} (h : uSize r = n) (hn : n ≠ 0) : 0 ≤ r ∧ r ≤ 1114111 := by
  unfold uSize at h
  split at h
  · omega
  · omega

theorem d21 : Ty.dflt t21 = (0 : Int) := rfl
theorem encB_size (x : Int) : (encB x).size ≤ 4 := by
  have h : ∀ l : List Int, (bytesOf l).size = l.length := fun l => by
    show ((l.map fun n => UInt8.ofNat n.toNat).toArray).size = l.length
    simp
  unfold encB
  split
  · rw [h]; decide
  · rw [h]
    unfold uBytes
    repeat' split
    all_goals simp
theorem encode_take {l : List Int} {k : Nat} (h : k < l.length) : encode (l.take (k + 1)) = encode (l.take k) ++ encB (l.getD k 0) := by
  unfold encode
  rw [foldl_take_succ h, getD_of _ h]
theorem encode_len (l : List Int) : ∀ k, k ≤ l.length → (encode (l.take k)).size ≤ 4 * k
  | 0, _ => by show ByteArray.empty.size ≤ _; exact Nat.zero_le _
  | k + 1, h => by
    have ih := encode_len l k (by omega)
    rw [encode_take (by omega), ByteArray.size_append]
    have := encB_size (l.getD k 0)
    omega
theorem p13 : vc13 := by
  unfold vc13
  simp only [eq_self, true_and, and_true, decide_eq_true_eq, decide_eq_false_iff_not, beq_iff_eq, beq_eq_false_iff_ne, bne_iff_ne, bne_eq_false_iff_eq, Bool.not_eq_true', Bool.not_eq_false', ne_eq, imp_true_iff, implies_true]
  rintro ⟨l, ⟨⟩⟩
  simp only
  intro hl
  rw [d21]
  refine ⟨fun z => ∃ k : Nat, k ≤ l.length ∧ z.2.1 = (k : Int) ∧ z.1 = encode (l.take k), fun z => l.length - z.2.1.toNat, ⟨0, Nat.zero_le _, rfl, rfl⟩, ?_⟩
  rintro a i ⟨k, hk, hi, ha⟩
  simp only at hi ha
  subst hi ha
  refine ⟨fun h => ?_, fun h => ?_⟩
  · have hlt : k < l.length := by omega
    have hw : IntKind.i64.wrap ((k : Int) + 1) = ((k + 1 : Nat) : Int) := wrap_succ (by omega)
    have el := encode_len l k hk
    have es := encB_size (l.getD k 0)
    have et := encode_take hlt
    rw [toNat_cast, hw]
    have hdec : l.length - (((k + 1 : Nat) : Int)).toNat < l.length - (k : Int).toNat := by rw [toNat_cast, toNat_cast]; omega
    unfold encB at es et
    refine ⟨by omega, fun g => ?_, fun g => ?_⟩
    · rw [if_pos g] at es et
      exact ⟨⟨by decide, by decide, by decide⟩, by omega, ⟨k + 1, hlt, rfl, et.symm⟩, hdec⟩
    · rw [if_neg g] at es et
      have := uSize_bd (r := l.getD k 0) rfl g
      exact ⟨⟨this.1, this.2⟩, by omega, ⟨k + 1, hlt, rfl, et.symm⟩, hdec⟩
  · have : k = l.length := by omega
    subst this
    rw [List.take_length]
theorem p19 : vc19 := by
  unfold vc19
  simp only [eq_self, true_and, and_true, decide_eq_true_eq, decide_eq_false_iff_not, beq_iff_eq, beq_eq_false_iff_ne, bne_iff_ne, bne_eq_false_iff_eq, Bool.not_eq_true', Bool.not_eq_false', ne_eq, imp_true_iff, implies_true]
  rintro ⟨s, ⟨⟩⟩
  simp only
  intro hl
  rw [maxLen_eq] at hl
  refine ⟨fun z => ∃ k : Nat, z.1 = (k : Int) ∧ k + (decAt s z.2.1).length = (decodeL s).length ∧ z.2.1 ≤ s.size, fun z => s.size - z.2.1, ⟨0, rfl, Nat.zero_add _, Nat.zero_le _⟩, ?_⟩
  rintro a p ⟨k, hi, hs, hp⟩
  simp only at hi hs hp
  subst hi
  have hd := decAt_len s s.size 0 (by omega)
  have e0 : decAt s 0 = decodeL s := rfl
  rw [e0] at hd
  refine ⟨fun h => ?_, fun h => ?_⟩
  · have wd := decode_width s p h
    rw [decAt_step h] at hs
    simp only [List.length_cons] at hs
    have hw : IntKind.i64.wrap ((k : Int) + 1) = ((k + 1 : Nat) : Int) := wrap_succ (by omega)
    rw [hw]
    simp only [reduceCtorEq, false_implies, and_true, forall_const]
    refine ⟨⟨k + 1, rfl, ?_, ?_⟩, ?_⟩ <;> first | omega | (simp only; omega)
  · rw [decAt_end (by omega)] at hs
    simp only [List.length_nil] at hs
    simp only [reduceCtorEq, false_implies, true_and, forall_const]
    omega
theorem uStep_in {s : ByteArray} {p : Nat} (h : p < s.size) : uStep s (p : Int) = (((Utf8.decode s p).1 : Int), ((Utf8.decode s p).2 : Int), ()) := by
  unfold uStep
  rw [if_neg (by omega)]
  rfl
theorem p18 : vc18 := by
  unfold vc18
  simp only [eq_self, true_and, and_true, decide_eq_true_eq, decide_eq_false_iff_not, beq_iff_eq, beq_eq_false_iff_ne, bne_iff_ne, bne_eq_false_iff_eq, Bool.not_eq_true', Bool.not_eq_false', ne_eq, imp_true_iff, implies_true]
  rintro ⟨s, ⟨⟩⟩
  simp only
  intro hl
  rw [maxLen_eq]
  refine ⟨fun z => ∃ p : Nat, z.2.1 = (p : Int) ∧ z.1 ++ decAt s p = decodeL s ∧ z.1.length ≤ p ∧ p ≤ s.size, fun z => s.size - z.2.1.toNat, ⟨0, rfl, rfl, Nat.le_refl _, Nat.zero_le _⟩, ?_⟩
  rintro a i ⟨p, hi, hs, hlen, hp⟩
  simp only at hi hs hlen
  subst hi
  refine ⟨fun h => ?_, fun h => ?_⟩
  · have hlt : p < s.size := by omega
    have wd := decode_width s p hlt
    rw [uStep_in hlt]
    simp only
    have hw : IntKind.i64.wrap ((p : Int) + ((Utf8.decode s p).2 : Int)) = ((p + (Utf8.decode s p).2 : Nat) : Int) := by rw [wrap_eq]; omega
    have e2 : ∀ c : Int, [c].length = 1 := fun _ => rfl
    rw [hw, e2]
    refine ⟨by omega, by omega, by omega, ⟨p + (Utf8.decode s p).2, rfl, ?_, ?_, by omega⟩, ?_⟩
    · rw [decAt_step hlt] at hs
      simp only [List.append_assoc, List.cons_append, List.nil_append]
      exact hs
    · simp only [List.length_append, List.length_cons, List.length_nil]; omega
    · show s.size - (((p + (Utf8.decode s p).2 : Nat) : Int)).toNat < s.size - (p : Int).toNat
      rw [toNat_cast, toNat_cast]; omega
  · rw [decAt_end (by omega), List.append_nil] at hs
    exact hs
theorem p22 : vc22 := by
  unfold vc22
  simp only [eq_self, true_and, and_true, decide_eq_true_eq, decide_eq_false_iff_not, beq_iff_eq, beq_eq_false_iff_ne, bne_iff_ne, bne_eq_false_iff_eq, Bool.not_eq_true', Bool.not_eq_false', ne_eq, imp_true_iff, implies_true]
  rintro ⟨s, p, ⟨⟩⟩
  simp only
  intro hl
  rw [maxLen_eq] at hl
  refine ⟨fun h => by unfold uStep; rw [if_pos (by omega)], fun h => ⟨fun h2 => by unfold uStep; rw [if_pos (by omega)], fun h2 => ?_⟩⟩
  obtain ⟨i, rfl⟩ : ∃ i : Nat, p = i := ⟨p.toNat, by omega⟩
  have hi : i < s.size := by omega
  have hw0 : IntKind.i64.wrap ((s.size : Int) - (i : Int)) = (s.size : Int) - (i : Int) := by rw [wrap_eq]; omega
  rw [hw0, uStep_in hi]
  refine ⟨fun z => ∃ k : Nat, 1 ≤ k ∧ k ≤ 5 ∧ z.1 = (k : Int) ∧ ∀ m, 1 ≤ m → m < k → i + m ≤ s.size → ¬ fitsN s i m, fun z => 5 - z.1.toNat, ⟨1, Nat.le_refl _, by omega, rfl, fun m h1 h2 => by omega⟩, ?_⟩
  rintro a a1 a2 ⟨k, k1, k5, hk, hs⟩
  simp only at hk
  subst hk
  have bad : (5 ≤ k ∨ s.size < i + k) → Utf8.decode s i = (65533, 1) := fun g =>
    by
      refine step_0 (fun f => ?_) (fun q f => ?_) (fun q f => ?_) (fun q f => ?_)
      · exact hs 1 (by omega) (by omega) (by omega) f
      · exact hs 2 (by omega) (by omega) (by omega) f
      · exact hs 3 (by omega) (by omega) (by omega) f
      · exact hs 4 (by omega) (by omega) (by omega) f
  refine ⟨fun h4 => ⟨fun h5 => ?_, fun h5 => by rw [bad (by omega)]; rfl⟩, fun h4 => by rw [bad (by omega)]; rfl⟩
  have hw : IntKind.i64.wrap ((k : Int) + 1) = ((k + 1 : Nat) : Int) := wrap_succ (by omega)
  have hw2 : IntKind.i64.wrap ((i : Int) + (k : Int)) = ((i + k : Nat) : Int) := by rw [wrap_eq]; omega
  rw [hw, hw2, toNat_cast, toNat_cast, strBytes_extract s i k (by omega)]
  have hz : (s.extract i (i + k)).size = k := by rw [ByteArray.size_extract]; omega
  have hdec : 5 - (((k + 1 : Nat) : Int)).toNat < 5 - (k : Int).toNat := by rw [toNat_cast, toNat_cast]; omega
  have next : ¬ fitsN s i k → ∃ k' : Nat, 1 ≤ k' ∧ k' ≤ 5 ∧ ((k + 1 : Nat) : Int) = (k' : Int) ∧ ∀ m, 1 ≤ m → m < k' → i + m ≤ s.size → ¬ fitsN s i m := fun g =>
    ⟨k + 1, by omega, by omega, rfl, fun m m1 m2 m3 => by
      by_cases e : m = k
      · subst e; exact g
      · exact hs m m1 (by omega) m3⟩
  refine ⟨by omega, by omega, fun g => ?_, fun g => ⟨next (fun f => g f.1), hdec⟩⟩
  have bd := uSize_bd g (by omega)
  have eqv : (bytesOf (uBytes (uNum (bytesAt s i k)) (k : Int))).toList = (s.extract i (i + k)).toList ↔ uBytes (uNum (bytesAt s i k)) (k : Int) = bytesAt s i k := by
    rw [← strBytes_inj, strBytes_of (uBytes_bd bd.1 bd.2 g), strBytes_extract s i k (by omega)]
  rw [eqv]
  refine ⟨⟨bd.1, bd.2, g⟩, fun e => ?_, fun e => ⟨next (fun f => e f.2), hdec⟩⟩
  rw [step_n k1 (by omega) (by omega) ⟨g, e⟩]
  simp only [Prod.mk.injEq, and_true]
  omega

/-- What a number is so far. -/
def pnum (s : ByteArray) (base : Int) : Nat → Int
  | 0 => 0
  | 1 => (byt s 0 : Int) - base
  | 2 => 64 * ((byt s 0 : Int) - base) + (byt s 1 : Int) - 128
  | 3 => 64 * (64 * ((byt s 0 : Int) - base) + (byt s 1 : Int) - 128) + (byt s 2 : Int) - 128
  | _ => 64 * (64 * (64 * ((byt s 0 : Int) - base) + (byt s 1 : Int) - 128) + (byt s 2 : Int) - 128) + (byt s 3 : Int) - 128
theorem number_loop {s : ByteArray} {base : Int} {want : Int} (h0 : 1 ≤ s.size) (h4 : s.size ≤ 4) (b0 : 0 ≤ base) (b1 : base ≤ 240) (hw : pnum s base s.size = want) :
    ∃ (Z : Int × Int × Unit → Prop), ∃ (μ : Int × Int × Unit → Nat), Z (IntKind.i32.wrap (IntKind.i32.wrap (byt s 0 : Int) - base), (1 : Int), ()) ∧ ∀ (a i : Int), Z (a, i, ()) →
      (i < (s.size : Int) → ((0 : Int) ≤ i ∧ i < (s.size : Int)) ∧
        Z (IntKind.i32.wrap (IntKind.i32.wrap (IntKind.i32.wrap (64 * a) + IntKind.i32.wrap (byt s i.toNat : Int)) - 128), IntKind.i64.wrap (i + 1), ()) ∧
        μ (IntKind.i32.wrap (IntKind.i32.wrap (IntKind.i32.wrap (64 * a) + IntKind.i32.wrap (byt s i.toNat : Int)) - 128), IntKind.i64.wrap (i + 1), ()) < μ (a, i, ())) ∧
      (¬ i < (s.size : Int) → a = want) := by
  have c0 := byt_lt s 0
  have c1 := byt_lt s 1
  have c2 := byt_lt s 2
  have c3 := byt_lt s 3
  refine ⟨fun z => ∃ k : Nat, 1 ≤ k ∧ k ≤ s.size ∧ z.2.1 = (k : Int) ∧ z.1 = pnum s base k, fun z => s.size - z.2.1.toNat, ⟨1, Nat.le_refl _, h0, rfl, ?_⟩, ?_⟩
  · show _ = (byt s 0 : Int) - base
    simp only [wrap32_eq]
    omega
  rintro a i ⟨k, k1, k2, hi, ha⟩
  simp only at hi ha
  subst hi ha
  refine ⟨fun h => ?_, fun h => ?_⟩
  · have hw2 : IntKind.i64.wrap ((k : Int) + 1) = ((k + 1 : Nat) : Int) := wrap_succ (by omega)
    rw [hw2, toNat_cast]
    refine ⟨by omega, ⟨k + 1, by omega, by omega, rfl, ?_⟩, ?_⟩
    · have e : k = 1 ∨ k = 2 ∨ k = 3 := by omega
      rcases e with rfl | rfl | rfl
      · simp only [pnum, wrap32_eq]; omega
      · simp only [pnum, wrap32_eq]; omega
      · simp only [pnum, wrap32_eq]; omega
    · show s.size - (((k + 1 : Nat) : Int)).toNat < s.size - (k : Int).toNat
      rw [toNat_cast, toNat_cast]; omega
  · have : k = s.size := by omega
    rw [this]; exact hw
theorem p26 : vc26 := by
  unfold vc26
  simp only [eq_self, true_and, and_true, decide_eq_true_eq, decide_eq_false_iff_not, beq_iff_eq, beq_eq_false_iff_ne, bne_iff_ne, bne_eq_false_iff_eq, Bool.not_eq_true', Bool.not_eq_false', ne_eq, imp_true_iff, implies_true]
  rintro ⟨s, ⟨⟩⟩
  simp only
  rintro ⟨h0, h4⟩
  have e0 : (0 : Int).toNat = 0 := rfl
  rw [e0]
  simp only [byt_data]
  rw [strBytes_all]
  have c0 := byt_lt s 0
  refine ⟨by omega, fun e => ?_, fun e1 => ⟨fun e => ?_, fun e2 => ⟨fun e => ?_, fun e3 => ?_⟩⟩⟩
  · have hs : s.size = 1 := by omega
    rw [hs]
    show _ = (byt s 0 : Int)
    rw [wrap32_eq]
    omega
  · have hs : s.size = 2 := by omega
    exact number_loop h0 h4 (by decide) (by decide) (by rw [hs]; rfl)
  · have hs : s.size = 3 := by omega
    exact number_loop h0 h4 (by decide) (by decide) (by rw [hs]; rfl)
  · have hs : s.size = 4 := by omega
    exact number_loop h0 h4 (by decide) (by decide) (by rw [hs]; rfl)
end Go.Fr.C01
