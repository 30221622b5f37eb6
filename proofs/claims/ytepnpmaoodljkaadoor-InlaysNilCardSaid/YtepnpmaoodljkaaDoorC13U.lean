/-
  Chapter 13: proofs of the conditions: texts. Conditions: none.
-/
import Derived.Test.YtepnpmaoodljkaaDoorC13V
namespace Go.Fr.C13
open Go Go.Fr Go.Proofs
theorem right_iff {r : Int} : right r = true ↔ 0 ≤ r ∧ r ≤ 1114111 ∧ (r < 55296 ∨ r > 57343) := by simp [right]
theorem right_no {r : Int} : right r = false ↔ ¬ (0 ≤ r ∧ r ≤ 1114111 ∧ (r < 55296 ∨ r > 57343)) := by rw [← right_iff]; simp
theorem p56 : vc56 := by
  unfold vc56
  simp only [eq_self, true_and, and_true, decide_eq_true_eq, decide_eq_false_iff_not, beq_iff_eq, beq_eq_false_iff_ne, bne_iff_ne, bne_eq_false_iff_eq, Bool.not_eq_true', Bool.not_eq_false', ne_eq, imp_true_iff, implies_true]
  rintro ⟨r, ⟨⟩⟩ _
  simp only
  refine ⟨fun h1 => ⟨by decide, fun h2 => ⟨fun h3 => ?_, fun h3 => ?_⟩, fun h2 => ?_⟩, fun h1 => ?_⟩
  · exact (right_iff.2 (by omega)).symm
  · rw [Bool.eq_iff_iff, decide_eq_true_eq, right_iff]; omega
  · exact (right_no.2 (by omega)).symm
  · exact (right_no.2 (by omega)).symm
theorem p48 : vc48 := by
  unfold vc48
  simp only [eq_self, true_and, and_true, decide_eq_true_eq, decide_eq_false_iff_not, beq_iff_eq, beq_eq_false_iff_ne, bne_iff_ne, bne_eq_false_iff_eq, Bool.not_eq_true', Bool.not_eq_false', ne_eq, imp_true_iff, implies_true]
  intro x _
  unfold uSize
  (repeat' (first | apply And.intro | intro _))
  all_goals (repeat' split)
  all_goals omega
theorem sizeR_1 {r : Int} (h : right r = true) : sizeR r = if r ≤ 127 then 1 else if r ≤ 2047 then 2 else if r ≤ 65535 then 3 else 4 := by
  rw [right_iff] at h
  unfold sizeR uSize
  repeat' split
  all_goals omega
theorem sizeR_0 {r : Int} (h : right r = false) : sizeR r = 3 := by
  rw [right_no] at h
  unfold sizeR uSize
  repeat' split
  all_goals omega
theorem bytesOf_congr {a b : List Int} (h : a = b) : bytesOf a = bytesOf b := by rw [h]
theorem p49 : vc49 := by
  unfold vc49
  simp only [eq_self, true_and, and_true, decide_eq_true_eq, decide_eq_false_iff_not, beq_iff_eq, beq_eq_false_iff_ne, bne_iff_ne, bne_eq_false_iff_eq, Bool.not_eq_true', Bool.not_eq_false', ne_eq, imp_true_iff, implies_true]
  rintro ⟨r, n, ⟨⟩⟩
  simp only
  rintro ⟨h0, h1, hn⟩
  have t1 : ∀ d : Int, Int.tdiv r d = r / d := fun d => Int.tdiv_eq_ediv_of_nonneg h0
  have t2 : ∀ d : Int, Int.tmod r d = r % d := fun d => Int.tmod_eq_emod_of_nonneg h0
  have q64 : 0 ≤ r / 64 := by omega
  have q4096 : 0 ≤ r / 4096 := by omega
  have w1 : IntKind.i32.wrap (r / 64) = r / 64 := by rw [wrap32_eq]; omega
  have w2 : IntKind.i32.wrap (r / 4096) = r / 4096 := by rw [wrap32_eq]; omega
  have t3 : ∀ d : Int, Int.tmod (r / 64) d = r / 64 % d := fun d => Int.tmod_eq_emod_of_nonneg q64
  have t4 : ∀ d : Int, Int.tmod (r / 4096) d = r / 4096 % d := fun d => Int.tmod_eq_emod_of_nonneg q4096
  simp only [t1, t2, w1, w2, t3, t4]
  refine ⟨fun e => ?_, fun e1 => ⟨fun e => ⟨by decide, ?_⟩, fun e2 => ⟨fun e => ⟨by decide, by decide, ?_⟩, fun e3 => ⟨by decide, by decide, by decide, ?_⟩⟩⟩⟩
  · subst e
    have := uSize_1.1 hn
    refine bytesOf_congr ?_
    simp only [uBytes, if_true, wrap8_eq, List.cons.injEq, and_true]
    omega
  · subst e
    have := uSize_2.1 hn
    refine ⟨by decide, bytesOf_congr ?_⟩
    unfold uBytes
    rw [if_neg (by decide), if_pos rfl]
    simp only [wrap8_eq, wrap32_eq, List.cons.injEq, and_true]
    omega
  · subst e
    have := uSize_3.1 hn
    refine ⟨by decide, by decide, bytesOf_congr ?_⟩
    unfold uBytes
    rw [if_neg (by decide), if_neg (by decide), if_pos rfl]
    simp only [wrap8_eq, wrap32_eq, List.cons.injEq, and_true]
    omega
  · refine ⟨by decide, by decide, by decide, bytesOf_congr ?_⟩
    unfold uBytes
    rw [if_neg e1, if_neg e2, if_neg e3]
    simp only [wrap8_eq, wrap32_eq, List.cons.injEq, and_true]
    omega
theorem uBytes_bd {r n : Int} (h0 : 0 ≤ r) (h1 : r ≤ 1114111) (hn : uSize r = n) : ∀ x ∈ uBytes r n, 0 ≤ x ∧ x < 256 := by
  unfold uBytes
  intro x hx
  split at hx
  · rename_i e
    have := uSize_1.1 (hn.trans e)
    simp only [List.mem_cons, List.not_mem_nil, or_false] at hx
    omega
  split at hx
  · rename_i e
    have := uSize_2.1 (hn.trans e)
    simp only [List.mem_cons, List.not_mem_nil, or_false] at hx
    omega
  split at hx
  · rename_i e
    have := uSize_3.1 (hn.trans e)
    simp only [List.mem_cons, List.not_mem_nil, or_false] at hx
    omega
  · simp only [List.mem_cons, List.not_mem_nil, or_false] at hx
    omega
theorem uSize_bd {r n : Int} (h : uSize r = n) (hn : n ≠ 0) : 0 ≤ r ∧ r ≤ 1114111 := by
  unfold uSize at h
  split at h
  · omega
  · omega

theorem d21 : Ty.dflt t21 = (0 : Int) := rfl
theorem encB_size (x : Int) : (encB x).size ≤ 4 := by
  have h : ∀ l : List Int, (bytesOf l).size = l.length := fun l => by
    show ((l.map fun n => UInt8.ofNat n.toNat).toArray).size = l.length
    simp
  unfold encB
  split
  · rw [h]; decide
  · rw [h]
    unfold uBytes
    repeat' split
    all_goals simp
theorem encode_take {l : List Int} {k : Nat} (h : k < l.length) : encode (l.take (k + 1)) = encode (l.take k) ++ encB (l.getD k 0) := by
  unfold encode
  rw [foldl_take_succ h, getD_of _ h]
theorem encode_len (l : List Int) : ∀ k, k ≤ l.length → (encode (l.take k)).size ≤ 4 * k
  | 0, _ => by show ByteArray.empty.size ≤ _; exact Nat.zero_le _
  | k + 1, h => by
    have ih := encode_len l k (by omega)
    rw [encode_take (by omega), ByteArray.size_append]
    have := encB_size (l.getD k 0)
    omega
theorem p28 : vc28 := by
  unfold vc28
  simp only [eq_self, true_and, and_true, decide_eq_true_eq, decide_eq_false_iff_not, beq_iff_eq, beq_eq_false_iff_ne, bne_iff_ne, bne_eq_false_iff_eq, Bool.not_eq_true', Bool.not_eq_false', ne_eq, imp_true_iff, implies_true]
  rintro ⟨l, ⟨⟩⟩
  simp only
  intro hl
  rw [d21]
  refine ⟨fun z => ∃ k : Nat, k ≤ l.length ∧ z.2.1 = (k : Int) ∧ z.1 = encode (l.take k), fun z => l.length - z.2.1.toNat, ⟨0, Nat.zero_le _, rfl, rfl⟩, ?_⟩
  rintro a i ⟨k, hk, hi, ha⟩
  simp only at hi ha
  subst hi ha
  refine ⟨fun h => ?_, fun h => ?_⟩
  · have hlt : k < l.length := by omega
    have hw : IntKind.i64.wrap ((k : Int) + 1) = ((k + 1 : Nat) : Int) := wrap_succ (by omega)
    have el := encode_len l k hk
    have es := encB_size (l.getD k 0)
    have et := encode_take hlt
    rw [toNat_cast, hw]
    have hdec : l.length - (((k + 1 : Nat) : Int)).toNat < l.length - (k : Int).toNat := by rw [toNat_cast, toNat_cast]; omega
    unfold encB at es et
    refine ⟨by omega, fun g => ?_, fun g => ?_⟩
    · rw [if_pos g] at es et
      exact ⟨⟨by decide, by decide, by decide⟩, by omega, ⟨k + 1, hlt, rfl, et.symm⟩, hdec⟩
    · rw [if_neg g] at es et
      have := uSize_bd (r := l.getD k 0) rfl g
      exact ⟨⟨this.1, this.2⟩, by omega, ⟨k + 1, hlt, rfl, et.symm⟩, hdec⟩
  · have : k = l.length := by omega
    subst this
    rw [List.take_length]
theorem p40 : vc40 := by
  unfold vc40
  simp only [eq_self, true_and, and_true, decide_eq_true_eq, decide_eq_false_iff_not, beq_iff_eq, beq_eq_false_iff_ne, bne_iff_ne, bne_eq_false_iff_eq, Bool.not_eq_true', Bool.not_eq_false', ne_eq, imp_true_iff, implies_true]
  rintro ⟨s, ⟨⟩⟩
  simp only
  intro hl
  rw [maxLen_eq] at hl
  refine ⟨fun z => ∃ k : Nat, z.1 = (k : Int) ∧ k + (decAt s z.2.1).length = (decodeL s).length ∧ z.2.1 ≤ s.size, fun z => s.size - z.2.1, ⟨0, rfl, Nat.zero_add _, Nat.zero_le _⟩, ?_⟩
  rintro a p ⟨k, hi, hs, hp⟩
  simp only at hi hs hp
  subst hi
  have hd := decAt_len s s.size 0 (by omega)
  have e0 : decAt s 0 = decodeL s := rfl
  rw [e0] at hd
  refine ⟨fun h => ?_, fun h => ?_⟩
  · have wd := decode_width s p h
    rw [decAt_step h] at hs
    simp only [List.length_cons] at hs
    have hw : IntKind.i64.wrap ((k : Int) + 1) = ((k + 1 : Nat) : Int) := wrap_succ (by omega)
    rw [hw]
    simp only [reduceCtorEq, false_implies, and_true, forall_const]
    refine ⟨⟨k + 1, rfl, ?_, ?_⟩, ?_⟩ <;> first | omega | (simp only; omega)
  · rw [decAt_end (by omega)] at hs
    simp only [List.length_nil] at hs
    simp only [reduceCtorEq, false_implies, true_and, forall_const]
    omega
theorem uStep_in {s : ByteArray} {p : Nat} (h : p < s.size) : uStep s (p : Int) = (((Utf8.decode s p).1 : Int), ((Utf8.decode s p).2 : Int), ()) := by
  unfold uStep
  rw [if_neg (by omega)]
  rfl
theorem p29 : vc29 := by
  unfold vc29
  simp only [eq_self, true_and, and_true, decide_eq_true_eq, decide_eq_false_iff_not, beq_iff_eq, beq_eq_false_iff_ne, bne_iff_ne, bne_eq_false_iff_eq, Bool.not_eq_true', Bool.not_eq_false', ne_eq, imp_true_iff, implies_true]
  rintro ⟨s, ⟨⟩⟩
  simp only
  intro hl
  rw [maxLen_eq]
  refine ⟨fun z => ∃ p : Nat, z.2.1 = (p : Int) ∧ z.1 ++ decAt s p = decodeL s ∧ z.1.length ≤ p ∧ p ≤ s.size, fun z => s.size - z.2.1.toNat, ⟨0, rfl, rfl, Nat.le_refl _, Nat.zero_le _⟩, ?_⟩
  rintro a i ⟨p, hi, hs, hlen, hp⟩
  simp only at hi hs hlen
  subst hi
  refine ⟨fun h => ?_, fun h => ?_⟩
  · have hlt : p < s.size := by omega
    have wd := decode_width s p hlt
    rw [uStep_in hlt]
    simp only
    have hw : IntKind.i64.wrap ((p : Int) + ((Utf8.decode s p).2 : Int)) = ((p + (Utf8.decode s p).2 : Nat) : Int) := by rw [wrap_eq]; omega
    have e2 : ∀ c : Int, [c].length = 1 := fun _ => rfl
    rw [hw, e2]
    refine ⟨by omega, by omega, by omega, ⟨p + (Utf8.decode s p).2, rfl, ?_, ?_, by omega⟩, ?_⟩
    · rw [decAt_step hlt] at hs
      simp only [List.append_assoc, List.cons_append, List.nil_append]
      exact hs
    · simp only [List.length_append, List.length_cons, List.length_nil]; omega
    · show s.size - (((p + (Utf8.decode s p).2 : Nat) : Int)).toNat < s.size - (p : Int).toNat
      rw [toNat_cast, toNat_cast]; omega
  · rw [decAt_end (by omega), List.append_nil] at hs
    exact hs
theorem p50 : vc50 := by
  unfold vc50
  simp only [eq_self, true_and, and_true, decide_eq_true_eq, decide_eq_false_iff_not, beq_iff_eq, beq_eq_false_iff_ne, bne_iff_ne, bne_eq_false_iff_eq, Bool.not_eq_true', Bool.not_eq_false', ne_eq, imp_true_iff, implies_true]
  rintro ⟨s, p, ⟨⟩⟩
  simp only
  intro hl
  rw [maxLen_eq] at hl
  refine ⟨fun h => by unfold uStep; rw [if_pos (by omega)], fun h => ⟨fun h2 => by unfold uStep; rw [if_pos (by omega)], fun h2 => ?_⟩⟩
  obtain ⟨i, rfl⟩ : ∃ i : Nat, p = i := ⟨p.toNat, by omega⟩
  have hi : i < s.size := by omega
  have hw0 : IntKind.i64.wrap ((s.size : Int) - (i : Int)) = (s.size : Int) - (i : Int) := by rw [wrap_eq]; omega
  rw [hw0, uStep_in hi]
  refine ⟨fun z => ∃ k : Nat, 1 ≤ k ∧ k ≤ 5 ∧ z.1 = (k : Int) ∧ ∀ m, 1 ≤ m → m < k → i + m ≤ s.size → ¬ fitsN s i m, fun z => 5 - z.1.toNat, ⟨1, Nat.le_refl _, by omega, rfl, fun m h1 h2 => by omega⟩, ?_⟩
  rintro a a1 a2 ⟨k, k1, k5, hk, hs⟩
  simp only at hk
  subst hk
  have bad : (5 ≤ k ∨ s.size < i + k) → Utf8.decode s i = (65533, 1) := fun g =>
    by
      refine step_0 (fun f => ?_) (fun q f => ?_) (fun q f => ?_) (fun q f => ?_)
      · exact hs 1 (by omega) (by omega) (by omega) f
      · exact hs 2 (by omega) (by omega) (by omega) f
      · exact hs 3 (by omega) (by omega) (by omega) f
      · exact hs 4 (by omega) (by omega) (by omega) f
  refine ⟨fun h4 => ⟨fun h5 => ?_, fun h5 => by rw [bad (by omega)]; rfl⟩, fun h4 => by rw [bad (by omega)]; rfl⟩
  have hw : IntKind.i64.wrap ((k : Int) + 1) = ((k + 1 : Nat) : Int) := wrap_succ (by omega)
  have hw2 : IntKind.i64.wrap ((i : Int) + (k : Int)) = ((i + k : Nat) : Int) := by rw [wrap_eq]; omega
  rw [hw, hw2, toNat_cast, toNat_cast, strBytes_extract s i k (by omega)]
  have hz : (s.extract i (i + k)).size = k := by rw [ByteArray.size_extract]; omega
  have hdec : 5 - (((k + 1 : Nat) : Int)).toNat < 5 - (k : Int).toNat := by rw [toNat_cast, toNat_cast]; omega
  have next : ¬ fitsN s i k → ∃ k' : Nat, 1 ≤ k' ∧ k' ≤ 5 ∧ ((k + 1 : Nat) : Int) = (k' : Int) ∧ ∀ m, 1 ≤ m → m < k' → i + m ≤ s.size → ¬ fitsN s i m := fun g =>
    ⟨k + 1, by omega, by omega, rfl, fun m m1 m2 m3 => by
      by_cases e : m = k
      · subst e; exact g
      · exact hs m m1 (by omega) m3⟩
  refine ⟨by omega, by omega, fun g => ?_, fun g => ⟨next (fun f => g f.1), hdec⟩⟩
  have bd := uSize_bd g (by omega)
  have eqv : (bytesOf (uBytes (uNum (bytesAt s i k)) (k : Int))).toList = (s.extract i (i + k)).toList ↔ uBytes (uNum (bytesAt s i k)) (k : Int) = bytesAt s i k := by
    rw [← strBytes_inj, strBytes_of (uBytes_bd bd.1 bd.2 g), strBytes_extract s i k (by omega)]
  rw [eqv]
  refine ⟨⟨bd.1, bd.2, g⟩, fun e => ?_, fun e => ⟨next (fun f => e f.2), hdec⟩⟩
  rw [step_n k1 (by omega) (by omega) ⟨g, e⟩]
  simp only [Prod.mk.injEq, and_true]
  omega

/-- What a number is so far. -/
def pnum (s : ByteArray) (base : Int) : Nat → Int
  | 0 => 0
  | 1 => (byt s 0 : Int) - base
  | 2 => 64 * ((byt s 0 : Int) - base) + (byt s 1 : Int) - 128
  | 3 => 64 * (64 * ((byt s 0 : Int) - base) + (byt s 1 : Int) - 128) + (byt s 2 : Int) - 128
  | _ => 64 * (64 * (64 * ((byt s 0 : Int) - base) + (byt s 1 : Int) - 128) + (byt s 2 : Int) - 128) + (byt s 3 : Int) - 128
theorem number_loop {s : ByteArray} {base : Int} {want : Int} (h0 : 1 ≤ s.size) (h4 : s.size ≤ 4) (b0 : 0 ≤ base) (b1 : base ≤ 240) (hw : pnum s base s.size = want) :
    ∃ (Z : Int × Int × Unit → Prop), ∃ (μ : Int × Int × Unit → Nat), Z (IntKind.i32.wrap (IntKind.i32.wrap (byt s 0 : Int) - base), (1 : Int), ()) ∧ ∀ (a i : Int), Z (a, i, ()) →
      (i < (s.size : Int) → ((0 : Int) ≤ i ∧ i < (s.size : Int)) ∧
        Z (IntKind.i32.wrap (IntKind.i32.wrap (IntKind.i32.wrap (64 * a) + IntKind.i32.wrap (byt s i.toNat : Int)) - 128), IntKind.i64.wrap (i + 1), ()) ∧
        μ (IntKind.i32.wrap (IntKind.i32.wrap (IntKind.i32.wrap (64 * a) + IntKind.i32.wrap (byt s i.toNat : Int)) - 128), IntKind.i64.wrap (i + 1), ()) < μ (a, i, ())) ∧
      (¬ i < (s.size : Int) → a = want) := by
  have c0 := byt_lt s 0
  have c1 := byt_lt s 1
  have c2 := byt_lt s 2
  have c3 := byt_lt s 3
  refine ⟨fun z => ∃ k : Nat, 1 ≤ k ∧ k ≤ s.size ∧ z.2.1 = (k : Int) ∧ z.1 = pnum s base k, fun z => s.size - z.2.1.toNat, ⟨1, Nat.le_refl _, h0, rfl, ?_⟩, ?_⟩
  · show _ = (byt s 0 : Int) - base
    simp only [wrap32_eq]
    omega
  rintro a i ⟨k, k1, k2, hi, ha⟩
  simp only at hi ha
  subst hi ha
  refine ⟨fun h => ?_, fun h => ?_⟩
  · have hw2 : IntKind.i64.wrap ((k : Int) + 1) = ((k + 1 : Nat) : Int) := wrap_succ (by omega)
    rw [hw2, toNat_cast]
    refine ⟨by omega, ⟨k + 1, by omega, by omega, rfl, ?_⟩, ?_⟩
    · have e : k = 1 ∨ k = 2 ∨ k = 3 := by omega
      rcases e with rfl | rfl | rfl
      · simp only [pnum, wrap32_eq]; omega
      · simp only [pnum, wrap32_eq]; omega
      · simp only [pnum, wrap32_eq]; omega
    · show s.size - (((k + 1 : Nat) : Int)).toNat < s.size - (k : Int).toNat
      rw [toNat_cast, toNat_cast]; omega
  · have : k = s.size := by omega
    rw [this]; exact hw
theorem p68 : vc68 := by
  unfold vc68
  simp only [eq_self, true_and, and_true, decide_eq_true_eq, decide_eq_false_iff_not, beq_iff_eq, beq_eq_false_iff_ne, bne_iff_ne, bne_eq_false_iff_eq, Bool.not_eq_true', Bool.not_eq_false', ne_eq, imp_true_iff, implies_true]
  rintro ⟨s, ⟨⟩⟩
  simp only
  rintro ⟨h0, h4⟩
  have e0 : (0 : Int).toNat = 0 := rfl
  rw [e0]
  simp only [byt_data]
  rw [strBytes_all]
  have c0 := byt_lt s 0
  refine ⟨by omega, fun e => ?_, fun e1 => ⟨fun e => ?_, fun e2 => ⟨fun e => ?_, fun e3 => ?_⟩⟩⟩
  · have hs : s.size = 1 := by omega
    rw [hs]
    show _ = (byt s 0 : Int)
    rw [wrap32_eq]
    omega
  · have hs : s.size = 2 := by omega
    exact number_loop h0 h4 (by decide) (by decide) (by rw [hs]; rfl)
  · have hs : s.size = 3 := by omega
    exact number_loop h0 h4 (by decide) (by decide) (by rw [hs]; rfl)
  · have hs : s.size = 4 := by omega
    exact number_loop h0 h4 (by decide) (by decide) (by rw [hs]; rfl)

/-- A rune as it is behind encoding. -/
def fix (x : Int) : Int := if uSize x = 0 then 65533 else x
theorem size_cases (x : Int) : uSize x = 0 ∨ uSize x = 1 ∨ uSize x = 2 ∨ uSize x = 3 ∨ uSize x = 4 := by
  unfold uSize
  repeat' split
  all_goals omega
theorem fix_size (x : Int) : uSize (fix x) = sizeR x := by
  unfold fix sizeR
  split
  · decide
  · rfl
theorem encB_eq (x : Int) : encB x = bytesOf (uBytes (fix x) (sizeR x)) := by
  unfold encB fix sizeR
  split <;> rfl
theorem sizeR_cases (x : Int) : sizeR x = 1 ∨ sizeR x = 2 ∨ sizeR x = 3 ∨ sizeR x = 4 := by
  unfold sizeR
  have := size_cases x
  split <;> omega
theorem uNum_uBytes (y n : Int) (h : n = 1 ∨ n = 2 ∨ n = 3 ∨ n = 4) : uNum (uBytes y n) = y := by
  rcases h with rfl | rfl | rfl | rfl <;> simp [uBytes, uNum] <;> omega
theorem uBytes_len (y n : Int) (h : n = 1 ∨ n = 2 ∨ n = 3 ∨ n = 4) : ((uBytes y n).length : Int) = n := by
  rcases h with rfl | rfl | rfl | rfl <;> simp [uBytes]
theorem strBytes_append (a b : ByteArray) : strBytes (a ++ b) = strBytes a ++ strBytes b := by
  unfold strBytes
  simp
theorem bytesAt_take (s : ByteArray) (i n : Nat) (h : i + n ≤ s.size) : bytesAt s i n = ((strBytes s).drop i).take n := by
  apply List.ext_getElem?
  intro k
  by_cases hk : k < n
  · rw [bytesAt_get s n i k hk, List.getElem?_take, if_pos hk, List.getElem?_drop, strBytes_get s _ (by omega)]
  · rw [List.getElem?_eq_none (by rw [bytesAt_len]; omega), List.getElem?_eq_none (by rw [List.length_take]; omega)]
theorem encB_bytes (x : Int) : strBytes (encB x) = uBytes (fix x) (sizeR x) := by
  rw [encB_eq]
  have hn := sizeR_cases x
  have hb := uSize_bd (fix_size x) (by omega)
  exact strBytes_of (uBytes_bd hb.1 hb.2 (fix_size x))
theorem encB_len (x : Int) : ((encB x).size : Int) = sizeR x := by
  rw [← strBytes_len, encB_bytes]
  exact uBytes_len _ _ (sizeR_cases x)
theorem dec_enc (a t : ByteArray) (x : Int) : Utf8.decode (a ++ encB x ++ t) a.size = ((fix x).toNat, (encB x).size) := by
  have hn := sizeR_cases x
  have hl := encB_len x
  have hsz : (a ++ encB x ++ t).size = a.size + (encB x).size + t.size := by rw [ByteArray.size_append, ByteArray.size_append]
  have hb : bytesAt (a ++ encB x ++ t) a.size (encB x).size = uBytes (fix x) (sizeR x) := by
    rw [bytesAt_take _ _ _ (by omega), strBytes_append, strBytes_append, List.append_assoc, List.drop_left' (strBytes_len a), List.take_left' (strBytes_len _), encB_bytes]
  have := step_n (s := a ++ encB x ++ t) (i := a.size) (n := (encB x).size) (by omega) (by omega) (by omega) (by
    unfold fitsN
    rw [hb, uNum_uBytes _ _ hn, hl]
    exact ⟨fix_size x, rfl⟩)
  rw [this, hb, uNum_uBytes _ _ hn]
theorem encode_acc : ∀ (l : List Int) (s : ByteArray), l.foldl (fun s x => s ++ encB x) s = s ++ encode l
  | [], s => by simp [encode]
  | x :: l, s => by
    unfold encode
    simp only [List.foldl_cons]
    rw [encode_acc l, encode_acc l (ByteArray.empty ++ encB x), ByteArray.append_assoc, ByteArray.append_assoc]
    simp
theorem encode_cons (x : Int) (l : List Int) : encode (x :: l) = encB x ++ encode l := by
  show l.foldl (fun s x => s ++ encB x) (ByteArray.empty ++ encB x) = _
  rw [encode_acc]
  simp
theorem fix_bd (x : Int) : 0 ≤ fix x := by
  have h := uSize_bd (fix_size x) (by have := sizeR_cases x; omega)
  exact h.1
theorem dec_all : ∀ (l : List Int) (a t : ByteArray), decAt (a ++ encode l ++ t) a.size = l.map fix ++ decAt (a ++ encode l ++ t) (a.size + (encode l).size)
  | [], a, t => by
    have : (encode []).size = 0 := rfl
    rw [this, Nat.add_zero]; rfl
  | x :: l, a, t => by
    have e : a ++ encode (x :: l) ++ t = (a ++ encB x) ++ encode l ++ t := by rw [encode_cons]; simp [ByteArray.append_assoc]
    have e2 : (a ++ encB x) ++ encode l ++ t = a ++ encB x ++ (encode l ++ t) := by simp [ByteArray.append_assoc]
    have hl := encB_len x
    have hn := sizeR_cases x
    have hp : a.size < (a ++ encode (x :: l) ++ t).size := by
      rw [e, e2, ByteArray.size_append, ByteArray.size_append]; omega
    rw [decAt_step hp, e, e2, dec_enc a (encode l ++ t) x, ← e2]
    simp only [List.map_cons, List.cons_append]
    have ih := dec_all l (a ++ encB x) t
    rw [ByteArray.size_append] at ih
    rw [ih, encode_cons, ByteArray.size_append, ← Nat.add_assoc]
    congr 1
    have := fix_bd x
    omega
theorem byt_over {s : ByteArray} {k : Nat} (h : s.size ≤ k) : byt s k = 0 := by
  unfold byt
  have : s.get! k = 0 := by
    show s.data.getD k 0 = 0
    rw [Array.getD_eq_getD_getElem?, Array.getElem?_eq_none (show s.data.size ≤ k from h)]
    rfl
  rw [this]; rfl
theorem decode_congr {s t : ByteArray} {i j : Nat} (h : ∀ k, byt s (i + k) = byt t (j + k)) (hs : ∀ k, i + k < s.size ↔ j + k < t.size) : Utf8.decode s i = Utf8.decode t j := by
  rw [decode_eq, decode_eq]
  have h0 := h 0
  simp only [Nat.add_zero] at h0
  simp only [h0, h, hs]
theorem byt_append (b t : ByteArray) (k : Nat) : byt (b ++ t) (b.size + k) = byt t k := by
  by_cases hk : k < t.size
  · have h1 := strBytes_get (b ++ t) (b.size + k) (by rw [ByteArray.size_append]; omega)
    rw [strBytes_append, List.getElem?_append_right (by rw [strBytes_len]; omega), strBytes_len, Nat.add_sub_cancel_left, strBytes_get t k hk] at h1
    injection h1 with h1
    omega
  · rw [byt_over (s := b ++ t) (by rw [ByteArray.size_append]; omega), byt_over (by omega)]
theorem decAt_append (b t : ByteArray) : ∀ (f p : Nat), t.size ≤ p + f → decAt (b ++ t) (b.size + p) = decAt t p
  | 0, p, h => by rw [decAt_end (by rw [ByteArray.size_append]; omega), decAt_end (by omega)]
  | f + 1, p, h => by
    by_cases hp : p < t.size
    · have e : Utf8.decode (b ++ t) (b.size + p) = Utf8.decode t p := decode_congr (fun k => by rw [Nat.add_assoc, byt_append]) (fun k => by rw [ByteArray.size_append]; omega)
      have wd := decode_width t p hp
      rw [decAt_step (by rw [ByteArray.size_append]; omega), decAt_step hp, e, Nat.add_assoc, decAt_append b t f _ (by omega)]
    · rw [decAt_end (by rw [ByteArray.size_append]; omega), decAt_end (by omega)]
theorem dec_join (l : List Int) (t : ByteArray) : decodeL (encode l ++ t) = l.map fix ++ decodeL t := by
  have h := dec_all l ByteArray.empty t
  have e0 : ByteArray.empty ++ encode l ++ t = encode l ++ t := by simp
  have e1 : ByteArray.empty.size = 0 := rfl
  rw [e0, e1, Nat.zero_add] at h
  have h2 := decAt_append (encode l) t t.size 0 (by omega)
  rw [Nat.add_zero] at h2
  rw [h2] at h
  exact h
theorem dec_encode (l : List Int) : decodeL (encode l) = l.map fix := by
  have h := dec_join l ByteArray.empty
  have e0 : encode l ++ ByteArray.empty = encode l := by simp
  rw [e0] at h
  rw [h]
  show _ ++ [] = _
  simp
theorem decode_valid (s : ByteArray) (i : Nat) : uSize ((Utf8.decode s i).1 : Int) ≠ 0 := by
  unfold uSize
  rw [decode_eq]
  have := byt_lt s i
  repeat' split
  all_goals simp only at *
  all_goals (try (rename_i h _; rw [valid_iff] at h))
  all_goals omega
theorem fix_dec (s : ByteArray) : ∀ (f p : Nat), s.size ≤ p + f → (decAt s p).map fix = decAt s p
  | 0, p, h => by rw [decAt_end (by omega)]; rfl
  | f + 1, p, h => by
    by_cases hp : p < s.size
    · have wd := decode_width s p hp
      rw [decAt_step hp, List.map_cons, fix_dec s f _ (by omega)]
      congr 1
      unfold fix
      rw [if_neg (decode_valid s p)]
    · rw [decAt_end (by omega)]; rfl
theorem fix_decL (s : ByteArray) : (decodeL s).map fix = decodeL s := fix_dec s s.size 0 (by omega)
theorem dec_clean (s : ByteArray) : decodeL (clean s) = decodeL s := by
  unfold clean
  rw [dec_encode, fix_decL]
theorem clean_clean (s : ByteArray) : clean (clean s) = clean s := by
  show encode (decodeL (clean s)) = _
  rw [dec_clean]; rfl
theorem toList_inj {a b : ByteArray} (h : a.toList = b.toList) : a = b := by
  rw [toList_data, toList_data] at h
  cases a; cases b
  simp only [ByteArray.mk.injEq]
  exact Array.toList_inj.1 h
theorem encode_size (l : List Int) : (encode l).size ≤ 4 * l.length := by
  have := encode_len l l.length (Nat.le_refl _)
  rwa [List.take_length] at this
theorem decL_len (s : ByteArray) : (decodeL s).length ≤ s.size := by
  have := decAt_len s s.size 0 (by omega)
  exact this

theorem utf_enc (x : Int) : Utf8.encode x = encB x := by
  unfold Utf8.encode encB
  by_cases h : uSize x = 0
  · have hv : Utf8.valid x = false := by
      cases hh : Utf8.valid x with
      | false => rfl
      | true =>
        exfalso
        rw [valid_iff] at hh
        unfold uSize at h
        repeat' split at h
        all_goals omega
    rw [if_pos h, hv]
    rfl
  · have hv : Utf8.valid x = true := by
      rw [valid_iff]
      unfold uSize at h
      repeat' split at h
      all_goals omega
    rw [if_neg h, hv]
    obtain ⟨m, rfl⟩ : ∃ m : Nat, x = (m : Int) := ⟨x.toNat, by have := uSize_bd (r := x) rfl h; omega⟩
    simp only [if_true, toNat_cast]
    have q : ∀ (n : Int) (k : Nat), n = (k : Int) → UInt8.ofNat n.toNat = UInt8.ofNat k := fun n k e => by rw [e]; rfl
    rcases size_cases (m : Int) with e | e | e | e | e
    · exact absurd e h
    · have := uSize_1.1 e
      rw [if_pos (by omega), e]
      show _ = ByteArray.mk ([UInt8.ofNat (m : Int).toNat].toArray)
      rfl
    · have := uSize_2.1 e
      rw [if_neg (by omega), if_pos (by omega), e]
      show _ = ByteArray.mk ([UInt8.ofNat (192 + (m : Int) / 64).toNat, UInt8.ofNat (128 + (m : Int) % 64).toNat].toArray)
      rw [q _ (192 + m / 64) (by omega), q _ (128 + m % 64) (by omega)]
    · have := uSize_3.1 e
      rw [if_neg (by omega), if_neg (by omega), if_pos (by omega), e]
      show _ = ByteArray.mk ([UInt8.ofNat (224 + (m : Int) / 4096).toNat, UInt8.ofNat (128 + (m : Int) / 64 % 64).toNat, UInt8.ofNat (128 + (m : Int) % 64).toNat].toArray)
      rw [q _ (224 + m / 4096) (by omega), q _ (128 + m / 64 % 64) (by omega), q _ (128 + m % 64) (by omega)]
    · have := uSize_4.1 e
      rw [if_neg (by omega), if_neg (by omega), if_neg (by omega), e]
      show _ = ByteArray.mk ([UInt8.ofNat (240 + (m : Int) / 262144).toNat, UInt8.ofNat (128 + (m : Int) / 4096 % 64).toNat, UInt8.ofNat (128 + (m : Int) / 64 % 64).toNat, UInt8.ofNat (128 + (m : Int) % 64).toNat].toArray)
      rw [q _ (240 + m / 262144) (by omega), q _ (128 + m / 4096 % 64) (by omega), q _ (128 + m / 64 % 64) (by omega), q _ (128 + m % 64) (by omega)]
theorem bytesOf_str (s : ByteArray) : bytesOf (strBytes s) = s := by
  apply toList_inj
  rw [← strBytes_inj, strBytes_of]
  intro x hx
  obtain ⟨k, hk, rfl⟩ := List.getElem_of_mem hx
  have hks : k < s.size := by rw [strBytes_len] at hk; exact hk
  have := strBytes_get s k hks
  rw [List.getElem?_eq_getElem hk] at this
  injection this with this
  rw [this]
  have := byt_lt s k
  omega
theorem right_0 {x : Int} (h : right x = false) : uSize x = 0 := by
  rw [right_no] at h
  unfold uSize
  rw [if_pos (by omega)]
theorem encB_bad {x : Int} (h : right x = false) : encB 65533 = encB x := by
  unfold encB
  rw [if_pos (right_0 h)]
  rfl
theorem p42 : vc42 := by
  unfold vc42
  simp only [eq_self, true_and, and_true, decide_eq_true_eq, decide_eq_false_iff_not, beq_iff_eq, beq_eq_false_iff_ne, bne_iff_ne, bne_eq_false_iff_eq, Bool.not_eq_true', Bool.not_eq_false', ne_eq, imp_true_iff, implies_true]
  rintro ⟨l, ⟨⟩⟩
  simp only
  intro hl
  rw [d21, maxLen_eq]
  refine ⟨fun z => ∃ k : Nat, k ≤ l.length ∧ z.2.1 = (k : Int) ∧ z.1 = strBytes (encode (l.take k)), fun z => l.length - z.2.1.toNat, ⟨0, Nat.zero_le _, rfl, rfl⟩, ?_⟩
  rintro a i ⟨k, hk, hi, ha⟩
  simp only at hi ha
  subst hi ha
  refine ⟨fun h => ?_, fun h => ?_⟩
  · have hlt : k < l.length := by omega
    have hw : IntKind.i64.wrap ((k : Int) + 1) = ((k + 1 : Nat) : Int) := wrap_succ (by omega)
    have el := encode_len l k hk
    have et := encode_take hlt
    rw [toNat_cast, hw, utf_enc, utf_enc]
    generalize l.getD k 0 = x at *
    have es := encB_size x
    have e6 := encB_size 65533
    have hdec : l.length - (((k + 1 : Nat) : Int)).toNat < l.length - (k : Int).toNat := by rw [toNat_cast, toNat_cast]; omega
    simp only [strBytes_len]
    refine ⟨by omega, fun g => ⟨by omega, by omega, ⟨k + 1, hlt, rfl, ?_⟩, hdec⟩, fun g => ⟨by omega, by omega, ⟨k + 1, hlt, rfl, ?_⟩, hdec⟩⟩
    · rw [encB_bad g, ← strBytes_append, et]
    · rw [← strBytes_append, et]
  · have : k = l.length := by omega
    subst this
    rw [List.take_length, bytesOf_str]
theorem p43 : vc43 := by
  unfold vc43
  simp only [eq_self, true_and, and_true, decide_eq_true_eq, decide_eq_false_iff_not, beq_iff_eq, beq_eq_false_iff_ne, bne_iff_ne, bne_eq_false_iff_eq, Bool.not_eq_true', Bool.not_eq_false', ne_eq, imp_true_iff, implies_true]
  rintro ⟨s, ⟨⟩⟩
  simp only
  intro hl
  rw [maxLen_eq]
  refine ⟨fun z => z.1 ++ decAt s z.2.1 = decodeL s ∧ z.1.length ≤ z.2.1 ∧ z.2.1 ≤ s.size, fun z => s.size - z.2.1, ⟨rfl, Nat.le_refl _, Nat.zero_le _⟩, ?_⟩
  rintro a p ⟨hs, hlen, hp⟩
  simp only at hs hlen hp
  have e2 : ∀ c : Int, [c].length = 1 := fun _ => rfl
  refine ⟨fun h => ⟨fun _ => ?_, (fun h => by cases h)⟩, fun h => ⟨(fun h => by cases h), fun _ => ?_⟩⟩
  · have wd := decode_width s p h
    rw [e2]
    refine ⟨by omega, by omega, ⟨?_, ?_, by simp only; omega⟩, by simp only; omega⟩
    · rw [decAt_step h] at hs
      simp only [List.append_assoc, List.cons_append, List.nil_append]
      exact hs
    · simp only [List.length_append, List.length_cons, List.length_nil]; omega
  · rw [decAt_end (by omega), List.append_nil] at hs
    exact hs
theorem p24 : vc24 := by
  rintro ⟨s, ⟨⟩⟩
  simp only
  intro hl
  have := decL_len s
  exact ⟨by omega, by omega, rfl⟩
theorem byt_extract (s : ByteArray) (i k : Nat) (hi : i ≤ s.size) : byt (s.extract i s.size) k = byt s (i + k) := by
  by_cases h : i + k < s.size
  · exact extract_byt s i s.size k h (Nat.le_refl _)
  · rw [byt_over (s := s) (by omega), byt_over (by rw [ByteArray.size_extract]; omega)]
theorem sum_size {l : List Int} {k : Nat} (h : k < l.length) : ((encode (l.take (k + 1))).size : Int) = (encode (l.take k)).size + sizeR (l.getD k 0) := by
  rw [encode_take h, ByteArray.size_append, ← encB_len]
  omega
end Go.Fr.C13
