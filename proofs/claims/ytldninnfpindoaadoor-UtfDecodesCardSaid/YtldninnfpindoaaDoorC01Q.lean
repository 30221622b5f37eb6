/-
  Chapter 01: what is encoded is decoded, in plain Lean. Conditions: none.
-/
import Derived.Test.YtldninnfpindoaaDoorC01P
namespace Go.Fr.C01
open Go Go.Fr Go.Proofs

/-- A rune as it is behind encoding. -/
def fix (x : Int) : Int := if uSize x = 0 then 65533 else x
theorem size_cases (x : Int) : uSize x = 0 ∨ uSize x = 1 ∨ uSize x = 2 ∨ uSize x = 3 ∨ uSize x = 4 := by
  unfold uSize
  repeat' split
  all_goals omega
theorem fix_size (x : Int) : uSize (fix x) = sizeR x := by
  unfold fix sizeR
  split
  · decide
  · rfl
theorem encB_eq (x : Int) : encB x = bytesOf (uBytes (fix x) (sizeR x)) := by
  unfold encB fix sizeR
  split <;> rfl
theorem sizeR_cases (x : Int) : sizeR x = 1 ∨ sizeR x = 2 ∨ sizeR x = 3 ∨ sizeR x = 4 := by
  unfold sizeR
  have := size_cases x
  split <;> omega
theorem uNum_uBytes (y n : Int) (h : n = 1 ∨ n = 2 ∨ n = 3 ∨ n = 4) : uNum (uBytes y n) = y := by
  rcases h with rfl | rfl | rfl | rfl <;> simp [uBytes, uNum] <;> omega
theorem uBytes_len (y n : Int) (h : n = 1 ∨ n = 2 ∨ n = 3 ∨ n = 4) : ((uBytes y n).length : Int) = n := by
  rcases h with rfl | rfl | rfl | rfl <;> simp [uBytes]
theorem strBytes_append (a b : ByteArray) : strBytes (a ++ b) = strBytes a ++ strBytes b := by
  unfold strBytes
  simp
theorem bytesAt_take (s : ByteArray) (i n : Nat) (h : i + n ≤ s.size) : bytesAt s i n = ((strBytes s).drop i).take n := by
  apply List.ext_getElem?
  intro k
  by_cases hk : k < n
  · rw [bytesAt_get s n i k hk, List.getElem?_take, if_pos hk, List.getElem?_drop, strBytes_get s _ (by omega)]
  · rw [List.getElem?_eq_none (by rw [bytesAt_len]; omega), List.getElem?_eq_none (by rw [List.length_take]; omega)]
theorem encB_bytes (x : Int) : strBytes (encB x) = uBytes (fix x) (sizeR x) := by
  rw [encB_eq]
  have hn := sizeR_cases x
  have hb := uSize_bd (fix_size x) (by omega)
  exact strBytes_of (uBytes_bd hb.1 hb.2 (fix_size x))
theorem encB_len (x : Int) : ((encB x).size : Int) = sizeR x := by
  rw [← strBytes_len, encB_bytes]
  exact uBytes_len _ _ (sizeR_cases x)
theorem dec_enc (a t : ByteArray) (x : Int) : Utf8.decode (a ++ encB x ++ t) a.size = ((fix x).toNat, (encB x).size) := by
  have hn := sizeR_cases x
  have hl := encB_len x
  have hsz : (a ++ encB x ++ t).size = a.size + (encB x).size + t.size := by rw [ByteArray.size_append, ByteArray.size_append]
  have hb : bytesAt (a ++ encB x ++ t) a.size (encB x).size = uBytes (fix x) (sizeR x) := by
    rw [bytesAt_take _ _ _ (by omega), strBytes_append, strBytes_append, List.append_assoc, List.drop_left' (strBytes_len a), List.take_left' (strBytes_len _), encB_bytes]
  have := step_n (s := a ++ encB x ++ t) (i := a.size) (n := (encB x).size) (by omega) (by omega) (by omega) (by
    unfold fitsN
    rw [hb, uNum_uBytes _ _ hn, hl]
    exact ⟨fix_size x, rfl⟩)
  rw [this, hb, uNum_uBytes _ _ hn]
theorem encode_acc : ∀ (l : List Int) (s : ByteArray), l.foldl (fun s x => s ++ encB x) s = s ++ encode l
  | [], s => by simp [encode]
  | x :: l, s => by
    unfold encode
    simp only [List.foldl_cons]
    rw [encode_acc l, encode_acc l (ByteArray.empty ++ encB x), ByteArray.append_assoc, ByteArray.append_assoc]
    simp
theorem encode_cons (x : Int) (l : List Int) : encode (x :: l) = encB x ++ encode l := by
  show l.foldl (fun s x => s ++ encB x) (ByteArray.empty ++ encB x) = _
  rw [encode_acc]
  simp
theorem fix_bd (x : Int) : 0 ≤ fix x := by
  have h := uSize_bd (fix_size x) (by have := sizeR_cases x; omega)
  exact h.1
theorem dec_all : ∀ (l : List Int) (a t : ByteArray), decAt (a ++ encode l ++ t) a.size = l.map fix ++ decAt (a ++ encode l ++ t) (a.size + (encode l).size)
  | [], a, t => by
    have : (encode []).size = 0 := rfl
    rw [this, Nat.add_zero]; rfl
  | x :: l, a, t => by
    have e : a ++ encode (x :: l) ++ t = (a ++ encB x) ++ encode l ++ t := by rw [encode_cons]; simp [ByteArray.append_assoc]
    have e2 : (a ++ encB x) ++ encode l ++ t = a ++ encB x ++ (encode l ++ t) := by simp [ByteArray.append_assoc]
    have hl := encB_len x
    have hn := sizeR_cases x
    have hp : a.size < (a ++ encode (x :: l) ++ t).size := by
      rw [e, e2, ByteArray.size_append, ByteArray.size_append]; omega
    rw [decAt_step hp, e, e2, dec_enc a (encode l ++ t) x, ← e2]
    simp only [List.map_cons, List.cons_append]
    have ih := dec_all l (a ++ encB x) t
    rw [ByteArray.size_append] at ih
    rw [ih, encode_cons, ByteArray.size_append, ← Nat.add_assoc]
    congr 1
    have := fix_bd x
    omega
theorem byt_over {s : ByteArray} {k : Nat} (h : s.size ≤ k) : byt s k = 0 := by
  unfold byt
  have : s.get! k = 0 := by
    show s.data.getD k 0 = 0
    rw [Array.getD_eq_getD_getElem?, Array.getElem?_eq_none (show s.data.size ≤ k from h)]
    rfl
  rw [this]; rfl
theorem decode_congr {s t : ByteArray} {i j : Nat} (h : ∀ k, byt s (i + k) = byt t (j + k)) (hs : ∀ k, i + k < s.size ↔ j + k < t.size) : Utf8.decode s i = Utf8.decode t j := by
  rw [decode_eq, decode_eq]
  have h0 := h 0
  simp only [Nat.add_zero] at h0
  simp only [h0, h, hs]
theorem byt_append (b t : ByteArray) (k : Nat) : byt (b ++ t) (b.size + k) = byt t k := by
  by_cases hk : k < t.size
  · have h1 := strBytes_get (b ++ t) (b.size + k) (by rw [ByteArray.size_append]; omega)
    rw [strBytes_append, List.getElem?_append_right (by rw [strBytes_len]; omega), strBytes_len, Nat.add_sub_cancel_left, strBytes_get t k hk] at h1
    injection h1 with h1
    omega
  · rw [byt_over (s := b ++ t) (by rw [ByteArray.size_append]; omega), byt_over (by omega)]
theorem decAt_append (b t : ByteArray) : ∀ (f p : Nat), t.size ≤ p + f → decAt (b ++ t) (b.size + p) = decAt t p
  | 0, p, h => by rw [decAt_end (by rw [ByteArray.size_append]; omega), decAt_end (by omega)]
  | f + 1, p, h => by
    by_cases hp : p < t.size
    · have e : Utf8.decode (b ++ t) (b.size + p) = Utf8.decode t p := decode_congr (fun k => by rw [Nat.add_assoc, byt_append]) (fun k => by rw [ByteArray.size_append]; omega)
      have wd := decode_width t p hp
      rw [decAt_step (by rw [ByteArray.size_append]; omega), decAt_step hp, e, Nat.add_assoc, decAt_append b t f _ (by omega)]
    · rw [decAt_end (by rw [ByteArray.size_append]; omega), decAt_end (by omega)]
theorem dec_join (l : List Int) (t : ByteArray) : decodeL (encode l ++ t) = l.map fix ++ decodeL t := by
  have h := dec_all l ByteArray.empty t
  have e0 : ByteArray.empty ++ encode l ++ t = encode l ++ t := by simp
  have e1 : ByteArray.empty.size = 0 := rfl
  rw [e0, e1, Nat.zero_add] at h
  have h2 := decAt_append (encode l) t t.size 0 (by omega)
  rw [Nat.add_zero] at h2
  rw [h2] at h
  exact h
theorem dec_encode (l : List Int) : decodeL (encode l) = l.map fix := by
  have h := dec_join l ByteArray.empty
  have e0 : encode l ++ ByteArray.empty = encode l := by simp
  rw [e0] at h
  rw [h]
  show _ ++ [] = _
  simp
theorem decode_valid (s : ByteArray) (i : Nat) : uSize ((Utf8.decode s i).1 : Int) ≠ 0 := by
  unfold uSize
  rw [decode_eq]
  have := byt_lt s i
  repeat' split
  all_goals simp only at *
  all_goals (try (rename_i h _; rw [valid_iff] at h))
  all_goals omega
theorem fix_dec (s : ByteArray) : ∀ (f p : Nat), s.size ≤ p + f → (decAt s p).map fix = decAt s p
  | 0, p, h => by rw [decAt_end (by omega)]; rfl
  | f + 1, p, h => by
    by_cases hp : p < s.size
    · have wd := decode_width s p hp
      rw [decAt_step hp, List.map_cons, fix_dec s f _ (by omega)]
      congr 1
      unfold fix
      rw [if_neg (decode_valid s p)]
    · rw [decAt_end (by omega)]; rfl
theorem fix_decL (s : ByteArray) : (decodeL s).map fix = decodeL s := fix_dec s s.size 0 (by omega)
theorem dec_clean (s : ByteArray) : decodeL (clean s) = decodeL s := by
  unfold clean
  rw [dec_encode, fix_decL]
theorem clean_clean (s : ByteArray) : clean (clean s) = clean s := by
  show encode (decodeL (clean s)) = _
  rw [dec_clean]; rfl
theorem toList_inj {a b : ByteArray} (h : a.toList = b.toList) : a = b := by
  rw [toList_data, toList_data] at h
  cases a; cases b
  simp only [ByteArray.mk.injEq]
  exact Array.toList_inj.1 h
theorem good_eq {s : ByteArray} (h : good s = true) : clean s = s := toList_inj (of_decide_eq_true h)
theorem dec_good {s : ByteArray} (h : good s = true) (t : ByteArray) : decodeL (s ++ t) = decodeL s ++ decodeL t := by
  have e := good_eq h
  have h2 := dec_join (decodeL s) t
  rw [fix_decL] at h2
  have h3 : encode (decodeL s) = s := e
  rw [h3] at h2
  exact h2
theorem encode_size (l : List Int) : (encode l).size ≤ 4 * l.length := by
  have := encode_len l l.length (Nat.le_refl _)
  rwa [List.take_length] at this
theorem decL_len (s : ByteArray) : (decodeL s).length ≤ s.size := by
  have := decAt_len s s.size 0 (by omega)
  exact this
end Go.Fr.C01
