/-
  Texts as runes: what Go's decoding is, in numbers. Conditions: none.
-/
import Derived.Test.YtepnpmaoodljkaaDoorFrY
namespace Go.Fr
open Go

/-- A text's byte, as a number. -/
def byt (s : ByteArray) (k : Nat) : Nat := (s.get! k).toNat
theorem byt_lt (s : ByteArray) (k : Nat) : byt s k < 256 := (s.get! k).toNat_lt
/-- How many bytes the right encoding of a number has; 0: it has none. -/
def uSize (r : Int) : Int := if r < 0 ∨ r > 1114111 ∨ (r ≥ 55296 ∧ r ≤ 57343) then 0 else if r < 128 then 1 else if r < 2048 then 2 else if r < 65536 then 3 else 4
/-- The bytes of a number that has so many. -/
def uBytes (r n : Int) : List Int :=
  if n = 1 then [r] else if n = 2 then [192 + r / 64, 128 + r % 64] else if n = 3 then [224 + r / 4096, 128 + r / 64 % 64, 128 + r % 64] else [240 + r / 262144, 128 + r / 4096 % 64, 128 + r / 64 % 64, 128 + r % 64]
/-- The number that bytes say. -/
def uNum : List Int → Int
  | [] => 0
  | [a] => a
  | [a, b] => 64 * (a - 192) + b - 128
  | [a, b, c] => 64 * (64 * (a - 224) + b - 128) + c - 128
  | a :: b :: c :: d :: _ => 64 * (64 * (64 * (a - 240) + b - 128) + c - 128) + d - 128
/-- The rune at a place, and its bytes. -/
def uStep (s : ByteArray) (at_ : Int) : Int × Int × Unit :=
  if at_ < 0 ∨ at_ ≥ (s.size : Int) then (0, 0, ()) else (((Utf8.decode s at_.toNat).1 : Int), ((Utf8.decode s at_.toNat).2 : Int), ())
theorem decode_eq (s : ByteArray) (i : Nat) : Utf8.decode s i =
    if byt s i < 128 then (byt s i, 1)
    else if byt s i / 32 = 6 ∧ i + 1 < s.size ∧ byt s (i + 1) / 64 = 2 then
      (if (byt s i % 32) * 64 + byt s (i + 1) % 64 ≥ 128 then ((byt s i % 32) * 64 + byt s (i + 1) % 64, 2) else (65533, 1))
    else if byt s i / 16 = 14 ∧ (i + 1 < s.size ∧ byt s (i + 1) / 64 = 2) ∧ (i + 2 < s.size ∧ byt s (i + 2) / 64 = 2) then
      (if (byt s i % 16) * 4096 + (byt s (i + 1) % 64) * 64 + byt s (i + 2) % 64 ≥ 2048 ∧ Utf8.valid (((byt s i % 16) * 4096 + (byt s (i + 1) % 64) * 64 + byt s (i + 2) % 64 : Nat) : Int) = true then
        ((byt s i % 16) * 4096 + (byt s (i + 1) % 64) * 64 + byt s (i + 2) % 64, 3) else (65533, 1))
    else if byt s i / 8 = 30 ∧ (i + 1 < s.size ∧ byt s (i + 1) / 64 = 2) ∧ (i + 2 < s.size ∧ byt s (i + 2) / 64 = 2) ∧ (i + 3 < s.size ∧ byt s (i + 3) / 64 = 2) then
      (if (byt s i % 8) * 262144 + (byt s (i + 1) % 64) * 4096 + (byt s (i + 2) % 64) * 64 + byt s (i + 3) % 64 ≥ 65536 ∧ Utf8.valid (((byt s i % 8) * 262144 + (byt s (i + 1) % 64) * 4096 + (byt s (i + 2) % 64) * 64 + byt s (i + 3) % 64 : Nat) : Int) = true then
        ((byt s i % 8) * 262144 + (byt s (i + 1) % 64) * 4096 + (byt s (i + 2) % 64) * 64 + byt s (i + 3) % 64, 4) else (65533, 1))
    else (65533, 1) := by
  unfold Utf8.decode byt
  simp only [Nat.add_zero, Bool.and_eq_true, decide_eq_true_eq, beq_iff_eq, and_assoc]
  rfl
theorem valid_iff (r : Int) : Utf8.valid r = true ↔ (0 ≤ r ∧ r < 55296) ∨ (57344 ≤ r ∧ r ≤ 1114111) := by
  simp [Utf8.valid]
/-- A step: one byte at least, no more than there are. -/
theorem decode_width (s : ByteArray) (i : Nat) (h : i < s.size) : 1 ≤ (Utf8.decode s i).2 ∧ (Utf8.decode s i).2 ≤ 4 ∧ i + (Utf8.decode s i).2 ≤ s.size := by
  rw [decode_eq]
  repeat' split
  all_goals simp only
  all_goals omega
theorem decode_rune (s : ByteArray) (i : Nat) : (Utf8.decode s i).1 ≤ 1114111 := by
  rw [decode_eq]
  have := byt_lt s i
  repeat' split
  all_goals simp only
  all_goals (try (rename_i h; rw [valid_iff] at h))
  all_goals omega
/-- All runes from a place on. -/
def decFrom (s : ByteArray) : Nat → Nat → List Int
  | 0, _ => []
  | f + 1, p => if p < s.size then ((Utf8.decode s p).1 : Int) :: decFrom s f (p + (Utf8.decode s p).2) else []
def decodeL (s : ByteArray) : List Int := decFrom s s.size 0
/-- Enough steps are enough. -/
theorem decFrom_fuel (s : ByteArray) : ∀ (f g p : Nat), s.size ≤ p + f → s.size ≤ p + g → decFrom s f p = decFrom s g p
  | 0, 0, _, _, _ => rfl
  | 0, g + 1, p, h, _ => by simp only [decFrom]; rw [if_neg (by omega)]
  | f + 1, 0, p, _, h => by simp only [decFrom]; rw [if_neg (by omega)]
  | f + 1, g + 1, p, h1, h2 => by
    simp only [decFrom]
    by_cases h : p < s.size
    · rw [if_pos h, if_pos h]
      have := decode_width s p h
      rw [decFrom_fuel s f g _ (by omega) (by omega)]
    · rw [if_neg h, if_neg h]
def decAt (s : ByteArray) (p : Nat) : List Int := decFrom s s.size p
theorem decAt_step {s : ByteArray} {p : Nat} (h : p < s.size) : decAt s p = ((Utf8.decode s p).1 : Int) :: decAt s (p + (Utf8.decode s p).2) := by
  unfold decAt
  have hw := decode_width s p h
  obtain ⟨n, hn⟩ : ∃ n, s.size = n + 1 := ⟨s.size - 1, by omega⟩
  have e : decFrom s s.size p = decFrom s (n + 1) p := by rw [hn]
  rw [e]
  simp only [decFrom]
  rw [if_pos h, decFrom_fuel s n s.size _ (by omega) (by omega)]
theorem decAt_end {s : ByteArray} {p : Nat} (h : s.size ≤ p) : decAt s p = [] := by
  unfold decAt
  cases hs : s.size with
  | zero => rfl
  | succ n => simp only [decFrom]; rw [if_neg (by omega)]
theorem decAt_len (s : ByteArray) : ∀ (f p : Nat), s.size ≤ p + f → (decAt s p).length ≤ s.size - p
  | 0, p, h => by rw [decAt_end (by omega)]; exact Nat.zero_le _
  | f + 1, p, h => by
    by_cases hp : p < s.size
    · rw [decAt_step hp]
      have hw := decode_width s p hp
      have := decAt_len s f (p + (Utf8.decode s p).2) (by omega)
      simp only [List.length_cons]
      omega
    · rw [decAt_end (by omega)]; exact Nat.zero_le _

theorem uSize_1 {r : Int} : uSize r = 1 ↔ 0 ≤ r ∧ r < 128 := by
  unfold uSize; repeat' split
  all_goals omega
theorem uSize_2 {r : Int} : uSize r = 2 ↔ 128 ≤ r ∧ r < 2048 := by
  unfold uSize; repeat' split
  all_goals omega
theorem uSize_3 {r : Int} : uSize r = 3 ↔ 2048 ≤ r ∧ r < 65536 ∧ (r < 55296 ∨ 57343 < r) := by
  unfold uSize; repeat' split
  all_goals omega
theorem uSize_4 {r : Int} : uSize r = 4 ↔ 65536 ≤ r ∧ r ≤ 1114111 := by
  unfold uSize; repeat' split
  all_goals omega
/-- The first bytes at a place. -/
def bytesAt (s : ByteArray) (i : Nat) : Nat → List Int
  | 0 => []
  | n + 1 => (byt s i : Int) :: bytesAt s (i + 1) n
/-- Have so many bytes the form of a right encoding? -/
def fitsN (s : ByteArray) (i n : Nat) : Prop := uSize (uNum (bytesAt s i n)) = (n : Int) ∧ uBytes (uNum (bytesAt s i n)) (n : Int) = bytesAt s i n
theorem fits_1 {s : ByteArray} {i : Nat} : fitsN s i 1 ↔ byt s i < 128 := by
  have := byt_lt s i
  simp only [fitsN, bytesAt, uNum]
  rw [show ((1 : Nat) : Int) = 1 from rfl, uSize_1]
  unfold uBytes
  rw [if_pos rfl]
  simp only [and_true]
  omega
theorem fits_2 {s : ByteArray} {i : Nat} : fitsN s i 2 ↔ byt s i / 32 = 6 ∧ byt s (i + 1) / 64 = 2 ∧ (byt s i % 32) * 64 + byt s (i + 1) % 64 ≥ 128 := by
  have := byt_lt s i
  have := byt_lt s (i + 1)
  simp only [fitsN, bytesAt, uNum]
  rw [show ((2 : Nat) : Int) = 2 from rfl, uSize_2]
  unfold uBytes
  rw [if_neg (by decide), if_pos rfl]
  simp only [List.cons.injEq, and_true]
  omega
theorem fits_3 {s : ByteArray} {i : Nat} : fitsN s i 3 ↔ byt s i / 16 = 14 ∧ byt s (i + 1) / 64 = 2 ∧ byt s (i + 2) / 64 = 2 ∧ (byt s i % 16) * 4096 + (byt s (i + 1) % 64) * 64 + byt s (i + 2) % 64 ≥ 2048 ∧
    Utf8.valid (((byt s i % 16) * 4096 + (byt s (i + 1) % 64) * 64 + byt s (i + 2) % 64 : Nat) : Int) = true := by
  have := byt_lt s i
  have := byt_lt s (i + 1)
  have := byt_lt s (i + 2)
  simp only [fitsN, bytesAt, uNum]
  rw [show ((3 : Nat) : Int) = 3 from rfl, uSize_3, valid_iff, show i + 1 + 1 = i + 2 from rfl]
  unfold uBytes
  rw [if_neg (by decide), if_neg (by decide), if_pos rfl]
  simp only [List.cons.injEq, and_true]
  omega
theorem fits_4 {s : ByteArray} {i : Nat} : fitsN s i 4 ↔ byt s i / 8 = 30 ∧ byt s (i + 1) / 64 = 2 ∧ byt s (i + 2) / 64 = 2 ∧ byt s (i + 3) / 64 = 2 ∧ (byt s i % 8) * 262144 + (byt s (i + 1) % 64) * 4096 + (byt s (i + 2) % 64) * 64 + byt s (i + 3) % 64 ≥ 65536 ∧
    Utf8.valid (((byt s i % 8) * 262144 + (byt s (i + 1) % 64) * 4096 + (byt s (i + 2) % 64) * 64 + byt s (i + 3) % 64 : Nat) : Int) = true := by
  have := byt_lt s i
  have := byt_lt s (i + 1)
  have := byt_lt s (i + 2)
  have := byt_lt s (i + 3)
  simp only [fitsN, bytesAt, uNum]
  rw [show ((4 : Nat) : Int) = 4 from rfl, uSize_4, valid_iff, show i + 1 + 1 = i + 2 from rfl, show i + 2 + 1 = i + 3 from rfl]
  unfold uBytes
  rw [if_neg (by decide), if_neg (by decide), if_neg (by decide)]
  simp only [List.cons.injEq, and_true]
  omega
/-- The document's step, by definition, is Go's. -/
theorem step_1 {s : ByteArray} {i : Nat} (h : fitsN s i 1) : Utf8.decode s i = (byt s i, 1) := by
  rw [decode_eq, if_pos (fits_1.1 h)]
theorem step_2 {s : ByteArray} {i : Nat} (hs : i + 2 ≤ s.size) (h : fitsN s i 2) : Utf8.decode s i = ((byt s i % 32) * 64 + byt s (i + 1) % 64, 2) := by
  have g := fits_2.1 h
  rw [decode_eq, if_neg (by omega), if_pos (by omega), if_pos (by omega)]
theorem step_3 {s : ByteArray} {i : Nat} (hs : i + 3 ≤ s.size) (h : fitsN s i 3) : Utf8.decode s i = ((byt s i % 16) * 4096 + (byt s (i + 1) % 64) * 64 + byt s (i + 2) % 64, 3) := by
  have g := fits_3.1 h
  rw [decode_eq, if_neg (by omega), if_neg (by omega), if_pos (by omega), if_pos ⟨g.2.2.2.1, g.2.2.2.2⟩]
theorem step_4 {s : ByteArray} {i : Nat} (hs : i + 4 ≤ s.size) (h : fitsN s i 4) : Utf8.decode s i = ((byt s i % 8) * 262144 + (byt s (i + 1) % 64) * 4096 + (byt s (i + 2) % 64) * 64 + byt s (i + 3) % 64, 4) := by
  have g := fits_4.1 h
  rw [decode_eq, if_neg (by omega), if_neg (by omega), if_neg (by omega), if_pos (by omega), if_pos ⟨g.2.2.2.2.1, g.2.2.2.2.2⟩]
theorem step_0 {s : ByteArray} {i : Nat} (h1 : ¬ fitsN s i 1) (h2 : i + 2 ≤ s.size → ¬ fitsN s i 2) (h3 : i + 3 ≤ s.size → ¬ fitsN s i 3) (h4 : i + 4 ≤ s.size → ¬ fitsN s i 4) : Utf8.decode s i = (65533, 1) := by
  rw [fits_1] at h1
  rw [fits_2] at h2
  rw [fits_3] at h3
  rw [fits_4] at h4
  rw [decode_eq, if_neg h1]
  by_cases c2 : byt s i / 32 = 6 ∧ i + 1 < s.size ∧ byt s (i + 1) / 64 = 2
  · rw [if_pos c2, if_neg (fun g => h2 (by omega) ⟨c2.1, c2.2.2, g⟩)]
  · rw [if_neg c2]
    by_cases c3 : byt s i / 16 = 14 ∧ (i + 1 < s.size ∧ byt s (i + 1) / 64 = 2) ∧ (i + 2 < s.size ∧ byt s (i + 2) / 64 = 2)
    · rw [if_pos c3, if_neg (fun g => h3 (by omega) ⟨c3.1, c3.2.1.2, c3.2.2.2, g.1, g.2⟩)]
    · rw [if_neg c3]
      by_cases c4 : byt s i / 8 = 30 ∧ (i + 1 < s.size ∧ byt s (i + 1) / 64 = 2) ∧ (i + 2 < s.size ∧ byt s (i + 2) / 64 = 2) ∧ (i + 3 < s.size ∧ byt s (i + 3) / 64 = 2)
      · rw [if_pos c4, if_neg (fun g => h4 (by omega) ⟨c4.1, c4.2.1.2, c4.2.2.1.2, c4.2.2.2.2, g.1, g.2⟩)]
      · rw [if_neg c4]
/-- So many bytes that have the form say what Go decodes. -/
theorem step_n {s : ByteArray} {i n : Nat} (h0 : 1 ≤ n) (h4 : n ≤ 4) (hs : i + n ≤ s.size) (h : fitsN s i n) : Utf8.decode s i = ((uNum (bytesAt s i n)).toNat, n) := by
  have := byt_lt s i
  have := byt_lt s (i + 1)
  have := byt_lt s (i + 2)
  have := byt_lt s (i + 3)
  have e : n = 1 ∨ n = 2 ∨ n = 3 ∨ n = 4 := by omega
  rcases e with rfl | rfl | rfl | rfl
  · rw [step_1 h]; rfl
  · rw [step_2 hs h]
    have g := fits_2.1 h
    simp only [bytesAt, uNum, Prod.mk.injEq, and_true]
    omega
  · rw [step_3 hs h]
    have g := fits_3.1 h
    simp only [bytesAt, uNum, Prod.mk.injEq, and_true, show i + 1 + 1 = i + 2 from rfl]
    omega
  · rw [step_4 hs h]
    have g := fits_4.1 h
    simp only [bytesAt, uNum, Prod.mk.injEq, and_true, show i + 1 + 1 = i + 2 from rfl, show i + 2 + 1 = i + 3 from rfl]
    omega
theorem byt_data (s : ByteArray) (k : Nat) : UInt8.toNat (Option.getD s.data[k]? (0 : UInt8)) = byt s k := by
  have e : s.get! k = s.data[k]! := by cases s; rfl
  unfold byt
  rw [e, getElem!_def]
  cases s.data[k]? <;> rfl
theorem toListLoop (s : ByteArray) : ∀ (n i : Nat) (r : List UInt8), s.size ≤ i + n → ByteArray.toList.loop s i r = r.reverse ++ s.data.toList.drop i
  | 0, i, r, h => by
    rw [ByteArray.toList.loop]
    rw [if_neg (by omega), List.drop_eq_nil_of_le (by rw [Array.length_toList]; exact h)]
    simp
  | n + 1, i, r, h => by
    rw [ByteArray.toList.loop]
    by_cases hi : i < s.size
    · rw [if_pos hi, toListLoop s n (i + 1) _ (by omega)]
      have hl : i < s.data.toList.length := by rw [Array.length_toList]; exact hi
      rw [List.drop_eq_getElem_cons hl]
      have : s.get! i = s.data.toList[i] := by
        have e : s.get! i = s.data[i]! := by cases s; rfl
        rw [e, getElem!_pos s.data i hi]
        simp
      simp [this]
    · rw [if_neg hi, List.drop_eq_nil_of_le (by rw [Array.length_toList]; exact Nat.not_lt.1 hi)]
      simp
theorem toList_data (s : ByteArray) : s.toList = s.data.toList := by
  unfold ByteArray.toList
  rw [toListLoop s s.size 0 [] (by omega)]
  simp
theorem bytesAt_len (s : ByteArray) : ∀ (n i : Nat), (bytesAt s i n).length = n
  | 0, _ => rfl
  | n + 1, i => by simp [bytesAt, bytesAt_len s n]
theorem bytesAt_get (s : ByteArray) : ∀ (n i k : Nat), k < n → (bytesAt s i n)[k]? = some (byt s (i + k) : Int)
  | 0, _, _, h => by omega
  | n + 1, i, 0, _ => rfl
  | n + 1, i, k + 1, h => by
    show (bytesAt s (i + 1) n)[k]? = _
    rw [bytesAt_get s n (i + 1) k (by omega)]
    have : i + 1 + k = i + (k + 1) := by omega
    rw [this]
theorem strBytes_get (s : ByteArray) (k : Nat) (h : k < s.size) : (strBytes s)[k]? = some (byt s k : Int) := by
  unfold strBytes
  have hl : k < s.data.toList.length := by rw [Array.length_toList]; exact h
  rw [List.getElem?_map, List.getElem?_eq_getElem hl]
  have := byt_data s k
  have e : s.data[k]? = some s.data.toList[k] := by
    rw [Array.getElem?_eq_getElem h]; simp
  rw [e] at this
  simp only [Option.getD_some] at this
  show some ((s.data.toList[k].toNat : Nat) : Int) = _
  rw [this]
theorem strBytes_len (s : ByteArray) : (strBytes s).length = s.size := by
  unfold strBytes
  rw [List.length_map, Array.length_toList]
  rfl
theorem strBytes_all (s : ByteArray) : strBytes s = bytesAt s 0 s.size := by
  apply List.ext_getElem?
  intro k
  by_cases h : k < s.size
  · rw [strBytes_get s k h, bytesAt_get s _ _ _ h, Nat.zero_add]
  · rw [List.getElem?_eq_none (by rw [strBytes_len]; omega), List.getElem?_eq_none (by rw [bytesAt_len]; omega)]
theorem extract_byt (s : ByteArray) (i j k : Nat) (h : i + k < j) (hj : j ≤ s.size) : byt (s.extract i j) k = byt s (i + k) := by
  rw [← byt_data, ← byt_data, ByteArray.data_extract, Array.getElem?_extract]
  have hs : s.data.size = s.size := rfl
  rw [hs, Nat.min_eq_left hj, if_pos (by omega)]
theorem strBytes_extract (s : ByteArray) (i n : Nat) (h : i + n ≤ s.size) : strBytes (s.extract i (i + n)) = bytesAt s i n := by
  have hz : (s.extract i (i + n)).size = n := by rw [ByteArray.size_extract]; omega
  rw [strBytes_all, hz]
  apply List.ext_getElem?
  intro k
  by_cases hk : k < n
  · rw [bytesAt_get _ _ _ _ hk, bytesAt_get _ _ _ _ hk, Nat.zero_add, extract_byt s i (i + n) k (by omega) h]
  · rw [List.getElem?_eq_none (by rw [bytesAt_len]; omega), List.getElem?_eq_none (by rw [bytesAt_len]; omega)]
theorem strBytes_inj {a b : ByteArray} : strBytes a = strBytes b ↔ a.toList = b.toList := by
  rw [toList_data, toList_data]
  unfold strBytes
  constructor
  · intro h
    apply List.ext_getElem?
    intro k
    have := congrArg (fun l => l[k]?) h
    simp only [List.getElem?_map] at this
    cases h1 : a.data.toList[k]? <;> cases h2 : b.data.toList[k]? <;> rw [h1, h2] at this <;> simp_all
    exact UInt8.toNat_inj.1 (by omega)
  · intro h; rw [h]
theorem strBytes_of {l : List Int} (h : ∀ x ∈ l, 0 ≤ x ∧ x < 256) : strBytes (bytesOf l) = l := by
  unfold strBytes bytesOf
  simp only [List.map_map]
  conv => rhs; rw [← List.map_id l]
  apply List.map_congr_left
  intro x hx
  have := h x hx
  simp only [Function.comp, id]
  rw [UInt8.toNat_ofNat']
  omega
theorem wrap32_eq (n : Int) : IntKind.i32.wrap n = (n + 2147483648) % 4294967296 - 2147483648 := by
  have e : IntKind.i32.wrap n = if n % 4294967296 ≥ 2147483648 then n % 4294967296 - 4294967296 else n % 4294967296 := by
    unfold IntKind.wrap
    have hb : IntKind.i32.bits = 32 := rfl
    have hs : IntKind.i32.signed = true := rfl
    rw [hb, hs]
    simp
  rw [e]
  split <;> omega
theorem wrap8_eq (n : Int) : IntKind.u8.wrap n = n % 256 := by
  unfold IntKind.wrap
  have hb : IntKind.u8.bits = 8 := rfl
  have hs : IntKind.u8.signed = false := rfl
  rw [hb, hs]
  simp
end Go.Fr
