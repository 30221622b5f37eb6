/-
  Chapter 20: proofs of the functions' conditions, second part. Conditions: none.
-/
import Derived.Test.YtkgplompdnjodaaC20Q
namespace Go.Fr.C20
open Go Go.Fr Go.Proofs

theorem p18 : vc18 := by
  unfold vc18
  simp only [eq_self, true_and, and_true, decide_eq_true_eq, decide_eq_false_iff_not, beq_iff_eq, beq_eq_false_iff_ne, bne_iff_ne, bne_eq_false_iff_eq, Bool.not_eq_true', Bool.not_eq_false', ne_eq, imp_true_iff, implies_true]
  rintro ⟨w, ⟨⟩⟩ _
  simp only
  unfold wRight
  refine ⟨fun h => ?_, fun h => (decide_eq_false (by omega)).symm⟩
  rw [Bool.eq_iff_iff, decide_eq_true_eq, decide_eq_true_eq]
  omega
theorem p14 : vc14 := p18
theorem wRight_iff {w : Int} : wRight w = true ↔ 0 ≤ w ∧ w ≤ 200 := by unfold wRight; rw [decide_eq_true_eq]
theorem wRight_no {w : Int} : wRight w = false ↔ ¬ (0 ≤ w ∧ w ≤ 200) := by unfold wRight; rw [decide_eq_false_iff_not]
theorem indent_bd {l : List Cell} (h : okL l) : 0 ≤ indent l ∧ indent l ≤ 8 := by
  have := lead_pos h.2
  unfold indent
  split <;> omega
theorem hang_bd {l : List Cell} (h : okL l) (w : Int) : 0 ≤ hang l w ∧ hang l w ≤ 8 ∧ (0 < hang l w → hang l w + 2 ≤ w) := by
  have := indent_bd h
  unfold hang
  split <;> omega
theorem p12 : vc12 := by
  unfold vc12
  simp only [eq_self, true_and, and_true, decide_eq_true_eq, decide_eq_false_iff_not, beq_iff_eq, beq_eq_false_iff_ne, bne_iff_ne, bne_eq_false_iff_eq, Bool.not_eq_true', Bool.not_eq_false', ne_eq, imp_true_iff, implies_true]
  rintro ⟨l, w, ⟨⟩⟩
  simp only
  intro hl
  have b := indent_bd hl
  have w1 : IntKind.i64.wrap (indent l + 2) = indent l + 2 := by rw [wrap_eq]; omega
  rw [w1]
  unfold hang
  refine ⟨hl, fun h => ?_, fun h => ⟨fun h2 => ?_, fun h2 => ?_⟩⟩
  · rw [wRight_no] at h
    rw [if_neg (by omega)]
  · rw [if_neg (by omega)]
  · rw [wRight_iff] at h
    rw [if_pos (by omega)]
theorem p13 : vc13 := by
  unfold vc13
  simp only [eq_self, true_and, and_true, decide_eq_true_eq, decide_eq_false_iff_not, beq_iff_eq, beq_eq_false_iff_ne, bne_iff_ne, bne_eq_false_iff_eq, Bool.not_eq_true', Bool.not_eq_false', ne_eq, imp_true_iff, implies_true]
  rintro ⟨l, w, ⟨⟩⟩
  simp only
  intro hl
  have b := indent_bd hl
  unfold hang
  refine ⟨hl, fun h => ?_, fun h => ?_⟩
  · rw [wRight_no] at h
    rw [if_neg (by omega)]
  · rw [wRight_iff] at h
    have w1 : IntKind.i64.wrap (w - 2) = w - 2 := by rw [wrap_eq]; omega
    rw [w1]
    refine ⟨fun h2 => ?_, fun h2 => ?_⟩
    · rw [if_neg (by omega)]
    · rw [if_pos (by omega)]
theorem p19 : vc19 := by
  unfold vc19
  simp only [eq_self, true_and, and_true, decide_eq_true_eq, decide_eq_false_iff_not, beq_iff_eq, beq_eq_false_iff_ne, bne_iff_ne, bne_eq_false_iff_eq, Bool.not_eq_true', Bool.not_eq_false', ne_eq, imp_true_iff, implies_true]
  rintro ⟨l, w, ⟨⟩⟩
  simp only
  rintro ⟨hl, h0, h2⟩
  have b := hang_bd hl w
  have w1 : IntKind.i64.wrap (w - hang l w) = w - hang l w := by rw [wrap_eq]; omega
  rw [w1]
  unfold wtakes
  refine ⟨fun h => by rw [if_pos h], fun h => ⟨hl, hl, by rw [if_neg h]⟩⟩
theorem rep_succ {α : Type} (n : Nat) (x : α) : List.replicate n x ++ [x] = List.replicate (n + 1) x := (List.replicate_succ' ..).symm
theorem p20 : vc20 := by
  unfold vc20
  simp only [eq_self, true_and, and_true, decide_eq_true_eq, decide_eq_false_iff_not, beq_iff_eq, beq_eq_false_iff_ne, bne_iff_ne, bne_eq_false_iff_eq, Bool.not_eq_true', Bool.not_eq_false', ne_eq, imp_true_iff, implies_true]
  rintro ⟨n, l, ⟨⟩⟩
  simp only
  rintro ⟨n0, n8, hl, hne⟩
  rw [maxLen_eq, d38]
  have e0 : Int.toNat 0 = 0 := rfl
  rw [e0]
  obtain ⟨m, rfl⟩ : ∃ m : Nat, n = (m : Int) := ⟨n.toNat, by omega⟩
  refine ⟨fun z => ∃ k : Nat, k ≤ m ∧ z.2.1 = (k : Int) ∧ z.1 = List.replicate k (inCell (l.getD 0 zCell).2.2.2.1), fun z => m - z.2.1.toNat, ⟨0, Nat.zero_le _, rfl, rfl⟩, ?_⟩
  rintro a i ⟨k, hk, hi, ha⟩
  simp only at hi ha
  subst hi ha
  have e1 : ∀ c : Cell, [c].length = 1 := fun _ => rfl
  refine ⟨fun g => ?_, fun g => ?_⟩
  · have hlt : k < m := by omega
    have hw : IntKind.i64.wrap ((k : Int) + 1) = ((k + 1 : Nat) : Int) := wrap_succ (by omega)
    have hn := hne (by omega)
    have : 1 ≤ l.length := by cases l <;> simp_all
    rw [hw, List.length_replicate]
    refine ⟨by omega, by simp only [List.length_cons, List.length_nil]; omega, by simp only [List.length_cons, List.length_nil]; omega, ⟨k + 1, hlt, rfl, rep_succ k _⟩, ?_⟩
    show m - (((k + 1 : Nat) : Int)).toNat < m - (k : Int).toNat
    rw [toNat_cast, toNat_cast]; omega
  · have : k = m := by omega
    subst this
    rw [List.length_replicate]
    exact ⟨by omega, by omega, by unfold behind; rw [toNat_cast]⟩
/-- Numbers that cut cells. -/
def Cuts : List Int → List Cell → Prop
  | [], _ => False
  | n :: ns, l => ∃ m : Nat, n = (m : Int) ∧ m ≤ l.length ∧ (l ≠ [] → 1 ≤ m) ∧ (ns = [] ∧ l.drop m = [] ∨ l.drop m ≠ [] ∧ Cuts ns (l.drop m))
theorem rowsGo_cuts (q : Int) : ∀ (f : Nat) (l : List Cell) (n : Nat), l.length < f → n ≤ l.length → (l ≠ [] → 1 ≤ n) → Cuts (rowsGo q f l n) l
  | 0, _, _, h, _, _ => by omega
  | f + 1, l, n, h, hn, hp => by
    unfold rowsGo
    refine ⟨n, rfl, hn, hp, ?_⟩
    by_cases e : l.drop n = []
    · rw [if_pos e]; exact .inl ⟨rfl, e⟩
    · rw [if_neg e]
      have hl : l ≠ [] := fun e' => e (by rw [e']; simp)
      have := hp hl
      have : 1 ≤ l.length := by cases l <;> simp_all
      exact .inr ⟨e, rowsGo_cuts q f _ _ (by rw [List.length_drop]; omega) (takes_le _ _) fun e' => takes_pos e' q⟩
theorem wtakes_cuts {l : List Cell} {w : Int} : Cuts (wtakes l w) l := by
  unfold wtakes
  split
  · exact ⟨l.length, rfl, Nat.le_refl _, fun h => by cases l <;> simp_all, .inl ⟨rfl, List.drop_length ..⟩⟩
  · exact rowsGo_cuts _ _ l _ (Nat.lt_succ_self _) (start_le l w) fun e => start_pos e w
theorem wtakes_len (l : List Cell) (w : Int) : (wtakes l w).length ≤ l.length + 1 := by
  unfold wtakes
  split
  · simp
  · exact allR_len l w _
/-- Where the cuts are. -/
def Cur2 (T : List Int) (l : List Cell) (k at_ : Nat) : Prop := at_ ≤ l.length ∧ (T.drop k = [] ∨ (Cuts (T.drop k) (l.drop at_) ∧ (0 < k → l.drop at_ ≠ [])))
theorem cur2_0 {T : List Int} {l : List Cell} (h : Cuts T l) : Cur2 T l 0 0 := ⟨Nat.zero_le _, .inr ⟨h, fun h => by omega⟩⟩
theorem cur2_step {T : List Int} {l : List Cell} {k at_ : Nat} (h : Cur2 T l k at_) (hk : k < T.length) : ∃ m : Nat, T.getD k 0 = (m : Int) ∧ at_ + m ≤ l.length ∧ (l.drop at_ ≠ [] → 1 ≤ m) ∧ (0 < k → l.drop at_ ≠ []) ∧ Cur2 T l (k + 1) (at_ + m) := by
  obtain ⟨h0, h1⟩ := h
  rw [drop_cons (0 : Int) hk] at h1
  rcases h1 with h1 | ⟨⟨m, e1, e2, e3, e4⟩, h2⟩
  · cases h1
  · rw [List.length_drop] at e2
    refine ⟨m, e1, by omega, e3, h2, by omega, ?_⟩
    rw [List.drop_drop] at e4
    rcases e4 with ⟨e4, _⟩ | ⟨e4, e5⟩
    · exact .inl e4
    · exact .inr ⟨e5, fun _ => e4⟩
theorem cut_step {T : List Int} {l : List Cell} {h : Int} {k at_ : Nat} (hk : k < T.length) : cutRows h k (T.drop k) (l.drop at_) = behind (if k = 0 then 0 else h) ((l.drop at_).take (T.getD k 0).toNat) :: cutRows h (k + 1) (T.drop (k + 1)) (l.drop (at_ + (T.getD k 0).toNat)) := by
  rw [drop_cons (0 : Int) hk, cutRows, List.drop_drop]
theorem cut_end {T : List Int} {l : List Cell} {h : Int} {k : Nat} (hk : T.length ≤ k) : cutRows h k (T.drop k) l = [] := by
  rw [List.drop_eq_nil_of_le hk]; rfl
theorem p10 : vc10 := by
  unfold vc10
  simp only [eq_self, true_and, and_true, decide_eq_true_eq, decide_eq_false_iff_not, beq_iff_eq, beq_eq_false_iff_ne, bne_iff_ne, bne_eq_false_iff_eq, Bool.not_eq_true', Bool.not_eq_false', ne_eq, imp_true_iff, implies_true]
  rintro ⟨l, w, ⟨⟩⟩
  simp only
  intro hl
  have h1 := hl.1
  refine ⟨fun h => by unfold rowsE; rw [if_neg (by rw [h]; decide)], fun h => ?_⟩
  have hw := wRight_iff.1 h
  have b := hang_bd hl w
  have hT := wtakes_cuts (l := l) (w := w)
  have hTl := wtakes_len l w
  have e0 : (wtakes l w) = cWTakes.fn (l, w, ()) := rfl
  have e2 : hang l w = cHang.fn (l, w, ()) := rfl
  rw [← e0, ← e2]
  have d3' : Ty.dflt t3 = (0 : Int) := rfl
  rw [d3', maxLen_eq]
  have hR : rowsW l w = cutRows (hang l w) 0 (wtakes l w) l := rfl
  have hE : rowsE l w = (rowsW l w, 0, ()) := by unfold rowsE; rw [if_pos h]
  rw [hE, hR]
  clear hE hR e0 e2
  generalize wtakes l w = T at *
  generalize hang l w = hg at *
  refine ⟨hl, ⟨hl, hw.1, hw.2⟩, fun z => ∃ k at_ : Nat, k ≤ T.length ∧ z.2.2.1 = (k : Int) ∧ z.1 = l.drop at_ ∧ Cur2 T l k at_ ∧ cutRows hg 0 T l = z.2.1 ++ cutRows hg k (T.drop k) (l.drop at_) ∧ z.2.1.length = k, fun z => T.length - z.2.2.1.toNat,
    ⟨0, 0, Nat.zero_le _, rfl, rfl, cur2_0 hT, rfl, rfl⟩, ?_⟩
  rintro a o i ⟨k, at_, hk, hi, ha, hc, hs, ho⟩
  simp only at hi ha hs ho
  subst hi ha
  rw [toNat_cast]
  have e1 : ∀ c : List Cell, [c].length = 1 := fun _ => rfl
  refine ⟨fun g => ?_, fun g => ?_⟩
  · have hlt : k < T.length := by omega
    have hw2 : IntKind.i64.wrap ((k : Int) + 1) = ((k + 1 : Nat) : Int) := wrap_succ (by omega)
    obtain ⟨m, m1, m2, m3, m4, m5⟩ := cur2_step hc hlt
    rw [cut_step hlt, m1, toNat_cast] at hs
    rw [m1, hw2]
    simp only [toNat_cast, e1, List.length_take, List.length_drop]
    have hdec : T.length - (((k + 1 : Nat) : Int)).toNat < T.length - (k : Int).toNat := by rw [toNat_cast, toNat_cast]; omega
    refine ⟨by omega, fun g2 => ?_, fun g2 => ?_⟩
    · rw [if_pos (by omega)] at hs
      refine ⟨by omega, ⟨by omega, by omega, by omega, fun g3 => by omega⟩, by omega, by omega, by omega, ⟨k + 1, at_ + m, hlt, rfl, by rw [List.drop_drop], m5, ?_, ?_⟩, hdec⟩
      · rw [hs]; simp
      · simp [ho]
    · rw [if_neg (by omega)] at hs
      have hne := m4 (by omega)
      refine ⟨by omega, ⟨by omega, by omega, by omega, fun g3 e => ?_⟩, by omega, by omega, by omega, ⟨k + 1, at_ + m, hlt, rfl, by rw [List.drop_drop], m5, ?_, ?_⟩, hdec⟩
      · have := congrArg List.length e
        have hm := m3 hne
        have hlen : 1 ≤ (l.drop at_).length := by cases hd : l.drop at_ <;> simp_all
        rw [List.length_take] at this
        simp only [List.length_nil] at this
        omega
      · rw [hs]; simp
      · simp [ho]
  · rw [cut_end (by omega), List.append_nil] at hs
    rw [hs]
theorem cut_forall {P : List Cell → Prop} {h : Int} {L : List Cell} (hP : ∀ (j n : Nat) (b : Bool), P (behind (if b then 0 else h) ((L.drop j).take n))) : ∀ (T : List Int) (i j : Nat), ∀ x ∈ cutRows h i T (L.drop j), P x
  | [], _, _, x, hx => by cases hx
  | n :: ns, i, j, x, hx => by
    rw [cutRows] at hx
    rcases List.mem_cons.1 hx with e | e
    · subst e
      have := hP j n.toNat (decide (i = 0))
      by_cases g : i = 0
      · rw [if_pos g]; simpa [g] using this
      · rw [if_neg g]; simpa [g] using this
    · rw [List.drop_drop] at e
      exact cut_forall hP ns (i + 1) _ x e
theorem mem_behind {n : Int} {l : List Cell} {c : Cell} (h : c ∈ behind n l) : c = inCell (l.getD 0 zCell).2.2.2.1 ∨ c ∈ l := by
  rcases List.mem_append.1 h with h | h
  · exact .inl (List.eq_of_mem_replicate h)
  · exact .inr h
theorem rowsW_ok {l : List Cell} (hl : okL l) (w : Int) : ∀ x ∈ rowsW l w, okW x := by
  have b := hang_bd hl w
  have h1 := hl.1
  have := cut_forall (P := okW) (h := hang l w) (L := l) (fun j n bb => ?_) (wtakes l w) 0 0
  · exact this
  · refine ⟨?_, fun c hc => ?_⟩
    · unfold behind
      rw [List.length_append, List.length_replicate, List.length_take, List.length_drop]
      split <;> omega
    · rcases mem_behind hc with e | e
      · rw [e]; simp [wd, inCell]
      · exact hl.2 c (List.mem_of_mem_drop (List.mem_of_mem_take e))
theorem rowsE_ok {l : List Cell} (hl : okL l) (w : Int) : ∀ x ∈ (rowsE l w).1, okW x := by
  unfold rowsE
  split
  · exact rowsW_ok hl w
  · intro x hx; cases hx
theorem d22 : Ty.dflt t22 = ([] : List Cell) := rfl
theorem ok_row {R : List (List Cell)} (h : ∀ x ∈ R, okW x) {k : Nat} (hk : k < R.length) : okW (R.getD k []) := by
  rw [getD_of _ hk]; exact h _ (List.getElem_mem _)
theorem rowsW_len (l : List Cell) (w : Int) : ∀ (T : List Int) (i : Nat) (l : List Cell) (h : Int), (cutRows h i T l).length = T.length
  | [], _, _, _ => rfl
  | n :: ns, i, l', h => by rw [cutRows]; simp [rowsW_len l w ns]
theorem rowsE_len {l : List Cell} (hl : okL l) (w : Int) : (rowsE l w).1.length ≤ 201 := by
  have h1 := hl.1
  have h2 := wtakes_len l w
  unfold rowsE
  split
  · show (cutRows _ _ _ _).length ≤ _
    rw [rowsW_len l w]; omega
  · exact Nat.zero_le _
theorem widest_succ {R : List (List Cell)} {k : Nat} (hk : k < R.length) : widest (R.take (k + 1)) = if widest (R.take k) < width (R.getD k []) then width (R.getD k []) else widest (R.take k) := by
  unfold widest
  rw [foldl_take_succ hk, getD_of _ hk]
theorem countE_eq (l : List Cell) (w : Int) : countE l w = (((rowsE l w).1.length : Int), widest (rowsE l w).1, (rowsE l w).2) := by
  unfold countE rowsE
  split <;> rfl
theorem p11 : vc11 := by
  unfold vc11
  simp only [eq_self, true_and, and_true, decide_eq_true_eq, decide_eq_false_iff_not, beq_iff_eq, beq_eq_false_iff_ne, bne_iff_ne, bne_eq_false_iff_eq, Bool.not_eq_true', Bool.not_eq_false', ne_eq, imp_true_iff, implies_true]
  rintro ⟨l, w, ⟨⟩⟩
  simp only
  intro hl
  have h2 := rowsE_len hl w
  have ok := rowsE_ok hl w
  rw [countE_eq, d22]
  generalize rowsE l w = RE at *
  obtain ⟨R, e, ⟨⟩⟩ := RE
  simp only at *
  refine ⟨hl, fun z => ∃ k : Nat, k ≤ R.length ∧ z.2.1 = (k : Int) ∧ z.1 = widest (R.take k), fun z => R.length - z.2.1.toNat, ⟨0, Nat.zero_le _, rfl, rfl⟩, ?_⟩
  rintro a i ⟨k, hk, hi, ha⟩
  simp only at hi ha
  subst hi ha
  rw [toNat_cast]
  refine ⟨fun g => ?_, fun g => ?_⟩
  · have hlt : k < R.length := by omega
    have hw : IntKind.i64.wrap ((k : Int) + 1) = ((k + 1 : Nat) : Int) := wrap_succ (by omega)
    rw [hw]
    refine ⟨by omega, ok_row ok hlt, ⟨k + 1, hlt, rfl, (widest_succ hlt).symm⟩, ?_⟩
    show R.length - (((k + 1 : Nat) : Int)).toNat < R.length - (k : Int).toNat
    rw [toNat_cast, toNat_cast]; omega
  · have : k = R.length := by omega
    subst this
    rw [List.take_length]
theorem beq38 (x y : Cell) : Ty.beq t38 x y = true ↔ x = y := by
  obtain ⟨a, b, c, d, ⟨⟩⟩ := x
  obtain ⟨a', b', c', d', ⟨⟩⟩ := y
  show (a == a' && (b == b' && (c == c' && (d == d' && true)))) = true ↔ _
  simp [Prod.mk.injEq]
theorem p16 : vc16 := by
  unfold vc16
  simp only [eq_self, true_and, and_true, decide_eq_true_eq, decide_eq_false_iff_not, beq_iff_eq, beq_eq_false_iff_ne, bne_iff_ne, bne_eq_false_iff_eq, Bool.not_eq_true', Bool.not_eq_false', ne_eq, imp_true_iff, implies_true]
  rintro ⟨a, b, ⟨⟩⟩
  simp only
  rintro ⟨la, lb⟩
  rw [maxLen_eq] at la lb
  rw [d38]
  refine ⟨fun z => ∃ k : Nat, k ≤ a.length ∧ z.1 = (k : Int) ∧ k ≤ b.length ∧ ∀ j, j < k → a.getD j zCell = b.getD j zCell, fun z => a.length - z.1.toNat, ⟨0, Nat.zero_le _, rfl, Nat.zero_le _, fun j hj => absurd hj (Nat.not_lt_zero j)⟩, ?_⟩
  rintro i ⟨k, hk, hi, hkb, hs⟩
  simp only at hi
  subst hi
  rw [toNat_cast]
  have no : ∀ {p : Prop} [Decidable p], ¬ p → false = decide p := fun h => (decide_eq_false h).symm
  refine ⟨fun h => ⟨fun h2 => no fun e => ?_, fun h2 => ⟨by omega, by omega, fun h3 => no fun e => ?_, fun h3 => ?_⟩⟩, fun h => ?_⟩
  · have := congrArg List.length e; omega
  · rw [e, (beq38 _ _).2 rfl] at h3; cases h3
  · have hlt : k < a.length := by omega
    have hw : IntKind.i64.wrap ((k : Int) + 1) = ((k + 1 : Nat) : Int) := wrap_succ (by omega)
    rw [hw]
    refine ⟨⟨k + 1, hlt, rfl, by omega, fun j hj => ?_⟩, ?_⟩
    · by_cases e : j = k
      · subst e; exact (beq38 _ _).1 h3
      · exact hs j (by omega)
    · show a.length - (((k + 1 : Nat) : Int)).toNat < a.length - (k : Int).toNat
      rw [toNat_cast, toNat_cast]; omega
  · have : k = a.length := by omega
    subst this
    rw [Bool.eq_iff_iff, beq_iff_eq, decide_eq_true_eq]
    constructor
    · intro e
      apply List.ext_getElem (by omega)
      intro j h1 h2
      have := hs j h1
      rwa [getD_of _ h1, getD_of _ h2] at this
    · intro e; rw [e]
theorem p9 : vc9 := by
  unfold vc9
  intro _ _
  obtain ⟨L, hL⟩ : ∃ L : List Cell, L = [((32 : Int), (0 : Int), (1 : Int), (0 : Int), ()), ((97 : Int), (0 : Int), (1 : Int), (0 : Int), ()), ((32 : Int), (0 : Int), (1 : Int), (2 : Int), ()), ((99 : Int), (0 : Int), (1 : Int), (3 : Int), ()), ((100 : Int), (0 : Int), (1 : Int), (4 : Int), ())] := ⟨_, rfl⟩
  rw [← hL]
  have e1 : rowsE L 4 = ([[(32, 0, 1, 0, ()), (97, 0, 1, 0, ()), (32, 0, 1, 2, ())], [(32, 5, 1, 3, ()), (99, 0, 1, 3, ()), (100, 0, 1, 4, ())]], 0, ()) := by subst hL; kernel_rfl
  have e2 : countE L 4 = (2, 3, 0, ()) := by subst hL; kernel_rfl
  have e3 : hang L 4 = 1 := by subst hL; kernel_rfl
  have ok : okL L := by subst hL; exact ⟨by simp, by simp [wd]⟩
  rw [e1, e2, e3]
  have e4 : Ty.beq t38 (List.getD (List.getD [[(32, 0, 1, 0, ()), (97, 0, 1, 0, ()), (32, 0, 1, 2, ())], [(32, 5, 1, 3, ()), (99, 0, 1, 3, ()), (100, 0, 1, 4, ())]] (Int.toNat 1) (Ty.dflt t22)) (Int.toNat 0) (Ty.dflt t38)) ((32 : Int), (5 : Int), (1 : Int), (3 : Int), ()) = true := by kernel_rfl
  simp only [e4]
  simp [ok]
end Go.Fr.C20
