/-
  Chapter 20: proofs of the functions' conditions. Conditions: none.
-/
import Derived.Test.YtkgplompdnjodaaC20V
import Derived.Test.YtkgplompdnjodaaC20D
namespace Go.Fr.C20
open Go Go.Fr Go.Proofs

theorem d38 : Ty.dflt t38 = zCell := rfl
theorem d3 : Ty.dflt t3 = (0 : Int) := rfl
theorem wd_eq (c : Cell) : c.2.2.1 = wd c := rfl
theorem width_succ {l : List Cell} {k : Nat} (h : k < l.length) : width (l.take (k + 1)) = width (l.take k) + wd (l.getD k zCell) := by
  unfold width
  rw [foldl_take_succ h, getD_of _ h]
theorem ok_get {l : List Cell} (h : okL l) {k : Nat} (hk : k < l.length) : 0 ≤ wd (l.getD k zCell) ∧ wd (l.getD k zCell) ≤ 2 := by
  rw [getD_of _ hk]; exact h.2 _ (List.getElem_mem _)
theorem width_bd {l : List Cell} (h : okL l) : ∀ k, k ≤ l.length → 0 ≤ width (l.take k) ∧ width (l.take k) ≤ 2 * k
  | 0, _ => by show 0 ≤ (0 : Int) ∧ (0 : Int) ≤ _; omega
  | k + 1, hk => by
    have := width_bd h k (by omega)
    have h2 := ok_get h (show k < l.length by omega)
    rw [width_succ (by omega)]
    omega
theorem p8 : vc8 := by
  unfold vc8
  simp only [eq_self, true_and, and_true, decide_eq_true_eq, decide_eq_false_iff_not, beq_iff_eq, beq_eq_false_iff_ne, bne_iff_ne, bne_eq_false_iff_eq, Bool.not_eq_true', Bool.not_eq_false', ne_eq, imp_true_iff, implies_true]
  rintro ⟨l, ⟨⟩⟩
  simp only
  intro hl
  rw [d38]
  have no : ∀ k, k < l.length → ¬ (0 ≤ wd (l.getD k zCell) ∧ wd (l.getD k zCell) ≤ 2) → false = right l := fun k hk h => by
    symm
    unfold right
    rw [Bool.and_eq_false_iff]
    refine .inr ?_
    rw [List.all_eq_false]
    refine ⟨l.getD k zCell, by rw [getD_of _ hk]; exact List.getElem_mem _, ?_⟩
    simp only [Bool.and_eq_true, decide_eq_true_eq]
    exact h
  refine ⟨fun h => by unfold right; rw [decide_eq_false (by omega)]; rfl, fun h => ?_⟩
  refine ⟨fun z => ∃ k : Nat, k ≤ l.length ∧ z.1 = (k : Int) ∧ ∀ j, j < k → 0 ≤ wd (l.getD j zCell) ∧ wd (l.getD j zCell) ≤ 2, fun z => l.length - z.1.toNat, ⟨0, Nat.zero_le _, rfl, fun j hj => absurd hj (Nat.not_lt_zero j)⟩, ?_⟩
  rintro i ⟨k, hk, hi, hs⟩
  simp only at hi
  subst hi
  rw [toNat_cast]
  refine ⟨fun h2 => ?_, fun h2 => ?_⟩
  · have hlt : k < l.length := by omega
    have hw : IntKind.i64.wrap ((k : Int) + 1) = ((k + 1 : Nat) : Int) := wrap_succ (by omega)
    rw [hw, wd_eq]
    refine ⟨by omega, fun g => no k hlt (by omega), fun g => ⟨fun g2 => no k hlt (by omega), fun g2 => ⟨⟨k + 1, hlt, rfl, fun j hj => ?_⟩, ?_⟩⟩⟩
    · by_cases e : j = k
      · subst e; omega
      · exact hs j (by omega)
    · show l.length - (((k + 1 : Nat) : Int)).toNat < l.length - (k : Int).toNat
      rw [toNat_cast, toNat_cast]; omega
  · symm
    unfold right
    rw [decide_eq_true (by omega), Bool.true_and, List.all_eq_true]
    intro c hc
    obtain ⟨j, hj, rfl⟩ := List.getElem_of_mem hc
    have := hs j (by omega)
    rw [getD_of _ hj] at this
    simp [this.1, this.2]
theorem right_ok {l : List Cell} (h : right l = true) : okL l := by
  unfold right at h
  simp only [Bool.and_eq_true, decide_eq_true_eq, List.all_eq_true] at h
  exact ⟨h.1, fun c hc => h.2 c hc⟩
theorem okW_of {l : List Cell} (h : okL l) : okW l := ⟨by have := h.1; omega, h.2⟩
theorem ok_getW {l : List Cell} (h : okW l) {k : Nat} (hk : k < l.length) : 0 ≤ wd (l.getD k zCell) ∧ wd (l.getD k zCell) ≤ 2 := by
  rw [getD_of _ hk]; exact h.2 _ (List.getElem_mem _)
theorem width_bdW {l : List Cell} (h : okW l) : ∀ k, k ≤ l.length → 0 ≤ width (l.take k) ∧ width (l.take k) ≤ 2 * k
  | 0, _ => by show 0 ≤ (0 : Int) ∧ (0 : Int) ≤ _; omega
  | k + 1, hk => by
    have := width_bdW h k (by omega)
    have h2 := ok_getW h (show k < l.length by omega)
    rw [width_succ (by omega)]
    omega
theorem p17 : vc17 := by
  unfold vc17
  simp only [eq_self, true_and, and_true, decide_eq_true_eq, decide_eq_false_iff_not, beq_iff_eq, beq_eq_false_iff_ne, bne_iff_ne, bne_eq_false_iff_eq, Bool.not_eq_true', Bool.not_eq_false', ne_eq, imp_true_iff, implies_true]
  rintro ⟨l, ⟨⟩⟩
  simp only
  intro hl
  have h1 := hl.1
  rw [d38]
  refine ⟨fun z => ∃ k : Nat, k ≤ l.length ∧ z.2.1 = (k : Int) ∧ z.1 = width (l.take k), fun z => l.length - z.2.1.toNat, ⟨0, Nat.zero_le _, rfl, rfl⟩, ?_⟩
  rintro a i ⟨k, hk, hi, ha⟩
  simp only at hi ha
  subst hi ha
  rw [toNat_cast]
  refine ⟨fun h2 => ?_, fun h2 => ?_⟩
  · have hlt : k < l.length := by omega
    have hw : IntKind.i64.wrap ((k : Int) + 1) = ((k + 1 : Nat) : Int) := wrap_succ (by omega)
    have b1 := width_bdW hl k hk
    have b2 := ok_getW hl hlt
    have ws := width_succ hlt
    have w1 : IntKind.i64.wrap (width (l.take k) + wd (l.getD k zCell)) = width (l.take k) + wd (l.getD k zCell) := by rw [wrap_eq]; omega
    rw [hw, wd_eq, w1]
    refine ⟨by omega, ⟨k + 1, hlt, rfl, ws.symm⟩, ?_⟩
    show l.length - (((k + 1 : Nat) : Int)).toNat < l.length - (k : Int).toNat
    rw [toNat_cast, toNat_cast]; omega
  · have : k = l.length := by omega
    subst this
    rw [List.take_length]
theorem p21 : vc21 := p17
theorem p26 : vc26 := by
  unfold vc26
  rintro ⟨c, ⟨⟩⟩ _
  simp only
  unfold blank
  refine ⟨fun h => by rw [h]; rfl, fun h => by rw [h]; rfl⟩
theorem p27 : vc27 := p26
theorem p37 : vc37 := by
  unfold vc37
  rintro ⟨l, i, ⟨⟩⟩
  simp only
  intro hl
  have h1 := hl.1
  rw [d38]
  unfold bound
  refine ⟨fun h => ⟨fun h2 => ?_, fun h2 => by rw [h, h2]; rfl⟩, fun h => by rw [h]; rfl⟩
  have g1 := dec_t h
  have g2 := dec_t h2
  have w1 : IntKind.i64.wrap (i - 1) = i - 1 := by rw [wrap_eq]; omega
  rw [w1, h, h2]
  refine ⟨by omega, trivial, fun h3 => ⟨by omega, trivial, fun h4 => ⟨by omega, ?_⟩, fun h4 => ?_⟩, fun h3 => ?_⟩
  · rw [h3, h4]; rfl
  · rw [h3, h4]; rfl
  · rw [h3]; rfl
theorem p32 : vc32 := p37
theorem fg_step {room : Int} {l : List Cell} {k : Nat} (h : k < l.length) (w : Int) : fitGo room (l.drop k) w = if w + wd (l.getD k zCell) ≤ room then fitGo room (l.drop (k + 1)) (w + wd (l.getD k zCell)) + 1 else 0 := by
  rw [drop_cons zCell h, fitGo]
theorem fg_end {room : Int} {l : List Cell} {k : Nat} (h : l.length ≤ k) (w : Int) : fitGo room (l.drop k) w = 0 := by
  rw [List.drop_eq_nil_of_le h]; rfl
theorem z_step {l : List Cell} {k : Nat} (h : k < l.length) : zeros (l.drop k) = if wd (l.getD k zCell) = 0 then zeros (l.drop (k + 1)) + 1 else 0 := by
  rw [drop_cons zCell h, zeros]
theorem z_end {l : List Cell} {k : Nat} (h : l.length ≤ k) : zeros (l.drop k) = 0 := by
  rw [List.drop_eq_nil_of_le h]; rfl
/-- The loop over cells without width. -/
theorem zero_loop {l : List Cell} (hl : okL l) {room : Int} (h0 : fitGo room l 0 = 0) :
    ∃ (Z : Int × Unit → Prop), ∃ (μ : Int × Unit → Nat), Z ((1 : Int), ()) ∧ ∀ (a : Int), Z (a, ()) →
      (a < (l.length : Int) → ((0 : Int) ≤ a ∧ a < (l.length : Int)) ∧
        (wd (l.getD a.toNat zCell) = 0 → Z (IntKind.i64.wrap (a + 1), ()) ∧ μ (IntKind.i64.wrap (a + 1), ()) < μ (a, ())) ∧
        (¬ wd (l.getD a.toNat zCell) = 0 → a = (fit l room : Int))) ∧
      (¬ a < (l.length : Int) → a = (fit l room : Int)) := by
  have h1 := hl.1
  have hf : fit l room = zeros (l.drop 1) + 1 := by unfold fit; rw [if_pos h0]
  rw [hf]
  refine ⟨fun z => ∃ k : Nat, k ≤ l.length + 1 ∧ z.1 = (k : Int) ∧ zeros (l.drop 1) + 1 = k + zeros (l.drop k), fun z => l.length - z.1.toNat, ⟨1, by omega, rfl, by omega⟩, ?_⟩
  rintro a ⟨k, hk, hi, hs⟩
  simp only at hi
  subst hi
  rw [toNat_cast]
  refine ⟨fun h2 => ?_, fun h2 => ?_⟩
  · have hlt : k < l.length := by omega
    have hw : IntKind.i64.wrap ((k : Int) + 1) = ((k + 1 : Nat) : Int) := wrap_succ (by omega)
    rw [z_step hlt] at hs
    rw [hw]
    refine ⟨by omega, fun g => ⟨⟨k + 1, by omega, rfl, by rw [if_pos g] at hs; omega⟩, ?_⟩, fun g => by rw [if_neg g] at hs; omega⟩
    show l.length - (((k + 1 : Nat) : Int)).toNat < l.length - (k : Int).toNat
    rw [toNat_cast, toNat_cast]; omega
  · have st := z_end (l := l) (k := k) (by omega)
    omega
theorem p36 : vc36 := by
  unfold vc36
  simp only [eq_self, true_and, and_true, decide_eq_true_eq, decide_eq_false_iff_not, beq_iff_eq, beq_eq_false_iff_ne, bne_iff_ne, bne_eq_false_iff_eq, Bool.not_eq_true', Bool.not_eq_false', ne_eq, imp_true_iff, implies_true]
  rintro ⟨l, room, ⟨⟩⟩
  simp only
  intro hl
  have h1 := hl.1
  rw [d38]
  refine ⟨fun z => ∃ k : Nat, k ≤ l.length ∧ z.1 = (k : Int) ∧ z.2.1 = width (l.take k) ∧ fitGo room l 0 = k + fitGo room (l.drop k) (width (l.take k)), fun z => l.length - z.1.toNat, ⟨0, Nat.zero_le _, rfl, rfl, by rw [Nat.zero_add]; rfl⟩, ?_⟩
  rintro i a ⟨k, hk, hi, ha, hs⟩
  simp only at hi ha
  subst hi ha
  simp only [wd_eq, toNat_cast]
  have fin : fitGo room (l.drop k) (width (l.take k)) = 0 → ((k : Int) > 0 → (k : Int) = (fit l room : Int)) ∧ (¬ (k : Int) > 0 → fitGo room l 0 = 0) := fun e => by
    rw [e] at hs
    refine ⟨fun g => ?_, fun g => by omega⟩
    unfold fit
    rw [if_neg (by omega)]
    omega
  refine ⟨fun h2 => ?_, fun h2 => ?_⟩
  · have hlt : k < l.length := by omega
    have hw : IntKind.i64.wrap ((k : Int) + 1) = ((k + 1 : Nat) : Int) := wrap_succ (by omega)
    have b1 := width_bd hl k hk
    have b2 := ok_get hl hlt
    have ws := width_succ hlt
    have w1 : IntKind.i64.wrap (width (l.take k) + wd (l.getD k zCell)) = width (l.take k) + wd (l.getD k zCell) := by rw [wrap_eq]; omega
    have st := fg_step (room := room) hlt (width (l.take k))
    rw [hw, w1]
    refine ⟨by omega, fun g => ⟨by omega, ⟨k + 1, hlt, rfl, ws.symm, by rw [st, if_pos g] at hs; rw [ws]; omega⟩, ?_⟩, fun g => ?_⟩
    · show l.length - (((k + 1 : Nat) : Int)).toNat < l.length - (k : Int).toNat
      rw [toNat_cast, toNat_cast]; omega
    · rw [if_neg g] at st
      exact ⟨(fin st).1, fun g2 => zero_loop hl ((fin st).2 g2)⟩
  · have st := fg_end (room := room) (l := l) (k := k) (by omega) (width (l.take k))
    exact ⟨(fin st).1, fun g2 => zero_loop hl ((fin st).2 g2)⟩
theorem p31 : vc31 := by
  unfold vc31
  simp only [eq_self, true_and, and_true, decide_eq_true_eq, decide_eq_false_iff_not, beq_iff_eq, beq_eq_false_iff_ne, bne_iff_ne, bne_eq_false_iff_eq, Bool.not_eq_true', Bool.not_eq_false', ne_eq, imp_true_iff, implies_true]
  rintro ⟨l, room, ⟨⟩⟩
  simp only
  intro hl
  have h1 := hl.1
  rw [d38]
  refine ⟨fun z => ∃ k : Nat, k ≤ l.length ∧ z.1 = (k : Int) ∧ fitGo room l 0 = k + fitGo room (l.drop k) (width (l.take k)), fun z => l.length - z.1.toNat, ⟨0, Nat.zero_le _, rfl, by rw [Nat.zero_add]; rfl⟩, ?_⟩
  rintro i ⟨k, hk, hi, hs⟩
  simp only at hi
  subst hi
  simp only [wd_eq, toNat_cast]
  have fin : fitGo room (l.drop k) (width (l.take k)) = 0 → (¬ (k : Int) = 0 → (k : Int) = (fit l room : Int)) ∧ ((k : Int) = 0 → fitGo room l 0 = 0) := fun e => by
    rw [e] at hs
    refine ⟨fun g => ?_, fun g => by omega⟩
    unfold fit
    rw [if_neg (by omega)]
    omega
  refine ⟨fun h2 => ?_, fun h2 => ?_⟩
  · have hlt : k < l.length := by omega
    have hw : IntKind.i64.wrap ((k : Int) + 1) = ((k + 1 : Nat) : Int) := wrap_succ (by omega)
    have ws := width_succ hlt
    have st := fg_step (room := room) hlt (width (l.take k))
    rw [hw, toNat_cast, ws]
    rw [← ws]
    refine ⟨by omega, okW_of (okL_take hl _), fun g => ⟨⟨k + 1, hlt, rfl, by rw [ws] at g ⊢; rw [st, if_pos g] at hs; omega⟩, ?_⟩, fun g => ?_⟩
    · show l.length - (((k + 1 : Nat) : Int)).toNat < l.length - (k : Int).toNat
      rw [toNat_cast, toNat_cast]; omega
    · rw [ws] at g
      rw [if_neg g] at st
      exact ⟨fun g2 => zero_loop hl ((fin st).2 g2), (fin st).1⟩
  · have st := fg_end (room := room) (l := l) (k := k) (by omega) (width (l.take k))
    exact ⟨fun g2 => zero_loop hl ((fin st).2 g2), (fin st).1⟩
theorem lastB_yes {l : List Cell} {k : Nat} (h : bound l (k : Int) = true) (hk : 1 ≤ k) : lastB l k = k := by
  cases k with
  | zero => omega
  | succ k => rw [lastB, if_pos h]
theorem lastB_no {l : List Cell} {k : Nat} (h : ¬ bound l ((k + 1 : Nat) : Int) = true) : lastB l (k + 1) = lastB l k := by
  rw [lastB, if_neg h]
theorem takes_some {l : List Cell} {room : Int} (h : l ≠ []) (h2 : fit l room ≠ l.length) : takes l room = if lastB l (fit l room) = 0 then fit l room else lastB l (fit l room) := by
  unfold takes
  rw [if_neg h, if_neg h2]
theorem p35 : vc35 := by
  unfold vc35
  simp only [eq_self, true_and, and_true, decide_eq_true_eq, decide_eq_false_iff_not, beq_iff_eq, beq_eq_false_iff_ne, bne_iff_ne, bne_eq_false_iff_eq, Bool.not_eq_true', Bool.not_eq_false', ne_eq, imp_true_iff, implies_true]
  rintro ⟨l, room, ⟨⟩⟩
  simp only
  intro hl
  have h1 := hl.1
  refine ⟨fun h => ?_, fun h => ⟨hl, fun h2 => ?_, fun h2 => ?_⟩⟩
  · have : l = [] := List.length_eq_zero_iff.1 (by omega)
    subst this
    rfl
  · have : l ≠ [] := fun e => h (by rw [e]; rfl)
    unfold takes
    rw [if_neg this, if_pos (by omega)]
  · have hne : l ≠ [] := fun e => h (by rw [e]; rfl)
    rw [takes_some hne (by omega)]
    have hle := fit_le hne room
    refine ⟨fun z => ∃ k : Nat, k ≤ fit l room ∧ z.1 = (k : Int) ∧ lastB l (fit l room) = lastB l k, fun z => z.1.toNat, ⟨_, Nat.le_refl _, rfl, rfl⟩, ?_⟩
    rintro i ⟨k, hk, hi, hs⟩
    simp only at hi
    subst hi
    refine ⟨fun g => ⟨hl, fun g2 => ?_, fun g2 => ?_⟩, fun g => ?_⟩
    · rw [lastB_yes g2 (by omega)] at hs
      rw [hs, if_neg (by omega)]
    · obtain ⟨j, rfl⟩ : ∃ j, k = j + 1 := ⟨k - 1, by omega⟩
      have hw : IntKind.i64.wrap (((j + 1 : Nat) : Int) - 1) = (j : Int) := by rw [wrap_eq]; omega
      rw [hw]
      refine ⟨⟨j, by omega, rfl, by rw [hs]; exact lastB_no (by rw [g2]; decide)⟩, ?_⟩
      show ((j : Int)).toNat < (((j + 1 : Nat) : Int)).toNat
      rw [toNat_cast, toNat_cast]; omega
    · have : k = 0 := by omega
      subst this
      rw [hs]
      simp [lastB]
theorem p29 : vc29 := by
  unfold vc29
  simp only [eq_self, true_and, and_true, decide_eq_true_eq, decide_eq_false_iff_not, beq_iff_eq, beq_eq_false_iff_ne, bne_iff_ne, bne_eq_false_iff_eq, Bool.not_eq_true', Bool.not_eq_false', ne_eq, imp_true_iff, implies_true]
  rintro ⟨l, room, ⟨⟩⟩
  simp only
  intro hl
  have h1 := hl.1
  refine ⟨fun h => ?_, fun h => ⟨hl, fun h2 => ?_, fun h2 => ?_⟩⟩
  · have : l = [] := List.length_eq_zero_iff.1 (by omega)
    subst this
    rfl
  · have : l ≠ [] := fun e => h (by rw [e]; rfl)
    unfold takes
    rw [if_neg this, if_pos (by omega)]
  · have hne : l ≠ [] := fun e => h (by rw [e]; rfl)
    rw [takes_some hne (by omega)]
    have hle := fit_le hne room
    refine ⟨fun z => ∃ k : Nat, k ≤ fit l room ∧ z.2.1 = ((k + 1 : Nat) : Int) ∧ z.1 = (lastB l k : Int), fun z => fit l room + 1 - z.2.1.toNat, ⟨0, Nat.zero_le _, rfl, rfl⟩, ?_⟩
    rintro b i ⟨k, hk, hi, hs⟩
    simp only at hi hs
    subst hi hs
    have hw : IntKind.i64.wrap (((k + 1 : Nat) : Int) + 1) = ((k + 1 + 1 : Nat) : Int) := wrap_succ (by omega)
    have hdec : k + 1 ≤ fit l room → fit l room + 1 - (((k + 1 + 1 : Nat) : Int)).toNat < fit l room + 1 - (((k + 1 : Nat) : Int)).toNat := fun g => by rw [toNat_cast, toNat_cast]; omega
    rw [hw]
    refine ⟨fun g => ⟨hl, fun g2 => ⟨⟨k + 1, by omega, rfl, ?_⟩, hdec (by omega)⟩, fun g2 => ⟨⟨k + 1, by omega, rfl, ?_⟩, hdec (by omega)⟩⟩, fun g => ?_⟩
    · rw [lastB_yes g2 (by omega)]
    · rw [lastB_no (by rw [g2]; decide)]
    · have : k = fit l room := by omega
      subst this
      refine ⟨fun e => by rw [if_pos (by omega)], fun e => by rw [if_neg (by omega)]⟩
theorem lead_step {l : List Cell} {k : Nat} (h : k < l.length) : lead (l.drop k) = if blank (l.getD k zCell) then wd (l.getD k zCell) + lead (l.drop (k + 1)) else 0 := by
  rw [drop_cons zCell h, lead]
theorem lead_end {l : List Cell} {k : Nat} (h : l.length ≤ k) : lead (l.drop k) = 0 := by
  rw [List.drop_eq_nil_of_le h]; rfl
theorem lead_pos : ∀ {l : List Cell}, (∀ c ∈ l, 0 ≤ wd c ∧ wd c ≤ 2) → 0 ≤ lead l
  | [], _ => Int.le_refl _
  | c :: r, h => by
    unfold lead
    have h1 := h c (List.mem_cons_self ..)
    have h2 := lead_pos (l := r) fun c hc => h c (List.mem_cons_of_mem _ hc)
    split <;> omega
theorem p22 : vc22 := by
  unfold vc22
  simp only [eq_self, true_and, and_true, decide_eq_true_eq, decide_eq_false_iff_not, beq_iff_eq, beq_eq_false_iff_ne, bne_iff_ne, bne_eq_false_iff_eq, Bool.not_eq_true', Bool.not_eq_false', ne_eq, imp_true_iff, implies_true]
  rintro ⟨l, ⟨⟩⟩
  simp only
  intro hl
  have h1 := hl.1
  rw [d38]
  refine ⟨fun z => ∃ k : Nat, k ≤ l.length ∧ z.2.1 = (k : Int) ∧ lead l = z.1 + lead (l.drop k) ∧ 0 ≤ z.1 ∧ z.1 ≤ 100000, fun z => l.length - z.2.1.toNat, ⟨0, Nat.zero_le _, rfl, (Int.zero_add _).symm, by decide, by decide⟩, ?_⟩
  rintro a i ⟨k, hk, hi, ha, a0, a1⟩
  simp only at hi ha a0 a1
  subst hi
  rw [toNat_cast]
  unfold indent
  have lp := lead_pos (okL_drop hl k).2
  refine ⟨fun h2 => ?_, fun h2 => ?_⟩
  · have hlt : k < l.length := by omega
    have hw : IntKind.i64.wrap ((k : Int) + 1) = ((k + 1 : Nat) : Int) := wrap_succ (by omega)
    have b2 := ok_get hl hlt
    have st := lead_step hlt
    rw [hw, wd_eq]
    refine ⟨by omega, fun g => ?_, fun g => ⟨fun g2 => ?_, fun g2 => ?_⟩⟩
    · rw [if_neg (by rw [g]; decide)] at st
      have : lead l = a := by omega
      rw [this]
    · split <;> split <;> omega
    · rw [if_pos g] at st
      have w1 : IntKind.i64.wrap (a + wd (l.getD k zCell)) = a + wd (l.getD k zCell) := by rw [wrap_eq]; omega
      rw [w1]
      refine ⟨⟨k + 1, hlt, rfl, by simp only; omega, by simp only; omega, by simp only; omega⟩, ?_⟩
      show l.length - (((k + 1 : Nat) : Int)).toNat < l.length - (k : Int).toNat
      rw [toNat_cast, toNat_cast]; omega
  · have st := lead_end (l := l) (k := k) (by omega)
    have : lead l = a := by omega
    rw [this]
theorem p23 : vc23 := by
  unfold vc23
  simp only [eq_self, true_and, and_true, decide_eq_true_eq, decide_eq_false_iff_not, beq_iff_eq, beq_eq_false_iff_ne, bne_iff_ne, bne_eq_false_iff_eq, Bool.not_eq_true', Bool.not_eq_false', ne_eq, imp_true_iff, implies_true]
  rintro ⟨l, ⟨⟩⟩
  simp only
  intro hl
  have h1 := hl.1
  rw [d38]
  refine ⟨fun z => ∃ k : Nat, k ≤ l.length ∧ z.1 = (k : Int) ∧ lead l = width (l.take k) + lead (l.drop k), fun z => l.length - z.1.toNat, ⟨0, Nat.zero_le _, rfl, (Int.zero_add _).symm⟩, ?_⟩
  rintro i ⟨k, hk, hi, ha⟩
  simp only at hi
  subst hi
  rw [toNat_cast]
  unfold indent
  have fin : lead (l.drop k) = 0 → (width (l.take k) > 8 → (8 : Int) = if lead l > 8 then 8 else lead l) ∧ (¬ width (l.take k) > 8 → width (l.take k) = if lead l > 8 then 8 else lead l) := fun e => by
    have : lead l = width (l.take k) := by omega
    rw [this]
    exact ⟨fun g => by rw [if_pos g], fun g => by rw [if_neg g]⟩
  refine ⟨fun h2 => ?_, fun h2 => ?_⟩
  · have hlt : k < l.length := by omega
    have hw : IntKind.i64.wrap ((k : Int) + 1) = ((k + 1 : Nat) : Int) := wrap_succ (by omega)
    have st := lead_step hlt
    have ws := width_succ hlt
    rw [hw]
    refine ⟨by omega, fun g => ⟨⟨k + 1, hlt, rfl, by rw [if_pos g] at st; omega⟩, ?_⟩, fun g => ⟨by omega, okW_of (okL_take hl k), ?_⟩⟩
    · show l.length - (((k + 1 : Nat) : Int)).toNat < l.length - (k : Int).toNat
      rw [toNat_cast, toNat_cast]; omega
    · rw [if_neg (by rw [g]; decide)] at st
      exact fin st
  · exact ⟨by omega, okW_of (okL_take hl k), fin (lead_end (by omega))⟩
/-- The loop over the first row's cells. -/
theorem start_blank {l : List Cell} {room : Int} (h : ∀ j, j < takes l room → blank ((l.take (takes l room)).getD j zCell) = true) : (l.take (takes l room)).all blank = true := by
  have hle := takes_le l room
  rw [List.all_eq_true]
  intro c hc
  obtain ⟨j, hj, rfl⟩ := List.getElem_of_mem hc
  have := h j (by rw [List.length_take] at hj; omega)
  rwa [getD_of _ hj] at this
theorem start_not {l : List Cell} {room : Int} {k : Nat} (hk : k < (l.take (takes l room)).length) (h : blank ((l.take (takes l room)).getD k zCell) = false) : start l room = takes l room := by
  unfold start
  rw [if_neg]
  intro e
  rw [List.all_eq_true] at e
  have := e ((l.take (takes l room)).getD k zCell) (by rw [getD_of _ hk]; exact List.getElem_mem _)
  rw [h] at this
  cases this
theorem start_loop {l : List Cell} (hl : okL l) {room : Int} {E : Prop} (hE : (l.take (takes l room)).all blank = true → E) :
    ∃ (Z : Int × Unit → Prop), ∃ (μ : Int × Unit → Nat), Z ((0 : Int), ()) ∧ ∀ (a : Int), Z (a, ()) →
      (a < ((l.take (takes l room)).length : Int) → ((0 : Int) ≤ a ∧ a < ((l.take (takes l room)).length : Int)) ∧
        (blank ((l.take (takes l room)).getD a.toNat zCell) = false → (takes l room : Int) = (start l room : Int)) ∧
        (blank ((l.take (takes l room)).getD a.toNat zCell) = true → Z (IntKind.i64.wrap (a + 1), ()) ∧ μ (IntKind.i64.wrap (a + 1), ()) < μ (a, ()))) ∧
      (¬ a < ((l.take (takes l room)).length : Int) → E) := by
  have hle := takes_le l room
  have h1 := hl.1
  have hlen : (l.take (takes l room)).length = takes l room := by rw [List.length_take]; omega
  refine ⟨fun z => ∃ k : Nat, k ≤ takes l room ∧ z.1 = (k : Int) ∧ ∀ j, j < k → blank ((l.take (takes l room)).getD j zCell) = true, fun z => takes l room - z.1.toNat, ⟨0, Nat.zero_le _, rfl, fun j hj => absurd hj (Nat.not_lt_zero j)⟩, ?_⟩
  rintro i ⟨k, hk, hi, hs⟩
  simp only at hi
  subst hi
  rw [toNat_cast]
  refine ⟨fun g => ?_, fun g => ?_⟩
  · have hlt : k < takes l room := by omega
    have hw : IntKind.i64.wrap ((k : Int) + 1) = ((k + 1 : Nat) : Int) := wrap_succ (by omega)
    rw [hw]
    refine ⟨by omega, fun g2 => by rw [start_not (by omega) g2], fun g2 => ⟨⟨k + 1, hlt, rfl, fun j hj => ?_⟩, ?_⟩⟩
    · by_cases e : j = k
      · subst e; exact g2
      · exact hs j (by omega)
    · show takes l room - (((k + 1 : Nat) : Int)).toNat < takes l room - (k : Int).toNat
      rw [toNat_cast, toNat_cast]; omega
  · exact hE (start_blank fun j hj => hs j (by omega))
theorem p34 : vc34 := by
  unfold vc34
  simp only [eq_self, true_and, and_true, decide_eq_true_eq, decide_eq_false_iff_not, beq_iff_eq, beq_eq_false_iff_ne, bne_iff_ne, bne_eq_false_iff_eq, Bool.not_eq_true', Bool.not_eq_false', ne_eq, imp_true_iff, implies_true]
  rintro ⟨l, room, ⟨⟩⟩
  simp only
  intro hl
  have hle := takes_le l room
  rw [d38, toNat_cast]
  refine ⟨hl, by omega, ?_⟩
  have := start_loop hl (room := room) (E := ((takes l room : Int) = 0 → (0 : Int) = (start l room : Int)) ∧ (¬ (takes l room : Int) = 0 → okL l ∧ (fit l room : Int) = (start l room : Int))) fun e => by
    unfold start
    rw [if_pos e]
    exact ⟨fun g => by rw [if_pos (by omega)]; rfl, fun g => ⟨hl, by rw [if_neg (by omega)]⟩⟩
  simpa only [true_and, imp_true_iff, implies_true] using this
theorem p28 : vc28 := by
  unfold vc28
  simp only [eq_self, true_and, and_true, decide_eq_true_eq, decide_eq_false_iff_not, beq_iff_eq, beq_eq_false_iff_ne, bne_iff_ne, bne_eq_false_iff_eq, Bool.not_eq_true', Bool.not_eq_false', ne_eq, imp_true_iff, implies_true]
  rintro ⟨l, room, ⟨⟩⟩
  simp only
  intro hl
  have hle := takes_le l room
  rw [d38, toNat_cast]
  refine ⟨hl, fun g => ?_, fun g => ⟨by omega, ?_⟩⟩
  · have e : takes l room = 0 := by omega
    have : (l.take (takes l room)).all blank = true := by rw [e]; rfl
    unfold start
    rw [if_pos this, if_pos e]
    rfl
  · have := start_loop hl (room := room) (E := okL l ∧ (fit l room : Int) = (start l room : Int)) fun e => by
      unfold start
      rw [if_pos e]
      exact ⟨hl, by rw [if_neg (by omega)]⟩
    simpa only [true_and, imp_true_iff, implies_true] using this
theorem p24 : vc24 := by
  unfold vc24
  simp only [eq_self, true_and, and_true, decide_eq_true_eq, decide_eq_false_iff_not, beq_iff_eq, beq_eq_false_iff_ne, bne_iff_ne, bne_eq_false_iff_eq, Bool.not_eq_true', Bool.not_eq_false', ne_eq, imp_true_iff, implies_true]
  rintro ⟨l, ⟨p, q, ⟨⟩⟩, ⟨⟩⟩
  simp only
  intro hl
  have h1 := hl.1
  have e0 : List.getD [(start l p : Int)] (Int.toNat 0) (Ty.dflt t3) = (start l p : Int) := rfl
  have e1 : ∀ c : Int, [c].length = 1 := fun _ => rfl
  rw [e0, e1, maxLen_eq]
  have hsl := start_le l p
  refine ⟨by omega, hl, by omega, fun z => ∃ k : Nat, k ≤ l.length ∧ z.2.1 = (k : Int) ∧ z.1.length ≤ k + 1 ∧ allR l p q = z.1 ++ (if l.drop k = [] then [] else rowsL q (l.drop k) (takes (l.drop k) q)), fun z => l.length - z.2.1.toNat,
    ⟨start l p, hsl, rfl, by simp, by rw [allR_eq, rowsL_eq _ _ _ fun e => start_pos e p]; rfl⟩, ?_⟩
  rintro a i ⟨k, hk, hi, hlen, hs⟩
  simp only at hi hlen hs
  subst hi
  rw [toNat_cast]
  refine ⟨fun g => ?_, fun g => ?_⟩
  · have hlt : k < l.length := by omega
    have hne : l.drop k ≠ [] := fun e => by have := congrArg List.length e; rw [List.length_drop] at this; simp at this; omega
    have t1 := takes_pos hne q
    have t2 := takes_le (l.drop k) q
    rw [List.length_drop] at t2
    have w1 : IntKind.i64.wrap ((k : Int) + (takes (l.drop k) q : Int)) = ((k + takes (l.drop k) q : Nat) : Int) := by rw [wrap_eq]; omega
    rw [w1, e1]
    rw [if_neg hne, rowsL_eq _ _ _ (fun _ => t1), List.drop_drop] at hs
    refine ⟨by omega, by omega, okL_drop hl k, by omega, by omega, ⟨k + takes (l.drop k) q, by omega, rfl, ?_, ?_⟩, ?_⟩
    · simp only [List.length_append, List.length_cons, List.length_nil]; omega
    · rw [hs]; simp
    · show l.length - (((k + takes (l.drop k) q : Nat) : Int)).toNat < l.length - (k : Int).toNat
      rw [toNat_cast, toNat_cast]; omega
  · have : l.drop k = [] := List.drop_eq_nil_of_le (by omega)
    rw [if_pos this, List.append_nil] at hs
    exact hs.symm
end Go.Fr.C20
