/-
  Chapter 10: composing: its two loops, the one in the other. Conditions: none.
-/
import Derived.Test.YtefahblfillfeaaC10L
namespace Go.Fr.C10
open Go Go.Fr Go.Proofs

abbrev Body (f md n at_ to m : Int) (o : List Chg) (w t : Int) (K : List Chg → Int → Int → Prop) : Prop :=
  ∀ lo : Int, (lo = if md < at_ then at_ else md) → ∀ hi : Int, (hi = if IntKind.i64.wrap (at_ + m) < IntKind.i64.wrap (md + n) then IntKind.i64.wrap (at_ + m) else IntKind.i64.wrap (md + n)) →
    (lo ≥ hi → K o w t) ∧ (¬ lo ≥ hi → ∀ x : Int, x = IntKind.i64.wrap (IntKind.i64.wrap (f + lo) - md) → ∀ y : Int, y = IntKind.i64.wrap (IntKind.i64.wrap (to + lo) - at_) →
      (x > w → (o.length + [(((w, x, ()), (t, y, ()), ()) : Chg)].length) * 32 ≤ 140737488355328 ∧ o.length + [(((w, x, ()), (t, y, ()), ()) : Chg)].length ≤ maxLen ∧
        ∀ u : Int, u = IntKind.i64.wrap (IntKind.i64.wrap (x + hi) - lo) → ∀ v : Int, v = IntKind.i64.wrap (IntKind.i64.wrap (y + hi) - lo) → K (o ++ [((w, x, ()), (t, y, ()), ())]) u v) ∧
      (¬ x > w → (y > t → (o.length + [(((w, x, ()), (t, y, ()), ()) : Chg)].length) * 32 ≤ 140737488355328 ∧ o.length + [(((w, x, ()), (t, y, ()), ()) : Chg)].length ≤ maxLen ∧
          ∀ u : Int, u = IntKind.i64.wrap (IntKind.i64.wrap (x + hi) - lo) → ∀ v : Int, v = IntKind.i64.wrap (IntKind.i64.wrap (y + hi) - lo) → K (o ++ [((w, x, ()), (t, y, ()), ())]) u v) ∧
        (¬ y > t → ∀ u : Int, u = IntKind.i64.wrap (IntKind.i64.wrap (x + hi) - lo) → ∀ v : Int, v = IntKind.i64.wrap (IntKind.i64.wrap (y + hi) - lo) → K o u v)))
/-- A piece's numbers are no greater than the program's. -/
def SegB (f md n : Int) : Prop := 0 ≤ f ∧ f ≤ 1099511627776 ∧ 0 ≤ md ∧ md ≤ 1099511627776 ∧ 0 ≤ n ∧ n ≤ 2199023255552
def SB (w t : Int) : Prop := 0 ≤ w ∧ w ≤ 17592186044416 ∧ 0 ≤ t ∧ t ≤ 17592186044416
theorem body_ok {f md n at_ to m : Int} {o : List Chg} {w t : Int} {K : List Chg → Int → Int → Prop} (hp : SegB f md n) (hq : SegB at_ to m) (hl : o.length ≤ 1000000000)
    (hK : K (sstep (f, md, n) (at_, to, m) (o, w, t)).1 (sstep (f, md, n) (at_, to, m) (o, w, t)).2.1 (sstep (f, md, n) (at_, to, m) (o, w, t)).2.2) : Body f md n at_ to m o w t K := by
  unfold SegB at hp hq
  have h1 : IntKind.i64.wrap (at_ + m) = at_ + m := by rw [wrap_eq]; omega
  have h2 : IntKind.i64.wrap (md + n) = md + n := by rw [wrap_eq]; omega
  have one : ∀ c : Chg, [c].length = 1 := fun _ => rfl
  intro lo elo hi ehi
  rw [h1, h2] at ehi
  have elo' : max md at_ = lo := by rw [elo]; split <;> omega
  have ehi' : min (md + n) (at_ + m) = hi := by rw [ehi]; split <;> omega
  unfold sstep at hK
  simp only at hK
  rw [elo', ehi'] at hK
  refine ⟨fun h => ?_, fun h x ex y ey => ?_⟩
  · rw [if_pos h] at hK; exact hK
  rw [if_neg h] at hK
  simp only at hK
  have h3 : IntKind.i64.wrap (IntKind.i64.wrap (f + lo) - md) = f + lo - md := by simp only [wrap_eq]; omega
  have h4 : IntKind.i64.wrap (IntKind.i64.wrap (to + lo) - at_) = to + lo - at_ := by simp only [wrap_eq]; omega
  rw [h3] at ex
  rw [h4] at ey
  rw [← ex, ← ey] at hK
  have h5 : IntKind.i64.wrap (IntKind.i64.wrap (x + hi) - lo) = x + hi - lo := by simp only [wrap_eq]; omega
  have h6 : IntKind.i64.wrap (IntKind.i64.wrap (y + hi) - lo) = y + hi - lo := by simp only [wrap_eq]; omega
  rw [h5, h6, one, maxLen_eq]
  refine ⟨fun g => ⟨by omega, by omega, fun u eu v ev => ?_⟩, fun g => ⟨fun g2 => ⟨by omega, by omega, fun u eu v ev => ?_⟩, fun g2 u eu v ev => ?_⟩⟩
  · rw [if_pos (by omega)] at hK; rw [eu, ev]; exact hK
  · rw [if_pos (by omega)] at hK; rw [eu, ev]; exact hK
  · rw [if_neg (by omega)] at hK; rw [eu, ev]; exact hK
theorem sstep_len {p q : Seg} {s : List Chg × Int × Int} : (sstep p q s).1.length ≤ s.1.length + 1 := by
  unfold sstep
  simp only
  split
  · omega
  · simp only
    split
    · simp
    · omega

theorem segsFrom_get : ∀ (l : List Chg) (last : Chg) (k : Nat) (d : Seg), k ≤ l.length → (segsFrom last l).getD k d =
    ((if k = 0 then last else l.getD (k - 1) zeroC).1.2.1, (if k = 0 then last else l.getD (k - 1) zeroC).2.1.2.1, if k < l.length then (l.getD k zeroC).1.1 - (if k = 0 then last else l.getD (k - 1) zeroC).1.2.1 else 2199023255552)
  | [], last, k, d, h => by
    have : k = 0 := by simpa using h
    subst this
    rfl
  | c :: r, last, 0, d, _ => by
    simp [segsFrom]
  | c :: r, last, k + 1, d, h => by
    have ih := segsFrom_get r c k d (by simpa using h)
    show (segsFrom c r).getD k d = _
    rw [ih]
    cases k with
    | zero => simp
    | succ k => simp
theorem segs_get {l : List Chg} {k : Nat} (d : Seg) (h : k < l.length) : (segs l).getD k d = ((prevC l k).1.2.1, (prevC l k).2.1.2.1, (l.getD k zeroC).1.1 - (prevC l k).1.2.1) := by
  unfold segs
  rw [segsFrom_get l zeroC k d (by omega), if_pos h]
  rfl
theorem segs_get_last (l : List Chg) (d : Seg) : (segs l).getD l.length d = ((prevC l l.length).1.2.1, (prevC l l.length).2.1.2.1, 2199023255552) := by
  unfold segs
  rw [segsFrom_get l zeroC l.length d (Nat.le_refl _)]
  refine Prod.ext rfl (Prod.ext rfl ?_)
  exact if_neg (Nat.lt_irrefl _)
theorem segs_len (l : List Chg) : (segs l).length = l.length + 1 := segsFrom_len l zeroC
theorem prev_bd {l : List Chg} (h : normal l = true) {k : Nat} (hk : k ≤ l.length) : 0 ≤ (prevC l k).1.2.1 ∧ (prevC l k).1.2.1 ≤ 1099511627776 ∧ 0 ≤ (prevC l k).2.1.2.1 ∧ (prevC l k).2.1.2.1 ≤ 1099511627776 := by
  cases k with
  | zero => exact (by decide : (0 : Int) ≤ 0 ∧ (0 : Int) ≤ 1099511627776 ∧ (0 : Int) ≤ 0 ∧ (0 : Int) ≤ 1099511627776)
  | succ k =>
    rw [prevC_succ]
    have := normal_ok h (k := k) (by omega)
    omega
def prow (p : Seg) (l : List Chg) (k : Nat) (s : List Chg × Int × Int) : List Chg × Int × Int := srow p ((segs l).take k) s
theorem prow_succ {p : Seg} {l : List Chg} {k : Nat} {s : List Chg × Int × Int} (h : k < (segs l).length) (d : Seg) : prow p l (k + 1) s = sstep p ((segs l).getD k d) (prow p l k s) := by
  unfold prow srow
  rw [foldl_take_succ h, getD_of d h]
theorem prow_all (p : Seg) (l : List Chg) (s : List Chg × Int × Int) : prow p l (l.length + 1) s = srow p (segs l) s := by
  unfold prow
  rw [← segs_len, List.take_length]

/-- The loop inside: of one piece of the first, all pieces of the second. -/
theorem inner {b : List Chg} (nb : normal b = true) (lb : b.length ≤ 10000) {f md n : Int} {o : List Chg} {w t : Int} {K : List Chg → Int → Int → Prop} (hp : SegB f md n) (hl : o.length ≤ 900000000)
    (hK : K (srow (f, md, n) (segs b) (o, w, t)).1 (srow (f, md, n) (segs b) (o, w, t)).2.1 (srow (f, md, n) (segs b) (o, w, t)).2.2) :
    ∃ (Z : Int × List Chg × Int × Int × Int × Int × Int × Int × Unit → Prop), ∃ (μ : Int × List Chg × Int × Int × Int × Int × Int × Int × Unit → Nat), Z (0, o, w, t, 0, 0, 0, 0, ()) ∧
      ∀ (i : Int) (o1 : List Chg) (w1 t1 l1 l2 l3 l4 : Int), Z (i, o1, w1, t1, l1, l2, l3, l4, ()) →
        (i < (b.length : Int) → (0 ≤ i ∧ i < (b.length : Int)) ∧ Body f md n l2 l4 (IntKind.i64.wrap ((b.getD i.toNat zeroC).1.1 - l2)) o1 w1 t1 fun o2 w2 t2 =>
          Z (IntKind.i64.wrap (i + 1), o2, w2, t2, (b.getD i.toNat zeroC).1.1, (b.getD i.toNat zeroC).1.2.1, (b.getD i.toNat zeroC).2.1) ∧
          μ (IntKind.i64.wrap (i + 1), o2, w2, t2, (b.getD i.toNat zeroC).1.1, (b.getD i.toNat zeroC).1.2.1, (b.getD i.toNat zeroC).2.1) < μ (i, o1, w1, t1, l1, l2, l3, l4, ())) ∧
        (¬ i < (b.length : Int) → Body f md n l2 l4 2199023255552 o1 w1 t1 K) := by
  refine ⟨fun z => ∃ k : Nat, k ≤ b.length ∧ z.1 = (k : Int) ∧ (z.2.1, z.2.2.1, z.2.2.2.1) = prow (f, md, n) b k (o, w, t) ∧ z.2.1.length ≤ o.length + k ∧ ((z.2.2.2.2.1, z.2.2.2.2.2.1, ()), (z.2.2.2.2.2.2.1, z.2.2.2.2.2.2.2.1, ()), ()) = prevC b k,
    fun z => b.length - z.1.toNat, ⟨0, Nat.zero_le _, rfl, rfl, Nat.le_refl _, rfl⟩, ?_⟩
  rintro i o1 w1 t1 l1 l2 l3 l4 ⟨k, hk, hi, hs, hlen, hc⟩
  simp only at hi hs hc hlen
  subst hi
  have e2 : l2 = (prevC b k).1.2.1 := by rw [← hc]
  have e4 : l4 = (prevC b k).2.1.2.1 := by rw [← hc]
  have pb := prev_bd nb hk
  refine ⟨fun h => ?_, fun h => ?_⟩
  · have hlt : k < b.length := by omega
    have hw : IntKind.i64.wrap ((k : Int) + 1) = ((k + 1 : Nat) : Int) := wrap_succ (by omega)
    have ok := normal_ok nb hlt
    rw [toNat_cast, hw]
    have hw2 : IntKind.i64.wrap ((b.getD k zeroC).1.1 - l2) = (b.getD k zeroC).1.1 - l2 := by rw [wrap_eq]; omega
    rw [hw2]
    refine ⟨⟨by omega, h⟩, body_ok hp ⟨by omega, by omega, by omega, by omega, by omega, by omega⟩ (by omega) ?_⟩
    have step := prow_succ (p := (f, md, n)) (l := b) (k := k) (s := (o, w, t)) (by rw [segs_len]; omega) (0, 0, 0)
    rw [segs_get _ hlt, ← hs, ← e2, ← e4] at step
    have ln := sstep_len (p := (f, md, n)) (q := (l2, l4, (b.getD k zeroC).1.1 - l2)) (s := (o1, w1, t1))
    rw [← step] at ln ⊢
    refine ⟨⟨k + 1, hlt, rfl, rfl, by simp only at ln ⊢; omega, by rw [prevC_succ]⟩, ?_⟩
    show b.length - (((k + 1 : Nat) : Int)).toNat < b.length - (k : Int).toNat
    rw [toNat_cast, toNat_cast]; omega
  · have : k = b.length := by omega
    subst this
    refine body_ok hp ⟨by omega, by omega, by omega, by omega, by omega, by omega⟩ (by omega) ?_
    have step := prow_succ (p := (f, md, n)) (l := b) (k := b.length) (s := (o, w, t)) (by rw [segs_len]; omega) (0, 0, 0)
    rw [segs_get_last, ← hs, ← e2, ← e4, prow_all] at step
    rw [← step]
    exact hK
def pall (a b : List Chg) (k : Nat) : List Chg × Int × Int := sall ((segs a).take k) (segs b) ([], 0, 0)
theorem pall_succ {a b : List Chg} {k : Nat} (h : k < (segs a).length) (d : Seg) : pall a b (k + 1) = srow ((segs a).getD k d) (segs b) (pall a b k) := by
  unfold pall sall
  rw [foldl_take_succ h, getD_of d h]
theorem pall_all (a b : List Chg) : pall a b (a.length + 1) = sall (segs a) (segs b) ([], 0, 0) := by
  unfold pall
  rw [← segs_len, List.take_length]

theorem p21 : vc21 := by
  unfold vc21
  simp only [eq_self, true_and, and_true, decide_eq_true_eq, decide_eq_false_iff_not, beq_iff_eq, beq_eq_false_iff_ne, bne_iff_ne, bne_eq_false_iff_eq, Bool.not_eq_true', Bool.not_eq_false', ne_eq, imp_true_iff, implies_true]
  rintro ⟨a, b, ⟨⟩⟩
  simp only
  rintro ⟨la, lb⟩
  rw [dflt56]
  have form : normal a = false ∨ normal b = false → compose a b = ([], 4, ()) := fun h => by unfold compose; rw [if_pos h]
  have lenAll := composeL_len a b
  have hmul : (a.length + 1) * (b.length + 1) ≤ 10001 * 10001 := Nat.mul_le_mul (by omega) (by omega)
  refine ⟨by rw [maxLen_eq]; omega, fun h => (form (Or.inl h)).symm, fun na => ⟨by rw [maxLen_eq]; omega, fun h => (form (Or.inr h)).symm, fun nb => ?_⟩⟩
  refine ⟨fun z => ∃ k : Nat, k ≤ a.length ∧ z.1 = (k : Int) ∧ (z.2.1, z.2.2.1, z.2.2.2.1) = pall a b k ∧ z.2.1.length ≤ k * (b.length + 1) ∧ ((z.2.2.2.2.1, z.2.2.2.2.2.1, ()), (z.2.2.2.2.2.2.1, z.2.2.2.2.2.2.2.1, ()), ()) = prevC a k,
    fun z => a.length - z.1.toNat, ⟨0, Nat.zero_le _, rfl, rfl, Nat.zero_le _, rfl⟩, ?_⟩
  rintro i o w t l1 l2 l3 l4 ⟨k, hk, hi, hs, hlen, hc⟩
  simp only at hi hs hc hlen
  subst hi
  have e2 : l2 = (prevC a k).1.2.1 := by rw [← hc]
  have e4 : l4 = (prevC a k).2.1.2.1 := by rw [← hc]
  have pb := prev_bd na hk
  have hkm : k * (b.length + 1) ≤ 10000 * 10001 := Nat.mul_le_mul (by omega) (by omega)
  have ln : ∀ p : Seg, (srow p (segs b) (o, w, t)).1.length ≤ (k + 1) * (b.length + 1) := fun p => by
    have := srow_len p (segs b) (o, w, t)
    rw [segs_len] at this
    simp only at this
    rw [Nat.succ_mul]
    omega
  refine ⟨fun h => ?_, fun h => ?_⟩
  · have hlt : k < a.length := by omega
    have hw : IntKind.i64.wrap ((k : Int) + 1) = ((k + 1 : Nat) : Int) := wrap_succ (by omega)
    have ok := normal_ok na hlt
    rw [toNat_cast, hw]
    have hw2 : IntKind.i64.wrap ((a.getD k zeroC).1.1 - l2) = (a.getD k zeroC).1.1 - l2 := by rw [wrap_eq]; omega
    rw [hw2]
    refine ⟨⟨by omega, h⟩, ?_⟩
    refine inner nb lb (f := l2) (md := l4) (n := (a.getD k zeroC).1.1 - l2) (o := o) (w := w) (t := t) (K := fun o2 w2 t2 => (∃ k' : Nat, k' ≤ a.length ∧ ((k + 1 : Nat) : Int) = (k' : Int) ∧ (o2, w2, t2) = pall a b k' ∧ o2.length ≤ k' * (b.length + 1) ∧
      (((a.getD k zeroC).1.1, (a.getD k zeroC).1.2.1, ()), ((a.getD k zeroC).2.1.1, (a.getD k zeroC).2.1.2.1, ()), ()) = prevC a k') ∧ a.length - (((k + 1 : Nat) : Int)).toNat < a.length - (k : Int).toNat)
      ⟨by omega, by omega, by omega, by omega, by omega, by omega⟩ (by omega) ?_
    have step := pall_succ (a := a) (b := b) (k := k) (by rw [segs_len]; omega) (0, 0, 0)
    rw [segs_get _ hlt, ← hs, ← e2, ← e4] at step
    refine ⟨⟨k + 1, hlt, rfl, step.symm, ln _, by rw [prevC_succ]⟩, ?_⟩
    rw [toNat_cast, toNat_cast]; omega
  · have : k = a.length := by omega
    subst this
    refine inner nb lb (f := l2) (md := l4) (n := 2199023255552) (o := o) (w := w) (t := t) (K := fun o2 w2 t2 => o2.length ≤ maxLen ∧ (normal o2 = false → (([] : List Chg), (5 : Int), ()) = compose a b) ∧ (normal o2 = true → (o2, (0 : Int), ()) = compose a b))
      ⟨by omega, by omega, by omega, by omega, by omega, by omega⟩ (by omega) ?_
    have step := pall_succ (a := a) (b := b) (k := a.length) (by rw [segs_len]; omega) (0, 0, 0)
    rw [segs_get_last, ← hs, ← e2, ← e4, pall_all] at step
    rw [← step]
    show (composeL a b).length ≤ maxLen ∧ (normal (composeL a b) = false → _) ∧ (normal (composeL a b) = true → (composeL a b, (0 : Int), ()) = compose a b)
    refine ⟨by rw [maxLen_eq]; omega, fun h => ?_, fun h => ?_⟩
    · unfold compose; rw [if_neg (by simp [na, nb]), if_neg (by simp [h])]
    · unfold compose; rw [if_neg (by simp [na, nb]), if_pos h]
end Go.Fr.C10
