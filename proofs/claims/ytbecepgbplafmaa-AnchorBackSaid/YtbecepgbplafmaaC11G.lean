/-
  Chapter 11: proofs of the conditions: the laws of shifts. Conditions: none.
-/
import Derived.Test.YtbecepgbplafmaaC11F
namespace Go.Fr.C11
open Go Go.Fr Go.Proofs

theorem move_ref {n : Int} {l : List Anc} {p : List Chg} (hw : wrongA n l = 0) (hp : normal p = true) (he : endOf p ≤ n) (hg : w64 (n + delta p) ≤ 1099511627776) : l.map (moveA p) = l.map (moveR p) := by
  obtain ⟨_, _, hm, _⟩ := shift_ok hw hp he hg
  refine List.map_congr_left fun x hx => ?_
  unfold moveA moveR
  rw [hm x hx]
  have := refMap_eq (p := x.2.1) (b := x.2.2.1) p zeroC true 0 hp
  rw [this]
theorem p4 : vc4 := by
  unfold vc4
  simp only [eq_self, true_and, and_true, decide_eq_true_eq, decide_eq_false_iff_not, beq_iff_eq, beq_eq_false_iff_ne, bne_iff_ne, bne_eq_false_iff_eq, Bool.not_eq_true', Bool.not_eq_false', ne_eq, imp_true_iff, implies_true]
  rintro ⟨n, l, p, ⟨⟩⟩
  simp only [maxLen_eq, d51]
  rintro ⟨hl, hp⟩ hl2 hp2
  refine ⟨by omega, hl, fun hw => ?_⟩
  have ids := (wrong_zero.1 hw).2.2.2
  have hsz := new_size n l
  have hss := shift_size (newA n l).1 p
  have hn := new_fst hw
  have hall : allA (newA n l).1 = insA l := by rw [hn, insA_sort ids]; rfl
  have hil := insA_len l
  have hwz := wrong_zero.1 hw
  have s4 : normal p = false → shiftA (newA n l).1 p = (none, 4, ()) := fun h => by rw [shiftA, if_pos h]
  have s1 : normal p = true → (endOf p > n ∨ w64 (n + delta p) > 1099511627776) → shiftA (newA n l).1 p = (none, 1, ()) := fun h1 h2 => by
    rw [shiftA, if_neg (by rw [h1]; decide), if_pos (by rw [hn]; exact h2)]
  have s0 : normal p = true → ¬ endOf p > n → ¬ w64 (n + delta p) > 1099511627776 → (shiftA (newA n l).1 p).2.1 = 0 ∧ Option.isSome (shiftA (newA n l).1 p).1 = true ∧ allA (shiftA (newA n l).1 p).1 = insA (l.map (moveR p)) := fun h1 h2 h3 => by
    rw [(shift_ok hw h1 (by omega) (by omega)).2.2.2, ← move_ref hw h1 (by omega) (by omega), insA_sort (moved_ids ids)]
    exact ⟨rfl, rfl, rfl⟩
  refine ⟨hl, ⟨by omega, hsz.2.1, hsz.2.2, by omega⟩, fun h => absurd (by rw [hn]) h, fun _ => ⟨fun h => ?_, fun _ => ⟨by omega, by omega, by omega, ⟨by omega, by omega⟩, fun h => absurd hall h, fun _ => ⟨by omega, by omega, fun h => ?_, fun hnp => ?_⟩⟩⟩⟩
  · rw [hn] at h; cases h
  · rw [s4 h]
    exact ⟨fun _ h => (by cases h), fun h => absurd rfl h⟩
  refine ⟨fun z => ∃ k : Nat, k ≤ p.length ∧ z.2.2.1 = (k : Int) ∧ z.1 = delta (p.take k) ∧ z.2.1 = endOf (p.take k), fun z => p.length - z.2.2.1.toNat, ⟨0, Nat.zero_le _, rfl, rfl, rfl⟩, ?_⟩
  rintro g e i ⟨k, hk, hi, hg, he⟩
  simp only at hi hg he
  subst hi
  refine ⟨fun h => ⟨⟨by omega, h⟩, ?_⟩, fun h => ?_⟩
  · have hlt : k < p.length := by omega
    have hwk : IntKind.i64.wrap ((k : Int) + 1) = ((k + 1 : Nat) : Int) := wrap_succ (by omega)
    have hd := delta_take hlt
    have ht := end_take hlt
    rw [toNat_cast, hwk]
    rw [← hg] at hd
    generalize p.getD k zeroC = c at hd ht ⊢
    refine ⟨⟨k + 1, hlt, rfl, ?_, ht.symm⟩, by simp only [toNat_cast]; omega⟩
    rw [hd]
    unfold w64 size w64
    simp only [wrap_eq]
    omega
  · have hke : k = p.length := by omega
    subst hke
    rw [List.take_length] at hg he
    subst hg he
    have t1 : endOf p > n ∨ w64 (n + delta p) > 1099511627776 → ((shiftA (newA n l).1 p).2.1 = 1 → Option.isNone (shiftA (newA n l).1 p).1 = false → false = true) ∧ ((shiftA (newA n l).1 p).2.1 ≠ 1 → false = true) := fun h => by
      rw [s1 hnp h]
      exact ⟨fun _ h => (by cases h), fun h => absurd rfl h⟩
    refine ⟨fun h1 => t1 (.inl h1), fun h1 => ⟨fun h2 => t1 (.inr h2), fun h2 => ?_⟩⟩
    obtain ⟨q1, q2, q3⟩ := s0 hnp h1 h2
    refine ⟨fun _ => ⟨fun _ => ⟨by omega, by omega, by omega, ⟨by omega, by omega, hnp, fun a ha => ?_⟩, ⟨by omega, by rw [insA_len, List.length_map]; omega⟩, fun h => absurd q3 h⟩, fun h => ?_⟩, fun h => absurd q1 h⟩
    · have := okA_iff.1 (hwz.2.2.1 a ha)
      omega
    · rw [q2] at h; cases h
theorem d36' : Ty.dflt t36 = zA := rfl
theorem p5 : vc5 := by
  unfold vc5
  simp only [eq_self, true_and, and_true, decide_eq_true_eq, decide_eq_false_iff_not, beq_iff_eq, beq_eq_false_iff_ne, bne_iff_ne, bne_eq_false_iff_eq, Bool.not_eq_true', Bool.not_eq_false', ne_eq, imp_true_iff, implies_true]
  rintro ⟨n, l, p, ⟨⟩⟩
  simp only [maxLen_eq, d36', beq4]
  rintro ⟨hl, hp⟩ hl2 hp2
  have hsz := new_size n l
  have code := new_code n l
  have same : (((newA n l).2.1 != 0) == (wrongA n l != 0)) = false → false = true := fun h => by
    rw [code] at h
    simp at h
  refine ⟨hl, ⟨by omega, hsz.2.1, hsz.2.2, by omega⟩, fun _ => ⟨by omega, hl, same⟩, fun hz => ⟨fun _ => ⟨by omega, hl, same⟩, fun hs => ?_⟩⟩
  rw [code] at hz
  have ids := (wrong_zero.1 hz).2.2.2
  have oks := (wrong_zero.1 hz).2.2.1
  have hn40 := (wrong_zero.1 hz).1
  obtain ⟨hnp, he, hg⟩ := shift_zero hz hs
  obtain ⟨_, _, hm, hS⟩ := shift_ok hz hnp he hg
  have get : ∀ i : Nat, i < l.length → getA (shiftA (newA n l).1 p).1 (l.getD i zA).1 = (moveA p (l.getD i zA), 0, ()) ∧ (moveA p (l.getD i zA)).2.1 = mapTo (l.getD i zA).2.1 (l.getD i zA).2.2.1 p 0 ∧ okA n (l.getD i zA) = true := fun i hi => by
    have hx : l.getD i zA ∈ l := by rw [getD_of zA hi]; exact List.getElem_mem _
    generalize l.getD i zA = x at hx ⊢
    refine ⟨?_, hm x hx, oks x hx⟩
    rw [hS]
    unfold getA
    rw [show byA (some (n + delta p, sortA (l.map (moveA p)), keysA ((sortA l).map (moveA p)), ())) = keysA ((sortA l).map (moveA p)) from rfl,
      get_of (n := n) (i := x.1) (x := moveA p x) (moved_ids (ids_perm (sort_perm l).symm ids)) (List.mem_map.2 ⟨x, (sort_perm l).mem_iff.2 hx, rfl⟩) rfl]
  generalize (shiftA (newA n l).1 p).1 = S at get ⊢
  refine ⟨fun z => ∃ k : Nat, z.1 = (k : Int) ∧ k ≤ l.length, fun z => l.length - z.1.toNat, ⟨0, rfl, Nat.zero_le _⟩, ?_⟩
  rintro i ⟨k, hi, hk⟩
  simp only at hi
  subst hi
  intro h
  have hlt : k < l.length := by omega
  have hwk : IntKind.i64.wrap ((k : Int) + 1) = ((k + 1 : Nat) : Int) := wrap_succ (by omega)
  obtain ⟨g1, g2, g3⟩ := get k hlt
  rw [toNat_cast, hwk, g1]
  have nextO : (∃ k' : Nat, ((k + 1 : Nat) : Int) = (k' : Int) ∧ k' ≤ l.length) ∧ l.length - (((k + 1 : Nat) : Int)).toNat < l.length - ((k : Int)).toNat := ⟨⟨k + 1, rfl, hlt⟩, by rw [toNat_cast, toNat_cast]; omega⟩
  refine ⟨⟨by omega, h⟩, fun h => absurd rfl h, fun _ => ?_⟩
  refine ⟨fun z => ∃ k : Nat, z.1 = (k : Int) ∧ k ≤ l.length, fun z => l.length - z.1.toNat, ⟨0, rfl, Nat.zero_le _⟩, ?_⟩
  rintro i ⟨m, hi, hm'⟩
  simp only at hi
  subst hi
  refine ⟨fun h2 => ?_, fun _ => nextO⟩
  have hlm : m < l.length := by omega
  have hwm : IntKind.i64.wrap ((m : Int) + 1) = ((m + 1 : Nat) : Int) := wrap_succ (by omega)
  obtain ⟨f1, f2, f3⟩ := get m hlm
  rw [toNat_cast, hwm, f1]
  have nextI : (∃ k' : Nat, ((m + 1 : Nat) : Int) = (k' : Int) ∧ k' ≤ l.length) ∧ l.length - (((m + 1 : Nat) : Int)).toNat < l.length - ((m : Int)).toNat := ⟨⟨m + 1, rfl, hlm⟩, by rw [toNat_cast, toNat_cast]; omega⟩
  refine ⟨⟨by omega, h2⟩, fun h => absurd rfl h, fun _ => ⟨fun h3 => ⟨fun h4 => ⟨fun h5 => ?_, fun _ => nextI⟩, fun _ => nextI⟩, fun _ => nextI⟩⟩
  rw [g2, f2] at h5
  have o1 := okA_iff.1 g3
  have o2 := okA_iff.1 f3
  have := map_mono h4 o1.2.2 o2.2.2 p zeroC true (l.getD k zA).2.1 (l.getD m zA).2.1 hnp o1.1 h3
  have e0 : zeroC.2.1.2.1 - zeroC.1.2.1 = (0 : Int) := rfl
  rw [e0] at this
  omega
theorem delta_inv {l : List Chg} (h : normal l = true) : delta (invert l) = -delta l := by
  rw [delta_last (normal_inv h), delta_last h]
  have : lastFrom zeroC (invert l) = inv (lastFrom zeroC l) := last_inv l zeroC
  rw [this]
  simp only [inv]
  omega
/-- What is shifted, and shifted back. -/
theorem back_ok {n : Int} {l : List Anc} {p : List Chg} (hw : wrongA n l = 0) (hp : normal p = true) (he : endOf p ≤ n) (hg : w64 (n + delta p) ≤ 1099511627776) (hno : ∀ x ∈ l, ∀ c ∈ p, ¬ (c.1.1 ≤ x.2.1 ∧ x.2.1 ≤ c.1.2.1)) :
    (shiftA (shiftA (newA n l).1 p).1 (invert p)).2.1 = 0 ∧ Option.isSome (shiftA (shiftA (newA n l).1 p).1 (invert p)).1 = true ∧ allA (shiftA (shiftA (newA n l).1 p).1 (invert p)).1 = sortA l := by
  obtain ⟨e1, w2, hm, hS⟩ := shift_ok hw hp he hg
  obtain ⟨h1, h2, h3, ids⟩ := wrong_zero.1 hw
  have pm : ((sortA l).map (moveA p)).Perm (l.map (moveA p)) := (sort_perm l).map _
  have w3 := wrong_perm pm.symm w2
  have ids2 := ids_perm (sort_perm l).symm ids
  have hS2 : shiftA (newA n l).1 p = newA (n + delta p) ((sortA l).map (moveA p)) := by
    rw [hS, new_fst w3, sort_perm_eq pm (moved_ids ids2)]
  have dl := delta_last hp
  have lp := last_pos hp
  have hlast : lastFrom zeroC (invert p) = inv (lastFrom zeroC p) := last_inv p zeroC
  have he' := he
  rw [end_last] at he'
  have eb : endOf (invert p) ≤ n + delta p := by
    rw [end_last, hlast, dl]
    show (lastFrom zeroC p).2.1.2.1 ≤ _
    omega
  have eg : w64 (n + delta p + delta (invert p)) ≤ 1099511627776 := by
    rw [delta_inv hp]
    unfold w64
    rw [wrap_eq]
    omega
  obtain ⟨_, _, hm2, hT⟩ := shift_ok w3 (normal_inv hp) eb eg
  rw [hS2, hT]
  refine ⟨rfl, rfl, ?_⟩
  show sortA (((sortA l).map (moveA p)).map (moveA (invert p))) = sortA l
  have : ((sortA l).map (moveA p)).map (moveA (invert p)) = sortA l := by
    rw [List.map_map]
    conv => rhs; rw [← List.map_id (sortA l)]
    refine List.map_congr_left fun x hx => ?_
    have hx' : x ∈ l := (sort_perm l).mem_iff.1 hx
    have ok := okA_iff.1 (h3 x hx')
    have g2 := hm2 (moveA p x) (List.mem_map.2 ⟨x, hx, rfl⟩)
    have g1 := hm x hx'
    show ((moveA p x).1, (mapP (invert p) (moveA p x).2.1 (moveA p x).2.2.1).1, (moveA p x).2.2.1, ()) = x
    rw [g2]
    have g3 : (moveA p x).2.1 = mapTo x.2.1 x.2.2.1 p 0 := g1
    rw [g3]
    have mb := map_back (b := x.2.2.1) p zeroC true x.2.1 hp (hno x hx')
    have e0 : zeroC.2.1.2.1 - zeroC.1.2.1 = (0 : Int) := rfl
    have e0' : zeroC.1.2.1 - zeroC.2.1.2.1 = (0 : Int) := rfl
    rw [e0, e0'] at mb
    have mb' : mapTo (mapTo x.2.1 x.2.2.1 p 0) x.2.2.1 (invert p) 0 = x.2.1 := mb
    show (x.1, mapTo (mapTo x.2.1 x.2.2.1 p 0) x.2.2.1 (invert p) 0, x.2.2.1, ()) = x
    rw [mb']
  rw [this]
  exact sort_perm_eq (sort_perm l) ids2
theorem p7 : vc7 := by
  unfold vc7
  simp only [eq_self, true_and, and_true, decide_eq_true_eq, decide_eq_false_iff_not, beq_iff_eq, beq_eq_false_iff_ne, bne_iff_ne, bne_eq_false_iff_eq, Bool.not_eq_true', Bool.not_eq_false', ne_eq, imp_true_iff, implies_true]
  rintro ⟨n, at_, p, ⟨⟩⟩
  simp only [maxLen_eq, beq4, d51]
  intro hp hp2
  refine ⟨fun z => ∃ k : Nat, k ≤ 2 ∧ z.2.1 = (k : Int) ∧ z.1 = ([(0, at_, 0, ()), (1, at_, 1, ())] : List Anc).take k, fun z => 2 - z.2.1.toNat, ⟨0, Nat.zero_le _, rfl, rfl⟩, ?_⟩
  rintro a i ⟨k, hk, hi, ha⟩
  simp only at hi ha
  subst hi
  refine ⟨fun h => ?_, fun h => ?_⟩
  · have hwk : IntKind.i64.wrap ((k : Int) + 1) = ((k + 1 : Nat) : Int) := wrap_succ (by omega)
    rw [hwk]
    have hal : a.length ≤ 2 := by rw [ha]; simp; omega
    simp only [List.length_singleton, toNat_cast]
    refine ⟨by omega, by omega, ⟨k + 1, by omega, rfl, ?_⟩, by omega⟩
    rw [ha]
    have hk2 : k = 0 ∨ k = 1 := by omega
    rcases hk2 with e | e <;> subst e <;> rfl
  · have hke : k = 2 := by omega
    subst hke
    have ha : a = [(0, at_, 0, ()), (1, at_, 1, ())] := ha
    subst ha
    have hlen : ([(0, at_, 0, ()), (1, at_, 1, ())] : List Anc).length = 2 := rfl
    have sid : ∀ h : wrongA n [(0, at_, 0, ()), (1, at_, 1, ())] = 0, sortA [(0, at_, 0, ()), (1, at_, 1, ())] = [(0, at_, 0, ()), (1, at_, 1, ())] := fun h => by
      refine sort_id (wrong_zero.1 h).2.2.2 ?_
      refine List.pairwise_cons.2 ⟨fun y hy => ?_, List.pairwise_singleton _ _⟩
      rw [List.mem_singleton.1 hy]
      intro hh
      have := cmpA_lt.1 hh
      simp at this
    have mems : ∀ x ∈ ([(0, at_, 0, ()), (1, at_, 1, ())] : List Anc), x.2.1 = at_ := fun x hx => by
      rcases List.mem_cons.1 hx with e | hx
      · subst e; rfl
      · rw [List.mem_singleton.1 hx]
    generalize hL : ([(0, at_, 0, ()), (1, at_, 1, ())] : List Anc) = L at hlen sid mems ⊢
    have hsz := new_size n L
    have hss := shift_size (newA n L).1 p
    have hss2 := shift_size (shiftA (newA n L).1 p).1 (invert p)
    have hil : (invert p).length = p.length := by simp [invert]
    have code := new_code n L
    have same : (((newA n L).2.1 != 0) == (wrongA n L != 0)) = false → false = true := fun h => by
      rw [code] at h
      simp at h
    refine ⟨by omega, ⟨by omega, hsz.2.1, hsz.2.2, by omega⟩, fun _ => ⟨by omega, by omega, same⟩, fun hz => ⟨fun _ => ⟨by omega, by omega, same⟩, fun hs => ?_⟩⟩
    rw [code] at hz
    obtain ⟨hnp, he, hg⟩ := shift_zero hz hs
    refine ⟨fun z => ∃ k : Nat, z.1 = (k : Int) ∧ k ≤ p.length ∧ ∀ c ∈ p.take k, ¬ (c.1.1 ≤ at_ ∧ at_ ≤ c.1.2.1), fun z => p.length - z.1.toNat, ⟨0, rfl, Nat.zero_le _, fun c hc => by simp at hc⟩, ?_⟩
    rintro i ⟨k, hi, hk, hno⟩
    simp only at hi
    subst hi
    refine ⟨fun h => ?_, fun h => ?_⟩
    · have hlt : k < p.length := by omega
      have hwk : IntKind.i64.wrap ((k : Int) + 1) = ((k + 1 : Nat) : Int) := wrap_succ (by omega)
      have ht := take_one zeroC hlt
      rw [toNat_cast, hwk]
      generalize p.getD k zeroC = c at ht ⊢
      have next : ¬ (c.1.1 ≤ at_ ∧ at_ ≤ c.1.2.1) → (∃ k' : Nat, ((k + 1 : Nat) : Int) = (k' : Int) ∧ k' ≤ p.length ∧ ∀ c ∈ p.take k', ¬ (c.1.1 ≤ at_ ∧ at_ ≤ c.1.2.1)) ∧ p.length - (((k + 1 : Nat) : Int)).toNat < p.length - ((k : Int)).toNat := fun g => by
        refine ⟨⟨k + 1, rfl, hlt, fun d hd => ?_⟩, by rw [toNat_cast, toNat_cast]; omega⟩
        rw [ht] at hd
        rcases List.mem_append.1 hd with hd | hd
        · exact hno d hd
        · rw [List.mem_singleton.1 hd]; exact g
      exact ⟨⟨by omega, h⟩, fun h1 h2 => next (fun hh => h2 hh.2), fun h1 => next (fun hh => h1 hh.1)⟩
    · have hke : k = p.length := by omega
      subst hke
      rw [List.take_length] at hno
      obtain ⟨q1, q2, q3⟩ := back_ok hz hnp he hg (fun x hx c hc => by rw [mems x hx]; exact hno c hc)
      rw [sid hz] at q3
      refine ⟨by omega, ⟨by omega, hss.2.1, hss.2.2, by omega⟩, fun _ => ⟨fun _ => ⟨by omega, by omega, ⟨by omega, by omega⟩, fun h => absurd q3 h⟩, fun h => ?_⟩, fun h => absurd q1 h⟩
      rw [q2] at h; cases h
end Go.Fr.C11
