/-
  Chapter 15: proofs of the conditions: New. Conditions: none.
-/
import Derived.Test.YtmjhpfbpidlbcaaC15R
namespace Go.Fr.C15
open Go Go.Fr Go.Proofs

def keysOf (l : List Span) : List (Span × Unit × Unit) := l.map fun x => (x, (), ())
theorem mget_keys (key : Span) : (l : List Span) → (mget t33 t62 key (keysOf l) = none ↔ key ∉ l) ∧ (Option.isSome (mget t33 t62 key (keysOf l)) = true ↔ key ∈ l)
  | [] => by simp [keysOf, mget]
  | x :: r => by
    have ih := mget_keys key r
    have e : mget t33 t62 key (keysOf (x :: r)) = bif Ty.beq t33 key x then some () else mget t33 t62 key (keysOf r) := rfl
    rw [e]
    cases hb : Ty.beq t33 key x with
    | true =>
      have := (beqS _ _).1 hb
      subst this
      simp
    | false =>
      have := (beqS_f _ _).1 hb
      simp only [cond_false, List.mem_cons]
      refine ⟨ih.1.trans ⟨fun h1 h2 => ?_, fun h1 h2 => h1 (.inr h2)⟩, ih.2.trans ⟨fun h => .inr h, fun h => ?_⟩⟩
      · rcases h2 with h2 | h2
        · exact this h2
        · exact h1 h2
      · rcases h with h | h
        · exact absurd h this
        · exact h
theorem set_last {α : Type} (v : α) : (l : List α) → l ≠ [] → l.set (l.length - 1) v = l.dropLast ++ [v]
  | [], h => absurd rfl h
  | [_], _ => rfl
  | x :: y :: r, _ => by
    have := set_last v (y :: r) (by simp)
    simp only [List.length_cons, Nat.add_sub_cancel] at this
    show (x :: y :: r).set (r.length + 1) v = _
    rw [List.set_cons_succ, this]
    rfl
theorem last_at {l : List Span} (h : l ≠ []) : l.getLast? = some (l.getD (l.length - 1) zS) := by
  have h0 : 0 < l.length := List.length_pos_iff.2 h
  rw [List.getLast?_eq_getElem?, List.getElem?_eq_getElem (by omega), getD_of zS (by omega)]
theorem hideL_snoc {l : List Span} {k : Nat} (h : k < l.length) : hideL (l.take (k + 1)) = hideStep (hideL (l.take k)) (l.getD k zS) := by
  rw [take_snoc' h]
  simp [hideL]
theorem sort_len (l : List Span) : (sortS l).length = l.length := (sortBy_perm l).length_eq

theorem p9 : vc9 := by
  unfold vc9
  simp only [eq_self, true_and, and_true, decide_eq_true_eq, decide_eq_false_iff_not, beq_iff_eq, beq_eq_false_iff_ne, bne_iff_ne, bne_eq_false_iff_eq, Bool.not_eq_true', Bool.not_eq_false', ne_eq, imp_true_iff, implies_true]
  rintro ⟨n, l, ⟨⟩⟩
  have dr : Ty.dflt rSort.t = zS := rfl
  simp only [maxLen_eq, d33, dr]
  intro hlm
  refine ⟨fun h0 => by simp [newF, h0], fun h0 => ⟨fun h1 => by simp [newF, h1], fun h1 => ⟨fun h2 => ?_, fun h2 => ?_⟩⟩⟩
  · unfold newF
    rw [if_neg (by omega), if_pos h2]
  refine ⟨fun z => ∃ k : Nat, k ≤ l.length ∧ z.1 = (k : Int) ∧ z.2.1 = keysOf (l.take k) ∧ errF n [] l = errF n (l.take k) (l.drop k), fun z => l.length - z.1.toNat, ⟨0, Nat.zero_le _, rfl, rfl, rfl⟩, ?_⟩
  rintro i mm ⟨k, hk, hi, ho, he⟩
  simp only at hi ho
  subst hi ho
  simp only [toNat_cast]
  refine ⟨fun h3 => ?_, fun h3 => ?_⟩
  · have hk' : k < l.length := by omega
    have hd := drop_cons zS hk'
    have htk := take_snoc' (l := l) hk'
    rw [hd] at he
    generalize hx : l.getD k zS = x at he htk ⊢
    have hwk : IntKind.i64.wrap ((k : Int) + 1) = ((k + 1 : Nat) : Int) := wrap_succ (by omega)
    have hfit : fitsF x n = true ↔ 0 ≤ x.1 ∧ x.1 ≤ x.2.1 ∧ x.2.1 ≤ n := by simp [fitsF]
    have hfit2 : fitsF x n = false ↔ ¬ (0 ≤ x.1 ∧ x.1 ≤ x.2.1 ∧ x.2.1 ≤ n) := by simp [fitsF]
    refine ⟨by omega, fun h4 => ?_, fun h4 => ⟨fun h5 => ?_, fun h5 => ?_⟩⟩
    · have h4 := hfit2.1 h4
      exact (newF_err h0 h1 h2 (he.trans (err_bad (okS_no.2 (by omega)))) (by decide)).symm
    · have h5 := congrArg Prod.fst ((beqS _ _).1 h5)
      simp only at h5
      exact (newF_err h0 h1 h2 (he.trans (err_bad (okS_no.2 (by omega)))) (by decide)).symm
    have h4 := hfit.1 h4
    have h5 := (beqS_f _ _).1 h5
    have hok : okS n x = true := okS_iff.2 ⟨h4.1, by
      rcases Int.lt_or_eq_of_le h4.2.1 with e | e
      · exact e
      · exact absurd (Prod.ext e rfl : x = (x.2.1, x.2)) h5, h4.2.2⟩
    obtain ⟨g1, g2⟩ := mget_keys x (l.take k)
    refine ⟨fun h6 => ?_, fun h6 => ?_⟩
    · exact (newF_err h0 h1 h2 (he.trans (err_same hok (g2.1 h6))) (by decide)).symm
    · have hnot : x ∉ l.take k := fun hm => by rw [g2.2 hm] at h6; cases h6
      rw [hwk, toNat_cast]
      refine ⟨g1.2 hnot, ⟨k + 1, hk', rfl, ?_, ?_⟩, by omega⟩
      · rw [htk]
        simp [keysOf]
      · rw [he, err_on hok hnot, htk]
  · have hke : k = l.length := by omega
    subst hke
    rw [List.take_length, List.drop_length] at he
    have he : errF n [] l = 0 := he
    refine ⟨by omega, by omega, ?_⟩
    rintro ys hys
    have hys : ys = sortS l := hys
    have hyl : ys.length = l.length := by rw [hys, sort_len]
    have hfin : newF n l = (some (n, ys, hideL ys, ()), 0, ()) := by
      unfold newF
      rw [if_neg (by omega), if_neg h2, if_pos he, hys]
    rw [hfin]
    clear hfin hys
    refine ⟨fun z => ∃ k : Nat, k ≤ ys.length ∧ z.1 = (k : Int) ∧ z.2.1 = hideL (ys.take k), fun z => ys.length - z.1.toNat, ⟨0, Nat.zero_le _, rfl, rfl⟩, ?_⟩
    rintro i hid ⟨k, hk, hi, ho⟩
    simp only at hi ho
    subst hi
    simp only [toNat_cast]
    refine ⟨fun h4 => ?_, fun h4 => ?_⟩
    · have hk' : k < ys.length := by omega
      have hs := hideL_snoc hk'
      have hhl : hid.length ≤ k := by
        rw [ho]
        refine Nat.le_trans (hideL_len _) ?_
        simp
        omega
      rw [← ho] at hs
      generalize ys.getD k zS = y at hs ⊢
      have hwk : IntKind.i64.wrap ((k : Int) + 1) = ((k + 1 : Nat) : Int) := wrap_succ (by omega)
      have hwl : IntKind.i64.wrap ((hid.length : Int) - 1) = (hid.length : Int) - 1 := wrap_id (by omega) (by omega)
      rw [hwk, hwl]
      simp only [toNat_cast, List.length_singleton]
      have on : hideStep hid y = hid ++ [y] → ((hid.length + 1) * 16 ≤ 140737488355328 ∧ hid.length + 1 ≤ 9223372036854775807 ∧ (∃ k' : Nat, k' ≤ ys.length ∧ ((k + 1 : Nat) : Int) = (k' : Int) ∧ hid ++ [y] = hideL (ys.take k')) ∧ ys.length - (k + 1) < ys.length - k) := fun e =>
        ⟨by omega, by omega, ⟨k + 1, hk', rfl, by rw [hs, e]⟩, by omega⟩
      refine ⟨by omega, fun h5 => ?_, fun h5 => ?_⟩
      · have hne : hid ≠ [] := fun e => by rw [e] at h5; simp at h5
        have hpos : 0 < hid.length := List.length_pos_iff.2 hne
        have hnat : ((hid.length : Int) - 1).toNat = hid.length - 1 := by omega
        have hlast := last_at hne
        rw [hnat]
        generalize hid.getD (hid.length - 1) zS = hh at hlast ⊢
        refine ⟨by omega, fun h6 => ⟨by omega, by omega, ⟨k + 1, hk', rfl, ?_⟩, by omega⟩, fun h6 => ?_⟩
        · rw [hs, set_last _ _ hne]
          unfold hideStep
          rw [hlast]
          simp only
          rw [if_pos h6]
        · have e : hideStep hid y = hid ++ [y] := by
            unfold hideStep
            rw [hlast]
            simp only
            rw [if_neg h6]
          exact ⟨on e, on e, on e⟩
      · have hne : hid = [] := by
          cases hid with
          | nil => rfl
          | cons _ _ => simp at h5
        have e : hideStep hid y = hid ++ [y] := by rw [hne]; rfl
        exact ⟨on e, on e, on e⟩
    · have hke : k = ys.length := by omega
      subst hke
      rw [List.take_length] at ho
      rw [ho]
end Go.Fr.C15
