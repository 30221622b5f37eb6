/-
  Chapter 19: rows are not wider than their room: its condition. Conditions: none.
-/
import Derived.Test.YthfkodcgkhcioaaC19Q
namespace Go.Fr.C19
open Go Go.Fr Go.Proofs

/-- How many cells have a width. -/
def posN : List Cell → Nat
  | [] => 0
  | c :: r => if wd c > 0 then posN r + 1 else posN r
theorem posN_app : ∀ (a b : List Cell), posN (a ++ b) = posN a + posN b
  | [], b => (Nat.zero_add _).symm
  | c :: a, b => by
    simp only [List.cons_append, posN, posN_app a b]
    split <;> omega
theorem posN_succ {r : List Cell} {k : Nat} (h : k < r.length) : posN (r.take (k + 1)) = posN (r.take k) + if wd (r.getD k zCell) > 0 then 1 else 0 := by
  rw [List.take_add_one, posN_app, List.getElem?_eq_getElem h, getD_of _ h]
  simp only [Option.toList, posN]
theorem posN_zeros : ∀ {r : List Cell} {k : Nat}, k ≤ zeros r → posN (r.take k) = 0
  | [], k, _ => by simp [posN]
  | c :: r, 0, _ => rfl
  | c :: r, k + 1, h => by
    unfold zeros at h
    split at h
    · rename_i e
      simp only [List.take_succ_cons, posN]
      rw [if_neg (by omega)]
      exact posN_zeros (by omega)
    · omega
theorem fg_fits {room : Int} {l : List Cell} : ∀ (n k : Nat), n + 1 ≤ fitGo room (l.drop k) (width (l.take k)) → k + (n + 1) ≤ l.length → width (l.take (k + (n + 1))) ≤ room
  | 0, k, h, hk => by
    rw [fg_step (by omega)] at h
    have ws := width_succ (l := l) (k := k) (by omega)
    split at h
    · rw [show k + (0 + 1) = k + 1 by omega]; omega
    · omega
  | n + 1, k, h, hk => by
    rw [fg_step (by omega)] at h
    have ws := width_succ (l := l) (k := k) (by omega)
    split at h
    · rw [← ws] at h
      have := fg_fits (room := room) (l := l) n (k + 1) (by omega) (by omega)
      rw [show k + (n + 1 + 1) = k + 1 + (n + 1) by omega]
      exact this
    · omega
theorem row_fit {l : List Cell} {room : Int} {m : Nat} (hm : m ≤ fit l room) (hl : m ≤ l.length) : posN (l.take m) > 1 → width (l.take m) ≤ room := by
  intro hp
  unfold fit at hm
  by_cases e : fitGo room l 0 = 0
  · rw [if_pos e] at hm
    exfalso
    cases l with
    | nil => simp [posN] at hp
    | cons c r =>
      cases m with
      | zero => simp [posN] at hp
      | succ m =>
        simp only [List.take_succ_cons, posN] at hp
        have := posN_zeros (r := r) (k := m) (by simpa using hm)
        rw [this] at hp
        split at hp <;> omega
  · rw [if_neg e] at hm
    cases m with
    | zero => simp [posN] at hp
    | succ m =>
      have := fg_fits (room := room) (l := l) m 0 hm (by omega)
      rwa [Nat.zero_add] at this
theorem start_fit (l : List Cell) (room : Int) : start l room ≤ fit l room := by
  unfold start
  have := takes_fit l room
  split
  · split <;> omega
  · exact this
theorem inner {r : List Cell} (hr : okL r) {here : Int} {B E : Prop} (hB : B) (hw : posN r > 1 → width r ≤ here) (hE : E) :
    ∃ (Z : Int × Int × Unit → Prop), ∃ (μ : Int × Int × Unit → Nat), Z ((0 : Int), (0 : Int), ()) ∧ ∀ (a b : Int), Z (a, b, ()) →
      (b < (r.length : Int) → ((0 : Int) ≤ b ∧ b < (r.length : Int)) ∧
        ((r.getD b.toNat zCell).2.2.1 > 0 → Z (IntKind.i64.wrap (a + 1), IntKind.i64.wrap (b + 1), ()) ∧ μ (IntKind.i64.wrap (a + 1), IntKind.i64.wrap (b + 1), ()) < μ (a, b, ())) ∧
        (¬ (r.getD b.toNat zCell).2.2.1 > 0 → Z (a, IntKind.i64.wrap (b + 1), ()) ∧ μ (a, IntKind.i64.wrap (b + 1), ()) < μ (a, b, ()))) ∧
      (¬ b < (r.length : Int) → (a > 1 → B ∧ okL r ∧ (width r > here → false = true) ∧ (¬ width r > here → E)) ∧ (¬ a > 1 → E)) := by
  have h1 := hr.1
  refine ⟨fun z => ∃ k : Nat, k ≤ r.length ∧ z.2.1 = (k : Int) ∧ z.1 = (posN (r.take k) : Int) ∧ z.1 ≤ z.2.1, fun z => r.length - z.2.1.toNat, ⟨0, Nat.zero_le _, rfl, by simp [posN], by simp⟩, ?_⟩
  rintro a b ⟨k, hk, hb, ha, hab⟩
  simp only at hb ha hab
  subst hb ha
  rw [toNat_cast]
  refine ⟨fun g => ?_, fun g => ?_⟩
  · have hlt : k < r.length := by omega
    have hw1 : IntKind.i64.wrap ((k : Int) + 1) = ((k + 1 : Nat) : Int) := wrap_succ (by omega)
    have hw2 : IntKind.i64.wrap ((posN (r.take k) : Int) + 1) = ((posN (r.take k) + 1 : Nat) : Int) := wrap_succ (by omega)
    have ps := posN_succ hlt
    have hdec : r.length - (((k + 1 : Nat) : Int)).toNat < r.length - (k : Int).toNat := by rw [toNat_cast, toNat_cast]; omega
    rw [hw1, hw2, wd_eq]
    refine ⟨by omega, fun g2 => ⟨⟨k + 1, hlt, rfl, by rw [ps, if_pos g2], by simp only; omega⟩, hdec⟩, fun g2 => ⟨⟨k + 1, hlt, rfl, by rw [ps, if_neg g2]; rfl, by simp only; omega⟩, hdec⟩⟩
  · have : k = r.length := by omega
    subst this
    rw [List.take_length]
    exact ⟨fun g2 => ⟨hB, hr, fun g3 => by have := hw (by omega); omega, fun _ => hE⟩, fun _ => hE⟩
theorem p6 : vc6 := by
  unfold vc6
  simp only [eq_self, true_and, and_true, decide_eq_true_eq, decide_eq_false_iff_not, beq_iff_eq, beq_eq_false_iff_ne, bne_iff_ne, bne_eq_false_iff_eq, Bool.not_eq_true', Bool.not_eq_false', ne_eq, imp_true_iff, implies_true]
  rintro ⟨l, ⟨p, q, ⟨⟩⟩, ⟨⟩⟩
  simp only
  intro hl
  refine ⟨hl, fun h => ?_⟩
  have ok := right_ok h
  have h1 := ok.1
  have h2 := allR_len l p q
  rw [d3, d35]
  refine ⟨by omega, by omega, ok, fun z => ∃ k at_ : Nat, k ≤ (allR l p q).length ∧ z.2.1 = (k : Int) ∧ z.1 = (at_ : Int) ∧ Cur l p q k at_, fun z => (allR l p q).length - z.2.1.toNat, ⟨0, 0, Nat.zero_le _, rfl, rfl, cur_0 l p q⟩, ?_⟩
  rintro a i ⟨k, at_, hk, hi, ha, hc⟩
  simp only at hi ha
  subst hi ha
  intro g
  have hlt : k < (allR l p q).length := by omega
  have hw : IntKind.i64.wrap ((k : Int) + 1) = ((k + 1 : Nat) : Int) := wrap_succ (by omega)
  obtain ⟨m, e1, e2, e3, e4, e5⟩ := cur_step hc hlt
  have w1 : IntKind.i64.wrap ((at_ : Int) + (m : Int)) = ((at_ + m : Nat) : Int) := by rw [wrap_eq]; omega
  have w2 : IntKind.i64.wrap ((l.length : Int) - (at_ : Int)) = (l.length : Int) - (at_ : Int) := by rw [wrap_eq]; omega
  have hdec : (allR l p q).length - (((k + 1 : Nat) : Int)).toNat < (allR l p q).length - (k : Int).toNat := by rw [toNat_cast, toNat_cast]; omega
  simp only [toNat_cast, e1, hw, w1, w2]
  have er : (l.take (at_ + m)).drop at_ = (l.drop at_).take m := by rw [List.drop_take]; congr 1; omega
  rw [er]
  have okr : okL ((l.drop at_).take m) := okL_take (okL_drop ok at_) m
  have hlen : m ≤ (l.drop at_).length := by rw [List.length_drop]; omega
  refine ⟨by omega, fun g2 => by omega, fun _ => ⟨fun g2 => by omega, fun _ => ⟨by omega, fun gk => ⟨by omega, by omega, ?_⟩, fun gk => ⟨by omega, ?_⟩⟩⟩⟩
  · refine inner okr (by omega) (fun hp => ?_) ⟨⟨k + 1, at_ + m, hlt, rfl, rfl, e5⟩, hdec⟩
    rcases e4 with ⟨_, a0, m0⟩ | ⟨k0, _, _⟩
    · subst a0 m0
      exact row_fit (start_fit l p) (by simpa using hlen) hp
    · omega
  · refine inner okr (by omega) (fun hp => ?_) ⟨⟨k + 1, at_ + m, hlt, rfl, rfl, e5⟩, hdec⟩
    rcases e4 with ⟨k0, _, _⟩ | ⟨_, _, m0⟩
    · omega
    · subst m0
      exact row_fit (takes_fit _ q) hlen hp
end Go.Fr.C19
