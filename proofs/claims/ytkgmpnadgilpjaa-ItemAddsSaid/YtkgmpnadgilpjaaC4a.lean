/-
  Chapter 04: the functions' contracts. Conditions: none.
-/
import Derived.Test.YtkgmpnadgilpjaaFrX
import Derived.Test.YtkgmpnadgilpjaaProg
namespace Go.Fr.C4
open Go Go.Fr Go.Proofs
abbrev t3 : Ty := .int .i64
abbrev t4 : Ty := .bool
abbrev t9 : Ty := .str
abbrev t25 : Ty := .pair t3 (.pair t3 (.pair t3 .unit))
abbrev t27 : Ty := .pair t3 (.pair t3 (.pair t25 (.pair t3 (.pair t9 .unit))))
abbrev t22 : Ty := .sl t27
abbrev t31 : Ty := .pair t3 (.pair t25 (.pair t3 (.pair t3 .unit)))
abbrev t29 : Ty := .pair t3 (.pair t25 (.pair t3 (.pair t3 .unit)))
abbrev t38 : Ty := .int .i64
abbrev t41 : Ty := .pair t3 (.pair t3 (.pair t25 (.pair t3 (.pair t9 .unit))))
abbrev t44 : Ty := .sl t41
def tab : List (TypeId × TI) := [
  (3, ⟨.int .i64, 1, 8, [.tv (.int .i64) (0 : Int)], some t3⟩),
  (4, ⟨.bool, 1, 1, [.blit false], some t4⟩),
  (9, ⟨.str, 1, 16, [.tv .str ByteArray.empty], some t9⟩),
  (25, ⟨.array 3 3 1, 3, 24, [.tv (.int .i64) (0 : Int), .tv (.int .i64) (0 : Int), .tv (.int .i64) (0 : Int)], some t25⟩),
  (27, ⟨.struct [(0, 1, false), (1, 1, false), (2, 3, true), (5, 1, false), (6, 1, false)], 7, 64, [.tv (.int .i64) (0 : Int), .tv (.int .i64) (0 : Int), .tv (.int .i64) (0 : Int), .tv (.int .i64) (0 : Int), .tv (.int .i64) (0 : Int), .tv (.int .i64) (0 : Int), .tv .str ByteArray.empty], some t27⟩),
  (22, ⟨.slice 27, 1, 24, [.raw (.slice none 0 0)], some t22⟩),
  (31, ⟨.struct [(0, 1, false), (1, 3, true), (4, 1, false), (5, 1, false)], 6, 48, [.tv (.int .i64) (0 : Int), .tv (.int .i64) (0 : Int), .tv (.int .i64) (0 : Int), .tv (.int .i64) (0 : Int), .tv (.int .i64) (0 : Int), .tv (.int .i64) (0 : Int)], some t31⟩),
  (29, ⟨.struct [(0, 1, false), (1, 3, true), (4, 1, false), (5, 1, false)], 6, 48, [.tv (.int .i64) (0 : Int), .tv (.int .i64) (0 : Int), .tv (.int .i64) (0 : Int), .tv (.int .i64) (0 : Int), .tv (.int .i64) (0 : Int), .tv (.int .i64) (0 : Int)], some t29⟩),
  (38, ⟨.int .i64, 1, 8, [.tv (.int .i64) (0 : Int)], some t38⟩),
  (41, ⟨.struct [(0, 1, false), (1, 1, false), (2, 3, true), (5, 1, false), (6, 1, false)], 7, 64, [.tv (.int .i64) (0 : Int), .tv (.int .i64) (0 : Int), .tv (.int .i64) (0 : Int), .tv (.int .i64) (0 : Int), .tv (.int .i64) (0 : Int), .tv (.int .i64) (0 : Int), .tv .str ByteArray.empty], some t41⟩),
  (44, ⟨.slice 41, 1, 24, [.raw (.slice none 0 0)], some t44⟩)]
theorem tab_ok : tabOk Try.prog tab = true := by kernel_rfl
abbrev CS (l : List (FuncId × Contract)) : Env := env tab l

abbrev S := Int × (Int × Int × Int × Unit) × Int × Int × Unit
abbrev It := Int × Int × (Int × Int × Int × Unit) × Int × ByteArray × Unit
def within (n : Int) : Bool := decide (0 ≤ n) && decide (n ≤ 1099511627776)
def cWithin : Contract := { arg := .pair t3 .unit, res := .bool, one := true, pre := fun _ => True, fn := fun x => within x.1 }
def rightI (i : It) : Bool := within i.2.2.1.1 && within i.2.2.1.2.1 && within i.2.2.1.2.2.1 && within i.2.2.2.1
def cRightI : Contract := { arg := .pair t41 .unit, res := .bool, one := true, pre := fun _ => True, fn := fun x => rightI x.1 }
def cRef : Contract := { arg := .pair t27 .unit, res := t41, one := true, pre := fun _ => True, fn := fun x => x.1 }
def cRefSum : Contract := { arg := .pair t31 .unit, res := t29, one := true, pre := fun _ => True, fn := fun x => x.1 }
def right (l : List It) : Bool := decide (l.length ≤ 1000) && l.all rightI
def cRight : Contract := { arg := .pair t22 .unit, res := .bool, one := true, pre := fun _ => True, fn := fun x => right x.1 }

def of (i : It) : S := ((1 : Int), i.2.2.1, i.2.2.2.1, (0 : Int), ())
def cOf : Contract := { arg := .pair t27 .unit, res := t31, one := true, pre := fun _ => True, fn := fun x => of x.1 }
def w64 (n : Int) : Int := IntKind.i64.wrap n
def add (a b : S) : S :=
  let g : Bool := decide (b.1 > 0) && ((a.1 == 0) || decide (b.2.2.1 > a.2.2.1))
  (w64 (a.1 + b.1), (w64 (a.2.1.1 + b.2.1.1), w64 (a.2.1.2.1 + b.2.1.2.1), w64 (a.2.1.2.2.1 + b.2.1.2.2.1), ()),
   if g then b.2.2.1 else a.2.2.1, if g then w64 (a.1 + b.2.2.2.1) else a.2.2.2.1, ())
def cAdd : Contract := { arg := .pair t31 (.pair t31 .unit), res := t31, one := true, pre := fun _ => True, fn := fun x => add x.1 x.2.1 }
def check (i : It) : Int := if within i.2.2.2.1 && within i.2.2.1.1 && within i.2.2.1.2.1 && within i.2.2.1.2.2.1 then 0 else 1
def cCheck : Contract := { arg := .pair t27 .unit, res := t38, one := true, pre := fun _ => True, fn := fun x => check x.1 }
def sum0 : S := ((0 : Int), ((0 : Int), (0 : Int), (0 : Int), ()), (0 : Int), (0 : Int), ())
def allI (l : List It) : S := l.foldl (fun s i => add s (of i)) sum0
def cAll : Contract := { arg := .pair t22 .unit, res := t31, one := true, pre := fun x => x.1.length ≤ maxLen, fn := fun x => allI x.1 }
/-- One item more, the document's way: items are counted ahead. -/
def stepR (s : S) (i : Int) (x : It) : S :=
  (s.1, (w64 (s.2.1.1 + x.2.2.1.1), w64 (s.2.1.2.1 + x.2.2.1.2.1), w64 (s.2.1.2.2.1 + x.2.2.1.2.2.1), ()),
   if decide (x.2.2.2.1 > s.2.2.1) then x.2.2.2.1 else s.2.2.1, if decide (x.2.2.2.1 > s.2.2.1) then i else s.2.2.2.1, ())
def allR0 (n : Int) : S := (n, ((0 : Int), (0 : Int), (0 : Int), ()), (0 : Int), (0 : Int), ())
def allRn (l : List It) : Nat → S
  | 0 => allR0 l.length
  | i + 1 => stepR (allRn l i) i (l.getD i t41.dflt)
def allR (l : List It) : S := allRn l l.length
def cAllR : Contract := { arg := .pair t44 .unit, res := t29, one := true, pre := fun x => x.1.length ≤ maxLen, fn := fun x => allR x.1 }
def cSum : Contract := { arg := .pair t22 .unit, res := t29, one := true, pre := fun x => x.1.length ≤ 100000, fn := fun x => allR x.1 }
def cBoth : Contract := { arg := .unit, res := .bool, one := true, pre := fun _ => True, fn := fun _ => true }

set_option maxRecDepth 10000
theorem vWithin (c : Code) (h : Try.f18.body = some c) : fnVC (CS []) Try.f18 c cWithin := by
  cases h
  intro x _
  refine ⟨fun h1 => ?_, fun h1 => ?_⟩
  · show _ = _
    simp only [cWithin, within]
    rw [show decide (0 ≤ x.1) = true from h1]
    rfl
  · show _ = _
    simp only [cWithin, within]
    rw [show decide (0 ≤ x.1) = false from h1]
    rfl
theorem vRef (c : Code) (h : Try.f16.body = some c) : fnVC (CS []) Try.f16 c cRef := by
  cases h
  intro x _
  exact rfl
theorem vRefSum (c : Code) (h : Try.f9.body = some c) : fnVC (CS []) Try.f9 c cRefSum := by
  cases h
  intro x _
  exact rfl
theorem vRight (c : Code) (h : Try.f7.body = some c) : fnVC (CS [(16, cRef), (15, cRightI)]) Try.f7 c cRight := by
  cases h
  intro x _
  refine ⟨fun h1 => ?_, fun h1 => ?_⟩
  · show _ = _
    have h1 := of_decide_eq_true h1
    have : ¬ x.1.length ≤ 1000 := by omega
    simp [cRight, right, this]
  · have h1 := of_decide_eq_false h1
    refine vc_loop Nat (fun i => [(10, .leaf (.tv t3 (i : Int)))]) (fun _ => []) (fun _ => []) (fun i => i ≤ x.1.length ∧ (x.1.take i).all rightI = true) (fun i => x.1.length - i) 0 ?_ ?_ ?_
    · simp
    · repeat' (first | exact rfl | exact trivial | apply And.intro)
    · intro i hi
      refine ⟨fun h2 => ?_, fun h2 => ?_⟩
      · have h2 := of_decide_eq_true h2
        have hl : i < x.1.length := by omega
        refine ⟨⟨by omega, h2⟩, trivial, trivial, ⟨fun h3 => ?_, fun h3 => ?_⟩⟩
        · show _ = _
          have h3 : (!rightI (x.1.getD i t27.dflt)) = true := h3
          rw [getD_of _ hl] at h3
          have : x.1.all rightI = false := by
            rw [List.all_eq_false]
            exact ⟨_, List.getElem_mem hl, by simpa using h3⟩
          simp [cRight, right, this]
        · have h3 : (!rightI (x.1.getD i t27.dflt)) = false := h3
          rw [getD_of _ hl] at h3
          refine ⟨i + 1, ?_, ?_, ?_⟩
          · rw [all_take_succ hl, hi.2]
            exact ⟨hl, by simpa using h3⟩
          · repeat' (first | exact rfl | exact trivial | apply And.intro)
            exact wrap_succ (by omega)
          · omega
      · show _ = _
        have h2 := of_decide_eq_false h2
        have : x.1.length ≤ 1000 := by omega
        have h4 := hi.2
        rw [List.take_of_length_le (by omega)] at h4
        simp [cRight, right, this, h4]

theorem vOf (c : Code) (h : Try.f10.body = some c) : fnVC (CS []) Try.f10 c cOf := by
  cases h
  intro x _
  exact rfl
theorem ge {n : Int} {b : Bool} (h : decide (0 ≤ n) = b) : within n = (b && decide (n ≤ 1099511627776)) := by rw [within, h]
theorem no_lt {n : Int} (h : decide (n < 0) = true) : within n = false := by
  have := of_decide_eq_true h
  simp [within]; omega
theorem no_gt {n : Int} (h : decide (n > 1099511627776) = true) : within n = false := by
  have := of_decide_eq_true h
  simp [within]; omega
theorem yes {n : Int} (h : decide (n < 0) = false) (h2 : decide (n > 1099511627776) = false) : within n = true := by
  have := of_decide_eq_false h
  have := of_decide_eq_false h2
  simp [within]; omega
theorem vRightI (c : Code) (h : Try.f15.body = some c) : fnVC (CS []) Try.f15 c cRightI := by
  cases h
  intro x _
  refine vc_loop Nat (fun k => [(3, .leaf (.tv t3 (k : Int)))]) (fun _ => []) (fun _ => []) (fun k => k < 4 ∧ (0 < k → within x.1.2.2.1.1 = true) ∧ (1 < k → within x.1.2.2.1.2.1 = true) ∧ (2 < k → within x.1.2.2.1.2.2.1 = true)) (fun k => 3 - k) 0 ?_ ?_ ?_
  · exact ⟨by decide, fun h => absurd h (by decide), fun h => absurd h (by decide), fun h => absurd h (by decide)⟩
  · repeat' (first | exact rfl | exact trivial | apply And.intro)
  · rintro k ⟨hk, j0, j1, j2⟩
    match k, hk with
    | 0, _ =>
      refine ⟨fun _ => ⟨by decide, fun h1 => ?_, fun h1 => ⟨by decide, fun h2 => ?_, fun h2 => ⟨1, ?_, ?_, by decide⟩⟩⟩, fun h => absurd h (by decide)⟩
      · show _ = _
        simp [cRightI, rightI, no_lt h1]
      · show _ = _
        simp [cRightI, rightI, no_gt h2]
      · exact ⟨by decide, fun _ => yes h1 h2, fun h => absurd h (by decide), fun h => absurd h (by decide)⟩
      · repeat' (first | exact rfl | exact trivial | apply And.intro)
    | 1, _ =>
      refine ⟨fun _ => ⟨by decide, fun h1 => ?_, fun h1 => ⟨by decide, fun h2 => ?_, fun h2 => ⟨2, ?_, ?_, by decide⟩⟩⟩, fun h => absurd h (by decide)⟩
      · show _ = _
        simp [cRightI, rightI, no_lt h1]
      · show _ = _
        simp [cRightI, rightI, no_gt h2]
      · exact ⟨by decide, fun _ => j0 (by decide), fun h => yes h1 h2, fun h => absurd h (by decide)⟩
      · repeat' (first | exact rfl | exact trivial | apply And.intro)
    | 2, _ =>
      refine ⟨fun _ => ⟨by decide, fun h1 => ?_, fun h1 => ⟨by decide, fun h2 => ?_, fun h2 => ⟨3, ?_, ?_, by decide⟩⟩⟩, fun h => absurd h (by decide)⟩
      · show _ = _
        simp [cRightI, rightI, no_lt h1]
      · show _ = _
        simp [cRightI, rightI, no_gt h2]
      · exact ⟨by decide, fun _ => j0 (by decide), fun h => j1 (by decide), fun h => yes h1 h2⟩
      · repeat' (first | exact rfl | exact trivial | apply And.intro)
    | 3, _ => 
      refine ⟨fun h => absurd h (by decide), fun _ => ⟨fun h1 => ?_, fun h1 => ?_⟩⟩
      · show _ = _
        have h1 : decide (0 ≤ x.1.2.2.2.1) = true := h1
        simp only [cRightI, rightI, j0 (by decide), j1 (by decide), j2 (by decide), Bool.true_and, ge h1]
      · show _ = _
        have h1 : decide (0 ≤ x.1.2.2.2.1) = false := h1
        simp only [cRightI, rightI, ge h1, Bool.false_and, Bool.and_false]

def addSt (a b : S) : Nat → S
  | 0 => (w64 (a.1 + b.1), ((0 : Int), (0 : Int), (0 : Int), ()), a.2.2.1, a.2.2.2.1, ())
  | 1 => (w64 (a.1 + b.1), (w64 (a.2.1.1 + b.2.1.1), (0 : Int), (0 : Int), ()), a.2.2.1, a.2.2.2.1, ())
  | 2 => (w64 (a.1 + b.1), (w64 (a.2.1.1 + b.2.1.1), w64 (a.2.1.2.1 + b.2.1.2.1), (0 : Int), ()), a.2.2.1, a.2.2.2.1, ())
  | _ => (w64 (a.1 + b.1), (w64 (a.2.1.1 + b.2.1.1), w64 (a.2.1.2.1 + b.2.1.2.1), w64 (a.2.1.2.2.1 + b.2.1.2.2.1), ()), a.2.2.1, a.2.2.2.1, ())
theorem vAdd (c : Code) (h : Try.f13.body = some c) : fnVC (CS []) Try.f13 c cAdd := by
  cases h
  intro x _
  refine vc_loop Nat (fun k => [(17, .leaf (.tv t3 (k : Int)))]) (fun k => [(5, ⟨31, explode t31 (addSt x.1 x.2.1 k)⟩)]) (fun _ => []) (fun k => k < 4) (fun k => 3 - k) 0 (by decide) ?_ ?_
  · repeat' (first | exact rfl | exact trivial | apply And.intro)
  · intro k hk
    match k, hk with
    | 0, _ =>
      refine ⟨fun _ => ⟨by decide, by decide, by decide, 1, by decide, ?_, by decide⟩, fun h => absurd h (by decide)⟩
      repeat' (first | exact rfl | exact trivial | apply And.intro)
    | 1, _ =>
      refine ⟨fun _ => ⟨by decide, by decide, by decide, 2, by decide, ?_, by decide⟩, fun h => absurd h (by decide)⟩
      repeat' (first | exact rfl | exact trivial | apply And.intro)
    | 2, _ =>
      refine ⟨fun _ => ⟨by decide, by decide, by decide, 3, by decide, ?_, by decide⟩, fun h => absurd h (by decide)⟩
      repeat' (first | exact rfl | exact trivial | apply And.intro)
    | 3, _ =>
      refine ⟨fun h => absurd h (by decide), fun _ => ?_⟩
      refine ⟨fun h1 => ⟨fun h2 => ?_, fun h2 => ⟨fun h3 => ?_, fun h3 => ?_⟩⟩, fun h1 => ?_⟩
      · show _ = _
        have h1 : decide (x.2.1.1 > 0) = true := h1
        have h2 : (x.1.1 == 0) = true := h2
        simp only [cAdd, add, h1, h2, Bool.true_and, Bool.true_or, if_true]
        rfl
      · show _ = _
        have h1 : decide (x.2.1.1 > 0) = true := h1
        have h2 : (x.1.1 == 0) = false := h2
        have h3 : decide (x.2.1.2.2.1 > x.1.2.2.1) = true := h3
        simp only [cAdd, add, h1, h2, h3, Bool.true_and, Bool.or_true, if_true]
        rfl
      · show _ = _
        have h1 : decide (x.2.1.1 > 0) = true := h1
        have h2 : (x.1.1 == 0) = false := h2
        have h3 : decide (x.2.1.2.2.1 > x.1.2.2.1) = false := h3
        simp only [cAdd, add, h1, h2, h3, Bool.true_and, Bool.or_false]
        rfl
      · show _ = _
        have h1 : decide (x.2.1.1 > 0) = false := h1
        simp only [cAdd, add, h1, Bool.false_and]
        rfl
theorem vAll (c : Code) (h : Try.f12.body = some c) : fnVC (CS [(10, cOf), (13, cAdd)]) Try.f12 c cAll := by
  cases h
  intro x hpre
  have hlen : x.1.length ≤ maxLen := hpre
  unfold maxLen at hlen
  refine vc_loop Nat (fun i => [(8, .leaf (.tv t3 (i : Int)))]) (fun i => [(3, ⟨31, explode t31 ((x.1.take i).foldl (fun s i => add s (of i)) sum0)⟩)]) (fun _ => []) (fun i => i ≤ x.1.length) (fun i => x.1.length - i) 0 (Nat.zero_le _) ?_ ?_
  · repeat' (first | exact rfl | exact trivial | apply And.intro)
  · intro i hi
    refine ⟨fun h2 => ?_, fun h2 => ?_⟩
    · have h2 := of_decide_eq_true h2
      have hl : i < x.1.length := by omega
      refine ⟨⟨by omega, h2⟩, trivial, trivial, i + 1, hl, ?_, by omega⟩
      have e := foldl_take_succ (f := fun s i => add s (of i)) (b := sum0) hl
      rw [e, ← getD_of t27.dflt hl]
      repeat' (first | exact rfl | exact trivial | apply And.intro)
      exact wrap_succ (by omega)
    · have h2 := of_decide_eq_false h2
      show _ = _
      rw [List.take_of_length_le (by omega)]
      rfl
end Go.Fr.C4
