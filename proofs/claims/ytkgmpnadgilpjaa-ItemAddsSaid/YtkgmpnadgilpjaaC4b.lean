/-
  Chapter 04: the functions' contracts, second part. Conditions: none.
-/
import Derived.Test.YtkgmpnadgilpjaaC4a
namespace Go.Fr.C4
open Go Go.Fr Go.Proofs
set_option maxRecDepth 10000
def ck (i : It) : Nat → Bool
  | 0 => within i.2.2.2.1
  | 1 => within i.2.2.2.1 && within i.2.2.1.1
  | 2 => within i.2.2.2.1 && within i.2.2.1.1 && within i.2.2.1.2.1
  | _ => within i.2.2.2.1 && within i.2.2.1.1 && within i.2.2.1.2.1 && within i.2.2.1.2.2.1
theorem and_t {a b : Bool} (h : a = true) : b = (a && b) := by rw [h]; rfl
theorem and_f {a b : Bool} (h : a = false) : false = (a && b) := by rw [h]; rfl
theorem vCheck (c : Code) (h : Try.f14.body = some c) : fnVC (CS [(18, cWithin)]) Try.f14 c cCheck := by
  cases h
  intro x _
  refine ⟨trivial, vc_loop Nat (fun k => [(11, .leaf (.tv t3 (k : Int))), (3, .leaf (.tv .bool (ck x.1 k)))]) (fun _ => []) (fun _ => []) (fun k => k < 4) (fun k => 3 - k) 0 (by decide) ?_ ?_⟩
  · repeat' (first | exact rfl | exact trivial | apply And.intro)
  · intro k hk
    match k, hk with
    | 0, _ =>
      refine ⟨fun _ => ⟨by decide, fun h1 => ⟨trivial, 1, by decide, ?_, by decide⟩, fun h1 => ⟨1, by decide, ?_, by decide⟩⟩, fun h => absurd h (by decide)⟩
      · repeat' (first | exact rfl | exact trivial | exact and_t h1 | apply And.intro)
      · repeat' (first | exact rfl | exact trivial | exact and_f h1 | apply And.intro)
    | 1, _ =>
      refine ⟨fun _ => ⟨by decide, fun h1 => ⟨trivial, 2, by decide, ?_, by decide⟩, fun h1 => ⟨2, by decide, ?_, by decide⟩⟩, fun h => absurd h (by decide)⟩
      · repeat' (first | exact rfl | exact trivial | exact and_t h1 | apply And.intro)
      · repeat' (first | exact rfl | exact trivial | exact and_f h1 | apply And.intro)
    | 2, _ =>
      refine ⟨fun _ => ⟨by decide, fun h1 => ⟨trivial, 3, by decide, ?_, by decide⟩, fun h1 => ⟨3, by decide, ?_, by decide⟩⟩, fun h => absurd h (by decide)⟩
      · repeat' (first | exact rfl | exact trivial | exact and_t h1 | apply And.intro)
      · repeat' (first | exact rfl | exact trivial | exact and_f h1 | apply And.intro)
    | 3, _ =>
      refine ⟨fun h => absurd h (by decide), fun _ => ⟨fun h1 => ?_, fun h1 => ?_⟩⟩
      · show _ = _
        have h1 : (!ck x.1 3) = true := h1
        have h1 : ck x.1 3 = false := by simpa using h1
        have : check x.1 = if ck x.1 3 then 0 else 1 := rfl
        simp [cCheck, this, h1]
      · show _ = _
        have h1 : (!ck x.1 3) = false := h1
        have h1 : ck x.1 3 = true := by simpa using h1
        have : check x.1 = if ck x.1 3 then 0 else 1 := rfl
        simp [cCheck, this, h1]

/-- The document's way within an item. -/
def stD (s : S) (x : It) : Nat → S
  | 0 => s
  | 1 => (s.1, (w64 (s.2.1.1 + x.2.2.1.1), s.2.1.2.1, s.2.1.2.2.1, ()), s.2.2.1, s.2.2.2.1, ())
  | 2 => (s.1, (w64 (s.2.1.1 + x.2.2.1.1), w64 (s.2.1.2.1 + x.2.2.1.2.1), s.2.1.2.2.1, ()), s.2.2.1, s.2.2.2.1, ())
  | _ => (s.1, (w64 (s.2.1.1 + x.2.2.1.1), w64 (s.2.1.2.1 + x.2.2.1.2.1), w64 (s.2.1.2.2.1 + x.2.2.1.2.2.1), ()), s.2.2.1, s.2.2.2.1, ())
theorem stepR_gt {s : S} {i : Int} {x : It} (h : decide (x.2.2.2.1 > s.2.2.1) = true) : stepR s i x = (s.1, (stD s x 3).2.1, x.2.2.2.1, i, ()) := by
  simp only [stepR, h, if_true]
  rfl
theorem stepR_le {s : S} {i : Int} {x : It} (h : decide (x.2.2.2.1 > s.2.2.1) = false) : stepR s i x = (s.1, (stD s x 3).2.1, s.2.2.1, s.2.2.2.1, ()) := by
  simp only [stepR, h]
  rfl
theorem vAllR (c : Code) (h : Try.f17.body = some c) : fnVC (CS []) Try.f17 c cAllR := by
  cases h
  intro x hpre
  have hlen : x.1.length ≤ maxLen := hpre
  unfold maxLen at hlen
  refine vc_loop Nat (fun i => [(12, .leaf (.tv t3 (i : Int)))]) (fun i => [(3, ⟨29, explode t29 (allRn x.1 i)⟩)]) (fun _ => []) (fun i => i ≤ x.1.length) (fun i => x.1.length - i) 0 (Nat.zero_le _) ?_ ?_
  · repeat' (first | exact rfl | exact trivial | apply And.intro)
  · intro i hi
    refine ⟨fun h2 => ?_, fun h2 => ?_⟩
    · have h2 := of_decide_eq_true h2
      have hl : i < x.1.length := by omega
      refine ⟨⟨by omega, h2⟩, ?_⟩
      refine vc_loop Nat (fun k => [(6, .leaf (.tv t3 (k : Int)))]) (fun k => [(3, ⟨29, explode t29 (stD (allRn x.1 i) (x.1.getD i t41.dflt) k)⟩)]) (fun _ => []) (fun k => k < 4) (fun k => 3 - k) 0 (by decide) ?_ ?_
      · repeat' (first | exact rfl | exact trivial | apply And.intro)
      · intro k hk
        match k, hk with
        | 0, _ =>
          refine ⟨fun _ => ⟨by decide, by decide, by decide, 1, by decide, ?_, by decide⟩, fun h => absurd h (by decide)⟩
          repeat' (first | exact rfl | exact trivial | apply And.intro)
        | 1, _ =>
          refine ⟨fun _ => ⟨by decide, by decide, by decide, 2, by decide, ?_, by decide⟩, fun h => absurd h (by decide)⟩
          repeat' (first | exact rfl | exact trivial | apply And.intro)
        | 2, _ =>
          refine ⟨fun _ => ⟨by decide, by decide, by decide, 3, by decide, ?_, by decide⟩, fun h => absurd h (by decide)⟩
          repeat' (first | exact rfl | exact trivial | apply And.intro)
        | 3, _ =>
          refine ⟨fun h => absurd h (by decide), fun _ => ⟨fun h3 => ⟨i + 1, hl, ?_, by omega⟩, fun h3 => ⟨i + 1, hl, ?_, by omega⟩⟩⟩
          · have e : allRn x.1 (i + 1) = _ := stepR_gt (s := allRn x.1 i) (i := (i : Int)) (x := x.1.getD i t41.dflt) h3
            rw [e]
            repeat' (first | exact rfl | exact trivial | exact wrap_succ (by omega) | apply And.intro)
          · have e : allRn x.1 (i + 1) = _ := stepR_le (s := allRn x.1 i) (i := (i : Int)) (x := x.1.getD i t41.dflt) h3
            rw [e]
            repeat' (first | exact rfl | exact trivial | exact wrap_succ (by omega) | apply And.intro)
    · have h2 := of_decide_eq_false h2
      show _ = _
      have : i = x.1.length := by omega
      rw [this]
      rfl
end Go.Fr.C4
