/-
  Chapter 20: breaks.All by its contract. Conditions: none.
-/
import Derived.Test.YtkgplompdnjodaaC20C
namespace Go.Fr.C20
open Go Go.Fr Go.Proofs Go.RowKit Go.Shelf

theorem rowCells_ints (h : PHeap) : ∀ xs : List Int, RowCells h t3 xs (xs.map (Value.int .i64))
  | [] => rfl
  | x :: xs => ⟨[.int .i64 x], xs.map (Value.int .i64), rfl, rfl, rowCells_ints h xs⟩
theorem own_base {W : World} {base base' : Nat} {e : TypeId} {size : Nat} {v : Value} {k : Nat} {xs : List Value} (h : W.ownsRow base e size v k xs) (hb : base' ≤ base) : W.ownsRow base' e size v k xs := by
  refine ⟨h.1, ?_⟩
  rcases h.2 with h0 | ⟨g, cap, cur, e1, e2, e3, e4⟩
  · exact .inl h0
  · exact .inr ⟨g, cap, cur, e1, by omega, e3, e4⟩
/-- A row of numbers of the call's own is data. -/
theorem thaw_ints {w W : World} {h : PHeap} (hpin : PIn h w) (hb : Below w.heap.size w W) {xs : List Int} {v : Value} (hrow : W.ownsRow w.heap.size 3 1 v xs.length (xs.map (Value.int .i64))) :
    ∃ h', PLe h h' ∧ (∀ k, h' k ≠ none → h k ≠ none ∨ w.heap.size ≤ k) ∧ PIn h' W ∧ vrep h' t39 xs v := by
  have hp : PIn h W := fun k o hk => (hb.block k (hpin.lt hk)).trans (hpin k o hk)
  have one : ∀ {r : Nat} {R : RowS}, getR [(0, (⟨t3, 3, xs⟩ : RowS))] r = some R → r = 0 ∧ R = ⟨t3, 3, xs⟩ := by
    intro r R hR
    simp only [getR] at hR
    cases hb : Nat.beq 0 r with
    | true => rw [hb] at hR; simp only [cond_true] at hR; injection hR with hR; exact ⟨(Nat.eq_of_beq_eq_true hb).symm, hR.symm⟩
    | false => rw [hb] at hR; cases hR
  have hS : Sat w.heap.size w h 0 (fun _ => undef) 0 ⟨[], [], [(0, ⟨t3, 3, xs⟩)]⟩ ⟨fun k => k, fun _ => v⟩ h { tmps := #[], defers := [] } W := by
    refine ⟨⟨hb, hb.size, hp, (fun i b hh => by cases hh), (fun i j b c hh => by cases hh), ?_, ?_, (fun r R g i b _ _ hh => by cases hh), ?_⟩, PLe.refl h, fun k hk => .inl hk, fun t => SV.leaf_iff.2 (by simp only [Leaf.rel]), rfl, rfl⟩
    · intro r R hR
      obtain ⟨rfl, rfl⟩ := one hR
      exact ⟨_, hrow, rowCells_ints h xs⟩
    · intro r R g hR hg
      have hlt := (hrow.lt g hg).1
      cases hh : h g with
      | none => rfl
      | some o => have := hpin.lt hh; omega
    · intro r s R S g hR hT _ _
      rw [(one hR).1, (one hT).1]
  obtain ⟨h', q1, q2, q3, q4⟩ := thaw_all hS
  exact ⟨h', q1, q2, q3, q4 0 ⟨t3, 3, xs⟩ rfl⟩

theorem s25_of (s35 : CallSpec Try.prog noGl 35 cTakes) (s34 : CallSpec Try.prog noGl 34 cStart) : CallSpec Try.prog noGl 25 cAll := by
  refine ⟨⟨Try.f25, _, Try.func25, by decide +kernel, rfl⟩, ?_⟩
  rintro ⟨l, p, q, ⟨⟩⟩ h w args hok hargs hpin hG
  obtain ⟨_, _, rfl, ⟨_, hrep, rfl⟩, _, _, rfl, ⟨_, hp, rfl⟩, _, _, rfl, ⟨_, hq, rfl⟩, rfl⟩ := hargs
  simp only [rep] at hp hq
  subst hp hq
  obtain ⟨A, c, rfl, r1, r2, r3⟩ := hrep
  have hrep : rep h t22 l [.slice A l.length c] := ⟨A, c, rfl, r1, r2, r3⟩
  refine (callsIn_wide (n := 0)).1 (all_in A l.length c p q w _ fun fn => ?_)
  obtain ⟨W1, hW1⟩ : ∃ W1, ((((((w.alloc (.cells #[.slice none 0 0] 39)).alloc (.cells #[.slice A l.length c] 22)).alloc (.cells #[.int .i64 p] 3)).alloc (.cells #[.int .i64 q] 3)).alloc (.deferred (some []))).alloc (.loop (recR fn A l.length c p q w.heap.size .ready none))) = W1 := ⟨_, rfl⟩
  have hA : At w (recR fn A l.length c p q w.heap.size .ready none) (.cells #[.slice A l.length c] 22 (0, 0)) (.cells #[.int .i64 p] 3 (0, 0)) (.cells #[.int .i64 q] 3 (0, 0)) [] W1 := by
    rw [← hW1]
    have nw : ∀ (W : World) (o : Obj) (k : Nat), W.heap.size = k → (W.alloc o).heap[k]? = some o := fun W o k e => by subst e; exact World.alloc_heap_new W o
    have up : ∀ (W : World) (o o' : Obj) (k : Nat), W.heap[k]? = some o' → (W.alloc o).heap[k]? = some o' := fun W o o' k e => (Below.heap_alloc W o k (Array.getElem?_eq_some_iff.1 e).1).trans e
    refine ⟨⟨.slice none 0 0, ?_, rfl, .inl ⟨rfl, rfl⟩⟩, ?_, ?_, ?_, ?_, ?_, ?_⟩
    · exact up _ _ _ _ (up _ _ _ _ (up _ _ _ _ (up _ _ _ _ (up _ _ _ _ (nw _ _ _ rfl)))))
    · exact up _ _ _ _ (up _ _ _ _ (up _ _ _ _ (up _ _ _ _ (nw _ _ _ (by simp)))))
    · exact up _ _ _ _ (up _ _ _ _ (up _ _ _ _ (nw _ _ _ (by simp))))
    · exact up _ _ _ _ (up _ _ _ _ (nw _ _ _ (by simp)))
    · exact up _ _ _ _ (nw _ _ _ (by simp))
    · exact nw _ _ _ (by simp)
    · exact ((((((Below.refl _ w).alloc (Nat.le_refl _) _).alloc (by simp) _).alloc (by simp; omega) _).alloc (by simp; omega) _).alloc (by simp; omega) _).alloc (by simp; omega) _
  rw [hW1]
  refine (iter_in s35 s34 w fn A l.length c p q h hpin l hok hrep W1 hA).mono ?_
  rintro e W ⟨hv, O1, hB⟩
  obtain ⟨v, hbox, hrow⟩ := hB.box
  have hvs : ∃ A' m' c', v = .slice A' m' c' := by
    rcases hrow.2 with ⟨rfl, _⟩ | ⟨g, cap, cur, rfl, _⟩
    · exact ⟨none, 0, 0, rfl⟩
    · exact ⟨_, _, _, rfl⟩
  obtain ⟨A', m', c', rfl⟩ := hvs
  refine ⟨hv, hB.L, hB.K, A', m', c', hbox, ?_⟩
  have g1 := grownBy_put W (w.heap.size + 5) (.loop { recR fn A l.length c p q w.heap.size .ready none with state := .exhausted })
  have g2 := grownBy_put (W.putObj (w.heap.size + 5) (.loop { recR fn A l.length c p q w.heap.size .ready none with state := .exhausted })) (w.heap.size + 4) (.deferred none)
  have hz := hB.below.size
  have hr1 := hrow.kept g1 (.inr (own_ne hrow (by omega)))
  have hr2 := hr1.kept g2 (.inr (own_ne hr1 (by omega)))
  have b1 := hB.below.grown g1 hz (fun k e => by cases e; omega)
  have b2 := b1.grown g2 b1.size (fun k e => by cases e; omega)
  obtain ⟨h', q1, q2, q3, q4⟩ := thaw_ints hpin b2 (own_base hr2 (by omega))
  exact ⟨_, h', rfl, q1, q2, q3, q4, b2⟩
#print axioms s25_of
end Go.Fr.C20
