/-
  Chapter 20: the rows that breaks.rows hands out are collected by breaks.All: a round. Conditions: none.
-/
import Derived.Test.YtkgplompdnjodaaC20A
import Derived.RangeFuncBox
import Derived.Shelf.Abstract
import Derived.Maps.AppendAt
import Derived.OwnWalkIn
namespace Go.Fr.C20
open Go Go.Fr Go.Proofs Go.RowKit Go.Shelf

set_option maxRecDepth 100000 in
set_option maxHeartbeats 2000000 in
theorem rows_in (A : Option Addr) (m c : Nat) (p q : Int) (w : World) :
    CallsIn Fence.wide 0 Try.prog 30 #[.slice A m c, .int .i64 p, .int .i64 q] w fun e W' => e = .returned (.func (.func 33) #[] #[.pointer (some ⟨w.heap.size, 0, none⟩), .pointer (some ⟨w.heap.size + 1, 0, none⟩), .pointer (some ⟨w.heap.size + 1 + 1, 0, none⟩)]) ∧ W' = ((w.alloc (.cells #[.slice A m c] 22)).alloc (.cells #[.int .i64 p] 3)).alloc (.cells #[.int .i64 q] 3) := by
  refine callsIn_of_wp Try.func30 rfl trivial ?_ rfl
  simp only [Try.ntmps30, List.size_toArray, List.length_cons, List.length_nil, Nat.reduceAdd, Nat.reduceSub, Array.replicate_succ, Array.replicate_zero, List.push_toArray, List.append_toArray, List.nil_append, List.cons_append]
  gi_wp2
  exact ⟨rfl, _, results_tmp rfl _ _ _, rfl, rfl⟩

/-- The loop's assignment and its body, out of the program. -/
def codeR : Code → Option (Code × Code)
  | .seq a b => match codeR a with
    | some x => some x
    | none => codeR b
  | .block _ a => codeR a
  | .rangeFunc _ _ a b => some (a, b)
  | _ => none
noncomputable def asg : Code := ((codeR (bodyOf Try.f25)).getD (.skip, .skip)).1
noncomputable def bdy : Code := ((codeR (bodyOf Try.f25)).getD (.skip, .skip)).2
/-- The loop's record: the temporaries as they stood at the entering. s: where the variable 'out' lies. -/
noncomputable def recR (fn : FuncId) (A : Option Addr) (m c : Nat) (p q : Int) (s : Nat) (st : LoopState) (pend : Option Code) : Loop :=
  { state := st, pending := pend, fn, tmps := #[.slice A m c, .int .i64 p, .int .i64 q, undef, undef, undef, .slice none 0 0, .pointer (some ⟨s, 0, none⟩), undef, .slice A m c, .int .i64 p, .int .i64 q, .func (.func 33) #[] #[.pointer (some ⟨s + 1, 0, none⟩), .pointer (some ⟨s + 1 + 1, 0, none⟩), .pointer (some ⟨s + 1 + 1 + 1, 0, none⟩)], undef, undef, undef, undef, undef, undef], params := #[13], assign := asg, body := bdy, defers := s + 4 }
set_option maxRecDepth 100000 in
set_option maxHeartbeats 2000000 in
theorem all_in (A : Option Addr) (m c : Nat) (p q : Int) (w : World) (R : Ending → World → Prop)
    (h : ∀ fn, CallsIn Fence.wide 0 Try.prog 33 (#[.func (.yield (w.heap.size + 5)) #[] #[]] ++ #[.pointer (some ⟨w.heap.size + 1, 0, none⟩), .pointer (some ⟨w.heap.size + 1 + 1, 0, none⟩), .pointer (some ⟨w.heap.size + 1 + 1 + 1, 0, none⟩)])
      ((((((w.alloc (.cells #[.slice none 0 0] 39)).alloc (.cells #[.slice A m c] 22)).alloc (.cells #[.int .i64 p] 3)).alloc (.cells #[.int .i64 q] 3)).alloc (.deferred (some []))).alloc (.loop (recR fn A m c p q w.heap.size .ready none)))
      fun e W => (∃ v, e = .returned v) ∧ W.heap[w.heap.size + 5]? = some (.loop (recR fn A m c p q w.heap.size .ready none)) ∧ W.heap[w.heap.size + 4]? = some (.deferred (some [])) ∧
        ∃ A' m' c', W.heap[w.heap.size]? = some (.cells #[.slice A' m' c'] 39 (0, 0)) ∧ R (.returned (.slice A' m' c')) ((W.putObj (w.heap.size + 5) (.loop { recR fn A m c p q w.heap.size .ready none with state := .exhausted })).putObj (w.heap.size + 4) (.deferred none))) :
    CallsIn Fence.wide 0 Try.prog 25 #[.slice A m c, .int .i64 p, .int .i64 q] w R := by
  refine callsIn_of_wp_marks Try.func25 rfl trivial ?_ rfl
  simp only [Try.ntmps25, List.size_toArray, List.length_cons, List.length_nil, Nat.reduceAdd, Nat.reduceSub, Array.replicate_succ, Array.replicate_zero, List.push_toArray, List.append_toArray, List.nil_append, List.cons_append]
  gi_wp2
  refine ⟨trivial, rfl, (rows_in _ _ _ _ _ _).mono ?_⟩
  rintro e w' ⟨rfl, rfl⟩
  gi_wp2
  refine wpIn_rangeFunc ?_
  intro fn hfn
  have h := h fn
  obtain ⟨W0, hW0⟩ : ∃ W0, (((w.alloc (.cells #[.slice none 0 0] 39)).alloc (.cells #[.slice A m c] 22)).alloc (.cells #[.int .i64 p] 3)).alloc (.cells #[.int .i64 q] 3) = W0 := ⟨_, rfl⟩
  rw [hW0] at h ⊢
  have hs : W0.heap.size = w.heap.size + 4 := by rw [← hW0]; simp
  obtain ⟨W1, hW1⟩ : ∃ W1, (W0.alloc (.deferred (some []))).alloc (.loop (recR fn A m c p q w.heap.size .ready none)) = W1 := ⟨_, rfl⟩
  rw [hW1] at h
  obtain ⟨lb, hlb⟩ : ∃ lb : Array Value, #[.pointer (some ⟨w.heap.size + 1, 0, none⟩), .pointer (some ⟨w.heap.size + 1 + 1, 0, none⟩), .pointer (some ⟨w.heap.size + 1 + 1 + 1, 0, none⟩)] = lb := ⟨_, rfl⟩
  rw [hlb] at h ⊢
  refine ⟨w.heap.size + 5, ?_⟩
  refine ⟨[{ target := .collected (w.heap.size + 4), args := #[] }], ?_⟩
  refine ⟨W1, ?_⟩
  refine ⟨{ target := .fn (.func 33) lb, args := #[.func (.yield (w.heap.size + 5)) #[] #[]] }, ?_⟩
  refine ⟨W1, 33, #[.func (.yield (w.heap.size + 5)) #[] #[]] ++ lb, W1, ?_⟩
  refine ⟨?_, ?_, ?_, ?_, ?_, ?_⟩
  · rw [← hW1]
    have := run_enterLoop_outer (P := Try.prog) (w := W0) fn (recR fn A m c p q w.heap.size .ready none).tmps #[13] asg bdy
    rw [hs] at this
    rw [← hlb]
    exact this
  · simp [go_sem, resolve]
  · intro f' _; trivial
  · have := enters_of (f := 33) Try.func33 (by kernel_rfl) rfl
    simp [invoke, go_sem, this]
  · intro h; cases h
  · refine h.mono ?_
    rintro e W ⟨⟨v0, rfl⟩, hL, hD, A', m', c', hv, hR⟩
    refine ⟨none, _, run_endLoop hL (by simp [recR]), ?_⟩
    simp only
    obtain ⟨W5, hW5⟩ : ∃ W5, W.putObj (w.heap.size + 5) (.loop { recR fn A m c p q w.heap.size .ready none with state := .exhausted }) = W5 := ⟨_, rfl⟩
    rw [hW5] at hR ⊢
    have hv5 : W5.heap[w.heap.size]? = some (.cells #[.slice A' m' c'] 39 (0, 0)) := by rw [← hW5]; exact (World.putObj_heap_other (by omega)).trans hv
    have hD5 : W5.heap[w.heap.size + 4]? = some (.deferred (some [])) := by rw [← hW5]; exact (World.putObj_heap_other (by omega)).trans hD
    have hc5 : W5.cell? ⟨w.heap.size, 0, none⟩ = some (.slice A' m' c') := by simp [World.cell?, hv5]
    have hf5 : W5.frozen? ⟨w.heap.size, 0, none⟩ = false := by simp [World.frozen?, hv5]
    gi_wp2
    exact ⟨by simp, .inl ⟨_, _, rfl, run_takeDeferred hD5, ⟨_, results_tmp (fn := Try.f25) (t := 6) rfl _ _ _, hR⟩⟩⟩

/-- Between two rounds. -/
structure At (w0 : World) (rec : Loop) (O1 O2 O3 : Obj) (xs : List Int) (W : World) : Prop where
  box : ∃ v, W.heap[w0.heap.size]? = some (.cells #[v] 39 (0, 0)) ∧ W.ownsRow (w0.heap.size + 6) 3 1 v xs.length (xs.map (Value.int .i64))
  o1 : W.heap[w0.heap.size + 1]? = some O1
  o2 : W.heap[w0.heap.size + 2]? = some O2
  o3 : W.heap[w0.heap.size + 3]? = some O3
  K : W.heap[w0.heap.size + 4]? = some (.deferred (some []))
  L : W.heap[w0.heap.size + 5]? = some (.loop rec)
  below : Below w0.heap.size w0 W
theorem grownBy_put (W : World) (l : Nat) (o : Obj) : W.grownBy (W.putObj l o) (some l) :=
  ⟨rfl, rfl, rfl, by simp, fun k _ hk => World.putObj_heap_other (fun e => hk (by rw [e]))⟩
theorem grownBy_set (W : World) (b : Nat) (v : Value) : W.grownBy (W.setCell ⟨b, 0, none⟩ v) (some b) := grownBy_setCell' W b v
/-- A step that turns one block, which is not among these. -/
theorem kept_at {W W' : World} {row : Option Nat} (hg : W.grownBy W' row) {k : Nat} {o : Obj} (hk : W.heap[k]? = some o) (hne : row ≠ some k) : W'.heap[k]? = some o :=
  (hg.block k (Array.getElem?_eq_some_iff.1 hk).1 (fun e => hne e.symm)).trans hk
theorem own_ne {W : World} {base : Nat} {e : TypeId} {size : Nat} {v : Value} {k : Nat} {xs : List Value} (h : W.ownsRow base e size v k xs) {j : Nat} (hj : j < base) : v.ownBlock ≠ some j := by
  rcases h.2 with ⟨rfl, _⟩ | ⟨g, cap, cur, rfl, hb, _⟩
  · simp [Value.ownBlock]
  · intro e'
    have : g = j := by simpa [Value.ownBlock] using e'
    omega
theorem u30 : Try.prog.underlying 39 = some (.slice 3) := by kernel_rfl
theorem info3 : (Try.prog.info? 3).map (fun i => (i.zero, i.size, i.bytes)) = some (some (.int .i64 0), 1, 8) := by kernel_rfl

set_option maxRecDepth 100000 in
set_option maxHeartbeats 2000000 in
theorem round_in (w0 : World) (fn : FuncId) (A : Option Addr) (m c : Nat) (p q : Int) (O1 O2 O3 : Obj) (xs : List Int) (x : Int) (W : World) (hlen : xs.length < 1000) (h : At w0 (recR fn A m c p q w0.heap.size .ready none) O1 O2 O3 xs W) :
    YieldAt Fence.wide 0 Try.prog (w0.heap.size + 5) #[.int .i64 x] W fun e W' => e = .returned (.bool true) ∧ At w0 (recR fn A m c p q w0.heap.size .ready none) O1 O2 O3 (xs ++ [x]) W' := by
  obtain ⟨i0, hi, hz0, hz1, hz2⟩ := info_parts info3
  have hmx : maxLen = 9223372036854775807 := rfl
  obtain ⟨v, hv, hrow⟩ := h.box
  obtain ⟨s, hs⟩ : ∃ s, w0.heap.size = s := ⟨_, rfl⟩
  obtain ⟨h1, h2, h3, hK, hL, hb⟩ : W.heap[s + 1]? = some O1 ∧ W.heap[s + 2]? = some O2 ∧ W.heap[s + 3]? = some O3 ∧ W.heap[s + 4]? = some (.deferred (some [])) ∧ W.heap[s + 5]? = some (.loop (recR fn A m c p q s .ready none)) ∧ Below s w0 W := by
    subst hs; exact ⟨h.o1, h.o2, h.o3, h.K, h.L, h.below⟩
  rw [hs] at hv hrow
  refine ⟨fn, _, asg, bdy, run_yield (P := Try.prog) (args := #[.int .i64 x]) h.L rfl, roundIn_of_wpIn trivial ?_⟩
  rw [hs]
  have hbr := run_beginRound (P := Try.prog) hL rfl
  obtain ⟨W2, hW2⟩ : ∃ W2, W.putObj (s + 5) (.loop { recR fn A m c p q s .ready none with state := .busy }) = W2 := ⟨_, rfl⟩
  rw [hW2] at hbr
  have hg2 : W.grownBy W2 (some (s + 5)) := by rw [← hW2]; exact grownBy_put _ _ _
  have hL2 : W2.heap[s + 5]? = some (.loop { recR fn A m c p q s .ready none with state := .busy }) := by rw [← hW2]; exact World.putObj_heap_same (Array.getElem?_eq_some_iff.1 hL).1
  have hrow2 : W2.ownsRow (s + 6) 3 1 v xs.length (xs.map (Value.int .i64)) := hrow.kept hg2 (.inr (own_ne hrow (by omega)))
  have hv2 := kept_at hg2 hv (by simp)
  have a1 := kept_at hg2 h1 (by simp)
  have a2 := kept_at hg2 h2 (by simp)
  have a3 := kept_at hg2 h3 (by simp)
  have aK := kept_at hg2 hK (by simp)
  have hb2 : Below s w0 W2 := hb.grown hg2 (by rw [← hs] at hb ⊢; exact hb.size) (fun k e => by cases e; omega)
  have hc2 : W2.cell? ⟨s, 0, none⟩ = some v := by simp [World.cell?, hv2]
  have hf2 : W2.frozen? ⟨s, 0, none⟩ = false := by simp [World.frozen?, hv2]
  have hsz : s + 6 ≤ W2.heap.size := by have := (Array.getElem?_eq_some_iff.1 hL2).1; omega
  clear hW2
  have ht : ((recR fn A m c p q s .ready none).params.zip #[.int .i64 x]).foldl (fun t (k, a) => t.setIfInBounds k a) (recR fn A m c p q s .ready none).tmps = #[.slice A m c, .int .i64 p, .int .i64 q, undef, undef, undef, .slice none 0 0, .pointer (some ⟨s, 0, none⟩), undef, .slice A m c, .int .i64 p, .int .i64 q, .func (.func 33) #[] #[.pointer (some ⟨s + 1, 0, none⟩), .pointer (some ⟨s + 1 + 1, 0, none⟩), .pointer (some ⟨s + 1 + 1 + 1, 0, none⟩)], .int .i64 x, undef, undef, undef, undef, undef] := by simp [recR]
  rw [ht]
  clear ht
  conv in asg => (unfold asg; whnf)
  gi_wp2_with (rw [Oper.semAt_eq _ _ _ (fun c h => by cases h)]; go_simp; try go_bits)
  conv in bdy => (unfold bdy; whnf)
  gi_wp2_with (first
    | (gi_at_builtin; refine wpListIn_append_own _ rfl _ _ 39 rfl (s + 6) 3 i0 (.int .i64 0) 1 8 u30 hi hz0 hz1 hz2 rfl (by decide) _ _ _ rfl (hrow2.alloc _) ⟨W2.heap.size, 0, none⟩ 1 1 [.int .i64 x] rfl rfl (cell_one_new _ _ _) (by simp [Value.oneCell']) (by omega) (by omega) (by simp; omega) ?_; intro v' w3 hown' hg3 hnil3
       have b0 := kept_at hg3 ((Below.heap_alloc _ _ _ (by omega)).trans hv2) (own_ne hrow2 (by omega))
       have hc3 : w3.cell? ⟨s, 0, none⟩ = some v := by simp [World.cell?, b0]
       have hf3 : w3.frozen? ⟨s, 0, none⟩ = false := by simp [World.frozen?, b0]
       obtain ⟨g', cap', cur', rfl, hbase', hgb', hr1, hr2, hr3, hr4⟩ : ∃ g' cap' cur', v' = .slice (some ⟨g', 0, none⟩) (xs.length + 1) cap' ∧ s + 6 ≤ g' ∧ w3.heap[g']? = some (.cells cur' 3 (0, 0)) ∧ xs.length + 1 ≤ cap' ∧ cap' ≤ maxLen ∧ cur'.size = cap' * 1 ∧ cur'.toList.take ((xs.length + 1) * 1) = xs.map (Value.int .i64) ++ [.int .i64 x] := by
         rcases hown'.2 with ⟨_, h0⟩ | h'
         · exact absurd h0 (by omega)
         · exact h'
       simp only [Act.put, List.setIfInBounds_toArray, List.set_cons_succ, List.set_cons_zero])
    | (rw [Oper.semAt_eq _ _ _ (fun c h => by cases h)]; go_simp; try go_bits))
  have hg3' : (W2.alloc (.cells #[.int .i64 x] 3)).grownBy w3 v.ownBlock := hg3
  have up : ∀ {k : Nat} {o : Obj}, k < s + 6 → W2.heap[k]? = some o → w3.heap[k]? = some o := fun hk h => kept_at hg3' ((Below.heap_alloc _ _ _ (by omega)).trans h) (own_ne hrow2 hk)
  have c0 := up (by omega) hv2
  have c1 := up (by omega) a1
  have c2 := up (by omega) a2
  have c3 := up (by omega) a3
  have cK := up (by omega) aK
  have cL := up (by omega) hL2
  obtain ⟨w4, hw4⟩ : ∃ w4, w3.setCell ⟨s, 0, none⟩ (.slice (some ⟨g', 0, none⟩) (xs.length + 1) cap') = w4 := ⟨_, rfl⟩
  rw [hw4]
  have hg4 : w3.grownBy w4 (some s) := by rw [← hw4]; exact grownBy_set _ _ _
  have d0 : w4.heap[s]? = some (.cells #[.slice (some ⟨g', 0, none⟩) (xs.length + 1) cap'] 39 (0, 0)) := by rw [← hw4]; exact Boxed.set (B := s) (t := 39) _ c0
  have d1 := kept_at hg4 c1 (by simp)
  have d2 := kept_at hg4 c2 (by simp)
  have d3 := kept_at hg4 c3 (by simp)
  have dK := kept_at hg4 cK (by simp)
  have dL := kept_at hg4 cL (by simp)
  have hrow4 := hown'.kept hg4 (.inr (own_ne hown' (by omega)))
  have hbs : s ≤ w0.heap.size := by omega
  have hb3 : Below s w0 w3 := (hb2.alloc (by omega) _).grown hg3' (by simp; omega) (fun k e => by have := (hrow2.lt k e).1; omega)
  have hb4 : Below s w0 w4 := hb3.grown hg4 (by have := (Array.getElem?_eq_some_iff.1 c0).1; omega) (fun k e => by cases e; omega)
  clear hw4
  refine ⟨_, _, run_endRound none dL, rfl, ?_⟩
  have hg5 := grownBy_put w4 (s + 5) (.loop { { recR fn A m c p q s .ready none with state := .busy } with state := if (none : Option Code).isNone then .ready else .done, pending := none })
  have hrow5 := hrow4.kept hg5 (.inr (own_ne hrow4 (by omega)))
  have hb5 := hb4.grown hg5 (by have := (Array.getElem?_eq_some_iff.1 dL).1; omega) (fun k e => by cases e; omega)
  have e0 := kept_at hg5 d0 (by simp)
  have e1 := kept_at hg5 d1 (by simp)
  have e2 := kept_at hg5 d2 (by simp)
  have e3 := kept_at hg5 d3 (by simp)
  have eK := kept_at hg5 dK (by simp)
  have eL := World.putObj_heap_same (w := w4) (o := .loop { { recR fn A m c p q s .ready none with state := .busy } with state := if (none : Option Code).isNone then .ready else .done, pending := none }) (Array.getElem?_eq_some_iff.1 dL).1
  subst hs
  exact ⟨⟨_, e0, by simpa using hrow5⟩, e1, e2, e3, eK, eL, hb5⟩
end Go.Fr.C20
