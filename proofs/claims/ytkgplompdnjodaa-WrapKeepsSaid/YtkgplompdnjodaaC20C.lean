/-
  Chapter 20: what breaks.rows hands out, and breaks.All. Conditions: none.
-/
import Derived.Test.YtkgplompdnjodaaC20B
import Derived.Test.YtkgplompdnjodaaC20D
namespace Go.Fr.C20
open Go Go.Fr Go.Proofs Go.RowKit Go.Shelf

theorem At.later {w0 W W' : World} {rec : Loop} {O1 O2 O3 : Obj} {xs : List Int} (h : At w0 rec O1 O2 O3 xs W) (hb : Below W.heap.size W W') : At w0 rec O1 O2 O3 xs W' := by
  have up : ∀ {k : Nat} {o : Obj}, W.heap[k]? = some o → W'.heap[k]? = some o := fun hk => (hb.block _ (Array.getElem?_eq_some_iff.1 hk).1).trans hk
  obtain ⟨v, hv, hrow⟩ := h.box
  refine ⟨⟨v, up hv, ?_⟩, up h.o1, up h.o2, up h.o3, up h.K, up h.L, h.below.trans (hb.mono h.below.size)⟩
  refine ⟨hrow.1, ?_⟩
  rcases hrow.2 with h0 | ⟨g, cap, cur, e1, e2, e3, e4⟩
  · exact .inl h0
  · exact .inr ⟨g, cap, cur, e1, e2, up e3, e4⟩
theorem wpListIn_slice {F : Fence} {n : Nat} {P : Program} {w : World} {ops : Array Oper} {rest : List Oper} {o : Oper} {a : Act} {Q : Exit → Act → World → Prop}
    (hg : o.guard = none) {t : TypeId} {x lo : Operand} (hop : o.op = Op.slice t x (some lo) none none) {v : Value} (hrun : (Instr.sliceAt t (a.eval x) (some (a.eval lo)) none none).run P w = .ok v w)
    (hK : wpListIn F n P ops Q rest (a.put o.dst v) w) : wpListIn F n P ops Q (o :: rest) a w := by
  refine wpListIn_plain hg fun K hK' => ?_
  unfold Oper.wpIn
  refine ⟨?_, ?_⟩
  · simp [Oper.about, hop]
  · rw [Oper.semAt_plain F _ _ (by rw [hop]; intro c hc'; cases hc')]
    simp [execOp, hop, hrun, Result.andThen]
    exact hK' _ _ hK

/-- A call by its contract, of cells and a room. -/
theorem call_two {f : FuncId} {C : Contract} {fn : List Cell → Int → Nat} (hC : C = { arg := .pair t22 (.pair t3 .unit), res := t3, one := true, pre := fun x => okL x.1, fn := fun x => (fn x.1 x.2.1 : Int) }) (hs : CallSpec Try.prog noGl f C)
    {h : PHeap} {l : List Cell} (hok : okL l) {A : Option Addr} {m c : Nat} (hrep : rep h t22 l [.slice A m c]) (room : Int) {W : World} (hpin : PIn h W) :
    CallsIn Fence.wide 0 Try.prog f #[.slice A m c, .int .i64 room] W fun e W' => e = .returned (.int .i64 (fn l room : Int)) ∧ Below W.heap.size W W' := by
  subst hC
  refine callsIn_wide.2 ?_
  have := hs.2 (l, room, ()) h W [.slice A m c, .int .i64 room] hok ⟨_, _, rfl, ⟨_, hrep, rfl⟩, _, _, rfl, ⟨_, rfl, rfl⟩, rfl⟩ hpin (fun g T x hg => by cases hg)
  refine Calls.mono this ?_
  rintro e w' ⟨v, h', rfl, _, _, _, hv, hb⟩
  obtain ⟨cs, q1, q2⟩ := hv
  simp only [rep] at q1
  subst q1
  exact ⟨by rw [q2]; rfl, hb⟩

theorem At.set {w0 W : World} {rec : Loop} {v : Value} {O2 O3 : Obj} {xs : List Int} (h : At w0 rec (.cells #[v] 22 (0, 0)) O2 O3 xs W) (v' : Value) : At w0 rec (.cells #[v'] 22 (0, 0)) O2 O3 xs (W.setCell ⟨w0.heap.size + 1, 0, none⟩ v') := by
  have hg := grownBy_set W (w0.heap.size + 1) v'
  obtain ⟨u, hu, hrow⟩ := h.box
  exact ⟨⟨u, kept_at hg hu (by simp), hrow.kept hg (.inr (own_ne hrow (by omega)))⟩, Boxed.set (B := w0.heap.size + 1) (t := 22) v' h.o1, kept_at hg h.o2 (by simp), kept_at hg h.o3 (by simp), kept_at hg h.K (by simp), kept_at hg h.L (by simp),
    h.below.grown hg (by have := h.below.size; omega) (fun k e => by cases e; omega)⟩
theorem res33 (tmps : Array Value) (w : World) : (results Try.f33 tmps).run Try.prog w = .ok (.tuple #[]) w := by simp [results, Try.f33]
theorem envOk : EnvOk Try.prog (env tab [] [] noGl [] []) := ⟨fun t ti h => tabOk_get tab tab_ok t ti h, ct_nil, il_nil⟩
theorem slice_run {h : PHeap} {l : List Cell} {A : Option Addr} {c : Nat} (hrep : rep h t22 l [.slice A l.length c]) {n : Nat} (hn : n ≤ l.length) (W : World) :
    ∃ A' c', (Instr.sliceAt 22 (.slice A l.length c) (some (.int .i64 (n : Int))) none none).run Try.prog W = .ok (.slice A' (l.drop n).length c') W ∧ rep h t22 (l.drop n) [.slice A' (l.drop n).length c'] := by
  obtain ⟨v, h1, h2⟩ := evSlice_run (P := Try.prog) (w := W) (N := ⟨fun k => k, fun _ => .nilFunc⟩) (h := h) envOk (t := 22) (x := .leaf (.tv t22 l)) (lo := some (.leaf (.tv t3 (n : Int)))) (hi := none)
    (r := .leaf (.tv t22 (l.drop (n : Int).toNat))) (p := some ((0 : Int) ≤ (n : Int) ∧ (n : Int) ≤ (l.length : Int))) rfl (fun q hq => by injection hq with hq; subst hq; exact ⟨by omega, by omega⟩)
    (u := .slice A l.length c) (lov := some (.int .i64 (n : Int))) (hiv := none) (SV.tv_iff.2 ⟨_, hrep, rfl⟩) (fun s v e1 e2 => by injection e1 with e1; injection e2 with e2; subst e1 e2; exact SV.tv_iff.2 ⟨_, rfl, rfl⟩) (fun s v e1 _ => by cases e1) rfl rfl
  obtain ⟨cs, q1, q2⟩ := SV.tv_iff.1 h2
  rw [toNat_cast] at q1
  obtain ⟨A', c', rfl, q3⟩ := q1
  subst q2
  exact ⟨A', c', h1, A', c', rfl, q3⟩

set_option maxRecDepth 100000 in
set_option maxHeartbeats 2000000 in
theorem iter_in (s35 : CallSpec Try.prog noGl 35 cTakes) (s34 : CallSpec Try.prog noGl 34 cStart) (w0 : World) (fn : FuncId) (A : Option Addr) (m c : Nat) (p q : Int) (h : PHeap) (hpin : PIn h w0) (l : List Cell) (hok : okL l) (hrep : rep h t22 l [.slice A m c])
    (W : World) (hA : At w0 (recR fn A m c p q w0.heap.size .ready none) (.cells #[.slice A m c] 22 (0, 0)) (.cells #[.int .i64 p] 3 (0, 0)) (.cells #[.int .i64 q] 3 (0, 0)) [] W) :
    CallsIn Fence.wide 0 Try.prog 33 (#[.func (.yield (w0.heap.size + 5)) #[] #[]] ++ #[.pointer (some ⟨w0.heap.size + 1, 0, none⟩), .pointer (some ⟨w0.heap.size + 1 + 1, 0, none⟩), .pointer (some ⟨w0.heap.size + 1 + 1 + 1, 0, none⟩)]) W
      fun e W' => (∃ v, e = .returned v) ∧ ∃ O1, At w0 (recR fn A m c p q w0.heap.size .ready none) O1 (.cells #[.int .i64 p] 3 (0, 0)) (.cells #[.int .i64 q] 3 (0, 0)) (allR l p q) W' := by
  refine callsIn_of_wp Try.func33 rfl trivial ?_ rfl
  simp only [Try.ntmps33, List.size_toArray, List.length_cons, List.length_nil, Nat.reduceAdd, Nat.reduceSub, Array.replicate_succ, Array.replicate_zero, List.push_toArray, List.append_toArray, List.nil_append, List.cons_append]
  have hc1 : W.cell? ⟨w0.heap.size + 1, 0, none⟩ = some (.slice A m c) := by simp [World.cell?, hA.o1]
  have hc2 : W.cell? ⟨w0.heap.size + 1 + 1, 0, none⟩ = some (.int .i64 p) := by simp [World.cell?, show W.heap[w0.heap.size + 1 + 1]? = _ from hA.o2]
  have hpW : PIn h W := fun k o hk => (hA.below.block k ((hpin.lt hk))).trans (hpin k o hk)
  gi_wp2
  refine ⟨trivial, rfl, (call_two rfl s34 hok hrep p hpW).mono ?_⟩
  rintro e W1 ⟨rfl, hB1⟩
  have hA1 := hA.later hB1
  clear hc1 hc2 hA hpW hB1
  gi_wp2
  refine (wpIn_wide (n := 0)).2 (wp_loop_rel (X := List Cell × Nat × List Int) (fun x a W => ∃ (A' : Option Addr) (c' : Nat) (t4 t6 t7 t8 t9 t10 t11 t12 t13 t14 t15 t16 t17 t18 t19 t20 : Value),
    a = { tmps := #[.func (.yield (w0.heap.size + 5)) #[] #[], .pointer (some ⟨w0.heap.size + 1, 0, none⟩), .pointer (some ⟨w0.heap.size + 1 + 1, 0, none⟩), .pointer (some ⟨w0.heap.size + 1 + 1 + 1, 0, none⟩), t4, .int .i64 (x.2.1 : Int), t6, t7, t8, t9, t10, t11, t12, t13, t14, t15, t16, t17, t18, t19, t20], defers := [] } ∧
    At w0 (recR fn A m c p q w0.heap.size .ready none) (.cells #[.slice A' x.1.length c'] 22 (0, 0)) (.cells #[.int .i64 p] 3 (0, 0)) (.cells #[.int .i64 q] 3 (0, 0)) x.2.2 W ∧ rep h t22 x.1 [.slice A' x.1.length c'] ∧
    okL x.1 ∧ x.2.1 ≤ x.1.length ∧ (x.1 ≠ [] → 1 ≤ x.2.1) ∧ allR l p q = x.2.2 ++ rowsL q x.1 x.2.1 ∧ x.2.2.length + x.1.length ≤ 200) (fun x => x.1.length) (x0 := (l, start l p, [])) ?_ ?_)
  · have hm : m = l.length := by
      obtain ⟨A1, c1, e1, _⟩ := hrep
      injection e1 with e1
      injection e1
    subst hm
    exact ⟨A, c, _, _, _, _, _, _, _, _, _, _, _, _, _, _, _, _, rfl, hA1, hrep, hok, start_le _ _, fun e => start_pos e p, rfl, by have := hok.1; simpa using this⟩
  · rintro ⟨lc, n, xs⟩ a W2 ⟨A', c', t4, t6, t7, t8, t9, t10, t11, t12, t13, t14, t15, t16, t17, t18, t19, t20, rfl, hA2, hrep2, hok2, hn, hpos, hall, hlen⟩
    simp only at *
    refine (wpIn_wide (n := 0)).1 ?_
    obtain ⟨fn', tmps', as', bd', hy, hR⟩ := round_in w0 fn A m c p q _ _ _ xs (n : Int) W2 (by omega) hA2
    gi_wp2
    refine ⟨rfl, hR.mono ?_⟩
    rintro e W3 ⟨rfl, hA3⟩
    clear hR hy hA2
    have hc1 : W3.cell? ⟨w0.heap.size + 1, 0, none⟩ = some (.slice A' lc.length c') := by simp [World.cell?, hA3.o1]
    have hf1 : W3.frozen? ⟨w0.heap.size + 1, 0, none⟩ = false := by simp [World.frozen?, hA3.o1]
    obtain ⟨A2, c2, hsl, hrep3⟩ := slice_run hrep2 hn W3
    obtain ⟨k, hk⟩ : ∃ k, (lc.drop n).length = k := ⟨_, rfl⟩
    rw [hk] at hsl hrep3
    have hA4 := hA3.set (.slice A2 k c2)
    have hc4 : (W3.setCell ⟨w0.heap.size + 1, 0, none⟩ (.slice A2 k c2)).cell? ⟨w0.heap.size + 1, 0, none⟩ = some (.slice A2 k c2) := by simp [World.cell?, hA4.o1]
    have hc5 : (W3.setCell ⟨w0.heap.size + 1, 0, none⟩ (.slice A2 k c2)).cell? ⟨w0.heap.size + 1 + 1 + 1, 0, none⟩ = some (.int .i64 q) := by simp [World.cell?, show (W3.setCell ⟨w0.heap.size + 1, 0, none⟩ (.slice A2 k c2)).heap[w0.heap.size + 1 + 1 + 1]? = _ from hA4.o3]
    gi_wp2_with (first | (refine wpListIn_slice rfl rfl hsl ?_; simp only [Act.put, List.setIfInBounds_toArray, List.set_cons_succ, List.set_cons_zero]) | gi_in)
    · rename_i hz
      have hz : lc.drop n = [] := List.length_eq_zero_iff.1 (by have := eq_of_beq hz; omega)
      refine ⟨rfl, .tuple #[], ?_, ⟨_, rfl⟩, .cells #[.slice A2 k c2] 22 (0, 0), ?_⟩
      · exact res33 _ _
      rw [hall, rowsL_eq q lc n hpos, if_pos hz]
      exact hA4
    · rename_i hz K0 a0
      refine ⟨trivial, rfl, (call_two (C := cTakes) rfl s35 (okL_drop hok2 n) hrep3 q (fun k o hk => (hA4.below.block k (hpin.lt hk)).trans (hpin k o hk))).mono ?_⟩
      rintro e W5 ⟨rfl, hB5⟩
      have hA5 := hA4.later hB5
      clear hc4 hc5 hA4 hB5 hA3 hc1 hf1 hsl
      gi_wp2
      subst hk
      have hz : lc.drop n ≠ [] := fun e => by
        rw [e] at hz
        simp at hz
      have hlc : lc ≠ [] := fun e => hz (by rw [e]; simp)
      have h1 := hpos hlc
      have h2 : 1 ≤ lc.length := by cases lc <;> simp_all
      refine ⟨(lc.drop n, takes (lc.drop n) q, xs ++ [(n : Int)]), ⟨A2, c2, _, _, _, _, _, _, _, _, _, _, _, _, _, _, _, _, rfl, hA5, hrep3, okL_drop hok2 n, takes_le _ _, fun e => takes_pos e q, ?_, ?_⟩, ?_⟩
      · rw [hall, rowsL_eq q lc n hpos, if_neg hz]; simp
      · simp only [List.length_append, List.length_cons, List.length_nil, List.length_drop]; omega
      · simp only [List.length_drop]; omega
end Go.Fr.C20
