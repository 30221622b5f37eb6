/-
  Chapter 13: what the program's variable holds; rows. Conditions: none.
-/
import Derived.Test.YtepnpmaoodljkaaDoorC13H
import Derived.Test.YtepnpmaoodljkaaDoorRows
import Derived.ProofKit
import Derived.LaidMore
import Derived.OpenShut
import Derived.Stop.Joined
namespace Go.Proofs.YtepnpmaoodljkaaDoor
open Go Go.Fr Go.Fr.C13 Go.ChangeShapes Go.WideShapes Go.ChangeAt Go.RowKit
theorem gMost : Tryd.prog.globalNamed "bodkin/utf.most" = some 0 := by kernel_rfl
theorem tMost : (Tryd.prog.globals[0]?).map (·.type) = some 118 := by kernel_rfl
theorem glob_of {W : World} (h : laidMetH Tryd.prog [("bodkin/utf.most", Rows.laid_bodkin_utf_most)] W) : GlobOk gl (heapOf W) := by
  rw [MakeChecks.laidMetH_plain _ _ _ (by kernel_rfl)] at h
  obtain ⟨ps, ⟨g0, t0, cs0, f0, p0, q0, hg0, ht0, hv0, hd0, hrest⟩, h2⟩ := h
  obtain rfl := Option.some.inj (gMost.symm.trans hg0)
  obtain rfl := Option.some.inj (tMost.symm.trans ht0)
  obtain ⟨xs, m1, hf, hx1, hlen, hn4, hel⟩ := DataW.trod_array Tryd.underlying118 hd0
  have c21 : Tryd.prog.cellsOf 21 = 1 := by kernel_rfl
  have len4 : cs0.toList.length = 4 := hlen.trans (by kernel_rfl)
  rw [c21] at hel
  have hcell : ∀ i : Nat, W.cell? ⟨0, i, none⟩ = cs0.toList[i]? := fun i => by rw [World.var?_cell gMost hv0 i]; simp
  generalize cs0.toList = cl at *
  match xs, cl, hn4, len4, hx1, hel, hcell with
  | [y0, y1, y2, y3], [x0, x1, x2, x3], _, _, hx1, hel, hcell =>
    have hx1 := (Prod.mk.inj hx1).1
    obtain ⟨n0, e0, z0, _⟩ := DataW.trod_int Tryd.underlying21 (hel 0 (by decide))
    obtain ⟨n1, e1, z1, _⟩ := DataW.trod_int Tryd.underlying21 (hel 1 (by decide))
    obtain ⟨n2, e2, z2, _⟩ := DataW.trod_int Tryd.underlying21 (hel 2 (by decide))
    obtain ⟨n3, e3, z3, _⟩ := DataW.trod_int Tryd.underlying21 (hel 3 (by decide))
    simp at e0 e1 e2 e3
    subst e0 e1 e2 e3 z0 z1 z2 z3
    simp only [Rows.laid_bodkin_utf_most, List.map_cons, List.map_nil, DataW.agg.injEq, List.cons.injEq, DataW.lit.injEq, Lit.int.injEq, true_and, and_true] at hx1
    obtain ⟨q0, q1, q2, q3⟩ := hx1
    subst q0 q1 q2 q3
    intro g T x hg
    unfold gl at hg
    cases hb : Nat.beq g 0 with
    | false => rw [hb] at hg; cases hg
    | true =>
      rw [hb] at hg
      have := Nat.eq_of_beq_eq_true hb
      subst this
      simp only [cond_true, Option.some.injEq] at hg
      cases hg
      refine ⟨[.int .i32 127, .int .i32 2047, .int .i32 65535, .int .i32 1114111], ⟨[_], _, rfl, rfl, [_], _, rfl, rfl, [_], _, rfl, rfl, [_], _, rfl, rfl, rfl⟩, ?_⟩
      intro j u hu
      rw [hcell_heapOf]
      have := hcell j
      rw [hu] at this
      have ha : (⟨0, 0, none⟩ : Addr).add j = ⟨0, j, none⟩ := by
        rw [add_lit, Nat.zero_add]
      rw [ha]
      exact this
end Go.Proofs.YtepnpmaoodljkaaDoor
