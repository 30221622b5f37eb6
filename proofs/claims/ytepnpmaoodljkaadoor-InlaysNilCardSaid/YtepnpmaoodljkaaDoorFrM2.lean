/-
  Slices that are made; elements that are copied into a row of the call's own. Conditions: none.
-/
import Derived.Test.YtepnpmaoodljkaaDoorFrM1
namespace Go.Fr
open Go Go.RowKit
universe u

section
variable {P : Program} {E : Env} {B : Nat} {w0 w : World} {N : Names} {h0 h : PHeap} {b : Nat} {u : Nat → Value} {a : Act} {n : Nat}

theorem wrap_id0 {n : Int} (h0 : -9223372036854775808 ≤ n) (h1 : n ≤ 9223372036854775807) : IntKind.i64.wrap n = n := by
  have e : IntKind.i64.wrap n = if n % 18446744073709551616 ≥ 9223372036854775808 then n % 18446744073709551616 - 18446744073709551616 else n % 18446744073709551616 := by
    unfold IntKind.wrap
    have hb : IntKind.i64.bits = 64 := rfl
    have hs : IntKind.i64.signed = true := rfl
    rw [hb, hs]
    simp
  rw [e]
  split <;> omega
theorem makeSlice_run {t te : TypeId} {tei : TI} (hTe : TIok P te tei) (ht : P.underlying t = some (.slice te)) (hk : tei.zero.length = tei.size) (h1 : 1 ≤ tei.size) {T : Ty} (hTs : tei.size = T.size)
    {z : T.den} (hz : implode T tei.zero = some (z, [])) (hB : B ≤ w.heap.size) {k k' : IntKind} {m c : Nat} (hmc : m ≤ c) (hb : c * tei.bytes ≤ 140737488355328) (hc : c ≤ 1000000000000) :
    ∃ v w' cs', (Instr.makeSlice t (.int k (m : Int)) (.int k' (c : Int))).run P w = .ok v w' ∧ w'.ownsRow B te T.size v m cs' ∧ RowCells h T (List.replicate m z) cs' ∧ GrownBy w w' none ∧ v.ownBlock = some w.heap.size := by
  obtain ⟨i, hi, hsz, hby, hzz⟩ := hTe.info
  obtain ⟨zv, hz1, zcs, hz2, hz3, _⟩ := hzz hk
  have hrz : rep h T z zcs := implode_all hz (hz3 ⟨fun k => k, fun _ => .nilFunc⟩ h)
  have hzl : zcs.length = T.size := rep_len T z zcs hrz
  have hcells := RowCells_replicate T hrz m
  have hlen := RowCells_len T _ _ hcells
  rw [List.length_replicate] at hlen
  have hw1 : IntKind.i64.wrap (m : Int) = m := wrap_id0 (by omega) (by omega)
  have hw2 : IntKind.i64.wrap (c : Int) = c := wrap_id0 (by omega) (by omega)
  have hs : i.size = T.size := by rw [hsz, hTs]
  have htl : ¬ ((281474976710656 : Int) < (i.bytes : Int) * (c : Int)) := by
    have : c * i.bytes ≤ 140737488355328 := by rw [hby]; exact hb
    have h2 : (i.bytes : Int) * (c : Int) = ((c * i.bytes : Nat) : Int) := by rw [Int.natCast_mul]; exact Int.mul_comm _ _
    rw [h2]
    omega
  have hz0 : zv.cells = zcs.toArray := hz2
  have hrun : (Instr.makeSlice t (.int k (m : Int)) (.int k' (c : Int))).run P w = .ok (.slice (some ⟨w.heap.size, 0, none⟩) m c) (w.alloc (.cells (Builtin.zeroCells zcs.toArray c) te)) := by
    have e1 : ¬ ((c : Int) < 0) := by omega
    have e2 : ¬ ((m : Int) < 0) := by omega
    have e3 : ¬ ((m : Int) > (c : Int)) := by omega
    by_cases hc0 : c * T.size = 0
    · have hcz : c = 0 := by
        rcases Nat.mul_eq_zero.1 hc0 with e | e
        · exact e
        · omega
      subst hcz
      have hm0 : m = 0 := by omega
      subst hm0
      have hw0 : IntKind.i64.wrap (0 : Int) = 0 := wrap_id0 (by omega) (by omega)
      simp [hw0, Instr.makeSlice, run_underlying ht, _root_.Go.asInt, asIntOf, typeInfo, hi, sizeOf, hw1, hw2, e2, e3, newRow, Builtin.zeroCells]
      congr 2
      apply Array.ext
      · simp
      · intro j hj _
        simp at hj
    · simp [Instr.makeSlice, run_underlying ht, _root_.Go.asInt, asIntOf, typeInfo, hi, sizeOf, zeroValue, hz1, hs, hw1, hw2, e1, e2, e3, htl, hc0, newRow, Builtin.zeroCells, hz0, hzl]
  refine ⟨_, _, _, hrun, ⟨hlen, .inr ⟨w.heap.size, c, _, rfl, hB, heap_alloc_new w _, hmc, by have : maxLen = 9223372036854775807 := rfl; omega, ?_, ?_⟩⟩, hcells, ⟨rfl, rfl, rfl, by simp, fun k hk _ => Below.heap_alloc _ _ _ hk, Nat.le_refl _⟩, rfl⟩
  · rw [size_zeroCells]
    simp [hzl]
  · rw [zeroCells_flat]
    obtain ⟨q, rfl⟩ : ∃ q, c = m + q := ⟨c - m, by omega⟩
    rw [List.replicate_append_replicate.symm, List.flatten_append, ← hlen]
    exact List.take_left

theorem copy_run {t te : TypeId} {tei : TI} (hTe : TIok P te tei) (ht : P.underlying t = some (.slice te)) {T : Ty} (hTs : tei.size = T.size) {ats : Array TypeId} (hat : ats[0]? = some t)
    {v : Value} {xs ys : List T.den} {cs : List Value} {e : TypeId} (ho : w.ownsRow B e T.size v xs.length cs) (hc : RowCells h T xs cs) (hp : PIn h w) {uv : Value} (hu : vrep h (.sl T) ys uv) (ty : TypeId) :
    ∃ w' cs', (Builtin.copy_ ats ty #[v, uv]).run P w = .ok (.int .i64 ((min ys.length xs.length : Nat) : Int)) w' ∧ w'.ownsRow B e T.size v (ys.take xs.length ++ xs.drop ys.length).length cs' ∧ RowCells h T (ys.take xs.length ++ xs.drop ys.length) cs' ∧ GrownBy w w' v.ownBlock := by
  obtain ⟨i, hi, hsz, hby, hzz⟩ := hTe.info
  have hs : i.size = T.size := by rw [hsz, hTs]
  obtain ⟨us, g1, rfl⟩ := hu
  obtain ⟨A, c, rfl, g2, g3, g4⟩ := g1
  have hlenR : (ys.take xs.length ++ xs.drop ys.length).length = xs.length := by
    rw [List.length_append, List.length_take, List.length_drop]
    omega
  rw [hlenR]
  -- what is read
  obtain ⟨news, q1, q2⟩ : ∃ news : List Value, RowCells h T ys news ∧ ∀ ad, A = some ad → ∀ j x, news[j]? = some x → w.cell? (ad.add j) = some x := by
    cases A with
    | none => have := g3 rfl; subst this; exact ⟨[], rfl, fun ad e => by cases e⟩
    | some ad =>
      obtain ⟨news, q1, q2⟩ := list_cells (h := h) T ad ys 0 fun i x hx => by
        obtain ⟨ds, p1, p2⟩ := g4 i x ad hx rfl
        exact ⟨ds, p1, by rw [Nat.zero_add]; exact p2⟩
      exact ⟨news, q1, fun ad' e j x hx => by
        injection e with e
        subst e
        exact cell_of_hcell hp (by have := q2 j x hx; simpa using this)⟩
  have hnl := RowCells_len T ys news q1
  have hread : ∀ m, m ≤ ys.length → (Builtin.firstCells T.size m (.slice A ys.length c)).run P w = .ok (news.take (m * T.size)).toArray w := fun m hm => by
    cases A with
    | none =>
      have := g3 rfl
      subst this
      have : m = 0 := by simpa using hm
      subst this
      simp [run_firstCells_none]
    | some ad =>
      have hle : m * T.size ≤ ys.length * T.size := Nat.mul_le_mul_right _ hm
      refine run_firstCells_some (P := P) w T.size m ad ys.length c (news.take (m * T.size)) (by rw [List.length_take, hnl]; omega) fun j x hx => ?_
      rw [List.getElem?_take] at hx
      split at hx
      · exact q2 ad rfl j x hx
      · cases hx
  have hcl := RowCells_len T xs cs hc
  have cutL : ∀ (l : List T.den) (ds : List Value) (m : Nat), RowCells h T l ds → RowCells h T (l.take m) (ds.take (m * T.size)) := by
    intro l
    induction l with
    | nil => intro ds m hc; simp only [RowCells] at hc; subst hc; simp [RowCells]
    | cons x l ih =>
      rintro ds m ⟨d, q, rfl, g1, g2⟩
      cases m with
      | zero => simp [RowCells]
      | succ m =>
        have hd := rep_len T x d g1
        refine ⟨d, q.take (m * T.size), ?_, g1, ih q m g2⟩
        rw [show (m + 1) * T.size = d.length + m * T.size by rw [hd, Nat.add_mul]; omega, List.take_length_add_append]
  have cutR : ∀ (l : List T.den) (ds : List Value) (m : Nat), RowCells h T l ds → RowCells h T (l.drop m) (ds.drop (m * T.size)) := by
    intro l
    induction l with
    | nil => intro ds m hc; simp only [RowCells] at hc; subst hc; simp [RowCells]
    | cons x l ih =>
      rintro ds m ⟨d, q, rfl, g1, g2⟩
      cases m with
      | zero => exact ⟨d, q, by simp, g1, g2⟩
      | succ m =>
        have hd := rep_len T x d g1
        rw [show (m + 1) * T.size = d.length + m * T.size by rw [hd, Nat.add_mul]; omega, List.drop_length_add_append]
        exact ih q m g2
  have hall : RowCells h T (ys.take xs.length ++ xs.drop ys.length) (news.take (xs.length * T.size) ++ cs.drop (ys.length * T.size)) := RowCells_append T _ _ _ _ (cutL ys news _ q1) (cutR xs cs _ hc)
  have hmin : news.take (min ys.length xs.length * T.size) = news.take (xs.length * T.size) := by
    rcases Nat.le_total ys.length xs.length with hle | hle
    · rw [Nat.min_eq_left hle, ← hnl, List.take_length, List.take_of_length_le]
      rw [hnl]
      exact Nat.mul_le_mul_right _ hle
    · rw [Nat.min_eq_right hle]
  have hall_len := RowCells_len T _ _ hall
  rw [hlenR] at hall_len
  rcases ho.2 with ⟨rfl, h0⟩ | ⟨g, cap, cur, rfl, hbg, hg, hnc, hcm, hcs, htake⟩
  · have hx : xs = [] := List.eq_nil_of_length_eq_zero h0
    subst hx
    refine ⟨w, _, ?_, ⟨hall_len, .inl ⟨rfl, rfl⟩⟩, hall, GrownBy.refl w _⟩
    have hr := hread 0 (Nat.zero_le _)
    simp [Builtin.copy_, hat, run_underlying ht, Builtin.lenOf, sizeOf, typeInfo, hi, hs, hr, Ty.val, goInt]
  · have hcur : cur.toList.length = cap * T.size := by simpa using hcs
    have hcapn : xs.length * T.size ≤ cap * T.size := Nat.mul_le_mul_right _ hnc
    have hr := hread (min ys.length xs.length) (Nat.min_le_left _ _)
    rw [hmin] at hr
    have htl : (news.take (xs.length * T.size)).length = min ys.length xs.length * T.size := by
      rw [← hmin, List.length_take, hnl]
      have := Nat.mul_le_mul_right T.size (Nat.min_le_left ys.length xs.length)
      omega
    have hml : min ys.length xs.length * T.size ≤ xs.length * T.size := Nat.mul_le_mul_right _ (Nat.min_le_right _ _)
    have hst := run_storeCells_at P g 0 e (news.take (xs.length * T.size)) 0 cur w hg (by rw [htl]; omega) (fun x hx => RowCells_one T ys news q1 x (List.mem_of_mem_take hx))
    simp only [Nat.zero_add, List.take_zero, List.nil_append] at hst
    refine ⟨w.setRow g (news.take (xs.length * T.size) ++ cur.toList.drop (news.take (xs.length * T.size)).length).toArray, _, ?_, ⟨hall_len, .inr ⟨g, cap, _, rfl, hbg, setRow_heap w g cur _ e (0, 0) hg, hnc, hcm, ?_, ?_⟩⟩, hall, ⟨rfl, rfl, rfl, by simp, fun k _ hk => setRow_other w g k _ (fun e => hk (by simp [Value.ownBlock, e])), Nat.le_refl _⟩⟩
    · simp [Builtin.copy_, hat, run_underlying ht, Builtin.lenOf, sizeOf, typeInfo, hi, hs, hr, Ty.val, goInt, hst]
    · simp only [List.size_toArray, List.length_append, List.length_drop, hcur, htl]
      omega
    · simp only
      rw [htl]
      have hcsd : cs.drop (ys.length * T.size) = (cur.toList.drop (min ys.length xs.length * T.size)).take (xs.length * T.size - min ys.length xs.length * T.size) := by
        rw [← htake]
        rcases Nat.le_total ys.length xs.length with hle | hle
        · rw [Nat.min_eq_left hle, List.drop_take]
        · rw [Nat.min_eq_right hle, Nat.sub_self, List.take_zero, List.drop_eq_nil_of_le]
          rw [List.length_take]
          have := Nat.mul_le_mul_right T.size hle
          omega
      rw [hcsd, List.take_append, htl, List.take_of_length_le (by rw [htl]; exact hml)]
end
end Go.Fr
