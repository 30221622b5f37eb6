/-
  Chapter 13: proofs of the conditions: there and back; together. Conditions: none.
-/
import Derived.Test.YtepnpmaoodljkaaDoorC13G
namespace Go.Fr.C13
open Go Go.Fr Go.Proofs

/-- What is spliced in, and out again. -/
theorem back_ok {s : Option ISet} {w : WSet} (h : Made s w) {add : List Inl} (h1 : (spliceI s [] add).2.1 = 0) :
    Made (spliceI s [] add).1 (spliceW w [] add) ∧ (spliceI (spliceI s [] add).1 (add.map (·.1)) []).2.1 = 0 ∧ Option.isSome (spliceI (spliceI s [] add).1 (add.map (·.1)) []).1 = true ∧ allI (spliceI (spliceI s [] add).1 (add.map (·.1)) []).1 = allI s := by
  have hs := splice_is h [] add
  have hm2 : Made (spliceI s [] add).1 (spliceW w [] add) := by
    rcases hs.2 with e | ⟨_, hm⟩
    · rcases splice_same h [] add with ⟨q1, _⟩ | ⟨_, q1, q2⟩
      · rw [q1] at h1; cases h1
      · rw [q1] at e h1 ⊢
        rw [q2]
        have hw : wrongN (lenI s) (left (allI s) [] ++ add) = 0 := by rw [← (code_none _ _).2.1]; exact h1
        exact made_new hw
    · exact hm
  refine ⟨hm2, ?_⟩
  obtain ⟨n, L, rfl, rfl, hw, hc, hso⟩ := h
  have e0 : spliceI (some (n, L, ())) [] add = newI n (L ++ add) := by
    show newI n (L.filter _ ++ add) = _
    have := left_nil L
    unfold left at this
    rw [this]
  rw [e0] at h1 ⊢
  have hw2 : wrongN n (L ++ add) = 0 := by rw [← (code_none _ _).2.1]; exact h1
  rw [new_fst hw2]
  obtain ⟨b1, b2, b3, b4⟩ := wrong_zero.1 hw2
  obtain ⟨c1, c2, c3, c4⟩ := wrong_zero.1 hw
  obtain ⟨d1, d2, d3⟩ := List.pairwise_append.1 b4
  have tp : (sortI ((L ++ add).map cleanI)).Perm (L ++ add.map cleanI) := by
    have := sort_perm ((L ++ add).map cleanI)
    rw [List.map_append, hc] at this
    rwa [List.map_append, hc]
  have hT : (sortI ((L ++ add).map cleanI)).Pairwise (fun a b => a.1 ≠ b.1) := ids_perm (sort_perm _).symm (clean_ids b4)
  generalize sortI ((L ++ add).map cleanI) = T at tp hT ⊢
  have rok : rmOk (T.map (·.1)) (add.map (·.1)) = true := by
    rw [rmOk_iff _ _ (nodup_pw.2 hT)]
    refine ⟨nodup_pw.2 d2, fun i hi => ?_⟩
    obtain ⟨x, hx, rfl⟩ := List.mem_map.1 hi
    exact List.mem_map.2 ⟨cleanI x, tp.mem_iff.2 (List.mem_append_right _ (List.mem_map.2 ⟨x, hx, rfl⟩)), rfl⟩
  have lp : (left T (add.map (·.1))).Perm L := by
    have := tp.filter (fun x : Inl => !(add.map (·.1)).contains x.1)
    rw [List.filter_append] at this
    have f1 : L.filter (fun x : Inl => !(add.map (·.1)).contains x.1) = L := by
      rw [List.filter_eq_self]
      intro x hx
      rw [Bool.not_eq_true', Bool.eq_false_iff]
      intro hh
      obtain ⟨y, hy, e⟩ := List.mem_map.1 (List.contains_iff_mem.1 hh)
      exact d3 x hx y hy e.symm
    have f2 : (add.map cleanI).filter (fun x : Inl => !(add.map (·.1)).contains x.1) = [] := by
      rw [List.filter_eq_nil_iff]
      intro x hx
      obtain ⟨y, hy, rfl⟩ := List.mem_map.1 hx
      have : (add.map (·.1)).contains (cleanI y).1 = true := List.contains_iff_mem.2 (List.mem_map.2 ⟨y, hy, rfl⟩)
      rw [this]
      decide
    rw [f1, f2, List.append_nil] at this
    exact this
  have e1 : spliceI (some (n, T, ())) (add.map (·.1)) [] = newI n (left T (add.map (·.1))) := by
    unfold spliceI
    have ea : allI (some (n, T, ())) = T := rfl
    rw [ea, if_pos rok]
    show newI n (left T (add.map (·.1)) ++ []) = _
    rw [List.append_nil]
  have hw3 : wrongN n (left T (add.map (·.1))) = 0 := wrong_perm lp.symm hw
  show (spliceI (some (n, T, ())) (add.map (·.1)) []).2.1 = 0 ∧ _
  rw [e1, new_fst hw3]
  refine ⟨rfl, rfl, ?_⟩
  show sortI ((left T (add.map (·.1))).map cleanI) = L
  have lp2 := lp.map cleanI
  rw [hc] at lp2
  rw [sort_perm_eq lp2 (clean_ids (wrong_zero.1 hw3).2.2.2)]
  exact sort_id c4 hso
theorem p4 : vc4 := by
  unfold vc4
  simp only [eq_self, true_and, and_true, decide_eq_true_eq, decide_eq_false_iff_not, beq_iff_eq, beq_eq_false_iff_ne, bne_iff_ne, bne_eq_false_iff_eq, Bool.not_eq_true', Bool.not_eq_false', ne_eq, imp_true_iff, implies_true]
  rintro ⟨n, l, add, ⟨⟩⟩
  simp only [maxLen_eq, d42]
  rintro ⟨hl, ha⟩
  refine ⟨hl, fun hlong => ⟨ha, fun hlong2 => ?_⟩⟩
  obtain ⟨s1, s2⟩ := long_short hlong
  obtain ⟨s3, s4⟩ := long_short hlong2
  obtain ⟨k1, k2, k3⟩ := code_none n l
  have two : (l.length ≤ 9223372036854775807 ∧ shortL l) := ⟨hl, s2⟩
  refine ⟨two, fun h => ⟨two, fun h2 => ?_⟩, fun hz => ⟨fun h => ⟨two, fun h2 => ?_⟩, fun hsome => ?_⟩⟩
  · rw [k2] at h; rw [k3] at h2; exact absurd h2 h
  · have := k1.1 (Option.isNone_iff_eq_none.1 h)
    rw [k3] at h2
    exact absurd h2 this
  rw [k2] at hz
  have hm := made_new hz
  obtain ⟨_, o2, o3, e1, e2, _, _, o7, _⟩ := made_ok hm
  have shn : shortL [] := fun x hx => by cases hx
  have same := splice_same hm [] add
  have two2 : okW (newW n l) ∧ (0 : Nat) ≤ 10000 ∧ add.length ≤ 10000 ∧ shortL add := ⟨o3, by omega, by omega, s4⟩
  have codes : (spliceW (newW n l) [] add).2.2.1 = (spliceI (newI n l).1 [] add).2.1 ∧ ((spliceI (newI n l).1 [] add).1 = none → ¬ (spliceI (newI n l).1 [] add).2.1 = 0) := by
    rcases same with ⟨q1, q2⟩ | ⟨_, q1, q2⟩
    · rw [q1, q2]; exact ⟨rfl, fun _ h => by cases h⟩
    · obtain ⟨j1, j2, j3⟩ := code_none (lenI (newI n l).1) (left (allI (newI n l).1) [] ++ add)
      rw [q1, q2, j2, j3]
      exact ⟨rfl, fun h => j1.1 h⟩
  refine ⟨⟨o2, by omega, by omega, s4⟩, fun h => ⟨two, two2, fun h2 => ?_⟩, fun hz2 => ⟨fun h => ⟨two, two2, fun h2 => ?_⟩, fun _ => ?_⟩⟩
  · rw [codes.1] at h2; exact absurd h2 h
  · exact absurd hz2 (codes.2 (Option.isNone_iff_eq_none.1 h))
  obtain ⟨b1, b2, b3, b4⟩ := back_ok hm hz2
  have hlen := splice_len hm [] add
  refine ⟨fun z => ∃ k : Nat, k ≤ add.length ∧ z.2.1 = (k : Int) ∧ z.1 = (add.take k).map (·.1), fun z => add.length - z.2.1.toNat, ⟨0, Nat.zero_le _, rfl, rfl⟩, ?_⟩
  rintro a i ⟨k, hk, hi, hak⟩
  simp only at hi hak
  subst hi
  have hal : a.length = k := by rw [hak]; simp; omega
  refine ⟨fun h => ?_, fun h => ?_⟩
  · have hlt : k < add.length := by omega
    have hw : IntKind.i64.wrap ((k : Int) + 1) = ((k + 1 : Nat) : Int) := wrap_succ (by omega)
    rw [toNat_cast, hw]
    simp only [List.length_singleton, toNat_cast]
    refine ⟨⟨by omega, h⟩, by omega, by omega, ⟨k + 1, hlt, rfl, ?_⟩, by omega⟩
    rw [take_snoc' hlt, List.map_append, hak]
    rfl
  · have hke : k = add.length := by omega
    rw [hke, List.take_length] at hak
    subst hak
    obtain ⟨_, p2, _, _, _, _, _, p7, _⟩ := made_ok b1
    rw [b4]
    have hlen2 := splice_len b1 (add.map (·.1)) []
    refine ⟨⟨p2, by omega, by omega, shn⟩, fun _ => ⟨fun _ => ⟨by omega, by omega, ⟨by omega, by omega⟩, fun h => ?_⟩, fun h => ?_⟩, fun h => absurd b2 h⟩
    · simp [sameL] at h
    · rw [b3] at h; cases h
/-- A place among numbers. -/
def At (T : List Inl) (i : Int) (k : Nat) (x : Int) : Prop := (x = -1 ∧ ∀ j, j < k → (T.getD j zI).1 ≠ i) ∨ (0 ≤ x ∧ x < (k : Int) ∧ (T.getD x.toNat zI).1 = i)
theorem At.on {T : List Inl} {i : Int} {k : Nat} {x : Int} (h : At T i k x) (hne : ¬ (T.getD k zI).1 = i) : At T i (k + 1) x := by
  rcases h with ⟨h1, h2⟩ | ⟨h1, h2, h3⟩
  · refine .inl ⟨h1, fun j hj => ?_⟩
    by_cases e : j = k
    · subst e; exact hne
    · exact h2 j (by omega)
  · exact .inr ⟨h1, by omega, h3⟩
theorem At.here {T : List Inl} {i : Int} {k : Nat} (he : (T.getD k zI).1 = i) : At T i (k + 1) (k : Int) := .inr ⟨by omega, by omega, by rw [toNat_cast]; exact he⟩
theorem clean_move (p : List Chg) (x : Inl) (h : cleanI x = x) : cleanI (moveI p x) = moveI p x := by
  have : clean (txt x) = txt x := congrArg txt h
  show (x.1, (mapP p x.2.1 x.2.2.1).1, x.2.2.1, x.2.2.2.1, clean (txt x), ()) = moveI p x
  rw [this]
  rfl
/-- What a shift makes of a set. -/
theorem shift_all {s : Option ISet} {w : WSet} (h : Made s w) {p : List Chg} (h1 : (shiftI s p).2.1 = 0) :
    Made (shiftI s p).1 (shiftW w p) ∧ (allI (shiftI s p).1).Perm ((allI s).map (moveI p)) ∧ (allI (shiftI s p).1).Pairwise (fun a b => ¬ cmpL b a < 0) ∧ (allI (shiftI s p).1).Pairwise (fun a b => a.1 ≠ b.1) ∧
    (allI s).Pairwise (fun a b => ¬ cmpL b a < 0) ∧ (allI s).Pairwise (fun a b => a.1 ≠ b.1) := by
  have hs := shift_is h p
  obtain ⟨_, _, _, e1, e2, _⟩ := made_ok h
  have key : shiftI s p = newI (w64 (lenI s + delta p)) ((allI s).map (moveI p)) := by
    unfold shiftI at h1 ⊢
    split at h1
    · cases h1
    · rename_i g1
      rw [if_neg g1]
      split at h1
      · cases h1
      · rename_i g2
        rw [if_neg g2]
  have hw : wrongN (w64 (lenI s + delta p)) ((allI s).map (moveI p)) = 0 := by rw [← (code_none _ _).2.1, ← key]; exact h1
  have hm2 : Made (shiftI s p).1 (shiftW w p) := by
    rcases hs.2 with e | ⟨_, hm⟩
    · rw [key] at e
      exact absurd hw ((code_none _ _).1.1 e)
    · exact hm
  refine ⟨hm2, ?_⟩
  obtain ⟨n, L, rfl, rfl, hwL, hc, hso⟩ := h
  rw [key, new_fst hw]
  have hcm : (L.map (moveI p)).map cleanI = L.map (moveI p) := by
    rw [List.map_map]
    refine List.map_congr_left fun x hx => ?_
    refine clean_move p x ?_
    obtain ⟨y, hy, e⟩ := List.mem_map.1 (by rw [hc]; exact hx : x ∈ L.map cleanI)
    rw [← e, clean_twice]
  have ids := (wrong_zero.1 hwL).2.2.2
  have ids2 := (wrong_zero.1 hw).2.2.2
  have al : allI (some (n, L, ())) = L := rfl
  rw [al] at ids2 ⊢
  rw [hcm]
  refine ⟨sort_perm _, sort_sorted ids2, ids_perm (sort_perm _).symm ids2, hso, ids⟩
theorem p5 : vc5 := by
  unfold vc5
  simp only [eq_self, true_and, and_true, decide_eq_true_eq, decide_eq_false_iff_not, beq_iff_eq, beq_eq_false_iff_ne, bne_iff_ne, bne_eq_false_iff_eq, Bool.not_eq_true', Bool.not_eq_false', ne_eq, imp_true_iff, implies_true]
  rintro ⟨n, l, p, ⟨⟩⟩
  simp only [maxLen_eq, d42]
  rintro ⟨hl, hp⟩
  refine ⟨hl, fun hlong hp2 => ?_⟩
  obtain ⟨s1, s2⟩ := long_short hlong
  obtain ⟨k1, k2, k3⟩ := code_none n l
  have two : (l.length ≤ 9223372036854775807 ∧ shortL l) := ⟨hl, s2⟩
  refine ⟨two, fun h => ⟨two, fun h2 => ?_⟩, fun hz => ⟨fun h => ⟨two, fun h2 => ?_⟩, fun hsome => ?_⟩⟩
  · rw [k2] at h; rw [k3] at h2; exact absurd h2 h
  · have := k1.1 (Option.isNone_iff_eq_none.1 h)
    rw [k3] at h2
    exact absurd h2 this
  rw [k2] at hz
  have hm := made_new hz
  obtain ⟨_, o2, o3, e1, e2, _, _, o7, o9⟩ := made_ok hm
  have hpt : ∀ m ∈ (newW n l).2.1, (0 : Int) ≤ m.2.1 ∧ m.2.1 ≤ (1099511627776 : Int) := by rw [e2]; exact o9
  have two2 : okW (newW n l) ∧ (∀ m ∈ (newW n l).2.1, (0 : Int) ≤ m.2.1 ∧ m.2.1 ≤ (1099511627776 : Int)) ∧ p.length ≤ 1000 := ⟨o3, hpt, by omega⟩
  have codes : (shiftW (newW n l) p).2.2.1 = (shiftI (newI n l).1 p).2.1 ∧ ((shiftI (newI n l).1 p).1 = none → ¬ (shiftI (newI n l).1 p).2.1 = 0) := by
    unfold shiftI shiftW
    rw [e1, e2]
    cases hn : normal p with
    | false => exact ⟨rfl, fun _ h => by cases h⟩
    | true =>
      rw [if_neg (show ¬ (true = false) by decide), if_neg (show ¬ (true = false) by decide), ← move_ref hm hn]
      split
      · exact ⟨rfl, fun _ h => by cases h⟩
      · obtain ⟨j1, j2, j3⟩ := code_none (w64 (lenI (newI n l).1 + delta p)) ((allI (newI n l).1).map (moveI p))
        rw [j2, j3]
        exact ⟨rfl, fun h => j1.1 h⟩
  refine ⟨⟨o2, by omega⟩, fun h => ⟨two, by omega, ⟨two2.1, fun m hm => two2.2.1 m hm, two2.2.2⟩, fun h2 => ?_⟩, fun hz2 => ⟨fun h => ⟨two, by omega, ⟨two2.1, fun m hm => two2.2.1 m hm, two2.2.2⟩, fun h2 => ?_⟩, fun _ => ?_⟩⟩
  · rw [codes.1] at h2; exact absurd h2 h
  · exact absurd hz2 (codes.2 (Option.isNone_iff_eq_none.1 h))
  obtain ⟨b1, b2, b3, b4, b5, b6⟩ := shift_all hm hz2
  have hlen := shift_len hm p
  have hll : (allI (newI n l).1).length = (allI (shiftI (newI n l).1 p).1).length := by rw [b2.length_eq, List.length_map]
  clear codes two2 hpt hm two e1 e2 o2 o3 o9 k1 k2 k3 b1
  generalize allI (shiftI (newI n l).1 p).1 = T at b2 b3 b4 hlen hll ⊢
  generalize allI (newI n l).1 = L at b2 b5 b6 o7 hll ⊢
  refine ⟨by omega, hlen.1, fun h => absurd (by rw [hll]) h, fun _ => ?_⟩
  refine ⟨fun z => ∃ k : Nat, z.1 = (k : Int) ∧ k ≤ L.length, fun z => L.length - z.1.toNat, ⟨0, rfl, Nat.zero_le _⟩, ?_⟩
  rintro i ⟨k, hi, hk⟩
  simp only at hi
  subst hi
  intro h
  have hlt : k < L.length := by omega
  have hwk : IntKind.i64.wrap ((k : Int) + 1) = ((k + 1 : Nat) : Int) := wrap_succ (by omega)
  have htl : (L.take k).length = k := by simp; omega
  rw [toNat_cast, hwk, htl]
  have nextO : (∃ k' : Nat, ((k + 1 : Nat) : Int) = (k' : Int) ∧ k' ≤ L.length) ∧ L.length - (((k + 1 : Nat) : Int)).toNat < L.length - ((k : Int)).toNat := ⟨⟨k + 1, rfl, hlt⟩, by rw [toNat_cast, toNat_cast]; omega⟩
  refine ⟨⟨by omega, h⟩, ⟨by omega, by omega⟩, ?_⟩
  refine ⟨fun z => ∃ m : Nat, z.1 = (m : Int) ∧ m ≤ k, fun z => k - z.1.toNat, ⟨0, rfl, Nat.zero_le _⟩, ?_⟩
  rintro i ⟨m, hi, hmk⟩
  simp only at hi
  subst hi
  refine ⟨fun h2 => ?_, fun _ => nextO⟩
  have hlm : m < k := by omega
  have hwm : IntKind.i64.wrap ((m : Int) + 1) = ((m + 1 : Nat) : Int) := wrap_succ (by omega)
  rw [toNat_cast, hwm]
  have hgb : (L.take k).getD m zI = L.getD m zI := by
    rw [getD_of zI (by omega), getD_of zI (by omega), List.getElem_take]
  rw [hgb]
  have ha : L.getD k zI ∈ L := by rw [getD_of zI hlt]; exact List.getElem_mem _
  have hb : L.getD m zI ∈ L := by rw [getD_of zI (show m < L.length by omega)]; exact List.getElem_mem _
  have hord := List.pairwise_iff_getElem.1 b5 m k (by omega) hlt hlm
  have hids := List.pairwise_iff_getElem.1 b6 m k (by omega) hlt hlm
  rw [← getD_of zI, ← getD_of zI] at hord hids
  generalize L.getD k zI = a at ha hord hids ⊢
  generalize L.getD m zI = b at hb hord hids ⊢
  have nextI : (∃ k' : Nat, ((m + 1 : Nat) : Int) = (k' : Int) ∧ k' ≤ k) ∧ k - (((m + 1 : Nat) : Int)).toNat < k - ((m : Int)).toNat := ⟨⟨m + 1, rfl, hlm⟩, by rw [toNat_cast, toNat_cast]; omega⟩
  -- where the moved ones are
  have there : ∀ x ∈ L, ∀ q : Int, At T x.1 T.length q → 0 ≤ q ∧ q < (T.length : Int) ∧ T.getD q.toNat zI = moveI p x := fun x hx q hq => by
    have hmx : moveI p x ∈ T := b2.mem_iff.2 (List.mem_map.2 ⟨x, hx, rfl⟩)
    rcases hq with ⟨_, h2⟩ | ⟨h1, h2, h3⟩
    · obtain ⟨j, hj, e⟩ := List.getElem_of_mem hmx
      exact absurd (by rw [getD_of zI hj, e]; rfl) (h2 j hj)
    · refine ⟨h1, h2, ?_⟩
      have hq : T.getD q.toNat zI ∈ T := by rw [getD_of zI (show q.toNat < T.length by omega)]; exact List.getElem_mem _
      exact ids_one b4 hq hmx h3
  refine ⟨⟨by omega, h2⟩, ?_⟩
  refine ⟨fun z => ∃ c : Nat, z.2.2.1 = (c : Int) ∧ c ≤ T.length ∧ At T a.1 c z.1 ∧ At T b.1 c z.2.1, fun z => T.length - z.2.2.1.toNat, ⟨0, rfl, Nat.zero_le _, .inl ⟨rfl, fun j hj => by omega⟩, .inl ⟨rfl, fun j hj => by omega⟩⟩, ?_⟩
  rintro x y i ⟨c, hi, hc, hx, hy⟩
  simp only at hi hx hy
  subst hi
  refine ⟨fun h3 => ?_, fun h3 => ?_⟩
  · have hlc : c < T.length := by omega
    have hwc : IntKind.i64.wrap ((c : Int) + 1) = ((c + 1 : Nat) : Int) := wrap_succ (by omega)
    rw [toNat_cast, hwc]
    have dec : T.length - (((c + 1 : Nat) : Int)).toNat < T.length - ((c : Int)).toNat := by rw [toNat_cast, toNat_cast]; omega
    refine ⟨⟨by omega, h3⟩, fun g1 => ⟨fun g2 => ⟨⟨c + 1, rfl, hlc, At.here g1, At.here g2⟩, dec⟩, fun g2 => ⟨⟨c + 1, rfl, hlc, At.here g1, hy.on g2⟩, dec⟩⟩, fun g1 => ⟨fun g2 => ⟨⟨c + 1, rfl, hlc, hx.on g1, At.here g2⟩, dec⟩, fun g2 => ⟨⟨c + 1, rfl, hlc, hx.on g1, hy.on g2⟩, dec⟩⟩⟩
  · have hce : c = T.length := by omega
    subst hce
    obtain ⟨x1, x2, x3⟩ := there a ha x hx
    obtain ⟨y1, y2, y3⟩ := there b hb y hy
    have atx : (T.getD x.toNat zI).2.1 = (mapP p a.2.1 a.2.2.1).1 := by rw [x3]; rfl
    have aty : (T.getD y.toNat zI).2.1 = (mapP p b.2.1 b.2.2.1).1 := by rw [y3]; rfl
    have noty : a.2.1 = b.2.1 → a.2.2.1 = b.2.2.1 → ¬ y > x := fun g1 g2 g3 => by
      have hp3 := List.pairwise_iff_getElem.1 b3 x.toNat y.toNat (by omega) (by omega) (by omega)
      rw [← getD_of zI, ← getD_of zI, x3, y3] at hp3
      rw [cmpL_lt] at hp3 hord
      have q1 : (moveI p a).2.1 = (moveI p b).2.1 := by
        show (mapP p a.2.1 a.2.2.1).1 = (mapP p b.2.1 b.2.2.1).1
        rw [g1, g2]
      have q2 : (moveI p a).2.2.2.1 = a.2.2.2.1 ∧ (moveI p b).2.2.2.1 = b.2.2.2.1 ∧ (moveI p a).1 = a.1 ∧ (moveI p b).1 = b.1 := ⟨rfl, rfl, rfl, rfl⟩
      omega
    have same : a.2.1 = b.2.1 → a.2.2.1 = b.2.2.1 → (T.getD x.toNat zI).2.1 = (T.getD y.toNat zI).2.1 := fun g1 g2 => by rw [atx, aty, g1, g2]
    (repeat' (first | apply And.intro | intro _))
    all_goals first
      | omega
      | exact nextI.1
      | exact nextI.2
      | exact absurd (by assumption) (noty (by assumption) (by assumption))
      | exact absurd (same (by assumption) (by assumption)) (by assumption)
end Go.Fr.C13
