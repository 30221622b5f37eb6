/-
  What single operations yield: literals, lengths, conversions; all of them together. Conditions: none.
-/
import Derived.Test.YtepnpmaoodljkaaDoorFrG
import Derived.Laws.BytesString
namespace Go.Fr
open Go Go.RowKit
universe u

section
variable {P : Program} {E : Env} {B : Nat} {w0 w : World} {bs : Blks} {rs : Rows} {N : Names} {h : PHeap} {b : Nat} {sl : Slots} {ρ : Operand → Value}

theorem splice_rel {ls new : List Leaf} {cs ds : List Value} (h1 : LeafRels N h ls cs) (h2 : LeafRels N h new ds) (off : Nat) :
    LeafRels N h (splice ls off new) (cs.take off ++ ds ++ cs.drop (off + ds.length)) := by
  unfold splice
  rw [LeafRels.length _ _ h2, List.append_assoc]
  exact LeafRels.append _ _ _ _ (LeafRels.take _ _ _ h1) (LeafRels.append _ _ _ _ h2 (LeafRels.drop _ _ _ h1))
theorem splice_one {cs ds : List Value} (h1 : ∀ u ∈ cs, u.oneCell' = true) (h2 : ∀ u ∈ ds, u.oneCell' = true) (off n : Nat) : ∀ u ∈ cs.take off ++ ds ++ cs.drop n, u.oneCell' = true := by
  intro u hu
  rcases List.mem_append.1 hu with hu | hu
  · rcases List.mem_append.1 hu with hu | hu
    · exact h1 u (List.mem_of_mem_take hu)
    · exact h2 u hu
  · exact h1 u (List.mem_of_mem_drop hu)

theorem fill_rel (place : Nat → Option (Nat × Nat)) : (ps : List (Nat × Operand)) → (ls ls' : List Leaf) → (cs : List Value) → buildCells b place sl ps ls = some ls' → LeafRels N h ls cs → (∀ u ∈ cs, u.oneCell' = true) →
    (∀ p ∈ ps, (evO b sl p.2).rel N h (ρ p.2)) → ∃ cs' : List Value, Instr.fill place cs.toArray (ps.map fun p => (p.1, ρ p.2)) = some cs'.toArray ∧ LeafRels N h ls' cs' ∧ ∀ u ∈ cs', u.oneCell' = true
  | [], ls, ls', cs, e, hr, h1, _ => by
    simp only [buildCells] at e
    injection e with e; subst e
    exact ⟨cs, rfl, hr, h1⟩
  | (i, x) :: ps, ls, ls', cs, e, hr, h1, ho => by
    simp only [buildCells] at e
    split at e
    · cases e
    · rename_i off n hpl
      split at e
      · cases e
      · rename_i ns hns
        cases hb : (Nat.beq ns.length n && Nat.ble (off + n) ls.length) with
        | false => rw [hb] at e; cases e
        | true =>
          rw [hb] at e
          simp only [cond_true] at e
          simp only [Bool.and_eq_true] at hb
          have hn : ns.length = n := Nat.eq_of_beq_eq_true hb.1
          have hle : off + n ≤ ls.length := Nat.le_of_ble_eq_true hb.2
          obtain ⟨ds, g1, g2, g3⟩ := cellsOf_rel hns (ho (i, x) (List.mem_cons_self ..))
          have hds := LeafRels.length _ _ g2
          have hcs := LeafRels.length _ _ hr
          obtain ⟨cs', q1, q2, q3⟩ := fill_rel place ps _ ls' (cs.take off ++ ds ++ cs.drop (off + ds.length)) e (splice_rel hr g2 off) (splice_one h1 g3 off _) fun p hp => ho p (List.mem_cons_of_mem _ hp)
          refine ⟨cs', ?_, q2, q3⟩
          simp only [List.map_cons, Instr.fill, hpl]
          simp only at g1
          rw [g1]
          rw [if_neg (by simp; omega)]
          rw [← q1]
          congr 1
          apply Array.ext'
          have := foldl_set off ds 0 cs.toArray (by simp; omega)
          simp only [Nat.add_zero] at this
          rw [← this, ← Array.foldl_toList]
          simp

theorem mapM_places (P : Program) : (gs : List Field) → (fs : List (Nat × Nat × Bool)) → gs.length = fs.length → (∀ (n : Nat) f, fs[n]? = some f → ∃ g i, gs[n]? = some g ∧ g.offset = f.1 ∧ P.info? g.type = some i ∧ i.size = f.2.1) →
    gs.mapM (fun f => (P.info? f.type).map fun i => (f.offset, i.size)) = some (fs.map fun f => (f.1, f.2.1))
  | [], [], _, _ => rfl
  | g :: gs, f :: fs, hl, hh => by
    obtain ⟨g', i, e1, e2, e3, e4⟩ := hh 0 f rfl
    simp at e1; subst e1
    have ih := mapM_places P gs fs (by simpa using hl) (fun n f hf => by simpa using hh (n + 1) f (by simpa using hf))
    simp [List.mapM_cons, e3, ih, e2, e4]
  | [], _ :: _, hl, _ => by simp at hl
  | _ :: _, [], hl, _ => by simp at hl

theorem evBuild_run (hE : EnvOk P E) {t : TypeId} {ps : Array (Nat × Operand)} {r : SV} {p : Option Prop} (e : evBuild E b sl t ps.toList = some (r, p)) (ho : ∀ q ∈ ps.toList, (evO b sl q.2).rel N h (ρ q.2)) :
    Yields P (Instr.build t (ps.map fun (i, x) => (i, ρ x))) w N h r := by
  unfold evBuild at e
  split at e
  · cases e
  · rename_i ti hti
    have hT := hE.tt t ti hti
    obtain ⟨d, hd, _, hk⟩ := hT.und
    obtain ⟨i, hi, hsz, _, hz⟩ := hT.info
    cases hb : Nat.beq ti.zero.length ti.size with
    | false => rw [hb] at e; cases e
    | true =>
      rw [hb] at e
      simp only [cond_true] at e
      obtain ⟨z, hz1, cs, hz2, hz3, hz4⟩ := hz (Nat.eq_of_beq_eq_true hb)
      have hparts : (ps.map fun (i, x) => (i, ρ x)).toList = ps.toList.map fun p => (p.1, ρ p.2) := by rw [Array.toList_map]
      split at e
      · rename_i fs hfs
        rw [hfs] at hk
        obtain ⟨gs, rfl, hgl, hg⟩ := hk
        split at e
        · rename_i ls' hls
          injection e with e; injection e with e1 e2; subst e1 e2
          obtain ⟨cs', q1, q2, q3⟩ := fill_rel (ρ := ρ) _ _ _ _ cs hls (hz3 N h) hz4 ho
          refine ⟨.agg cs'.toArray, run_build w t _ _ ?_, cs', rfl, q2, q3⟩
          have hm := mapM_places P gs.toList fs (by simpa using hgl) (fun n f hf => by
            obtain ⟨g, i, e, g1, g2, g3, g4, _⟩ := hg n f hf
            exact ⟨g, i, by simpa using g1, g2, g3, g4⟩)
          simp only [Program.built, hi, hd, hz1, hm, hparts, hz2]
          rw [← q1]
          congr 1
          funext n
          simp
        · cases e
      · rename_i n te es hfs
        rw [hfs] at hk
        simp only at hk
        obtain ⟨rfl, ie, hie, his⟩ := hk
        split at e
        · rename_i ls' hls
          injection e with e; injection e with e1 e2; subst e1 e2
          obtain ⟨cs', q1, q2, q3⟩ := fill_rel (ρ := ρ) _ _ _ _ cs hls (hz3 N h) hz4 ho
          refine ⟨.agg cs'.toArray, run_build w t _ _ ?_, cs', rfl, q2, q3⟩
          simp only [Program.built, hi, hd, hz1, hie, hparts, hz2, his]
          exact q1
        · cases e
      · cases e

theorem evLen_run (hE : EnvOk P E) (hM : MemSat B w0 bs rs N h w) {t : TypeId} {x : SV} {r : SV} {p : Option Prop} (e : evLen E rs t x = some (r, p)) {u : Value} (hx : x.rel N h u) (ts : Array TypeId) (ty : TypeId) (hts : ts[0]? = some t) :
    Yields P (Builtin.len_ ts ty #[u]) w N h r := by
  unfold evLen at e
  split at e
  · cases e
  · rename_i ti hti
    have hT := hE.tt t ti hti
    obtain ⟨d, hd, _, hk⟩ := hT.und
    split at e
    · rename_i te hte
      rw [hte] at hk
      simp only at hk
      subst hk
      split at e
      · injection e with e; injection e with e1 e2; subst e1 e2
        obtain ⟨cs, g1, rfl⟩ := hx
        obtain ⟨A, c, rfl, _⟩ := g1
        exact ⟨_, by simp [Builtin.len_, hts, run_underlying hd, Ty.val, goInt], mkInt_rel N h _ _⟩
      · rename_i rr
        split at e
        · rename_i R hR
          injection e with e; injection e with e1 e2; subst e1 e2
          obtain ⟨rfl, _⟩ := hx
          obtain ⟨cs, ho, _⟩ := hM.row rr R hR
          have : ∃ A c, N.V rr = .slice A R.xs.length c := by
            rcases ho.2 with ⟨e0, e1⟩ | ⟨g, cap, cur, e0, _⟩
            · exact ⟨none, 0, by rw [e0, e1]⟩
            · exact ⟨_, _, e0⟩
          obtain ⟨A, c, hV⟩ := this
          rw [hV]
          exact ⟨_, by simp [Builtin.len_, hts, run_underlying hd, goInt], mkInt_rel N h _ _⟩
        · cases e
      · injection e with e; injection e with e1 e2; subst e1 e2
        simp only [SV.rel, Leaf.rel] at hx
        subst hx
        exact ⟨_, by simp [Builtin.len_, hts, run_underlying hd, goInt], mkInt_rel N h _ _⟩
      · cases e
    · rename_i hte
      rw [hte] at hk
      simp only at hk
      subst hk
      split at e
      · injection e with e; injection e with e1 e2; subst e1 e2
        obtain ⟨cs, g1, rfl⟩ := hx
        simp only [rep] at g1
        subst g1
        exact ⟨_, by simp [Builtin.len_, hts, run_underlying hd, Ty.val, goInt], mkInt_rel N h _ _⟩
      · cases e
    · cases e

theorem tupGet_rel : (t : Ty) → (x : t.den) → (i : Nat) → (s : SV) → tupGet t x i = some s → (vs : List Value) → trep h t x vs → ∃ v, vs[i]? = some v ∧ s.rel N h v
  | .pair a b, x, 0, s, e, vs, hr => by
    simp only [tupGet] at e
    injection e with e; subst e
    obtain ⟨v, r, rfl, g1, _⟩ := hr
    exact ⟨v, rfl, g1⟩
  | .pair a b, x, n + 1, s, e, vs, hr => by
    simp only [tupGet] at e
    obtain ⟨v, r, rfl, _, g2⟩ := hr
    obtain ⟨u, k1, k2⟩ := tupGet_rel b x.2 n s e r g2
    exact ⟨u, by simpa using k1, k2⟩
  | .unit, _, _, _, e, _, _ => by cases e
  | .bool, _, _, _, e, _, _ => by cases e
  | .int _, _, _, _, e, _, _ => by cases e
  | .str, _, _, _, e, _, _ => by cases e
  | .sl _, _, _, _, e, _, _ => by cases e
  | .opt _, _, _, _, e, _, _ => by cases e
  | .mp _ _, _, _, _, e, _, _ => by cases e
  | .nd _ _ _ _, _, _, _, e, _, _ => by cases e

theorem bytes_fold (ns : List Int) (b : ByteArray) : (ns.foldl (fun r n => r.push (UInt8.ofNat n.toNat)) b).data.toList = b.data.toList ++ ns.map fun n => UInt8.ofNat n.toNat := by
  induction ns generalizing b with
  | nil => simp
  | cons n ns ih => simp only [List.foldl_cons, ih, List.map_cons]; simp [ByteArray.push]
theorem bytesOf_eq (ns : List Int) : ns.foldl (fun r n => r.push (UInt8.ofNat n.toNat)) ByteArray.empty = bytesOf ns := by
  have := bytes_fold ns ByteArray.empty
  have h0 : (ByteArray.empty).data.toList = [] := rfl
  rw [h0, List.nil_append] at this
  cases hb : ns.foldl (fun r n => r.push (UInt8.ofNat n.toNat)) ByteArray.empty with
  | mk data =>
    rw [hb] at this
    unfold bytesOf
    congr 1
    apply Array.ext'
    simpa using this

theorem evConvert_run (hE : EnvOk P E) (hM : MemSat B w0 bs rs N h w) {s d : TypeId} {x : SV} {r : SV} {p : Option Prop} (e : evConvert E s d x = some (r, p)) (hs : ∃ ti, E.tt s = some ti) {u : Value} (hx : x.rel N h u) : Yields P (convert s d u) w N h r := by
  obtain ⟨si, hsi⟩ := hs
  have hS := hE.tt s si hsi
  obtain ⟨ds, hds, _, hks⟩ := hS.und
  unfold evConvert at e
  split at e
  · cases e
  · rename_i ti hti
    have hT := hE.tt d ti hti
    obtain ⟨dd, hd, _, hk⟩ := hT.und
    split at e
    · rename_i k hkk
      rw [hkk] at hk
      simp only at hk
      subst hk
      split at e
      · rename_i k' n hn
        injection e with e; injection e with e1 e2; subst e1 e2
        rw [asInt_rel hn hx]
        exact ⟨_, by simp [convert, run_underlying hds, run_underlying hd, Conv.intToInt], mkInt_rel N h _ _⟩
      · cases e
    · rename_i hkk
      rw [hkk] at hk
      simp only at hk
      subst hk
      rw [hsi] at e
      simp only at e
      split at e
      · split at e
        · rename_i k' n hn
          injection e with e; injection e with e1 e2; subst e1 e2
          rw [asInt_rel hn hx]
          exact ⟨_, by simp [convert, run_underlying hds, run_underlying hd, Conv.intToString], mkStr_rel N h _⟩
        · cases e
      · rename_i hss
        rw [hss] at hks
        simp only at hks
        subst hks
        split at e
        · rename_i b hb
          injection e with e; injection e with e1 e2; subst e1 e2
          rw [asStr_rel hb hx]
          exact ⟨_, by simp [convert, run_underlying hds, run_underlying hd], mkStr_rel N h _⟩
        · cases e
      · rename_i te hss
        rw [hss] at hks
        simp only at hks
        subst hks
        split at e
        · rename_i ei hei
          obtain ⟨de, hde, _, hke⟩ := (hE.tt te ei hei).und
          split at e
          · rename_i hek
            rw [hek] at hke
            simp only at hke
            subst hke
            split at e
            · rename_i xs
              injection e with e; injection e with e1 e2; subst e1 e2
              obtain ⟨cs, g1, rfl⟩ := SV.tv_iff.1 hx
              obtain ⟨A, c, rfl, g2, g3, g4⟩ := g1
              refine ⟨.string (bytesOf xs), ?_, mkStr_rel N h _⟩
              show (convert s d (.slice A xs.length c)).run P w = _
              rw [run_convert_bytes_string w s d te A _ _ hds hde hd]
              cases A with
              | none =>
                have := g3 rfl
                subst this
                simp [Conv.bytesToString, bytesOf]
                rfl
              | some ad =>
                rw [run_bytesToString w ad xs.length c xs, bytesOf_eq]
                have hl : (xs.map (Value.int .u8)).length = xs.length := by simp
                rw [← hl]
                refine run_loadCells_list w ad _ fun j v hv => ?_
                rw [List.getElem?_map] at hv
                cases hj : xs[j]? with
                | none => rw [hj] at hv; cases hv
                | some x =>
                  rw [hj] at hv
                  injection hv with hv; subst hv
                  obtain ⟨ds, q1, q2⟩ := g4 j x ad hj rfl
                  simp only [rep] at q1
                  subst q1
                  have := cell_of_hcell hM.pin (q2 0 _ rfl)
                  rw [add_add] at this
                  simpa [Ty.size] using this
            · cases e
          · cases e
        · cases e
      · cases e
    · cases e
end
end Go.Fr
