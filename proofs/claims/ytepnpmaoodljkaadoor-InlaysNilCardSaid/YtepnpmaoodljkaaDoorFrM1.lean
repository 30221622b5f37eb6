/-
  Maps of the call's own: what is looked up, laid and taken out. Conditions: none.
-/
import Derived.Test.YtepnpmaoodljkaaDoorFrL
namespace Go.Fr
open Go Go.RowKit
universe u

section
variable {P : Program} {E : Env} {B : Nat} {w0 w : World} {N : Names} {h0 h : PHeap} {b : Nat} {u : Nat → Value} {a : Act} {n : Nat}

theorem val_agg {t : Ty} {cs : List Value} (ha : t.isAgg = true) : t.val cs = .agg cs.toArray := by cases t <;> first | rfl | cases ha

theorem checkKey_scalar {kt : TypeId} {d : TypeDesc} (hd : P.underlying kt = some d) (hs : scalarDesc d = true) (v : Value) (em : Bool) (m : Nat) (w : World) : (Instr.checkKey em (m + 1) kt v).run P w = .ok () w := by
  unfold Instr.checkKey
  simp only [Sem.run_bind, run_underlying hd, Result.andThen]
  cases d <;> first | (cases hs; done) | (cases v <;> simp)

theorem checkKey_run {kt : TypeId} (hk : keyB P kt = true) {K : Ty} {i : TypeInfo} {d : TypeDesc} (hi : P.info? kt = some i) (hd : P.underlying kt = some d) (hsz : i.size = K.size) (hag : aggDesc d = K.isAgg)
    {x : K.den} {cs : List Value} (hx : rep h K x cs) (em : Bool) (w : World) : (Instr.checkKey em 10000 kt (K.val cs)).run P w = .ok () w := by
  unfold keyB at hk
  rw [hd] at hk
  cases d
  case struct gs =>
    simp only [hi] at hk
    rw [val_agg (by rw [← hag]; rfl)]
    show (Instr.checkKey em (9999 + 1) kt _).run P w = _
    unfold Instr.checkKey
    simp only [Sem.run_bind, run_underlying hd, Result.andThen_ok]
    rw [← Array.forIn_toList]
    have hlen := rep_len K x cs hx
    have each : ∀ g ∈ gs.toList, ∃ d', P.underlying g.type = some d' ∧ scalarDesc d' = true ∧ g.offset < cs.length := fun g hg => by
      have := List.all_eq_true.1 hk g hg
      split at this
      · rename_i d' hd'
        simp only [Bool.and_eq_true, decide_eq_true_eq] at this
        exact ⟨d', hd', this.1, by omega⟩
      · cases this
    clear hk
    generalize gs.toList = L at each
    induction L with
    | nil => simp
    | cons g L ih =>
      obtain ⟨d', hd', hs, ho⟩ := each g (by simp)
      have p1 : (part g.type cs.toArray g.offset).run P w = .ok cs[g.offset] w := by
        have hna : aggDesc d' = false := by cases d' <;> first | rfl | cases hs
        have hget : cs.toArray[g.offset]? = some cs[g.offset] := by simp [List.getElem?_eq_getElem ho]
        unfold part
        simp only [Sem.run_bind, run_isAgg_of hd', Result.andThen_ok, hna, Bool.false_eq_true, if_false, hget, Sem.run_pure]
      have p2 := checkKey_scalar hd' hs cs[g.offset] em 9998 w
      have ih' := ih fun y hy => each y (by simp [hy])
      by_cases hn : g.name = "_"
      · simp only [List.forIn_cons, Sem.run_bind, hn, ne_eq, not_true, if_false, Result.andThen_ok, Sem.run_pure]
        exact ih'
      · simp only [List.forIn_cons, Sem.run_bind, hn, ne_eq, not_false_eq_true, if_true, Result.andThen_ok, p1, p2, Sem.run_pure]
        exact ih'
  all_goals exact checkKey_scalar hd hk _ em 9999 w

/-- What a walk must know of a map's type. -/
structure MapIs (P : Program) (t : TypeId) (ei : TI) (K V : Ty) : Prop where
  und : ∃ kt et, P.underlying t = some (.map kt et) ∧
    (∀ x h cs em w, rep h K x cs → (Instr.checkKey em 10000 kt (K.val cs)).run P w = .ok () w) ∧
    (∀ x y h cs ds w, rep h K x cs → rep h K y ds → (Op.equal kt (K.val cs) (K.val ds)).run P w = .ok (K.beq x y) w) ∧
    (∃ d, P.underlying kt = some d) ∧
    (∀ z, ei.zero.length = ei.size → implode V ei.zero = some (z, []) → ∃ v, (∀ w, (zeroValue et).run P w = .ok v w) ∧ ∀ h, vrep h V z v)
  plain : K.plain = true

theorem mapKV_some (hE : EnvOk P E) {t : TypeId} {k : TI → Ty → Ty → Prop} (e : mapKV E t False k) : ∃ ei K V, MapIs P t ei K V ∧ k ei K V := by
  unfold mapKV at e
  split at e
  rotate_left
  · exact e.elim
  rename_i ti hti
  split at e
  rotate_left
  · exact e.elim
  rename_i kt et hk
  split at e
  rotate_left
  · exact e.elim
  rename_i ki hki
  split at e
  rotate_left
  · exact e.elim
  rename_i K hK
  split at e
  rotate_left
  · exact e.elim
  rename_i ei hei
  split at e
  rotate_left
  · exact e.elim
  rename_i V hV
  cases hp : K.plain with
  | false => rw [hp] at e; exact e.elim
  | true =>
    rw [hp] at e
    refine ⟨ei, K, V, ⟨?_, hp⟩, e⟩
    obtain ⟨d, hd, _, hkk⟩ := (hE.tt t ti hti).und
    rw [hk] at hkk
    simp only at hkk
    obtain ⟨rfl, q1, q2⟩ := hkk
    have hTk := hE.tt kt ki hki
    have hTe := hE.tt et ei hei
    obtain ⟨dk, hdk, hak, _⟩ := hTk.und
    obtain ⟨ik, hik, hsk, _⟩ := hTk.info
    obtain ⟨s1, s2, heq⟩ := hTk.ty K hK
    refine ⟨kt, et, hd, fun x h cs em w hx => checkKey_run q1 hik hdk (by omega) (by rw [hak, s2]) hx em w, fun x y h cs ds w hx hy => (heq hp x y h cs ds w (.const .nilFunc) (.const .nilFunc) .eql hx hy).2, ⟨dk, hdk⟩, ?_⟩
    intro z hz0 hz
    obtain ⟨ie, hie, hse, _, hzz⟩ := hTe.info
    obtain ⟨zv, e1, cs, e2, e3, e4⟩ := hzz hz0
    obtain ⟨de, hde, hae, _⟩ := hTe.und
    obtain ⟨v1, v2, _⟩ := hTe.ty V hV
    refine ⟨zv, fun w => by simp [zeroValue, run_typeInfo_of hie, e1], fun h => ?_⟩
    have hrep : rep h V z cs := implode_all (N := ⟨fun _ => 0, fun _ => .nilFunc⟩) hz (e3 _ h)
    refine ⟨cs, hrep, ?_⟩
    unfold zeroMB at q2
    rw [hie, hde] at q2
    simp only [e1] at q2
    cases hva : V.isAgg with
    | true =>
      rw [val_agg hva]
      have hde' : aggDesc de = true := by rw [hae, ← v2]; exact hva
      rw [hde'] at q2
      split at q2
      · rename_i c hc
        injection hc with hc
        rw [hc]
        rw [hc] at e2
        simp only [Value.cells] at e2
        rw [e2]
      · cases q2
      · rename_i hc; cases hc
    | false =>
      have hde' : aggDesc de = false := by rw [hae, ← v2]; exact hva
      rw [hde'] at q2
      obtain ⟨g1, g2⟩ := val_one V z cs hrep hva
      split at q2
      · cases q2
      · rename_i c hc hne
        injection hne with hne
        subst hne
        have : zv.cells = #[zv] := by cases zv <;> first | rfl | exact absurd rfl (hc _)
        rw [this] at e2
        have e5 : cs = [zv] := by
          have := congrArg Array.toList e2
          simpa using this.symm
        rw [g1] at e5
        injection e5 with e5
        exact e5.symm
      · rename_i hc; cases hc

/-! ### Keys are found -/
theorem sameNow_plain {K : Ty} (kd : TypeDesc) {x y : K.den} {cs ds : List Value} (hx : rep h K x cs) (hy : rep h K y ds) : Instr.sameNow kd (K.val cs) (K.val ds) = none ∨ Instr.sameNow kd (K.val cs) (K.val ds) = some (K.beq x y) := by
  cases K with
  | bool =>
    simp only [rep] at hx hy; subst hx hy
    cases kd <;> first | (left; rfl) | (right; rfl)
  | int k =>
    simp only [rep] at hx hy; subst hx hy
    cases kd <;> first | (left; rfl) | (right; simp [Ty.val, Instr.sameNow, Ty.beq]; done)
  | str =>
    simp only [rep] at hx hy; subst hx hy
    cases kd <;> first | (left; rfl) | (right; rfl)
  | unit => left; cases kd <;> rfl
  | pair _ _ => left; cases kd <;> rfl
  | sl _ =>
    obtain ⟨A, c, rfl, _⟩ := hx
    left; cases kd <;> rfl
  | opt _ =>
    left
    rcases hx with ⟨_, rfl⟩ | ⟨_, _, _, _, rfl, _⟩ <;> cases kd <;> rfl
  | mp _ _ =>
    left
    rcases hx with ⟨_, rfl⟩ | ⟨_, _, _, rfl, _⟩ <;> cases kd <;> rfl
  | nd _ _ _ _ =>
    left
    simp only [rep] at hx
    cases hx <;> cases kd <;> rfl

/-- Where a key is. -/
def lookI (K V : Ty) (key : K.den) : List (K.den × V.den × Unit) → List MapEntry → Nat → Option (Nat × Value)
  | x :: xs, e :: es, i => bif K.beq key x.1 then some (i, e.val) else lookI K V key xs es (i + 1)
  | _, _, _ => none

theorem findNow_look {K V : Ty} {key : K.den} {ck : List Value} (hk : rep h K key ck) (kd : TypeDesc) : (xs : List (K.den × V.den × Unit)) → (es : List MapEntry) → MapRep h K V xs es → ∀ i,
    Instr.findNow kd (K.val ck) es i = none ∨ Instr.findNow kd (K.val ck) es i = some (lookI K V key xs es i)
  | [], es, e, i => by simp only [MapRep] at e; subst e; exact .inr rfl
  | x :: xs, _, ⟨e, r, rfl, ⟨cs, h1, h2⟩, _, h3⟩, i => by
    have hs := sameNow_plain kd hk h1
    rw [← h2] at hs
    unfold Instr.findNow
    rcases hs with hs | hs
    · rw [hs]; exact .inl rfl
    · rw [hs]
      unfold lookI
      cases K.beq key x.1 with
      | true => exact .inr rfl
      | false => exact findNow_look hk kd xs r h3 (i + 1)
theorem findAsking_look {kt : TypeId} {K V : Ty} (heq : ∀ x y h cs ds w, rep h K x cs → rep h K y ds → (Op.equal kt (K.val cs) (K.val ds)).run P w = .ok (K.beq x y) w) {key : K.den} {ck : List Value} (hk : rep h K key ck) :
    (xs : List (K.den × V.den × Unit)) → (es : List MapEntry) → MapRep h K V xs es → ∀ i, (Instr.findAsking kt (K.val ck) es i).run P w = .ok (lookI K V key xs es i) w
  | [], es, e, i => by simp only [MapRep] at e; subst e; rfl
  | x :: xs, _, ⟨e, r, rfl, ⟨cs, h1, h2⟩, _, h3⟩, i => by
    have hq := heq key x.1 h ck cs w hk h1
    rw [← h2] at hq
    unfold Instr.findAsking
    simp only [Sem.run_bind, hq, Result.andThen_ok]
    unfold lookI
    cases K.beq key x.1 with
    | true => rfl
    | false => simpa using findAsking_look heq hk xs r h3 (i + 1)
theorem findKey_look {kt : TypeId} {d : TypeDesc} (hd : P.underlying kt = some d) {K V : Ty} (heq : ∀ x y h cs ds w, rep h K x cs → rep h K y ds → (Op.equal kt (K.val cs) (K.val ds)).run P w = .ok (K.beq x y) w) {key : K.den} {ck : List Value} (hk : rep h K key ck)
    {xs : List (K.den × V.den × Unit)} {es : List MapEntry} (hm : MapRep h K V xs es) : (Instr.findKey kt (K.val ck) es).run P w = .ok (lookI K V key xs es 0) w := by
  unfold Instr.findKey
  simp only [Sem.run_bind, run_underlying hd, Result.andThen_ok]
  rcases findNow_look (V := V) hk d xs es hm 0 with e | e
  · rw [e]; exact findAsking_look heq hk xs es hm 0
  · rw [e]; rfl

theorem lookI_get {K V : Ty} {key : K.den} : (xs : List (K.den × V.den × Unit)) → (es : List MapEntry) → MapRep h K V xs es → ∀ i,
    (lookI K V key xs es i = none ∧ mget K V key xs = none) ∨ ∃ j v y, lookI K V key xs es i = some (i + j, v) ∧ mget K V key xs = some y ∧ vrep h V y v ∧ j < es.length ∧ MapRep h K V (mdel K V key xs) (es.eraseIdx j)
  | [], es, e, i => .inl ⟨by unfold lookI; cases es <;> rfl, rfl⟩
  | x :: xs, _, ⟨e, r, rfl, h1, h2, h3⟩, i => by
    unfold lookI mget mdel
    cases hb : K.beq key x.1 with
    | true => exact .inr ⟨0, e.val, x.2.1, rfl, rfl, h2, by simp, by simpa using h3⟩
    | false =>
      simp only [cond_false]
      rcases lookI_get xs r h3 (i + 1) with ⟨g1, g2⟩ | ⟨j, v, y, g1, g2, g3, g4, g5⟩
      · exact .inl ⟨g1, g2⟩
      · exact .inr ⟨j + 1, v, y, by rw [g1]; congr 2; omega, g2, g3, by simpa using g4, ⟨e, _, by simp, h1, h2, g5⟩⟩
theorem mdel_none {K V : Ty} {key : K.den} : (xs : List (K.den × V.den × Unit)) → mget K V key xs = none → mdel K V key xs = xs
  | [], _ => rfl
  | x :: xs, e => by
    unfold mget at e
    unfold mdel
    cases hb : K.beq key x.1 with
    | true => rw [hb] at e; cases e
    | false =>
      rw [hb] at e
      simp only [cond_false] at e ⊢
      rw [mdel_none xs e]
theorem MapRep.snoc {K V : Ty} {y : K.den} {z : V.den} {m : MapEntry} (h1 : vrep h K y m.key) (h2 : vrep h V z m.val) : (xs : List (K.den × V.den × Unit)) → (es : List MapEntry) → MapRep h K V xs es → MapRep h K V (xs ++ [(y, z, ())]) (es ++ [m])
  | [], es, e => by simp only [MapRep] at e; subst e; exact ⟨m, [], rfl, h1, h2, rfl⟩
  | x :: xs, _, ⟨e, r, rfl, g1, g2, g3⟩ => ⟨e, r ++ [m], rfl, g1, g2, MapRep.snoc h1 h2 xs r g3⟩

/-! ### The operations -/
theorem mapAtK_some {bs : Blks} {m : SV} {T : Ty} {k : Nat → TypeId → List T.den → Prop} (e : mapAtK bs m T k) : ∃ i bt cs xs, m = .leaf (.mref i) ∧ getB bs i = some ⟨bt, cs, some .map⟩ ∧ implode (.sl T) cs = some (xs, []) ∧ k i bt xs := by
  unfold mapAtK at e
  split at e
  · rename_i i
    split at e
    · rename_i bt cs hb
      rw [implodeK_eq] at e
      split at e
      · rename_i xs r hx
        split at e
        · exact ⟨i, bt, cs, xs, rfl, hb, hx, e⟩
        · exact e.elim
      · exact e.elim
    · exact e.elim
  · exact e.elim
theorem map_cells {K V K' V' : Ty} {xs : List (K.den × V.den × Unit)} {xs' : List (Ty.den (.pair K' (.pair V' .unit)))} (e : implode (mapT K' V') [.tv (mapT K V) xs] = some (xs', [])) : ∃ (h1 : K = K') (h2 : V = V'), xs' = h1 ▸ h2 ▸ xs := by
  simp only [implode, popSl] at e
  split at e
  · rename_i ht
    injection ht with h1 h2
    injection h2 with h2 h3
    subst h1 h2
    injection e with e
    injection e with e _
    exact ⟨rfl, rfl, e.symm⟩
  · cases e

/-- A map of the call's own, as it lies. -/
theorem mapAt_lies {bs : Blks} {rs : Rows} (hM : MemSat B w0 bs rs N h w) {i : Nat} {bt : TypeId} {cs : List Leaf} {K V : Ty} {xs : List (Ty.den (.pair K (.pair V .unit)))} (hb : getB bs i = some ⟨bt, cs, some .map⟩) (hx : implode (mapT K V) cs = some (xs, [])) :
    ∃ es cl, w.heap[N.ρ i]? = some (.map es cl) ∧ MapRep h K V xs es.toList := by
  obtain ⟨o, q1, q2, _⟩ := hM.blk i _ hb
  obtain ⟨K', V', xs', es, cl, rfl, rfl, q3⟩ := BlkSat.map.1 q2
  obtain ⟨rfl, rfl, rfl⟩ := map_cells hx
  exact ⟨es, cl, q1, q3⟩

theorem getObj_map {r : Nat} {es : Array MapEntry} {cl : Nat} (hb : w.heap[r]? = some (.map es cl)) : (getObj r).run P w = .ok (.map es cl) w := by
  simp [getObj, Sem.run, hb]
theorem setObj_map {r : Nat} {es : Array MapEntry} {cl : Nat} (o : Obj) (hb : w.heap[r]? = some (.map es cl)) : (setObj r o).run P w = .ok () { w with heap := w.heap.setIfInBounds r o } := by
  simp [setObj, Sem.run, hb]

/-- A map is turned. -/
theorem MemSat.turnMap {bs : Blks} {rs : Rows} (hM : MemSat B w0 bs rs N h w) {i : Nat} {bt : TypeId} {cs : List Leaf} (hb : getB bs i = some ⟨bt, cs, some .map⟩) {K V : Ty} {xs : List (Ty.den (.pair K (.pair V .unit)))} {es : Array MapEntry} {cl : Nat} (hr : MapRep h K V xs es.toList) :
    MemSat B w0 (setB bs i ⟨bt, [.tv (mapT K V) xs], some .map⟩) rs N h ({ w with heap := w.heap.setIfInBounds (N.ρ i) (.map es cl) } : World) := by
  obtain ⟨o0, q1, q2, q3, q4⟩ := hM.blk i _ hb
  have hother : ∀ k, k ≠ N.ρ i → ({ w with heap := w.heap.setIfInBounds (N.ρ i) (.map es cl) } : World).heap[k]? = w.heap[k]? := fun k hk => by
    simp [Array.getElem?_setIfInBounds, Ne.symm hk]
  refine hM.turnBlock hb (hM.below.trans ⟨rfl, rfl, rfl, by simp, fun k hk => hother k (by omega), Nat.le_refl _⟩) (by simp) hother (o := .map es cl) ?_ (BlkSat.map.2 ⟨K, V, xs, es, cl, rfl, rfl, hr⟩)
  simp [lt_of_heap q1]

/-- A map, as it lies. -/
theorem mapVal_lies {bs : Blks} {rs : Rows} (hM : MemSat B w0 bs rs N h w) {m : SV} {vm : Value} (hm : m.rel N h vm) {K V : Ty} {k : List (K.den × V.den × Unit) → Prop} (e : mapValK bs m K V k) :
    ∃ xs, k xs ∧ ((vm = .map none ∧ xs = []) ∨ ∃ g es cl, vm = .map (some g) ∧ w.heap[g]? = some (.map es cl) ∧ MapRep h K V xs es.toList) := by
  unfold mapValK at e
  split at e
  · obtain ⟨i, bt, cs, xs, q, hb, hx, e⟩ := mapAtK_some e
    obtain ⟨es, cl, g1, g2⟩ := mapAt_lies hM hb hx
    injection q with q
    injection q with q
    subst q
    simp only [SV.rel, Leaf.rel] at hm
    exact ⟨xs, e, .inr ⟨_, es, cl, hm, g1, g2⟩⟩
  · rename_i l _
    rw [implodeK_eq] at e
    split at e
    · rename_i xs r hx
      split at e
      · obtain ⟨c1, c2, g1, g2, g3⟩ := implode_rel _ _ _ _ hx [vm] (LeafRels.cons (SV.leaf_iff.1 hm) (LeafRels.nil N h))
        rw [LeafRels.nil_iff] at g3
        subst g3
        rw [List.append_nil] at g1
        subst g1
        rcases mp_rep.1 g2 with ⟨q1, q2⟩ | ⟨g, es, cl, q1, q2, q3⟩
        · injection q2 with q2
          exact ⟨xs, e, .inl ⟨q2, q1⟩⟩
        · injection q1 with q1
          exact ⟨xs, e, .inr ⟨g, es, cl, q1, hM.pin _ _ q2, q3⟩⟩
      · exact e.elim
    · exact e.elim
  · exact e.elim

theorem mapLook_sound (hE : EnvOk P E) {σ : St} (hS : Sat B w0 h0 b u n σ N h a w) {t : TypeId} {m key : SV} {vm vk : Value} (hm : m.rel N h vm) (hk : key.rel N h vk) {k : SV → Prop} (e : mapLookK E σ.blks t m key k) :
    ∃ s v, (Instr.lookup t vm vk true).run P w = .ok v w ∧ s.rel N h v ∧ k s := by
  unfold mapLookK at e
  obtain ⟨ei, K, V, hI, e⟩ := mapKV_some hE e
  obtain ⟨xs, e, hlie⟩ := mapVal_lies hS.mem hm e
  rw [argValK_eq] at e
  split at e
  rotate_left
  · exact e.elim
  rename_i y hy
  rw [implodeK_eq] at e
  split at e
  rotate_left
  · exact e.elim
  rename_i z r hz
  split at e
  rotate_left
  · exact e.elim
  cases hzl : Nat.beq ei.zero.length ei.size with
  | false => rw [hzl] at e; exact e.elim
  | true =>
    rw [hzl] at e
    simp only [cond_true] at e
    obtain ⟨⟨kt, et, u1, u2, u3, ⟨d, u4⟩, u5⟩, hp⟩ := hI
    obtain ⟨ck, hck, rfl⟩ := argVal_rel hy hk
    obtain ⟨zv, z1, z2⟩ := u5 z (Nat.eq_of_beq_eq_true hzl) hz
    rcases hlie with ⟨rfl, rfl⟩ | ⟨g, es, cl, rfl, g1, g2⟩
    · refine ⟨_, .tuple #[zv, .bool false], ?_, ?_, e⟩
      · have hfind := findKey_look (P := P) (w := w) (V := V) (xs := []) (es := []) u4 u3 hck (by simp only [MapRep])
        simp only [Instr.lookup, Sem.run_bind, run_underlying u1, Result.andThen_ok, Sem.run_pure, u2 y h ck _ w hck, show (#[] : Array MapEntry).toList = [] from rfl, hfind, lookI, z1, if_true]
      · exact ⟨[zv, .bool false], rfl, zv, [.bool false], rfl, z2 h, .bool false, [], rfl, ⟨[.bool false], rfl, rfl⟩, rfl⟩
    have hfind := findKey_look (P := P) (w := w) u4 u3 hck g2
    rcases lookI_get (key := y) xs es.toList g2 0 with ⟨l1, l2⟩ | ⟨j, v, yv, l1, l2, l3, l4, _⟩
    · refine ⟨_, .tuple #[zv, .bool false], ?_, ?_, e⟩
      · simp only [Instr.lookup, Sem.run_bind, run_underlying u1, getObj_map g1, Result.andThen_ok, Sem.run_pure, u2 y h ck _ w hck, hfind, l1, z1, if_true]
      · rw [l2]
        exact ⟨[zv, .bool false], rfl, zv, [.bool false], rfl, z2 h, .bool false, [], rfl, ⟨[.bool false], rfl, rfl⟩, rfl⟩
    · refine ⟨_, .tuple #[v, .bool true], ?_, ?_, e⟩
      · simp only [Instr.lookup, Sem.run_bind, run_underlying u1, getObj_map g1, Result.andThen_ok, Sem.run_pure, u2 y h ck _ w hck, hfind, l1, if_true]
      · rw [l2]
        exact ⟨[v, .bool true], rfl, v, [.bool true], rfl, l3, .bool true, [], rfl, ⟨[.bool true], rfl, rfl⟩, rfl⟩

theorem mapPut_sound (hE : EnvOk P E) {σ : St} (hS : Sat B w0 h0 b u n σ N h a w) {t : TypeId} {m key v : SV} {vm vk vv : Value} (hm : m.rel N h vm) (hk : key.rel N h vk) (hv : v.rel N h vv) {k : St → Prop} (e : mapPutK E σ.slots σ.blks σ.rows t m key v k) :
    ∃ σ' w', (Instr.mapUpdate t vm vk vv).run P w = .ok () w' ∧ k σ' ∧ Sat B w0 h0 b u n σ' N h a w' := by
  unfold mapPutK at e
  obtain ⟨ei, K, V, hI, e⟩ := mapKV_some hE e
  obtain ⟨i, bt, cs, xs, rfl, hb, hx, e⟩ := mapAtK_some e
  rw [argValK_eq] at e
  split at e
  rotate_left
  · exact e.elim
  rename_i y hy
  rw [argValK_eq] at e
  split at e
  rotate_left
  · exact e.elim
  rename_i z hz
  obtain ⟨hnone, e⟩ := e
  rw [setBK_eq] at e
  obtain ⟨es, cl, g1, g2⟩ := mapAt_lies hS.mem hb hx
  obtain ⟨⟨kt, et, u1, u2, u3, ⟨d, u4⟩, u5⟩, hp⟩ := hI
  obtain ⟨ck, hck, rfl⟩ := argVal_rel hy hk
  have hvz := argVal_rel hz hv
  simp only [SV.rel, Leaf.rel] at hm
  subst hm
  have hfind := findKey_look (P := P) (w := w) u4 u3 hck g2
  have l1 : lookI K V y xs es.toList 0 = none := by
    rcases lookI_get (key := y) xs es.toList g2 0 with ⟨l1, _⟩ | ⟨j, v, yv, _, l2, _⟩
    · exact l1
    · rw [hnone] at l2; cases l2
  refine ⟨_, { w with heap := w.heap.setIfInBounds (N.ρ i) (.map (es.push { key := K.val ck, val := vv, born := cl }) (cl + 1)) }, ?_, e, ?_⟩
  · simp only [Instr.mapUpdate, Sem.run_bind, run_underlying u1, getObj_map g1, Result.andThen_ok, Sem.run_pure, u2 y h ck _ w hck, hfind, l1, setObj_map _ g1]
  · refine ⟨hS.mem.turnMap hb ?_, hS.grow, fun k hk => ?_, hS.slots, hS.size, hS.defers⟩
    · simp only [Array.toList_push]
      exact MapRep.snoc ⟨ck, hck, rfl⟩ hvz xs es.toList g2
    · have := hS.dom k hk
      simpa using this

theorem mapDel_sound (hE : EnvOk P E) {σ : St} (hS : Sat B w0 h0 b u n σ N h a w) {t t' : TypeId} {ts : List TypeId} {m key : SV} {vm vk : Value} (hm : m.rel N h vm) (hk : key.rel N h vk) {k : St → Prop} (e : mapDelK E σ.slots σ.blks σ.rows t m key k) :
    ∃ σ' w', (Builtin.delete_ (t :: ts).toArray t' #[vm, vk]).run P w = .ok (.tuple #[]) w' ∧ k σ' ∧ Sat B w0 h0 b u n σ' N h a w' := by
  unfold mapDelK at e
  obtain ⟨ei, K, V, hI, e⟩ := mapKV_some hE e
  obtain ⟨i, bt, cs, xs, rfl, hb, hx, e⟩ := mapAtK_some e
  rw [argValK_eq] at e
  split at e
  rotate_left
  · exact e.elim
  rename_i y hy
  rw [setBK_eq] at e
  obtain ⟨es, cl, g1, g2⟩ := mapAt_lies hS.mem hb hx
  obtain ⟨⟨kt, et, u1, u2, u3, ⟨d, u4⟩, u5⟩, hp⟩ := hI
  obtain ⟨ck, hck, rfl⟩ := argVal_rel hy hk
  simp only [SV.rel, Leaf.rel] at hm
  subst hm
  have hfind := findKey_look (P := P) (w := w) u4 u3 hck g2
  rcases lookI_get (key := y) xs es.toList g2 0 with ⟨l1, l2⟩ | ⟨j, v, yv, l1, l2, _, l4, l5⟩
  · refine ⟨_, { w with heap := w.heap.setIfInBounds (N.ρ i) (.map es cl) }, ?_, e, ?_⟩
    · simp [Builtin.delete_, run_underlying u1, getObj_map g1, u2 y h ck _ w hck, hfind, l1, setObj_map _ g1]
    · refine ⟨hS.mem.turnMap hb ?_, hS.grow, fun k hk => by simpa using hS.dom k hk, hS.slots, hS.size, hS.defers⟩
      rw [mdel_none xs l2]
      exact g2
  · rw [Nat.zero_add] at l1
    refine ⟨_, { w with heap := w.heap.setIfInBounds (N.ρ i) (.map (es.eraseIdxIfInBounds j) cl) }, ?_, e, ?_⟩
    · simp [Builtin.delete_, run_underlying u1, getObj_map g1, u2 y h ck _ w hck, hfind, l1, setObj_map _ g1]
    · refine ⟨hS.mem.turnMap hb ?_, hS.grow, fun k hk => by simpa using hS.dom k hk, hS.slots, hS.size, hS.defers⟩
      have : (es.eraseIdxIfInBounds j).toList = es.toList.eraseIdx j := by
        have hj : j < es.size := by simpa using l4
        simp [Array.eraseIdxIfInBounds, hj]
      rw [this]
      exact l5

/-- A new map. -/
theorem newMap_sound {σ : St} (hS : Sat B w0 h0 b u n σ N h a w) {d : Nat} (hd : d < n) {q : Nat} {t : TypeId} {K V : Ty} {k : St → Prop} (e : newMapK σ.slots σ.blks σ.rows (b + d) q t K V k) :
    ∃ σ' N', k σ' ∧ Sat B w0 h0 b u n σ' N' h (a.put (some d) (.map (some w.heap.size))) (w.alloc (.map #[] 0)) := by
  have fin : ∀ q, usedB σ.slots σ.blks q = false → mkMapK σ.slots σ.blks σ.rows (b + d) q t K V k → ∃ σ' N', k σ' ∧ Sat B w0 h0 b u n σ' N' h (a.put (some d) (.map (some w.heap.size))) (w.alloc (.map #[] 0)) := by
    intro q hn e
    unfold mkMapK at e
    unfold usedB at hn
    simp only [Bool.or_eq_false_iff] at hn
    refine ⟨_, N.setB q w.heap.size, e, hS.mem.newB (b := ⟨t, [.tv (mapT K V) []], some .map⟩) (BlkSat.map.2 ⟨K, V, [], #[], 0, rfl, rfl, rfl⟩) hn.2, hS.grow, hS.dom, ?_, by rw [size_put]; exact hS.size, by rw [defers_put]; exact hS.defers⟩
    refine SlotSat.put (N := N.setB q w.heap.size) (fun t' => ?_) (by rw [hS.size]; exact hd) (by simp [SV.rel, Leaf.rel, Names.setB])
    refine SV.rel_names _ (hS.slots t') (fun i hi => ?_) (fun i _ => rfl)
    simp only [Names.setB]
    rw [if_neg]
    intro e
    subst e
    have := anySlots_false hn.1 t' hi
    cases this
  unfold newMapK at e
  cases h1 : usedB σ.slots σ.blks (b + d) with
  | false => rw [h1] at e; exact fin _ h1 e
  | true =>
    rw [h1] at e
    simp only [cond_true] at e
    cases h2 : usedB σ.slots σ.blks q with
    | false => rw [h2] at e; exact fin _ h2 e
    | true => rw [h2] at e; exact e.elim
end
end Go.Fr
