/-
  Structured code; functions. Conditions: none.
-/
import Derived.Test.YtepnpmaoodljkaaDoorFrS2
namespace Go.Fr
open Go Go.RowKit
universe u

theorem opsBd_get {n : Nat} : {l : List Oper} → opsBd n l = true → ∀ o ∈ l, ∀ t, o.dst = some t → t < n
  | [], _, o, ho, _, _ => by cases ho
  | x :: r, e, o, ho, t, ht => by
    simp only [opsBd, Bool.and_eq_true] at e
    rcases List.mem_cons.1 ho with h | h
    · subst h
      rw [ht] at e
      exact Nat.le_of_ble_eq_true e.1
    · exact opsBd_get e.2 o h t ht

/-- A loop by its relation, the measure off what the relation names. -/
theorem wp_loop_rel {P : Program} {Q : Exit → Act → World → Prop} {X : Type} {c : Code} (I : X → Act → World → Prop) (μ : X → Nat) {x0 : X} {a : Act} {w : World} (hi : I x0 a w)
    (round : ∀ x a w, I x a w → c.wp P (Exit.then (fun a' w' => ∃ y, I y a' w' ∧ μ y < μ x) Q) a w) : (Code.loop c).wp P Q a w := by
  intro b k cs
  have key : ∀ m x a w, μ x = m → I x a w → ∃ e a' w', Q e a' w' ∧ Arrives P (lone (b.at a (.code c :: .inLoop c :: k)) cs w) b k cs e a' w' := by
    intro m
    induction m using Nat.strongRecOn with
    | _ m ih =>
      intro x a w hm hI
      obtain ⟨e, a₁, w₁, hq, harr⟩ := round x a w hI b (.inLoop c :: k) cs
      cases e with
      | normal =>
        obtain ⟨y, hI₁, hlt⟩ := hq
        obtain ⟨e₂, a₂, w₂, hq₂, harr₂⟩ := ih (μ y) (hm ▸ hlt) y a₁ w₁ rfl hI₁
        exact ⟨e₂, a₂, w₂, hq₂, .of_steps (Steps.trans harr (.one step_inLoop)) harr₂⟩
      | exit id => exact ⟨_, a₁, w₁, hq, .pass (x := .inLoop c) rfl (fun _ _ => .inl (by simp)) harr⟩
      | goto l => exact ⟨_, a₁, w₁, hq, .pass (x := .inLoop c) rfl (fun _ _ => .inl (by simp)) harr⟩
      | ret => exact ⟨_, a₁, w₁, hq, .pass (x := .inLoop c) rfl (fun _ _ => .inl (by simp)) harr⟩
      | panic ch => exact ⟨_, a₁, w₁, hq, .pass (x := .inLoop c) rfl (fun _ _ => .inl (by simp)) harr⟩
      | outgrown => exact ⟨_, a₁, w₁, hq, .pass (x := .inLoop c) rfl (fun _ _ => .inl (by simp)) harr⟩
  obtain ⟨e, a', w', hq, harr⟩ := key _ x0 a w rfl hi
  exact ⟨e, a', w', hq, .of_steps (.one step_loop) harr⟩

def Ex.to : Ex → Exit
  | .normal => .normal
  | .exit i => .exit i
  | .ret => .ret

section
variable {P : Program} {E : Env} {B : Nat} {w0 : World} {h0 : PHeap} {b : Nat} {u : Nat → Value} {n : Nat}

def Posts (B : Nat) (w0 : World) (h0 : PHeap) (b : Nat) (u : Nat → Value) (n : Nat) (Q : Ex → St → Prop) (Q' : Exit → Act → World → Prop) : Prop :=
  ∀ e σ N h a w, Q e σ → Sat B w0 h0 b u n σ N h a w → Q' e.to a w

theorem vc_sound (hE : EnvOk P E) (hm : P.follows .mixedOrders = true) {J : Inliner} (hJ : InlSound P E J) (hG : GlobOk E.gl h0) {top : Nat} : (c : Code) → codeBd n c = true → ∀ (σ : St) (Q : Ex → St → Prop) (Q' : Exit → Act → World → Prop) (N : Names) (h : PHeap) (a : Act) (w : World),
    vc E J b top c σ Q → Sat B w0 h0 b u n σ N h a w → Posts B w0 h0 b u n Q Q' → c.wp P Q' a w
  | .skip, _, σ, Q, Q', N, h, a, w, e, hS, hQ => wp_skip (hQ .normal σ N h a w e hS)
  | .ret, _, σ, Q, Q', N, h, a, w, e, hS, hQ => wp_ret (hQ .ret σ N h a w e hS)
  | .exit id, _, σ, Q, Q', N, h, a, w, e, hS, hQ => wp_exit (hQ (.exit id) σ N h a w e hS)
  | .seq x y, hb, σ, Q, Q', N, h, a, w, e, hS, hQ => by
    simp only [codeBd, Bool.and_eq_true] at hb
    simp only [vc] at e
    refine wp_seq (vc_sound hE hm hJ hG x hb.1 σ _ _ N h a w e hS ?_)
    intro ex σ' N' h' a' w' he hS'
    cases ex with
    | normal => exact vc_sound hE hm hJ hG y hb.2 σ' Q Q' N' h' a' w' he hS' hQ
    | exit i => exact hQ (.exit i) σ' N' h' a' w' he hS'
    | ret => exact hQ .ret σ' N' h' a' w' he hS'
  | .cond c x y, hb, σ, Q, Q', N, h, a, w, e, hS, hQ => by
    simp only [codeBd, Bool.and_eq_true] at hb
    simp only [vc] at e
    have hc := evO_rel hS.slots c
    split at e
    · rename_i t hbb
      rw [hbb] at hc
      have hc : a.eval c = .bool t := by simpa only [SV.rel, Leaf.rel] using hc
      cases t with
      | true => exact wp_cond_true hc (vc_sound hE hm hJ hG x hb.1 σ Q Q' N h a w e hS hQ)
      | false => exact wp_cond_false hc (vc_sound hE hm hJ hG y hb.2 σ Q Q' N h a w e hS hQ)
    · rename_i t hbb
      rw [hbb] at hc
      have hc : a.eval c = .bool t := by
        obtain ⟨cs, q1, q2⟩ := SV.tv_iff.1 hc
        simp only [rep] at q1
        subst q1
        exact q2
      exact wp_cond_split hc (fun ht => vc_sound hE hm hJ hG x hb.1 σ Q Q' N h a w (e.1 ht) hS hQ) (fun hf => vc_sound hE hm hJ hG y hb.2 σ Q Q' N h a w (e.2 hf) hS hQ)
    · exact e.elim
  | .block id x, hb, σ, Q, Q', N, h, a, w, e, hS, hQ => by
    simp only [codeBd] at hb
    simp only [vc] at e
    refine wp_block (vc_sound hE hm hJ hG x hb σ _ _ N h a w e hS ?_)
    intro ex σ' N' h' a' w' he hS'
    cases ex with
    | normal => exact hQ .normal σ' N' h' a' w' he hS'
    | exit i =>
      simp only at he
      split at he
      · rename_i hi
        have := Nat.eq_of_beq_eq_true hi
        subst this
        simp only [Ex.to, Exit.inBlock, if_true]
        exact hQ .normal σ' N' h' a' w' he hS'
      · rename_i hi
        have := Nat.ne_of_beq_eq_false hi
        simp only [Ex.to, Exit.inBlock, if_neg this]
        exact hQ (.exit i) σ' N' h' a' w' he hS'
    | ret => exact hQ .ret σ' N' h' a' w' he hS'
  | .loop x, hb, σ, Q, Q', N, h, a, w, e, hS, hQ => by
    simp only [codeBd] at hb
    simp only [vc] at e
    split at e
    · exact e.elim
    rename_i hh _
    split at e
    · rename_i m _
      refine wp_loop_rel (X := Nat) (fun m a w => ∃ σ N h, rounds (fun σ Q => vc E J b top x σ Q) m σ Q ∧ Sat B w0 h0 b u n σ N h a w) id (x0 := m + 1) ⟨σ, N, h, e, hS⟩ ?_
      rintro m a1 w1 ⟨σ1, N1, h1, e1, hS1⟩
      cases m with
      | zero => exact e1.elim
      | succ m =>
        refine vc_sound hE hm hJ hG x hb σ1 _ _ N1 h1 a1 w1 e1 hS1 ?_
        intro ex σ' N' h' a' w' he hS'
        cases ex with
        | normal => exact ⟨m, ⟨σ', N', h', he, hS'⟩, Nat.lt_succ_self m⟩
        | exit i => exact hQ (.exit i) σ' N' h' a' w' he hS'
        | ret => exact hQ .ret σ' N' h' a' w' he hS'
    · obtain ⟨x0, hent, Z, μ, hj, hround⟩ := exV_get hh.vars e
      obtain ⟨N0, hS0⟩ := entH_sat hS hent
      refine wp_loop_rel (fun x a w => Z x ∧ ∃ N h, Sat B w0 h0 b u n (atHead hh σ x) N h a w) μ (x0 := x0) ⟨hj, N0, h, hS0⟩ ?_
      rintro z a1 w1 ⟨hjx, N1, h1, hS1⟩
      have hr := allV_all hh.vars hround z hjx
      rw [fSt_eq] at hr
      refine vc_sound hE hm hJ hG x hb (atHead hh σ z) _ _ N1 h1 a1 w1 hr hS1 ?_
      intro ex σ' N' h' a' w' he hS'
      cases ex with
      | normal =>
        obtain ⟨y, hey, hjy, hlt⟩ := exV_get hh.vars he
        obtain ⟨N2, hS2⟩ := entH_sat hS' hey
        exact ⟨y, ⟨hjy, N2, h', hS2⟩, hlt⟩
      | exit i => exact hQ (.exit i) σ' N' h' a' w' he hS'
      | ret => exact hQ .ret σ' N' h' a' w' he hS'
  | .region id ops draw, hb, σ, Q, Q', N, h, a, w, e, hS, hQ => by
    simp only [codeBd] at hb
    simp only [vc] at e
    cases draw with
    | false =>
      simp only at e
      simp only [Bool.and_eq_true] at hb
      obtain ⟨σ1, h1, e1, hS1⟩ := freezeK_sound hS e
      have := execOps_sound (b := b) (u := u) (n := n) hE hJ hG ops (Q := Q') (k := Q .normal) (opsBd_get hb.1) (fun σ' N' h' a' w' hk hS' => hQ .normal σ' N' h' a' w' hk hS') ops.toList 0 σ1 N h1 a w rfl e1 hS1
      refine wp_region ?_
      rw [List.range_eq_range', ← Array.length_toList]
      exact this
    | true =>
      simp only at e
      simp only [Bool.and_eq_true] at hb
      split at e
      rotate_left
      · obtain ⟨σ1, h1, e1, hS1⟩ := freezeK_sound hS e
        exact execA_sound hE hJ hG hm ops id hb.2 (opsBd_get hb.1) (fun σ' N' h' a' w' hk hS' => hQ .normal σ' N' h' a' w' hk hS') e1 hS1
      obtain ⟨σ1, h1, e1, hS1⟩ := freezeK_sound hS e
      exact execM_sound hE hG hm ops id hb.2 (opsBd_get hb.1) (fun σ' N' h' a' w' hk hS' => hQ .normal σ' N' h' a' w' hk hS') e1 hS1
  | .rangeFunc .., _, _, _, _, _, _, _, _, e, _, _ => e.elim
  | .scope _, _, _, _, _, _, _, _, _, e, _, _ => e.elim
  | .label _, _, _, _, _, _, _, _, _, e, _, _ => e.elim
  | .goto _, _, _, _, _, _, _, _, _, e, _, _ => e.elim
  | .refuse _, _, _, _, _, _, _, _, _, e, _, _ => e.elim
end
end Go.Fr
