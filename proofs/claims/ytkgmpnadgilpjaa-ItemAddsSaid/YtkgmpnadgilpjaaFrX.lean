/-
  A loop, told by what turns in it. Conditions: none.
-/
import Derived.Test.YtkgmpnadgilpjaaFrW
namespace Go.Fr
open Go Go.RowKit

def Leaf.stays : Leaf → Bool
  | .any | .undef | .eptr .. | .rptr .. => false
  | _ => true
def Leaf.clean : Leaf → Leaf
  | .undef | .eptr .. | .rptr .. => .any
  | l => l
def cleanLs (ls : List Leaf) : List Leaf := bif ls.all Leaf.stays then ls else ls.map Leaf.clean
def cleanBs : Blks → Blks
  | [] => []
  | (k, b) :: r => (k, ⟨b.ty, cleanLs b.cells⟩) :: cleanBs r
def keepS : List Nat → Slots → Slots
  | _, [] => []
  | ks, (t, s) :: r => bif anyNat ks t then keepS ks r else match s with
    | .leaf l => bif l.stays then (t, .leaf l) :: keepS (t :: ks) r else keepS (t :: ks) r
    | .agg ls => (t, .agg (cleanLs ls)) :: keepS (t :: ks) r
    | .tupv _ _ => keepS (t :: ks) r
def keepR : List Nat → Rows → Rows
  | _, [] => []
  | ks, (t, s) :: r => bif anyNat ks t then keepR ks r else (t, s) :: keepR ks r
def setBs : Blks → Blks → Blks
  | bs, [] => bs
  | bs, (i, c) :: r => setBs (setB bs i c) r
def St.up (σ : St) (ss : Slots) (bb : Blks) (rr : Rows) : St :=
  ⟨ss ++ keepS (ss.map (·.1)) σ.slots, setBs (cleanBs σ.blks) bb, rr ++ keepR (rr.map (·.1)) σ.rows⟩

theorem vc_loop {E : Env} {b : Code} {σ : St} {Qx : Nat → St → Prop} {Qr : St → Prop} (X : Type) (ss : X → Slots) (bb : X → Blks) (rr : X → Rows) (J : X → Prop) (μ : X → Nat) (x0 : X) (h0 : J x0)
    (h1 : ent σ (σ.up (ss x0) (bb x0) (rr x0)))
    (h2 : ∀ x, J x → fSt (σ.up (ss x) (bb x) (rr x)) fun τ => vc E b τ fun e σ' => match e with
      | .normal => ∃ y, J y ∧ ent σ' (σ.up (ss y) (bb y) (rr y)) ∧ μ y < μ x
      | .exit i => Qx i σ'
      | .ret => Qr σ') :
    ∃ (X : Type) (I : X → St) (J : X → Prop) (μ : X → Nat) (x0 : X), J x0 ∧ ent σ (I x0) ∧ ∀ x, J x → vc E b (I x) fun e σ' => match e with
      | .normal => ∃ y, J y ∧ ent σ' (I y) ∧ μ y < μ x
      | .exit i => Qx i σ'
      | .ret => Qr σ' := by
  refine ⟨X, fun x => σ.up (ss x) (bb x) (rr x), J, μ, x0, h0, h1, fun x hx => ?_⟩
  have := h2 x hx
  rw [fSt_eq] at this
  exact this
end Go.Fr
