/-
  The symbolic walk over structured code: loops by their relation, functions by their contract. Conditions: none.
-/
import Derived.Test.YtkgmpnadgilpjaaFrC
namespace Go.Fr
open Go Go.RowKit

/-! ### A state is as another one says -/
/-- Which row a row of the state that is wanted comes from: 'none': it is nil as yet. -/
def rowSrc (src : Slots) : Slots → Nat → Option Nat
  | [], _ => none
  | (t, .leaf (.row x)) :: r, X => bif Nat.beq x X then (match getS src t with | .leaf (.row y) => some y | _ => none) else rowSrc src r X
  | _ :: r, X => rowSrc src r X

def eqCaps : List Nat → List Nat → Bool
  | [], [] => true
  | x :: r, y :: s => Nat.beq x y && eqCaps r s
  | _, _ => false

def holds (b : Bool) : Prop := match b with | true => True | false => False

def entLeaf (m : Nat → Option Nat) (l l' : Leaf) : Prop :=
  match l' with
  | .any => True
  | .tv t x => argValK t (.leaf l) False fun y => y = x
  | .blit b => match l with
    | .blit c => c = b
    | .tv .bool c => (c : Bool) = b
    | _ => False
  | .raw v => match l with
    | .raw u => u = v
    | _ => False
  | .ptr i off => match l with
    | .ptr i' off' => holds (Nat.beq i i' && Nat.beq off off')
    | _ => False
  | .row X => match m X with
    | some r => match l with
      | .row r' => holds (Nat.beq r r')
      | _ => False
    | none => match l with
      | .raw (.slice none 0 0) => True
      | _ => False
  | .clo f caps => match l with
    | .clo f' caps' => holds (Nat.beq f f' && eqCaps caps caps')
    | _ => False
  | _ => False

def entLeaves (m : Nat → Option Nat) : List Leaf → List Leaf → Prop
  | [], [] => True
  | l :: r, [l'] => match r with
    | [] => entLeaf m l l'
    | _ => False
  | l :: r, l' :: r' => entLeaf m l l' ∧ entLeaves m r r'
  | _, _ => False

def entSV (m : Nat → Option Nat) (s s' : SV) : Prop :=
  match s' with
  | .leaf .any => True
  | .leaf (.tv t x) => argValK t s False fun y => y = x
  | .leaf l' => match s with
    | .leaf l => entLeaf m l l'
    | _ => False
  | .agg ls' => match aggOf s with
    | some ls => entLeaves m ls ls'
    | none => False
  | .tupv _ _ => False

def entSlots (m : Nat → Option Nat) (src : Slots) : Slots → Prop
  | [] => True
  | [(t, s')] => entSV m (getS src t) s'
  | (t, s') :: r => entSV m (getS src t) s' ∧ entSlots m src r

def entBlks (m : Nat → Option Nat) (src : Blks) : Blks → Prop
  | [] => True
  | [(n, ⟨t', cs'⟩)] => match getB src n with
    | some ⟨t, cs⟩ => match Nat.beq t t' with
      | true => entLeaves m cs cs'
      | false => False
    | none => False
  | (n, ⟨t', cs'⟩) :: r => match getB src n with
    | some ⟨t, cs⟩ => match Nat.beq t t' with
      | true => entLeaves m cs cs' ∧ entBlks m src r
      | false => False
    | none => False

def entRows (m : Nat → Option Nat) (src : Rows) : Rows → Prop
  | [] => True
  | (X, R') :: r => match m X with
    | some y => match getR src y with
      | some R => match Nat.beq R.e R'.e with
        | true => popSlK R'.t [.tv (.sl R.t) R.xs] False fun xs _ => xs = R'.xs ∧ entRows m src r
        | false => False
      | none => False
    | none => R'.xs = [] ∧ entRows m src r

def rowsApart (m : Nat → Option Nat) : Rows → Bool
  | [] => true
  | (X, _) :: r => (match m X with
    | some y => !(r.any fun p => match m p.1 with | some z => Nat.beq y z | none => false)
    | none => true) && rowsApart m r

def blksApart : Blks → Bool
  | [] => true
  | (n, _) :: r => !(r.any fun p => Nat.beq n p.1) && blksApart r

def entAt (m : Nat → Option Nat) (sl : Slots) (bs : Blks) (rs : Rows) (sl' : Slots) (bs' : Blks) (rs' : Rows) : Prop :=
  match rowsApart m rs' && blksApart bs' with
  | true => match bs', rs' with
    | [], [] => entSlots m sl sl'
    | _ :: _, [] => entSlots m sl sl' ∧ entBlks m bs bs'
    | [], _ :: _ => entSlots m sl sl' ∧ entRows m rs rs'
    | _ :: _, _ :: _ => entSlots m sl sl' ∧ entBlks m bs bs' ∧ entRows m rs rs'
  | false => False
def ent (σ σ' : St) : Prop :=
  match σ with
  | ⟨sl, bs, rs⟩ => match σ' with
    | ⟨sl', bs', []⟩ => entAt (fun _ => none) sl bs rs sl' bs' []
    | ⟨sl', bs', r :: rs'⟩ => entAt (rowSrc sl sl') sl bs rs sl' bs' (r :: rs')

inductive Ex where
  | normal | exit (id : Nat) | ret

/-! ### A region that draws its order -/
def onList (es : List Edge) (j : Nat) : Bool :=
  match es with
  | [] => false
  | e :: r => (Nat.beq e.on j && (match e.ground with | .textOnly _ => false | .gcOnly _ => false | _ => true)) || onList r j
def afterOf (all : List Oper) (i j : Nat) : Bool :=
  match all[i]? with
  | some o => onList o.after.toList j
  | none => false

/-- The slots that an operation looks at. -/
def looks (all : List Oper) (o : Oper) : List Nat :=
  (o.op.operands.toList.flatMap tmpOf) ++ (match o.guard with
    | some (j, _) => match dstOf all j with
      | some t => [t]
      | none => []
    | none => [])

def optEq (a : Option Nat) (t : Nat) : Bool := match a with | some x => Nat.beq x t | none => false

/-- Each slot is written once; whoever reads a slot is behind its writer, or its writer is behind all who read it first. -/
def readsOk (all : List Oper) (i t : Nat) : Nat → List Oper → Bool
  | _, [] => true
  | j, o :: r => (bif optEq o.dst t then (bif Nat.blt j i then afterOf all i j else bif Nat.beq j i then true else afterOf all j i) else true) && readsOk all i t (j + 1) r
def dstOnce (all : List Oper) (i : Nat) (d : Option Nat) : Nat → List Oper → Bool
  | _, [] => true
  | j, o :: r => (bif Nat.beq i j then true else match d with | some t => !(optEq o.dst t) | none => true) && dstOnce all i d (j + 1) r
def guardOk (all : List Oper) (i : Nat) (g : Option (Nat × Bool)) : Bool :=
  match g with
  | none => true
  | some (j, _) => Nat.blt j i && afterOf all i j
def edgesBack (i : Nat) : List Edge → Bool
  | [] => true
  | e :: r => (match e.ground with | .textOnly _ => true | .gcOnly _ => true | _ => Nat.blt e.on i) && edgesBack i r
def okOps (all : List Oper) : Nat → List Oper → Bool
  | _, [] => true
  | i, o :: r => ((looks all o).all fun t => readsOk all i t 0 all) && dstOnce all i o.dst 0 all && guardOk all i o.guard && edgesBack i o.after.toList && okOps all (i + 1) r

/-- What an operation does to the call's own blocks: which one it reads ('false') or writes. -/
def touches (sl : Slots) (op : Op) : Option (Nat × Bool) :=
  match op with
  | .load _ a => match evO sl a with
    | .leaf (.ptr b _) => some (b, false)
    | _ => none
  | .store _ a _ => match evO sl a with
    | .leaf (.ptr b _) => some (b, true)
    | _ => none
  | _ => none

abbrev Mem := List (Nat × Nat × Bool)
/-- Whatever touches a block that another one writes is behind it, or that one behind this. -/
def memOk (all : List Oper) : Mem → Bool
  | [] => true
  | (i, b, w) :: r => (r.all fun p => !(Nat.beq b p.2.1) || !(w || p.2.2) || afterOf all i p.1) && memOk all r

/-- As 'exec1', for a region that draws: what it touches is noted; nothing is made that has a name. -/
def execD1 (E : Env) (i : Nat) (o : Oper) (σ : St) (mem : Mem) (k : St → Mem → Prop) : Prop :=
  match σ with
  | ⟨sl, bs, rs⟩ => match pureEv E sl bs rs o.op with
    | some (r, p) => oblige p (putK sl bs rs o.dst r fun σ' => match touches sl o.op with | some (b, w) => k σ' ((i, b, w) :: mem) | none => k σ' mem)
    | none => match storeEv E sl bs o.op with
      | some (b, ⟨t, cs⟩) => match o.dst with
        | none => fLs cs fun cs' => setBK bs b ⟨t, cs'⟩ fun bs' => k ⟨sl, bs', rs⟩ ((i, b, true) :: mem)
        | some _ => False
      | none => False

def execD (E : Env) (all : List Oper) : Nat → List Oper → St → Mem → (St → Prop) → Prop
  | _, [], σ, mem, k => match memOk all mem with
    | true => k σ
    | false => False
  | i, o :: r, σ, mem, k => match o.guard with
    | none => execD1 E i o σ mem fun σ' mem' => execD E all (i + 1) r σ' mem' k
    | some (j, w) => match dstOf all j with
      | none => False
      | some t => match getS σ.slots t with
        | .leaf (.blit b) => guarded w b (execD1 E i o σ mem fun σ' mem' => execD E all (i + 1) r σ' mem' k) (setK σ o.dst (.leaf .undef) fun σ' => execD E all (i + 1) r σ' mem k)
        | .leaf (.tv .bool e) =>
          ((e : Bool) = true → setK σ (some t) (.leaf (.blit true)) fun σ => guarded w true (execD1 E i o σ mem fun σ' mem' => execD E all (i + 1) r σ' mem' k) (setK σ o.dst (.leaf .undef) fun σ' => execD E all (i + 1) r σ' mem k)) ∧
          ((e : Bool) = false → setK σ (some t) (.leaf (.blit false)) fun σ => guarded w false (execD1 E i o σ mem fun σ' mem' => execD E all (i + 1) r σ' mem' k) (setK σ o.dst (.leaf .undef) fun σ' => execD E all (i + 1) r σ' mem k))
        | .leaf .undef => setK σ o.dst (.leaf .undef) fun σ' => execD E all (i + 1) r σ' mem k
        | _ => False

/-! ### Structured code -/
def vc (E : Env) : Code → St → (Ex → St → Prop) → Prop
  | .skip, σ, Q => Q .normal σ
  | .region _ ops draw, σ, Q => match draw with
    | false => freezeK ops.toList σ fun σ => execOps E ops.toList ops.toList σ (Q .normal)
    | true => freezeK ops.toList σ fun σ => execD E ops.toList 0 ops.toList σ [] (Q .normal)
  | .seq a b, σ, Q => vc E a σ fun e σ' => match e with
    | .normal => vc E b σ' Q
    | .exit i => Q (.exit i) σ'
    | .ret => Q .ret σ'
  | .cond c x y, σ, Q => match evO σ.slots c with
    | .leaf (.blit b) => match b with
      | true => vc E x σ Q
      | false => vc E y σ Q
    | .leaf (.tv .bool e) => ((e : Bool) = true → vc E x σ Q) ∧ ((e : Bool) = false → vc E y σ Q)
    | _ => False
  | .block id b, σ, Q => vc E b σ fun e σ' => match e with
    | .normal => Q .normal σ'
    | .exit i => match Nat.beq i id with
      | true => Q .normal σ'
      | false => Q (.exit i) σ'
    | .ret => Q .ret σ'
  | .loop b, σ, Q => ∃ (X : Type) (I : X → St) (J : X → Prop) (μ : X → Nat) (x0 : X), J x0 ∧ ent σ (I x0) ∧ ∀ x, J x → vc E b (I x) fun e σ' => match e with
    | .normal => ∃ y, J y ∧ ent σ' (I y) ∧ μ y < μ x
    | .exit i => Q (.exit i) σ'
    | .ret => Q .ret σ'
  | .exit id, σ, Q => Q (.exit id) σ
  | .ret, σ, Q => Q .ret σ
  | _, _, _ => False

/-! ### Functions -/
def thawLeaf (rows : Rows) : Leaf → Leaf
  | .row r => match getR rows r with
    | some R => .tv (.sl R.t) R.xs
    | none => .any
  | l => l

def resSV (E : Env) (σ : St) : ResultVar → Option SV
  | .tmp t => some (getS σ.slots t)
  | .cell a T => match E.tt T with
    | some ti => match getS σ.slots a with
      | .leaf (.ptr i off) => match getB σ.blks i with
        | some b => partOf ti b.cells off
        | none => none
      | _ => none
    | none => none

def resSVs (E : Env) (σ : St) : List ResultVar → Option (List SV)
  | [] => some []
  | r :: rs => match resSV E σ r with
    | some s => match resSVs E σ rs with
      | some ss => some (s.mapL (thawLeaf σ.rows) :: ss)
      | none => none
    | none => none

def retVC (E : Env) (rs : List ResultVar) (one : Bool) (res : Ty) (σ : St) (want : res.den) : Prop :=
  match resSVs E σ rs with
  | some ss => match one with
    | true => match ss with
      | [s] => argValK res s False fun y => y = want
      | _ => False
    | false => argsK res ss False fun y => y = want
  | none => False

def paramSlots : (t : Ty) → t.den → Nat → Slots
  | .pair a b, x, i => (i, .leaf (.tv a x.1)) :: paramSlots b x.2 (i + 1)
  | _, _, _ => []

def fnVC (E : Env) (fn : Func) (c : Code) (C : Contract) : Prop :=
  ∀ x, C.pre x → vc E c ⟨paramSlots C.arg x 0, [], []⟩ fun e σ => match e with
    | .normal => retVC E fn.results.toList C.one C.res σ (C.fn x)
    | .ret => retVC E fn.results.toList C.one C.res σ (C.fn x)
    | .exit _ => False

end Go.Fr
