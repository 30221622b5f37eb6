/-
  The symbolic walk over structured code: loops by their relation, functions by their contract. Conditions: none.
-/
import Derived.Test.YtepnpmaoodljkaaDoorFrC
namespace Go.Fr
open Go Go.RowKit

/-! ### A state is as another one says -/
def holds (b : Bool) : Prop := match b with | true => True | false => False

mutual
def entLeaf (m : Nat → Option Nat) : Leaf → Leaf → Prop
  | _, .any => True
  | l, .tv t x => argValK t (.leaf l) False fun y => y = x
  | l, .blit b => match l with
    | .blit c => c = b
    | .tv .bool c => (c : Bool) = b
    | _ => False
  | l, .raw v => match l with
    | .raw u => u = v
    | _ => False
  | l, .ptr i off => match l with
    | .ptr i' off' => holds (Nat.beq i i' && Nat.beq off off')
    | _ => False
  | l, .mref i => match l with
    | .mref i' => holds (Nat.beq i i')
    | _ => False
  | l, .row X => match m X with
    | some r => match l with
      | .row r' => holds (Nat.beq r r')
      | _ => False
    | none => match l with
      | .raw (.slice none 0 0) => True
      | _ => False
  | l, .clo f caps => match l with
    | .clo f' caps' => match Nat.beq f f' with
      | true => entLeaves m caps' caps
      | false => False
    | _ => False
  | _, .undef => False
  | _, .eptr _ _ _ _ => False
  | _, .rptr _ _ _ _ => False
  | _, .rsub _ _ _ => False
def entLeaves (m : Nat → Option Nat) : List Leaf → List Leaf → Prop
  | ls, [] => match ls with
    | [] => True
    | _ :: _ => False
  | ls, l' :: r' => match ls with
    | [] => False
    | l :: r => match r' with
      | [] => match r with
        | [] => entLeaf m l l'
        | _ :: _ => False
      | _ :: _ => entLeaf m l l' ∧ entLeaves m r r'
end

def entSV (m : Nat → Option Nat) (s s' : SV) : Prop :=
  match s' with
  | .leaf .any => True
  | .leaf (.tv t x) => argValK t s False fun y => y = x
  | .leaf l' => match s with
    | .leaf l => entLeaf m l l'
    | _ => False
  | .agg ls' => match aggOf s with
    | some ls => entLeaves m ls ls'
    | none => False
  | .tupv _ _ => False

def entSlots (m : Nat → Option Nat) (src : Slots) : Slots → Prop
  | [] => True
  | [(t, s')] => entSV m (getS src t) s'
  | (t, s') :: r => entSV m (getS src t) s' ∧ entSlots m src r

def isTv : List Leaf → Prop
  | [.tv _ _] => True
  | _ => False
def entIt (cs' : List Leaf) (x y : Option It) : Prop :=
  match x, y with
  | none, none => True
  | some (.str s p), some (.str s' p') => s = s' ∧ p = p'
  | some .map, some .map => isTv cs'
  | _, _ => False
def entBlk (m : Nat → Option Nat) (src : Blks) (n : Nat) (c : Blk) : Prop :=
  match c with
  | ⟨t', cs', it'⟩ => match getB src n with
    | some ⟨t, cs, it⟩ => match Nat.beq t t' with
      | true => match it' with
        | none => match it with
          | none => entLeaves m cs cs'
          | some _ => False
        | some _ => entLeaves m cs cs' ∧ entIt cs' it it'
      | false => False
    | none => False
def entBlks (m : Nat → Option Nat) (src : Blks) : Blks → Prop
  | [] => True
  | (n, c) :: r => match r with
    | [] => entBlk m src n c
    | _ :: _ => entBlk m src n c ∧ entBlks m src r

def holdsNil {α : Type} (xs : List α) : Prop := match xs with | [] => True | _ :: _ => False
def entRows (m : Nat → Option Nat) (src : Rows) : Rows → Prop
  | [] => True
  | (X, R') :: r => match m X with
    | some y => match getR src y with
      | some R => match Nat.beq R.e R'.e with
        | true => popSlK R'.t [.tv (.sl R.t) R.xs] False fun xs _ => xs = R'.xs ∧ entRows m src r
        | false => False
      | none => False
    | none => holdsNil R'.xs ∧ entRows m src r

def rowsApart (m : Nat → Option Nat) : Rows → Bool
  | [] => true
  | (X, _) :: r => (match m X with
    | some y => !(r.any fun p => match m p.1 with | some z => Nat.beq y z | none => false)
    | none => true) && rowsApart m r

def blksApart : Blks → Bool
  | [] => true
  | (n, _) :: r => !(r.any fun p => Nat.beq n p.1) && blksApart r

def entAt (m : Nat → Option Nat) (sl : Slots) (bs : Blks) (rs : Rows) (sl' : Slots) (bs' : Blks) (rs' : Rows) : Prop :=
  match rowsApart m rs' && blksApart bs' with
  | true => match bs', rs' with
    | [], [] => entSlots m sl sl'
    | _ :: _, [] => entSlots m sl sl' ∧ entBlks m bs bs'
    | [], _ :: _ => entSlots m sl sl' ∧ entRows m rs rs'
    | _ :: _, _ :: _ => entSlots m sl sl' ∧ entBlks m bs bs' ∧ entRows m rs rs'
  | false => False
/-! ### What turns in a loop, and what stays -/
def exSl (T : Ty) (rs : Rows) (s : SV) (k : List T.den → Prop) : Prop :=
  match s with
  | .leaf (.row y) => match getR rs y with
    | some R => popSlK T [.tv (.sl R.t) R.xs] False fun xs _ => k xs
    | none => False
  | .leaf (.raw (.slice none 0 0)) => k []
  | _ => False
def exCell (bs : Blks) (i c : Nat) (k : Leaf → Prop) : Prop :=
  match getB bs i with
  | some b => match b.cells[c]? with
    | some l => k l
    | none => False
  | none => False
/-- What the variables are in a state. -/
def exV : (vs : List Var) → St → (varsDen vs → Prop) → Prop
  | [], _, k => k ()
  | .slot t T :: vs, σ, k => argValK T (getS σ.slots t) False fun a => exV vs σ fun r => k (a, r)
  | .cell i c T :: vs, σ, k => exCell σ.blks i c fun l => argValK T (.leaf l) False fun a => exV vs σ fun r => k (a, r)
  | .pos i :: vs, σ, k => match getB σ.blks i with
    | some ⟨_, _, some (.str _ p)⟩ => exV vs σ fun r => k (p, r)
    | _ => False
  | .rowS t _ T _ :: vs, σ, k => exSl T σ.rows (getS σ.slots t) fun a => exV vs σ fun r => k (a, r)
  | .rowC i c _ T _ :: vs, σ, k => exCell σ.blks i c fun l => exSl T σ.rows (.leaf l) fun a => exV vs σ fun r => k (a, r)
  | .rowN X T _ :: vs, σ, k => exSl T σ.rows (.leaf (.row X)) fun a => exV vs σ fun r => k (a, r)
/-- For all data of the variables. -/
def allV : (vs : List Var) → (varsDen vs → Prop) → Prop
  | [], k => k ()
  | v :: vs, k => ∀ a : v.den, allV vs fun r => k (a, r)
theorem exV_get : (vs : List Var) → {σ : St} → {k : varsDen vs → Prop} → exV vs σ k → ∃ x, k x
  | [], _, _, e => ⟨(), e⟩
  | .slot t T :: vs, σ, k, e => by
    simp only [exV, argValK_eq] at e
    split at e
    · obtain ⟨x, hx⟩ := exV_get vs e; exact ⟨_, hx⟩
    · exact e.elim
  | .cell i c T :: vs, σ, k, e => by
    simp only [exV, exCell, argValK_eq] at e
    split at e
    · split at e
      · split at e
        · obtain ⟨x, hx⟩ := exV_get vs e; exact ⟨_, hx⟩
        · exact e.elim
      · exact e.elim
    · exact e.elim
  | .pos i :: vs, σ, k, e => by
    simp only [exV] at e
    split at e
    · obtain ⟨x, hx⟩ := exV_get vs e; exact ⟨_, hx⟩
    · exact e.elim
  | .rowS t _ T _ :: vs, σ, k, e => by
    simp only [exV, exSl, popSlK_eq] at e
    split at e
    · split at e
      · split at e
        · obtain ⟨x, hx⟩ := exV_get vs e; exact ⟨_, hx⟩
        · exact e.elim
      · exact e.elim
    · obtain ⟨x, hx⟩ := exV_get vs e; exact ⟨_, hx⟩
    · exact e.elim
  | .rowC i c _ T _ :: vs, σ, k, e => by
    simp only [exV, exCell, exSl, popSlK_eq] at e
    split at e
    · split at e
      · split at e
        · split at e
          · split at e
            · obtain ⟨x, hx⟩ := exV_get vs e; exact ⟨_, hx⟩
            · exact e.elim
          · exact e.elim
        · obtain ⟨x, hx⟩ := exV_get vs e; exact ⟨_, hx⟩
        · exact e.elim
      · exact e.elim
    · exact e.elim
  | .rowN X T _ :: vs, σ, k, e => by
    simp only [exV, exSl, popSlK_eq] at e
    split at e
    · split at e
      · obtain ⟨x, hx⟩ := exV_get vs e; exact ⟨_, hx⟩
      · exact e.elim
    · exact e.elim
theorem allV_all : (vs : List Var) → {k : varsDen vs → Prop} → allV vs k → ∀ x, k x
  | [], _, e, () => e
  | _ :: vs, _, e, (a, r) => allV_all vs (e a) r

def Leaf.stays : Leaf → Bool
  | .any => false
  | .undef => false
  | .eptr _ _ _ _ => false
  | .rptr _ _ _ _ => false
  | .rsub _ _ _ => false
  | .blit _ => true
  | .tv _ _ => true
  | .raw _ => true
  | .ptr _ _ => true
  | .row _ => true
  | .clo _ _ => true
  | .mref _ => true
def cleanLs : List Leaf → List Leaf
  | [] => []
  | l :: r => (bif l.stays then l else .any) :: cleanLs r
def cleanSV : SV → SV
  | .leaf l => bif l.stays then .leaf l else .leaf .any
  | .agg ls => .agg (cleanLs ls)
  | .tupv _ _ => .leaf .any
def keepS (sl : Slots) : List Nat → Slots
  | [] => []
  | t :: r => (t, cleanSV (getS sl t)) :: keepS sl r
def keepB (bs : Blks) : List Nat → Blks
  | [] => []
  | i :: r => match getB bs i with
    | some ⟨t, cs, it⟩ => (i, ⟨t, cleanLs cs, it⟩) :: keepB bs r
    | none => keepB bs r
def keepR (rs : Rows) : List Nat → Rows
  | [] => []
  | i :: r => match getR rs i with
    | some R => (i, R) :: keepR rs r
    | none => keepR rs r
def putCell (bs : Blks) (i c : Nat) (l : Leaf) : Blks :=
  match getB bs i with
  | some ⟨t, cs, it⟩ => setB bs i ⟨t, cs.set c l, it⟩
  | none => bs
def putPos (bs : Blks) (i p : Nat) : Blks :=
  match getB bs i with
  | some ⟨t, cs, some (.str s _)⟩ => setB bs i ⟨t, cs, some (.str s p)⟩
  | _ => bs
/-- A state in which the variables are so. -/
def turn : (vs : List Var) → varsDen vs → St → St
  | [], _, σ => σ
  | .slot t T :: vs, x, σ => turn vs x.2 ⟨(t, .leaf (.tv T x.1)) :: σ.slots, σ.blks, σ.rows⟩
  | .cell i c T :: vs, x, σ => turn vs x.2 ⟨σ.slots, putCell σ.blks i c (.tv T x.1), σ.rows⟩
  | .pos i :: vs, x, σ => turn vs x.2 ⟨σ.slots, putPos σ.blks i x.1, σ.rows⟩
  | .rowS t X T e :: vs, x, σ => turn vs x.2 ⟨(t, .leaf (.row X)) :: σ.slots, σ.blks, (X, ⟨T, e, x.1⟩) :: σ.rows⟩
  | .rowC i c X T e :: vs, x, σ => turn vs x.2 ⟨σ.slots, putCell σ.blks i c (.row X), (X, ⟨T, e, x.1⟩) :: σ.rows⟩
  | .rowN X T e :: vs, x, σ => turn vs x.2 ⟨σ.slots, σ.blks, (X, ⟨T, e, x.1⟩) :: σ.rows⟩
def atHead (h : Hint) (σ : St) (x : varsDen h.vars) : St := turn h.vars x ⟨keepS σ.slots h.slots, keepB σ.blks h.blks, keepR σ.rows h.rows⟩
def rowOf (s : SV) : Option Nat :=
  match s with
  | .leaf (.row y) => some y
  | _ => none
/-- Where a row of the loop's head comes from. -/
def srcV (σ : St) : List Var → Nat → Option Nat
  | [], X => some X
  | .rowS t Y _ _ :: vs, X => bif Nat.beq X Y then rowOf (getS σ.slots t) else srcV σ vs X
  | .rowC i c Y _ _ :: vs, X => bif Nat.beq X Y then (match getB σ.blks i with
    | some b => match b.cells[c]? with
      | some l => rowOf (.leaf l)
      | none => none
    | none => none) else srcV σ vs X
  | .slot _ _ :: vs, X => srcV σ vs X
  | .cell _ _ _ :: vs, X => srcV σ vs X
  | .pos _ :: vs, X => srcV σ vs X
  | .rowN _ _ _ :: vs, X => srcV σ vs X
/-- A state is the loop's head's, of these data. -/
def entH (h : Hint) (σ0 σ : St) (x : varsDen h.vars) : Prop :=
  match atHead h σ0 x with
  | ⟨sl', bs', rs'⟩ => entAt (srcV σ h.vars) σ.slots σ.blks σ.rows sl' bs' rs'

def firstReg : Code → Nat
  | .region id _ _ => id
  | .seq a _ => firstReg a
  | .block _ a => firstReg a
  | .loop a => firstReg a
  | .scope a => firstReg a
  | _ => 1000000

inductive Ex where
  | normal | exit (id : Nat) | ret

/-! ### A region that draws its order -/
def onList (es : List Edge) (j : Nat) : Bool :=
  match es with
  | [] => false
  | e :: r => (Nat.beq e.on j && (match e.ground with | .textOnly _ => false | .gcOnly _ => false | _ => true)) || onList r j
def afterOf (all : List Oper) (i j : Nat) : Bool :=
  match all[i]? with
  | some o => onList o.after.toList j
  | none => false

/-- The slots that an operation looks at. -/
def looks (all : List Oper) (o : Oper) : List Nat :=
  (o.op.operands.toList.flatMap tmpOf) ++ (match o.guard with
    | some (j, _) => match dstOf all j with
      | some t => [t]
      | none => []
    | none => [])

def optEq (a : Option Nat) (t : Nat) : Bool := match a with | some x => Nat.beq x t | none => false

/-- Each slot is written once; whoever reads a slot is behind its writer, or its writer is behind all who read it first. -/
def readsOk (all : List Oper) (i t : Nat) : Nat → List Oper → Bool
  | _, [] => true
  | j, o :: r => (bif optEq o.dst t then (bif Nat.blt j i then afterOf all i j else bif Nat.beq j i then true else afterOf all j i) else true) && readsOk all i t (j + 1) r
def dstOnce (all : List Oper) (i : Nat) (d : Option Nat) : Nat → List Oper → Bool
  | _, [] => true
  | j, o :: r => (bif Nat.beq i j then true else match d with | some t => !(optEq o.dst t) | none => true) && dstOnce all i d (j + 1) r
def guardOk (all : List Oper) (i : Nat) (g : Option (Nat × Bool)) : Bool :=
  match g with
  | none => true
  | some (j, _) => Nat.blt j i && afterOf all i j
def edgesBack (i : Nat) : List Edge → Bool
  | [] => true
  | e :: r => (match e.ground with | .textOnly _ => true | .gcOnly _ => true | _ => Nat.blt e.on i) && edgesBack i r
def okOps (all : List Oper) : Nat → List Oper → Bool
  | _, [] => true
  | i, o :: r => ((looks all o).all fun t => readsOk all i t 0 all) && dstOnce all i o.dst 0 all && guardOk all i o.guard && edgesBack i o.after.toList && okOps all (i + 1) r

/-- What an operation does to the call's own blocks: which one it reads ('false') or writes. -/
def touches (b : Nat) (sl : Slots) (op : Op) : Option (Nat × Bool) :=
  match op with
  | .load _ a => match evO b sl a with
    | .leaf (.ptr i _) => some (2 * i, false)
    | .leaf (.rptr r _ _ _) => some (2 * r + 1, false)
    | _ => none
  | .store _ a _ => match evO b sl a with
    | .leaf (.ptr i _) => some (2 * i, true)
    | .leaf (.rptr r _ _ _) => some (2 * r + 1, true)
    | _ => none
  | _ => none

abbrev Mem := List (Nat × Nat × Bool)
/-- Whatever touches a block that another one writes is behind it, or that one behind this. -/
def memOk (all : List Oper) : Mem → Bool
  | [] => true
  | (i, b, w) :: r => (r.all fun p => !(Nat.beq b p.2.1) || !(w || p.2.2) || afterOf all i p.1) && memOk all r

/-! The blocks that a region which draws makes: their names are set ahead. -/
abbrev Made := List (Nat × Nat)
def madeOf (b K : Nat) : Nat → List Oper → Made
  | _, [] => []
  | i, o :: r => match o.op with
    | .alloc _ => match o.dst with
      | some d => (i, b + d + K) :: madeOf b K (i + 1) r
      | none => madeOf b K (i + 1) r
    | _ => madeOf b K (i + 1) r
def freshM (sl : Slots) (bs : Blks) : Made → Bool
  | [] => true
  | (_, q) :: r => !(usedB sl bs q) && freshM sl bs r
def madeAt (i : Nat) : Made → Option Nat
  | [] => none
  | (j, q) :: r => bif Nat.beq i j then some q else madeAt i r
/-- Whoever names what is made is behind it. -/
def behindM (all : List Oper) (i : Nat) (f : Nat → Bool) : Made → Bool
  | [] => true
  | (j, q) :: r => (bif f q then (bif Nat.beq i j then true else afterOf all i j) else true) && behindM all i f r
def noneM (f : Nat → Bool) : Made → Bool
  | [] => true
  | (_, q) :: r => !(f q) && noneM f r
def onlyM (i q : Nat) : Made → Bool
  | [] => true
  | (j, p) :: r => (bif Nat.beq p q then Nat.beq i j else true) && onlyM i q r

/-- As 'exec1', for a region that draws: what it touches is noted; nothing is made that has a name, but a block. -/
def execD1 (E : Env) (b : Nat) (all : List Oper) (A : Made) (i : Nat) (o : Oper) (σ : St) (mem : Mem) (k : St → Mem → Prop) : Prop :=
  match σ with
  | ⟨sl, bs, rs⟩ => match pureEv E b sl bs rs o.op with
    | some (r, p) => oblige p (nameK (nmAt E.nm (dstAt b o.dst)) r fun r' => bif behindM all i (fun q => r'.anyL (Leaf.namesB q)) A then putK sl bs rs (dstAt b o.dst) r' fun σ' => match touches b sl o.op with | some (q, w) => k σ' ((i, q, w) :: mem) | none => k σ' mem else False)
    | none => match storeEv E b sl bs o.op with
      | some (q, ⟨t, cs, it⟩) => match o.dst with
        | none => fLs cs fun cs' => bif behindM all i (fun q => anyLeaf (Leaf.namesB q) cs') A then setBK bs q ⟨t, cs', it⟩ fun bs' => k ⟨sl, bs', rs⟩ ((i, 2 * q, true) :: mem) else False
        | some _ => False
      | none => match rowStoreEv E b sl rs o.op with
        | some (q, ⟨t, e, xs⟩) => match o.dst with
          | none => setRK rs q ⟨t, e, xs⟩ fun rs' => k ⟨sl, bs, rs'⟩ ((i, 2 * q + 1, true) :: mem)
          | some _ => False
        | none => match o.op with
          | .alloc t => match o.dst with
            | some d => match E.tt t with
              | some ti => match madeAt i A with
                | some q => bif Nat.beq ti.zero.length ti.size && noneM (fun p => anyLeaf (Leaf.namesB p) ti.zero) A && onlyM i q A then fLs ti.zero fun z => k ⟨(b + d, .leaf (.ptr q 0)) :: sl, (q, ⟨t, z, none⟩) :: bs, rs⟩ ((i, 2 * q, true) :: mem) else False
                | none => False
              | none => False
            | none => False
          | _ => False

def execD (E : Env) (b : Nat) (all : List Oper) (A : Made) : Nat → List Oper → St → Mem → (St → Prop) → Prop
  | _, [], σ, mem, k => match memOk all mem with
    | true => k σ
    | false => False
  | i, o :: r, σ, mem, k => match o.guard with
    | none => execD1 E b all A i o σ mem fun σ' mem' => execD E b all A (i + 1) r σ' mem' k
    | some (j, w) => match dstOf all j with
      | none => False
      | some t => match getS σ.slots (b + t) with
        | .leaf (.blit c) => guarded w c (execD1 E b all A i o σ mem fun σ' mem' => execD E b all A (i + 1) r σ' mem' k) (setK σ (dstAt b o.dst) (.leaf .undef) fun σ' => execD E b all A (i + 1) r σ' mem k)
        | .leaf (.tv .bool e) =>
          ((e : Bool) = true → setK σ (some (b + t)) (.leaf (.blit true)) fun σ => guarded w true (execD1 E b all A i o σ mem fun σ' mem' => execD E b all A (i + 1) r σ' mem' k) (setK σ (dstAt b o.dst) (.leaf .undef) fun σ' => execD E b all A (i + 1) r σ' mem k)) ∧
          ((e : Bool) = false → setK σ (some (b + t)) (.leaf (.blit false)) fun σ => guarded w false (execD1 E b all A i o σ mem fun σ' mem' => execD E b all A (i + 1) r σ' mem' k) (setK σ (dstAt b o.dst) (.leaf .undef) fun σ' => execD E b all A (i + 1) r σ' mem k))
        | .leaf .undef => setK σ (dstAt b o.dst) (.leaf .undef) fun σ' => execD E b all A (i + 1) r σ' mem k
        | _ => False
def execM (E : Env) (b : Nat) (l : List Oper) (σ : St) (k : St → Prop) : Prop :=
  bif freshM σ.slots σ.blks (madeOf b 0 0 l) then execD E b l (madeOf b 0 0 l) 0 l σ [] k
  else bif freshM σ.slots σ.blks (madeOf b 100000000 0 l) then execD E b l (madeOf b 100000000 0 l) 0 l σ [] k
  else bif freshM σ.slots σ.blks (madeOf b 200000000 0 l) then execD E b l (madeOf b 200000000 0 l) 0 l σ [] k else False

/-! ### A region gone through in each order that may come up -/
def lget : List Bool → Nat → Bool
  | [], _ => false
  | x :: _, 0 => x
  | _ :: r, i + 1 => lget r i
def lset : List Bool → Nat → List Bool
  | [], _ => []
  | _ :: r, 0 => true :: r
  | x :: r, i + 1 => x :: lset r i
def isReadyL (listed : List Bool) : List Edge → Bool
  | [] => true
  | e :: r => (match e.ground with | .textOnly _ => true | .gcOnly _ => true | _ => lget listed e.on) && isReadyL listed r
def readyL (listed : List Bool) : Nat → List Oper → List Bool → List Nat
  | i, o :: r, f :: fs => bif f then readyL listed (i + 1) r fs else bif isReadyL listed o.after.toList then i :: readyL listed (i + 1) r fs else readyL listed (i + 1) r fs
  | _, _, _ => []
/-- What looks at slots alone. -/
def eagerOp : Op → Bool
  | .move _ => true
  | .assign _ => true
  | .extract _ _ => true
  | .nilCheck _ => true
  | .fieldAddr _ _ _ => true
  | _ => false
def firstEager (all : List Oper) : List Nat → Option Nat
  | [] => none
  | i :: r => match all[i]? with
    | some o => bif eagerOp o.op then some i else firstEager all r
    | none => firstEager all r
def conjL (f : Nat → Prop) : List Nat → Prop
  | [] => True
  | i :: r => match r with
    | [] => f i
    | _ :: _ => f i ∧ conjL f r
def noSel : List Oper → Bool
  | [] => true
  | o :: r => (match o.op with | .select _ _ => false | _ => true) && noSel r
def stepG (E : Env) (J : Inliner) (b top : Nat) (all : List Oper) (o : Oper) (σ : St) (k : St → Prop) : Prop :=
  match o.guard with
    | none => exec1 E J b top o σ k
    | some (j, w) => match dstOf all j with
      | none => False
      | some t => match getS σ.slots (b + t) with
        | .leaf (.blit c) => guarded w c (exec1 E J b top o σ k) (setK σ (dstAt b o.dst) (.leaf .undef) k)
        | .leaf (.tv .bool e) =>
          ((e : Bool) = true → setK σ (some (b + t)) (.leaf (.blit true)) fun σ => guarded w true (exec1 E J b top o σ k) (setK σ (dstAt b o.dst) (.leaf .undef) k)) ∧
          ((e : Bool) = false → setK σ (some (b + t)) (.leaf (.blit false)) fun σ => guarded w false (exec1 E J b top o σ k) (setK σ (dstAt b o.dst) (.leaf .undef) k))
        | .leaf .undef => setK σ (dstAt b o.dst) (.leaf .undef) k
        | _ => False
def execA (E : Env) (J : Inliner) (b top : Nat) (all : List Oper) : Nat → List Bool → St → (St → Prop) → Prop
  | 0, listed, σ, k => match readyL listed 0 all listed with
    | [] => k σ
    | _ :: _ => False
  | m + 1, listed, σ, k => match readyL listed 0 all listed with
    | [] => k σ
    | i :: r => match firstEager all (i :: r) with
      | some j => match all[j]? with
        | some o => stepG E J b top all o σ fun σ' => execA E J b top all m (lset listed j) σ' k
        | none => False
      | none => conjL (fun j => match all[j]? with
        | some o => stepG E J b top all o σ fun σ' => execA E J b top all m (lset listed j) σ' k
        | none => False) (i :: r)
def execAll (E : Env) (J : Inliner) (b top : Nat) (all : List Oper) (σ : St) (k : St → Prop) : Prop :=
  match noSel all with
  | true => execA E J b top all all.length (List.replicate all.length false) σ k
  | false => False

/-! ### Structured code -/
/-- How often a loop is gone through in full, where its hint says so: rows '4000000000, n'. -/
def roundsOf (h : Hint) : Nat :=
  match h.rows with
  | r :: n :: _ => bif Nat.beq r 4000000000 then n else 0
  | _ => 0
def rounds (body : St → (Ex → St → Prop) → Prop) : Nat → St → (Ex → St → Prop) → Prop
  | 0, _, _ => False
  | n + 1, σ, Q => body σ fun e σ' => match e with
    | .normal => rounds body n σ' Q
    | .exit i => Q (.exit i) σ'
    | .ret => Q .ret σ'
def vc (E : Env) (J : Inliner) (b top : Nat) : Code → St → (Ex → St → Prop) → Prop
  | .skip, σ, Q => Q .normal σ
  | .region id ops draw, σ, Q => match draw with
    | false => freezeK E.nm b ops.toList σ fun σ => execOps E J b top ops.toList ops.toList σ (Q .normal)
    | true => match E.nm (4000000000 + 1000 * b + id) with
      | false => freezeK E.nm b ops.toList σ fun σ => execM E b ops.toList σ (Q .normal)
      | true => freezeK E.nm b ops.toList σ fun σ => execAll E J b top ops.toList σ (Q .normal)
  | .seq x y, σ, Q => vc E J b top x σ fun e σ' => match e with
    | .normal => vc E J b top y σ' Q
    | .exit i => Q (.exit i) σ'
    | .ret => Q .ret σ'
  | .cond c x y, σ, Q => match evO b σ.slots c with
    | .leaf (.blit t) => match t with
      | true => vc E J b top x σ Q
      | false => vc E J b top y σ Q
    | .leaf (.tv .bool e) => ((e : Bool) = true → vc E J b top x σ Q) ∧ ((e : Bool) = false → vc E J b top y σ Q)
    | _ => False
  | .block id x, σ, Q => vc E J b top x σ fun e σ' => match e with
    | .normal => Q .normal σ'
    | .exit i => match Nat.beq i id with
      | true => Q .normal σ'
      | false => Q (.exit i) σ'
    | .ret => Q .ret σ'
  | .loop x, σ, Q => match E.hint b (firstReg x) with
    | none => False
    | some h => match roundsOf h with
      | m + 1 => rounds (fun σ Q => vc E J b top x σ Q) (m + 1) σ Q
      | 0 => exV h.vars σ fun x0 => entH h σ σ x0 ∧ ∃ (Z : varsDen h.vars → Prop) (μ : varsDen h.vars → Nat), Z x0 ∧ allV h.vars fun z => Z z → fSt (atHead h σ z) fun τ => vc E J b top x τ fun e σ' => match e with
      | .normal => exV h.vars σ' fun y => entH h σ σ' y ∧ Z y ∧ μ y < μ z
      | .exit i => Q (.exit i) σ'
      | .ret => Q .ret σ'
  | .exit id, σ, Q => Q (.exit id) σ
  | .ret, σ, Q => Q .ret σ
  | _, _, _ => False

/-! ### Functions -/
def thawS (rows : Rows) (i : Nat) : Option Leaf :=
  match getR rows i with
  | some R => some (.tv (.sl R.t) R.xs)
  | none => some .any

def resSV (E : Env) (b : Nat) (σ : St) : ResultVar → Option SV
  | .tmp t => some (getS σ.slots (b + t))
  | .cell a T => match E.tt T with
    | some ti => match getS σ.slots (b + a) with
      | .leaf (.ptr i off) => match getB σ.blks i with
        | some ⟨_, cs, none⟩ => partOf ti cs off
        | _ => none
      | _ => none
    | none => none

def resSVs (E : Env) (b : Nat) (σ : St) : List ResultVar → Option (List SV)
  | [] => some []
  | r :: rs => match resSV E b σ r with
    | some s => match resSVs E b σ rs with
      | some ss => some (s.sub (thawS σ.rows) :: ss)
      | none => none
    | none => none

/-- What a function that is walked at its call hands back. -/
def resInl (E : Env) (b : Nat) (σ : St) : List ResultVar → Option SV
  | [] => some (.leaf .any)
  | r :: rs => match rs with
    | [] => resSV E b σ r
    | _ :: _ => none

def cutS (top : Nat) : Slots → Slots
  | [] => []
  | (k, s) :: r => bif Nat.ble top k then cutS top r else (k, s) :: cutS top r
def argSlots : List SV → Nat → Slots → Slots
  | [], _, sl => sl
  | s :: r, i, sl => (i, s) :: argSlots r (i + 1) sl

/-- A function that was walked at its call comes back. -/
def inlRet (E : Env) (top : Nat) (rs : List ResultVar) (σ : St) (k : SV → St → Prop) : Prop :=
  match resInl E top σ rs with
  | some s => match σ with
    | ⟨sl2, bs2, rs2⟩ => fSV s fun s' => fSlots (cutS top sl2) fun sl3 => k s' ⟨sl3, bs2, rs2⟩
  | none => False
def vcN (E : Env) : Nat → Inliner
  | 0 => fun _ _ _ _ _ => False
  | d + 1 => fun f top args σ k => match E.inl f with
    | none => False
    | some F => match Nat.ble args.length F.n with
      | false => False
      | true => match σ with
        | ⟨sl, bs, rs⟩ => fSlots (argSlots args (top + 10000 * (f + 1)) (cutS (top + 10000 * (f + 1)) sl)) fun sl' => vc E (vcN E d) (top + 10000 * (f + 1)) (top + 10000 * (f + 1) + F.n) F.body ⟨sl', bs, rs⟩ fun e σ' => match e with
          | .exit _ => False
          | .normal => inlRet E (top + 10000 * (f + 1)) F.res σ' k
          | .ret => inlRet E (top + 10000 * (f + 1)) F.res σ' k

/-- Maps of the call's own are data from its end on. -/
def thawM (bs : Blks) : List Leaf → List Leaf
  | [] => []
  | l :: r => (match l with
    | .mref q => match getB bs q with
      | some ⟨_, [.tv (.sl (.pair K (.pair V .unit))) xs], some .map⟩ => .tv (.mp K V) xs
      | _ => .any
    | l => l) :: thawM bs r
/-- A block of the call's own that is pointed to is data from its end on. -/
def thawP (E : Env) (bs : Blks) (s : SV) (k : SV → Prop) : Prop :=
  match s with
  | .leaf (.ptr i 0) => match getB bs i with
    | some ⟨t, cs, none⟩ => match E.tt t with
      | some ti => match ti.ty with
        | some T => implodeK T (thawM bs cs) (k s) fun x r => match r with
          | [] => k (.leaf (.tv (.opt T) (some x)))
          | _ :: _ => k s
        | none => k s
      | none => k s
    | _ => k s
  | s => k s
def thawPs (E : Env) (bs : Blks) : List SV → (List SV → Prop) → Prop
  | [], k => k []
  | s :: r, k => thawP E bs s fun s' => thawPs E bs r fun r' => k (s' :: r')
def retVC (E : Env) (b : Nat) (rs : List ResultVar) (one : Bool) (res : Ty) (σ : St) (want : res.den) : Prop :=
  match resSVs E b σ rs with
  | some ss => thawPs E (mapBlks (thawS σ.rows) σ.blks) ss fun ss => match one with
    | true => match ss with
      | [s] => argValK res s False fun y => y = want
      | _ => False
    | false => argsK res ss False fun y => y = want
  | none => False

def paramSlots : (t : Ty) → t.den → Nat → Slots
  | .pair a b, x, i => (i, .leaf (.tv a x.1)) :: paramSlots b x.2 (i + 1)
  | _, _, _ => []

def tailSlots : List FuncId → Nat → Slots
  | [], _ => []
  | f :: r, i => (i, .leaf (.raw (.func (.func f) #[] #[]))) :: tailSlots r (i + 1)
def entrySlots : (t : Ty) → t.den → List FuncId → Nat → Slots
  | .pair a b, x, tl, i => (i, .leaf (.tv a x.1)) :: entrySlots b x.2 tl (i + 1)
  | _, _, tl, i => tailSlots tl i

/-- How deep calls are walked. -/
def deep : Nat := 8
/-- Where the outermost frame's slots begin: below it are no slots. -/
def bot : Nat := 0

def fnVC (E : Env) (fn : Func) (c : Code) (C : Contract) : Prop :=
  ∀ x, C.pre x → vc E (vcN E deep) bot (bot + fn.ntmps) c ⟨entrySlots C.arg x C.tail bot, [], []⟩ fun e σ => match e with
    | .normal => retVC E bot fn.results.toList C.one C.res σ (C.fn x)
    | .ret => retVC E bot fn.results.toList C.one C.res σ (C.fn x)
    | .exit _ => False

end Go.Fr
