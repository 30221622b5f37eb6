/-
  The symbolic walk, as a function that gives what is to be proved. Conditions: none.
-/
import Derived.Test.YtepnpmaoodljkaaDoorFrA
namespace Go.Fr
open Go Go.RowKit
universe u

inductive TK where
  | bool | int (k : IntKind) | str | struct (fs : List (Nat × Nat × Bool)) | array (n : Nat) (e : TypeId) (es : Nat) | slice (e : TypeId) | ptr (e : TypeId) | map (k e : TypeId) | iface | other
structure TI where
  k : TK
  size : Nat
  bytes : Nat
  zero : List Leaf
  ty : Option Ty

def TI.isAgg (i : TI) : Bool := match i.k with | .struct _ => true | .array .. => true | _ => false

structure Contract where
  arg : Ty
  res : Ty
  one : Bool
  pre : arg.den → Prop
  fn : arg.den → res.den
  /-- Functions that are handed over behind the data. -/
  tail : List FuncId := []
  /-- What comes back is a slice of the call's own, of elements of this type. -/
  own : Option TypeId := none

/-- A callee that is handed a row of the call's own: it turns it, or hands back a row of its own, and the old one is no more. -/
structure RContract where
  t : Ty
  e : TypeId
  pre : List t.den → Prop
  post : List t.den → List t.den → Prop
  back : Bool
  tail : List FuncId := []

/-- A function whose body is walked at its calls. -/
structure Inl where
  body : Code
  n : Nat
  res : List ResultVar

/-- What turns in a loop: a slot, a cell of a block, a place in a text, a row (held by a slot, or by a cell). -/
inductive Var where
  | slot (t : Nat) (T : Ty)
  | cell (i c : Nat) (T : Ty)
  | pos (i : Nat)
  | rowS (t X : Nat) (T : Ty) (e : TypeId)
  | rowC (i c X : Nat) (T : Ty) (e : TypeId)
  | rowN (X : Nat) (T : Ty) (e : TypeId)
@[reducible] def Var.den : Var → Type
  | .slot _ T => T.den
  | .cell _ _ T => T.den
  | .pos _ => Nat
  | .rowS _ _ T _ => List T.den
  | .rowC _ _ _ T _ => List T.den
  | .rowN _ T _ => List T.den
@[reducible] def varsDen : List Var → Type
  | [] => Unit
  | v :: vs => v.den × varsDen vs
/-- A loop: what turns; which slots, blocks and rows stay as they are. -/
structure Hint where
  vars : List Var
  slots : List Nat
  blks : List Nat
  rows : List Nat

structure Env where
  tt : TypeId → Option TI
  ct : FuncId → Option Contract
  inl : FuncId → Option Inl
  gl : Nat → Option ((t : Ty) × t.den)
  hint : Nat → Nat → Option Hint
  nm : Nat → Bool
  rct : FuncId → Option RContract := fun _ => none
  /-- The tree's type to which a pointer's type belongs. -/
  ifc : TypeId → Option Ty := fun _ => none

/-- What a block is that is not cells: the place in a text that is ranged over; a map (its entries lie in the one cell, as a list of pairs). -/
inductive It where
  | str (s : ByteArray) (p : Nat)
  | map
/-- A block: cells, or the place in a text that is ranged over, or a map. -/
structure Blk where
  ty : TypeId
  cells : List Leaf
  it : Option It
structure RowS where
  t : Ty
  e : TypeId
  xs : List t.den

abbrev Slots := List (Nat × SV)

def getS : Slots → Nat → SV
  | [], _ => .leaf .any
  | (k, s) :: r, t => bif Nat.beq k t then s else getS r t

abbrev Blks := List (Nat × Blk)
abbrev Rows := List (Nat × RowS)

def getB : Blks → Nat → Option Blk
  | [], _ => none
  | (k, b) :: r, i => bif Nat.beq k i then some b else getB r i
def getR : Rows → Nat → Option RowS
  | [], _ => none
  | (k, b) :: r, i => bif Nat.beq k i then some b else getR r i

structure St where
  slots : Slots
  blks : Blks
  rows : Rows

def constSV : Value → SV
  | .bool b => .leaf (.blit b)
  | .int k n => .leaf (.tv (.int k) n)
  | .string s => .leaf (.tv .str s)
  | v => .leaf (.raw v)

def evO (b : Nat) (sl : Slots) : Operand → SV
  | .tmp t => getS sl (b + t)
  | .const v => constSV v
  | .func f => .leaf (.raw (.func (.func f) #[] #[]))
  | .global g => .leaf (.raw (.pointer (some ⟨g, 0, none⟩)))

def cellsOf : SV → Option (List Leaf)
  | .leaf (.tv t x) => some (explode t x)
  | .leaf .any => none
  | .leaf .undef => none
  | .leaf (.raw v) => match v with
    | .agg _ => none
    | .tuple _ => none
    | v => some [.raw v]
  | .leaf l => some [l]
  | .agg ls => some ls
  | .tupv _ _ => none

def aggOf : SV → Option (List Leaf)
  | .leaf (.tv t x) => bif t.isAgg then some (explode t x) else none
  | .agg ls => some ls
  | _ => none

def argVal (t : Ty) (s : SV) : Option t.den :=
  match s with
  | .leaf (.tv t' x) => if e : t' = t then some (e ▸ x) else none
  | .leaf l => bif t.isAgg then none else match implode t [l] with
    | some (x, []) => some x
    | _ => none
  | .agg ls => bif t.isAgg then match implode t ls with
    | some (x, []) => some x
    | _ => none
    else none
  | .tupv _ _ => none
def argValK {R : Sort u} (t : Ty) (s : SV) (fail : R) (k : t.den → R) : R :=
  match s with
  | .leaf (.tv t' x) => match (inferInstance : Decidable (t' = t)) with
    | .isTrue e => (Eq.rec (motive := fun t _ => (Ty.den t → R) → R) (fun k => k x) e) k
    | .isFalse _ => fail
  | .leaf l => bif t.isAgg then fail else implodeK t [l] fail fun x r => match r with
    | [] => k x
    | _ :: _ => fail
  | .agg ls => bif t.isAgg then implodeK t ls fail fun x r => match r with
    | [] => k x
    | _ :: _ => fail
    else fail
  | .tupv _ _ => fail
theorem argValK_eq {R : Sort u} (t : Ty) (s : SV) (fail : R) (k : t.den → R) :
    argValK t s fail k = match argVal t s with | some x => k x | none => fail := by
  unfold argValK argVal
  split
  · rename_i t' x
    by_cases e : t' = t
    · subst e
      rw [dif_pos rfl]
      split
      · rfl
      · rename_i h _; exact absurd rfl h
    · rw [dif_neg e]
      split
      · rename_i h _; exact absurd h e
      · rfl
  · rename_i l _
    cases t.isAgg with
    | true => rfl
    | false =>
      simp only [cond_false, implodeK_eq]
      cases implode t [l] with
      | none => rfl
      | some p =>
        obtain ⟨x, r⟩ := p
        cases r <;> rfl
  · rename_i ls
    cases t.isAgg with
    | false => rfl
    | true =>
      simp only [cond_true, implodeK_eq]
      cases implode t ls with
      | none => rfl
      | some p =>
        obtain ⟨x, r⟩ := p
        cases r <;> rfl
  · rfl

def argsOf : (t : Ty) → List SV → Option t.den
  | .unit, [] => some ()
  | .pair a b, s :: r => match argVal a s with
    | some x => match argsOf b r with
      | some y => some (x, y)
      | none => none
    | none => none
  | _, _ => none
def argsK {R : Sort u} : (t : Ty) → List SV → R → (t.den → R) → R
  | .unit, [], _, k => k ()
  | .pair a b, s :: r, fail, k => argValK a s fail fun x => argsK b r fail fun y => k (x, y)
  | _, _, fail, _ => fail
theorem argsK_eq {R : Sort u} : (t : Ty) → (ss : List SV) → (fail : R) → (k : t.den → R) → argsK t ss fail k = match argsOf t ss with | some x => k x | none => fail
  | .unit, [], fail, k => rfl
  | .unit, _ :: _, fail, k => rfl
  | .pair a b, s :: r, fail, k => by
    simp only [argsK, argsOf, argValK_eq]
    cases argVal a s with
    | none => rfl
    | some x =>
      simp only [argsK_eq b]
      cases argsOf b r with
      | none => rfl
      | some y => rfl
  | .pair a b, [], fail, k => rfl
  | .bool, ss, fail, k => by cases ss <;> rfl
  | .int _, ss, fail, k => by cases ss <;> rfl
  | .str, ss, fail, k => by cases ss <;> rfl
  | .sl _, ss, fail, k => by cases ss <;> rfl
  | .opt _, ss, fail, k => by cases ss <;> rfl
  | .mp _ _, ss, fail, k => by cases ss <;> rfl
  | .nd _ _ _ _, ss, fail, k => by cases ss <;> rfl

def asInt : SV → Option (IntKind × Int)
  | .leaf (.tv (.int k) n) => some (k, n)
  | _ => none
def asBool : SV → Option Bool
  | .leaf (.tv .bool b) => some b
  | .leaf (.blit b) => some b
  | _ => none
def asStr : SV → Option ByteArray
  | .leaf (.tv .str s) => some s
  | _ => none

def mkInt (k : IntKind) (n : Int) : SV := .leaf (.tv (.int k) n)
def mkBool (b : Bool) : SV := .leaf (.tv .bool b)

def sameKind (a b : IntKind) : Bool := match a, b with
  | .i8, .i8 | .i16, .i16 | .i32, .i32 | .i64, .i64 | .u8, .u8 | .u16, .u16 | .u32, .u32 | .u64, .u64 => true
  | _, _ => false

def evIntBin (op : BinOp) (k : IntKind) (a b : Int) : Option (SV × Option Prop) :=
  match op with
  | .add => some (mkInt k (k.wrap (a + b)), none)
  | .sub => some (mkInt k (k.wrap (a - b)), none)
  | .mul => some (mkInt k (k.wrap (a * b)), none)
  | .quo => some (mkInt k (k.wrap (a.tdiv b)), some (b ≠ 0))
  | .rem => some (mkInt k (a.tmod b), some (b ≠ 0))
  | .eql => some (mkBool (a == b), none)
  | .neq => some (mkBool (a != b), none)
  | .lss => some (mkBool (decide (a < b)), none)
  | .leq => some (mkBool (decide (a ≤ b)), none)
  | .gtr => some (mkBool (decide (a > b)), none)
  | .geq => some (mkBool (decide (a ≥ b)), none)
  | _ => none

def evStrBin (op : BinOp) (a b : ByteArray) : Option (SV × Option Prop) :=
  match op with
  | .add => some (.leaf (.tv .str (a ++ b)), some (a.size + b.size ≤ 9223372036854775807))
  | .eql => some (mkBool (a.toList == b.toList), none)
  | .neq => some (mkBool (!(a.toList == b.toList)), none)
  | _ => none

/-- Equality of data. -/
def Ty.beq : (t : Ty) → t.den → t.den → Bool
  | .bool, a, b => (a : Bool) == b
  | .int _, a, b => (a : Int) == b
  | .str, a, b => (a : ByteArray) == b
  | .unit, _, _ => true
  | .sl _, _, _ => false
  | .opt _, _, _ => false
  | .mp _ _, _, _ => false
  | .nd _ _ _ _, _, _ => false
  | .pair a b, x, y => a.beq x.1 y.1 && b.beq x.2 y.2

/-- Types whose data can be compared. -/
def Ty.plain : Ty → Bool
  | .sl _ => false
  | .opt _ => false
  | .mp _ _ => false
  | .nd _ _ _ _ => false
  | .pair a b => a.plain && b.plain
  | _ => true

/-- A pointer is held against nil. -/
def evNil (op : BinOp) (x y : SV) : Option (SV × Option Prop) :=
  match y with
  | .leaf (.raw (.pointer none)) => match op with
    | .eql => match x with
      | .leaf (.tv (.opt _) a) => some (mkBool (Option.isNone a), none)
      | .leaf (.raw (.pointer none)) => some (.leaf (.blit true), none)
      | .leaf (.ptr _ _) => some (.leaf (.blit false), none)
      | _ => none
    | .neq => match x with
      | .leaf (.tv (.opt _) a) => some (mkBool (Option.isSome a), none)
      | .leaf (.raw (.pointer none)) => some (.leaf (.blit false), none)
      | .leaf (.ptr _ _) => some (.leaf (.blit true), none)
      | _ => none
    | _ => none
  | _ => none

/-- An interface is held against nil. -/
def evNilI (op : BinOp) (x y : SV) : Option (SV × Option Prop) :=
  match y with
  | .leaf (.raw .nilIface) => match op with
    | .eql => match x with
      | .leaf (.tv (.nd _ _ _ _) a) => some (mkBool (NT.isNil a), none)
      | .leaf (.raw .nilIface) => some (.leaf (.blit true), none)
      | _ => none
    | .neq => match x with
      | .leaf (.tv (.nd _ _ _ _) a) => some (mkBool (!(NT.isNil a)), none)
      | .leaf (.raw .nilIface) => some (.leaf (.blit false), none)
      | _ => none
    | _ => none
  | _ => none

def evBin (E : Env) (op : BinOp) (t : TypeId) (x y : SV) : Option (SV × Option Prop) :=
  match asInt x with
  | some (k, a) => match asInt y with
    | some (k', b) => bif sameKind k k' then evIntBin op k a b else none
    | none => none
  | none => match asStr x with
    | some a => match asStr y with
      | some b => evStrBin op a b
      | none => none
    | none => match E.tt t with
      | some ti => match ti.k with
        | .ptr _ => evNil op x y
        | .iface => evNilI op x y
        | _ => match ti.ty with
        | some T => bif T.plain then argValK T x none fun a => argValK T y none fun b => match op with
            | .eql => some (mkBool (T.beq a b), none)
            | .neq => some (mkBool (!(T.beq a b)), none)
            | _ => none
          else none
        | none => none
      | none => none

def evUn (op : UnOp) (x : SV) : Option (SV × Option Prop) :=
  match op with
  | .not => match asBool x with
    | some b => some (mkBool (!b), none)
    | none => none
  | .neg => match asInt x with
    | some (k, n) => some (mkInt k (k.wrap (0 - n)), none)
    | none => none
  | _ => none

/-- Some cells in the middle. -/
def mid (ls : List Leaf) (off n : Nat) : List Leaf := (ls.drop off).take n
def splice (ls : List Leaf) (off : Nat) (new : List Leaf) : List Leaf := ls.take off ++ (new ++ ls.drop (off + new.length))

def partOf (ti : TI) (ls : List Leaf) (off : Nat) : Option SV :=
  bif Nat.ble (off + ti.size) ls.length then
    bif ti.isAgg then some (.agg (mid ls off ti.size))
    else match ls[off]? with
      | some l => some (.leaf l)
      | none => none
  else none

def dataAt (ti : TI) (t : Ty) (x : t.den) (off : Nat) : Option SV :=
  bif Nat.beq off 0 && Nat.beq ti.size t.size && (ti.isAgg == t.isAgg) then some (.leaf (.tv t x))
  else partOf ti (explode t x) off

def evLoad (E : Env) (blks : Blks) (rows : Rows) (t : TypeId) (a : SV) : Option (SV × Option Prop) :=
  match E.tt t with
  | some ti => match a with
    | .leaf (.ptr i off) => match getB blks i with
      | some ⟨_, cs, none⟩ => match partOf ti cs off with
        | some s => some (s, none)
        | none => none
      | _ => none
    | .leaf (.raw (.pointer (some ⟨g, off, none⟩))) => match E.gl g with
      | some ⟨T, x⟩ => match dataAt ti T x off with
        | some s => some (s, none)
        | none => none
      | none => none
    | .leaf (.eptr T xs i off) => match dataAt ti T (xs.getD i T.dflt) off with
      | some s => some (s, none)
      | none => none
    | .leaf (.rptr r sz i off) => match getR rows r with
      | some R => bif Nat.beq sz R.t.size then match dataAt ti R.t (R.xs.getD i R.t.dflt) off with
        | some s => some (s, none)
        | none => none
        else none
      | _ => none
    | _ => none
  | none => none

def evFieldAddr (E : Env) (s : TypeId) (x : SV) (f : Nat) : Option (SV × Option Prop) :=
  match E.tt s with
  | some ti => match ti.k with
    | .struct fs => match fs[f]? with
      | some (o, n, _) => bif Nat.beq n 0 then none else match x with
        | .leaf (.ptr i off) => some (.leaf (.ptr i (off + o)), none)
        | .leaf (.eptr T xs i off) => some (.leaf (.eptr T xs i (off + o)), none)
        | .leaf (.rptr r sz i off) => some (.leaf (.rptr r sz i (off + o)), none)
        | _ => none
      | none => none
    | _ => none
  | none => none

def evField (E : Env) (s : TypeId) (x : SV) (f : Nat) : Option (SV × Option Prop) :=
  match E.tt s with
  | some ti => match ti.k with
    | .struct fs => match fs[f]? with
      | some (o, n, g) => match aggOf x with
        | some ls => bif Nat.ble (o + n) ls.length then
            bif g then some (.agg (mid ls o n), none) else match ls[o]? with
              | some l => some (.leaf l, none)
              | none => none
          else none
        | none => none
      | none => none
    | _ => none
  | none => none

def evIndexAddr (E : Env) (rows : Rows) (t : TypeId) (x ix : SV) : Option (SV × Option Prop) :=
  match asInt ix with
  | none => none
  | some (_, e) => match E.tt t with
    | none => none
    | some ti => match ti.k with
      | .slice te => match E.tt te with
        | none => none
        | some tei => match x with
          | .leaf (.tv (.sl T) xs) => bif Nat.beq tei.size T.size then some (.leaf (.eptr T xs e.toNat 0), some (0 ≤ e ∧ e < (List.length xs : Int))) else none
          | .leaf (.row r) => match getR rows r with
            | some R => bif Nat.beq tei.size R.t.size then some (.leaf (.rptr r R.t.size e.toNat 0), some (0 ≤ e ∧ e < (R.xs.length : Int))) else none
            | _ => none
          | _ => none
      | .array n _ es => match x with
        | .leaf (.ptr i off) => some (.leaf (.ptr i (off + e.toNat * es)), some (0 ≤ e ∧ e < (n : Int)))
        | .leaf (.raw (.pointer (some ⟨g, off, none⟩))) => some (.leaf (.raw (.pointer (some ⟨g, off + e.toNat * es, none⟩))), some (0 ≤ e ∧ e < (n : Int)))
        | .leaf (.eptr T xs i off) => some (.leaf (.eptr T xs i (off + e.toNat * es)), some (0 ≤ e ∧ e < (n : Int)))
        | .leaf (.rptr r sz i off) => some (.leaf (.rptr r sz i (off + e.toNat * es)), some (0 ≤ e ∧ e < (n : Int)))
        | _ => none
      | _ => none

def evIndex (E : Env) (t : TypeId) (x ix : SV) : Option (SV × Option Prop) :=
  match asInt ix with
  | none => none
  | some (_, e) => match E.tt t with
    | none => none
    | some ti => match ti.k with
      | .array n te _ => match E.tt te with
        | none => none
        | some tei => match aggOf x with
          | some ls => match partOf tei ls (e.toNat * tei.size) with
            | some s => some (s, some (0 ≤ e ∧ e < (n : Int)))
            | none => none
          | none => none
      | .str => match x with
        | .leaf (.tv .str s) => some (mkInt .u8 (((ByteArray.data s)[e.toNat]?.getD 0).toNat : Int), some (0 ≤ e ∧ e < (ByteArray.size s : Int)))
        | _ => none
      | _ => none

/-- A bound of what is empty. -/
def zeroB : Option SV → Option Prop
  | none => some True
  | some s => match asInt s with
    | some (_, n) => some (n = 0)
    | none => none
def evSliceNil (lo hi : Option SV) : Option (SV × Option Prop) :=
  match zeroB lo with
  | some p => match zeroB hi with
    | some q => some (.leaf (.raw (.slice none 0 0)), some (p ∧ q))
    | none => none
  | none => none
def evSlice (E : Env) (t : TypeId) (x : SV) (lo hi : Option SV) : Option (SV × Option Prop) :=
  match E.tt t with
  | none => none
  | some ti => match ti.k with
    | .slice te => match E.tt te with
      | none => none
      | some tei => match x with
        | .leaf (.tv (.sl T) xs) => bif Nat.beq tei.size T.size then match lo, hi with
          | none, none => some (.leaf (.tv (.sl T) xs), none)
          | some l, none => match asInt l with
            | some (_, l) => some (.leaf (.tv (.sl T) (List.drop l.toNat xs)), some (0 ≤ l ∧ l ≤ (List.length xs : Int)))
            | none => none
          | none, some h => match asInt h with
            | some (_, h) => some (.leaf (.tv (.sl T) (List.take h.toNat xs)), some (0 ≤ h ∧ h ≤ (List.length xs : Int)))
            | none => none
          | some l, some h => match asInt l with
            | some (_, l) => match asInt h with
              | some (_, h) => some (.leaf (.tv (.sl T) (List.drop l.toNat (List.take h.toNat xs))), some (0 ≤ l ∧ l ≤ h ∧ h ≤ (List.length xs : Int)))
              | none => none
            | none => none
          else none
        | .leaf (.raw (.slice none 0 0)) => evSliceNil lo hi
        | _ => none
    | .str => match x with
      | .leaf (.tv .str s) => match lo, hi with
        | none, none => some (.leaf (.tv .str s), none)
        | some l, none => match asInt l with
          | some (_, l) => some (.leaf (.tv .str (ByteArray.extract s l.toNat (ByteArray.size s))), some (0 ≤ l ∧ l ≤ (ByteArray.size s : Int)))
          | none => none
        | none, some h => match asInt h with
          | some (_, h) => some (.leaf (.tv .str (ByteArray.extract s 0 h.toNat)), some (0 ≤ h ∧ h ≤ (ByteArray.size s : Int)))
          | none => none
        | some l, some h => match asInt l with
          | some (_, l) => match asInt h with
            | some (_, h) => some (.leaf (.tv .str (ByteArray.extract s l.toNat h.toNat)), some (0 ≤ l ∧ l ≤ h ∧ h ≤ (ByteArray.size s : Int)))
            | none => none
          | none => none
      | _ => none
    | _ => none

def evLen (E : Env) (rows : Rows) (t : TypeId) (x : SV) : Option (SV × Option Prop) :=
  match E.tt t with
  | none => none
  | some ti => match ti.k with
    | .slice _ => match x with
      | .leaf (.tv (.sl _) xs) => some (mkInt .i64 (List.length xs : Int), none)
      | .leaf (.row r) => match getR rows r with
        | some R => some (mkInt .i64 (R.xs.length : Int), none)
        | _ => none
      | .leaf (.raw (.slice none 0 0)) => some (mkInt .i64 0, none)
      | _ => none
    | .str => match x with
      | .leaf (.tv .str s) => some (mkInt .i64 (ByteArray.size s : Int), none)
      | _ => none
    | _ => none

def buildCells (b : Nat) (place : Nat → Option (Nat × Nat)) (sl : Slots) : List (Nat × Operand) → List Leaf → Option (List Leaf)
  | [], cs => some cs
  | (i, x) :: r, cs => match place i with
    | none => none
    | some (off, n) => match cellsOf (evO b sl x) with
      | none => none
      | some ls => bif Nat.beq ls.length n && Nat.ble (off + n) cs.length then buildCells b place sl r (splice cs off ls) else none

def evBuild (E : Env) (b : Nat) (sl : Slots) (t : TypeId) (parts : List (Nat × Operand)) : Option (SV × Option Prop) :=
  match E.tt t with
  | none => none
  | some ti => bif Nat.beq ti.zero.length ti.size then match ti.k with
    | .struct fs => match buildCells b (fun i => (fs[i]?).map fun f => (f.1, f.2.1)) sl parts ti.zero with
      | some cs => some (.agg cs, none)
      | none => none
    | .array _ _ es => match buildCells b (fun i => some (i * es, es)) sl parts ti.zero with
      | some cs => some (.agg cs, none)
      | none => none
    | _ => none
    else none

/-- The elements of a slice literal, all of them named in their order. -/
def buildElems (b : Nat) (T : Ty) (sl : Slots) : Nat → List (Nat × Operand) → Option (List T.den)
  | _, [] => some []
  | k, (i, x) :: r => bif Nat.beq i k then match argVal T (evO b sl x) with
    | some d => match buildElems b T sl (k + 1) r with
      | some ds => some (d :: ds)
      | none => none
    | none => none
    else none
def buildElemsK {R : Sort u} (b : Nat) (T : Ty) (sl : Slots) (fail : R) : Nat → List (Nat × Operand) → (List T.den → R) → R
  | _, [], k => k []
  | n, (i, x) :: r, k => bif Nat.beq i n then argValK T (evO b sl x) fail fun d => buildElemsK b T sl fail (n + 1) r fun ds => k (d :: ds) else fail
theorem buildElemsK_eq {R : Sort u} (b : Nat) (T : Ty) (sl : Slots) (fail : R) : (n : Nat) → (ps : List (Nat × Operand)) → (k : List T.den → R) →
    buildElemsK b T sl fail n ps k = match buildElems b T sl n ps with | some x => k x | none => fail
  | _, [], k => rfl
  | n, (i, x) :: r, k => by
    simp only [buildElemsK, buildElems, argValK_eq]
    cases Nat.beq i n with
    | false => rfl
    | true =>
      simp only [cond_true]
      cases argVal T (evO b sl x) with
      | none => rfl
      | some d =>
        simp only [buildElemsK_eq b T sl fail (n + 1) r]
        cases buildElems b T sl (n + 1) r with
        | none => rfl
        | some ds => rfl

def evBuildSlice (E : Env) (b : Nat) (sl : Slots) (t : TypeId) (len : Nat) (parts : List (Nat × Operand)) : Option (SV × Option Prop) :=
  match E.tt t with
  | none => none
  | some ti => match ti.k with
    | .slice te => match E.tt te with
      | none => none
      | some tei => match tei.ty with
        | none => none
        | some T => bif Nat.beq parts.length len && Nat.ble (len * tei.size) 16777216 && Nat.beq tei.zero.length tei.size && Nat.beq tei.size T.size && Nat.ble 1 T.size then buildElemsK b T sl none 0 parts fun ds => some (.leaf (.tv (.sl T) ds), none) else none
    | _ => none

def tupGet : (t : Ty) → t.den → Nat → Option SV
  | .pair a _, x, 0 => some (.leaf (.tv a x.1))
  | .pair _ b, x, n + 1 => tupGet b x.2 n
  | _, _, _ => none

/-- Which function a value is, and what it has captured. -/
def asFn : SV → Option (FuncId × List Leaf)
  | .leaf (.clo f caps) => some (f, caps)
  | .leaf (.raw (.func (.func f) ⟨[]⟩ ⟨[]⟩)) => some (f, [])
  | _ => none
def leafSVs : List Leaf → List SV
  | [] => []
  | l :: r => .leaf l :: leafSVs r
def isTail : List SV → List FuncId → Bool
  | [], [] => true
  | s :: ss, f :: fs => (match asFn s with | some (g, []) => Nat.beq g f | _ => false) && isTail ss fs
  | _, _ => false
/-- The arguments ahead of the functions that are handed over. -/
def cutTail (tl : List FuncId) (ss : List SV) : Option (List SV) :=
  match tl with
  | [] => some ss
  | _ :: _ => bif isTail (ss.drop (ss.length - tl.length)) tl then some (ss.take (ss.length - tl.length)) else none
def evCall (E : Env) (b : Nat) (sl : Slots) (c : Call) : Option (SV × Option Prop) :=
  match c.callee with
  | .value fv => match asFn (evO b sl fv) with
    | some (f, caps) => match E.ct f with
      | some C => match C.own with
        | none => match cutTail C.tail (c.args.toList.map (evO b sl) ++ leafSVs caps) with
          | some ss => argsK C.arg ss none fun x => bif C.one then some (.leaf (.tv C.res (C.fn x)), some (C.pre x)) else some (.tupv C.res (C.fn x), some (C.pre x))
          | none => none
        | some _ => none
      | none => none
    | none => none
  | _ => none

/-- A call of a function that is walked there. -/
def inlEv (E : Env) (b : Nat) (sl : Slots) (op : Op) : Option (FuncId × List SV) :=
  match op with
  | .call c => match c.callee with
    | .value fv => match asFn (evO b sl fv) with
      | some (f, caps) => match E.inl f with
        | some _ => some (f, c.args.toList.map (evO b sl) ++ leafSVs caps)
        | none => none
      | none => none
    | _ => none
  | _ => none

/-- A function value. -/
def capLeaves (b : Nat) (sl : Slots) : List Operand → Option (List Leaf)
  | [] => some []
  | x :: r => match evO b sl x with
    | .leaf l => match capLeaves b sl r with
      | some ls => some (l :: ls)
      | none => none
    | _ => none
def evFunc (b : Nat) (sl : Slots) (fn : Fn) (first caps : List Operand) : Option (SV × Option Prop) :=
  match fn with
  | .func f => match first with
    | [] => match capLeaves b sl caps with
      | some ls => some (.leaf (.clo f ls), none)
      | none => none
    | _ => none
  | _ => none

def evBuiltin (E : Env) (b : Nat) (sl : Slots) (rows : Rows) (bi : Builtin) (ts : List TypeId) (args : List Operand) : Option (SV × Option Prop) :=
  match bi with
  | .len => match ts with
    | t :: _ => match args with
      | x :: [] => evLen E rows t (evO b sl x)
      | _ => none
    | _ => none
  | .cap => match ts with
    | t :: _ => match args with
      | x :: [] => match E.tt t with
        | some ti => match ti.k with
          | .slice _ => match evO b sl x with
            | .leaf (.raw (.slice none 0 0)) => some (mkInt .i64 0, none)
            | _ => none
          | _ => none
        | none => none
      | _ => none
    | _ => none
  | .min => match args with
    | x :: y :: [] => match asInt (evO b sl x) with
      | some (k, a) => match asInt (evO b sl y) with
        | some (_, b) => some (mkInt k (if b < a then b else a), none)
        | none => none
      | none => none
    | _ => none
  | .max => match args with
    | x :: y :: [] => match asInt (evO b sl x) with
      | some (k, a) => match asInt (evO b sl y) with
        | some (_, b) => some (mkInt k (if a < b then b else a), none)
        | none => none
      | none => none
    | _ => none
  | _ => none

/-- Numbers' bytes. -/
def bytesOf (xs : List Int) : ByteArray := ⟨(xs.map fun n => UInt8.ofNat n.toNat).toArray⟩

def evConvert (E : Env) (src dst : TypeId) (x : SV) : Option (SV × Option Prop) :=
  match E.tt dst with
  | none => none
  | some ti => match ti.k with
    | .int k => match asInt x with
      | some (_, n) => some (mkInt k (k.wrap n), none)
      | none => none
    | .str => match E.tt src with
      | none => none
      | some si => match si.k with
        | .int _ => match asInt x with
          | some (_, n) => some (.leaf (.tv .str (Utf8.encode n)), none)
          | none => none
        | .str => match asStr x with
          | some s => some (.leaf (.tv .str s), none)
          | none => none
        | .slice e => match E.tt e with
          | some ei => match ei.k with
            | .int .u8 => match x with
              | .leaf (.tv (.sl (.int .u8)) xs) => some (.leaf (.tv .str (bytesOf xs)), none)
              | _ => none
            | _ => none
          | none => none
        | _ => none
    | _ => none

/-- A pointer that is not nil. -/
def evNilCheck (x : SV) : Option (SV × Option Prop) :=
  match x with
  | .leaf (.tv (.opt T) a) => some (.leaf (.eptr T (optL a) 0 0), some (Option.isSome a = true))
  | .leaf (.ptr i o) => some (.leaf (.ptr i o), none)
  | .leaf (.eptr T xs i o) => some (.leaf (.eptr T xs i o), none)
  | .leaf (.rptr r s i o) => some (.leaf (.rptr r s i o), none)
  | _ => none

/-- The data of a slice, up to a bound, and no further. -/
def evSliceMax (E : Env) (t : TypeId) (x hi mx : SV) : Option (SV × Option Prop) :=
  match E.tt t with
  | none => none
  | some ti => match ti.k with
    | .slice te => match E.tt te with
      | none => none
      | some tei => match x with
        | .leaf (.tv (.sl T) xs) => bif Nat.beq tei.size T.size then match asInt hi with
          | some (_, h) => match asInt mx with
            | some (_, m) => some (.leaf (.tv (.sl T) (List.take h.toNat xs)), some (0 ≤ h ∧ h ≤ m ∧ m ≤ (List.length xs : Int)))
            | none => none
          | none => none
          else none
        | _ => none
    | _ => none

/-! ### Trees behind an interface -/
def evAssert (E : Env) (x : SV) (xt at_ : TypeId) (ok : Bool) : Option (SV × Option Prop) :=
  match E.tt xt with
  | none => none
  | some xi => match xi.ty with
    | some (.nd tl ti l i) => match E.tt at_ with
      | none => none
      | some ai => match ai.k with
        | .ptr _ => match ai.zero with
          | .raw (.pointer none) :: [] => bif Nat.beq tl ti || !(Nat.beq ai.size 1) then none else argValK (.nd tl ti l i) x none fun a =>
            bif Nat.beq at_ tl then match ok with
              | true => some (.tupv (.pair (.opt l) (.pair .bool .unit)) (NT.asLeaf a, Option.isSome (NT.asLeaf a), ()), none)
              | false => some (.leaf (.tv (.opt l) (NT.asLeaf a)), some (Option.isSome (NT.asLeaf a) = true))
            else bif Nat.beq at_ ti then match ok with
              | true => some (.tupv (.pair (.opt (.pair (.sl (.nd tl ti l i)) i)) (.pair .bool .unit)) (NT.asInner a, Option.isSome (NT.asInner a), ()), none)
              | false => some (.leaf (.tv (.opt (.pair (.sl (.nd tl ti l i)) i)) (NT.asInner a)), some (Option.isSome (NT.asInner a) = true))
            else none
          | _ => none
        | _ => none
    | _ => none
def evMkIf (E : Env) (xt : TypeId) (x : SV) : Option (SV × Option Prop) :=
  match E.ifc xt with
  | some (.nd tl ti l i) => match E.tt xt with
    | none => none
    | some xi => match xi.k with
      | .ptr _ => bif Nat.beq xt tl then argValK (.opt l) x none fun a => some (.leaf (.tv (.nd tl ti l i) (NT.ofLeaf a)), some (Option.isSome a = true))
        else bif Nat.beq xt ti then argValK (.opt (.pair (.sl (.nd tl ti l i)) i)) x none fun a => some (.leaf (.tv (.nd tl ti l i) (NT.ofInner a)), some (Option.isSome a = true))
        else none
      | _ => none
  | _ => none

/-- A map's type code, as a list of its entries. -/
@[reducible] def mapT (K V : Ty) : Ty := .sl (.pair K (.pair V .unit))
/-- What a key has in a map. -/
def mget (K V : Ty) (key : K.den) : List (K.den × V.den × Unit) → Option V.den
  | [] => none
  | x :: xs => bif K.beq key x.1 then some x.2.1 else mget K V key xs
/-- A map without a key. -/
def mdel (K V : Ty) (key : K.den) : List (K.den × V.den × Unit) → List (K.den × V.den × Unit)
  | [] => []
  | x :: xs => bif K.beq key x.1 then xs else x :: mdel K V key xs
/-- What an operation yields that changes nothing of the call's own. -/
def pureEv (E : Env) (b : Nat) (sl : Slots) (blks : Blks) (rows : Rows) (op : Op) : Option (SV × Option Prop) :=
  match op with
  | .move x => some (evO b sl x, none)
  | .assign x => some (evO b sl x, none)
  | .pick c x y => match evO b sl c with
    | .leaf (.blit true) => some (evO b sl x, none)
    | .leaf (.blit false) => some (evO b sl y, none)
    | _ => none
  | .load t a => evLoad E blks rows t (evO b sl a)
  | .nilCheck x => evNilCheck (evO b sl x)
  | .fieldAddr s x f => evFieldAddr E s (evO b sl x) f
  | .field s x f => evField E s (evO b sl x) f
  | .indexAddr t x i => evIndexAddr E rows t (evO b sl x) (evO b sl i)
  | .index t x i => evIndex E t (evO b sl x) (evO b sl i)
  | .binOp op t x y _ => evBin E op t (evO b sl x) (evO b sl y)
  | .unOp op _ x => evUn op (evO b sl x)
  | .build t ps => evBuild E b sl t ps.toList
  | .buildSlice t n ps => evBuildSlice E b sl t n ps.toList
  | .slice t x lo hi mx => match mx with
    | none => evSlice E t (evO b sl x) (lo.map (evO b sl)) (hi.map (evO b sl))
    | some m => match lo with
      | none => match hi with
        | some hi => evSliceMax E t (evO b sl x) (evO b sl hi) (evO b sl m)
        | none => none
      | some _ => none
  | .typeAssert x xt at_ ok => evAssert E (evO b sl x) xt at_ ok
  | .makeInterface xt x => evMkIf E xt (evO b sl x)
  | .extract x i => match evO b sl x with
    | .tupv t y => match tupGet t y i with
      | some s => some (s, none)
      | none => none
    | _ => none
  | .convert s d x => match E.tt s with
    | some _ => evConvert E s d (evO b sl x)
    | none => none
  | .makeFunc fn first caps => evFunc b sl fn first.toList caps.toList
  | .call c => match c.callee with
    | .builtin bi => evBuiltin E b sl rows bi c.argTypes.toList c.args.toList
    | _ => evCall E b sl c
  | _ => none

/-- A store: the block's name, and what it is then. -/
def storeEv (E : Env) (b : Nat) (sl : Slots) (blks : Blks) (op : Op) : Option (Nat × Blk) :=
  match op with
  | .store t a x => match E.tt t with
    | some ti => match evO b sl a with
      | .leaf (.ptr i off) => match getB blks i with
        | some ⟨bt, bc, none⟩ => match cellsOf (evO b sl x) with
          | some ls => bif Nat.beq ls.length ti.size && Nat.ble (off + ti.size) bc.length then some (i, ⟨bt, splice bc off ls, none⟩) else none
          | none => none
        | _ => none
      | _ => none
    | none => none
  | _ => none

/-- A store into an element of a row: the row's name, the place, and what the element is then. -/
def rowStoreEv (E : Env) (b : Nat) (sl : Slots) (rows : Rows) (op : Op) : Option (Nat × RowS) :=
  match op with
  | .store t a x => match E.tt t with
    | some ti => match evO b sl a with
      | .leaf (.rptr r sz i off) => match getR rows r with
        | some R => match cellsOf (evO b sl x) with
          | some ls => bif Nat.beq sz R.t.size && Nat.beq ls.length ti.size && Nat.ble (off + ti.size) R.t.size then
              implodeK R.t (splice (explode R.t (R.xs.getD i R.t.dflt)) off ls) none fun y r' => match r' with
                | [] => some (r, ⟨R.t, R.e, R.xs.set i y⟩)
                | _ :: _ => none
            else none
          | none => none
        | none => none
      | _ => none
    | none => none
  | _ => none

end Go.Fr
