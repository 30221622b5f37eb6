/-
  The symbolic walk over regions and over structured code. Conditions: none.
-/
import Derived.Test.YtkgmpnadgilpjaaFrB
namespace Go.Fr
open Go Go.RowKit

def St.put (σ : St) (d : Option Nat) (s : SV) : St :=
  match d with
  | some t => { σ with slots := (t, s) :: σ.slots }
  | none => σ

/-! ### The same, laid bare: so that what is handed on is written out -/
def fLs : List Leaf → (List Leaf → Prop) → Prop
  | [], k => k []
  | l :: r, k => fLs r fun r' => k (l :: r')
def fSV : SV → (SV → Prop) → Prop
  | .agg ls, k => fLs ls fun ls' => k (.agg ls')
  | .leaf l, k => k (.leaf l)
  | .tupv t x, k => k (.tupv t x)
def fSlots : Slots → (Slots → Prop) → Prop
  | [], k => k []
  | (t, s) :: r, k => fSV s fun s' => fSlots r fun r' => k ((t, s') :: r')
def fBlks : Blks → (Blks → Prop) → Prop
  | [], k => k []
  | (n, ⟨t, cs⟩) :: r, k => fLs cs fun cs' => fBlks r fun r' => k ((n, ⟨t, cs'⟩) :: r')
def fRows : Rows → (Rows → Prop) → Prop
  | [], k => k []
  | (n, ⟨t, e, xs⟩) :: r, k => fRows r fun r' => k ((n, ⟨t, e, xs⟩) :: r')

theorem fLs_eq (ls : List Leaf) (k : List Leaf → Prop) : fLs ls k = k ls := by
  induction ls generalizing k with
  | nil => rfl
  | cons l r ih => simp only [fLs, ih]
theorem fSV_eq (s : SV) (k : SV → Prop) : fSV s k = k s := by
  cases s <;> simp only [fSV, fLs_eq]
theorem fSlots_eq (s : Slots) (k : Slots → Prop) : fSlots s k = k s := by
  induction s generalizing k with
  | nil => rfl
  | cons l r ih => obtain ⟨t, s⟩ := l; simp only [fSlots, ih, fSV_eq]
theorem fBlks_eq (s : Blks) (k : Blks → Prop) : fBlks s k = k s := by
  induction s generalizing k with
  | nil => rfl
  | cons l r ih => obtain ⟨n, t, s⟩ := l; simp only [fBlks, ih, fLs_eq]
theorem fRows_eq (s : Rows) (k : Rows → Prop) : fRows s k = k s := by
  induction s generalizing k with
  | nil => rfl
  | cons l r ih => obtain ⟨n, t, e, xs⟩ := l; simp only [fRows, ih]

/-- A slot is set. -/
def putK (sl : Slots) (bs : Blks) (rs : Rows) (d : Option Nat) (s : SV) (k : St → Prop) : Prop :=
  match d with
  | some t => fSV s fun s' => k ⟨(t, s') :: sl, bs, rs⟩
  | none => k ⟨sl, bs, rs⟩
theorem putK_eq (sl : Slots) (bs : Blks) (rs : Rows) (d : Option Nat) (s : SV) (k : St → Prop) : putK sl bs rs d s k = k (St.put ⟨sl, bs, rs⟩ d s) := by
  cases d <;> simp [putK, St.put, fSV_eq]

/-- A block is turned. -/
def setB : Blks → Nat → Blk → Blks
  | [], _, _ => []
  | (k, b) :: r, i, c => bif Nat.beq k i then (k, c) :: r else (k, b) :: setB r i c
def setBK : Blks → Nat → Blk → (Blks → Prop) → Prop
  | [], _, _, K => K []
  | (k, b) :: r, i, c, K => bif Nat.beq k i then K ((k, c) :: r) else setBK r i c fun r' => K ((k, b) :: r')
theorem setBK_eq (s : Blks) (i : Nat) (c : Blk) (K : Blks → Prop) : setBK s i c K = K (setB s i c) := by
  induction s generalizing K with
  | nil => rfl
  | cons l r ih => obtain ⟨k, b⟩ := l; simp only [setBK, setB, ih]; cases Nat.beq k i <;> rfl

def oblige (p : Option Prop) (k : Prop) : Prop :=
  match p with
  | none => k
  | some p => p ∧ k

/-! ### Who names a block, who names a row -/
def anyNat : List Nat → Nat → Bool
  | [], _ => false
  | x :: r, t => Nat.beq x t || anyNat r t
def Leaf.namesB (t : Nat) : Leaf → Bool
  | .ptr i _ => Nat.beq i t
  | .clo _ caps => anyNat caps t
  | _ => false
def Leaf.namesR (t : Nat) : Leaf → Bool
  | .row i => Nat.beq i t
  | .rptr i _ _ _ => Nat.beq i t
  | _ => false
def anyLeaf (f : Leaf → Bool) : List Leaf → Bool
  | [] => false
  | l :: r => f l || anyLeaf f r
def SV.anyL (f : Leaf → Bool) : SV → Bool
  | .leaf l => f l
  | .agg ls => anyLeaf f ls
  | .tupv _ _ => false
def anySlots (f : Leaf → Bool) : Slots → Bool
  | [] => false
  | (_, s) :: r => s.anyL f || anySlots f r
def anyBlks (f : Leaf → Bool) : Blks → Bool
  | [] => false
  | (_, b) :: r => anyLeaf f b.cells || anyBlks f r

/-! ### A leaf is put for another one -/
def SV.mapL (f : Leaf → Leaf) : SV → SV
  | .leaf l => .leaf (f l)
  | .agg ls => .agg (ls.map f)
  | .tupv t x => .tupv t x
def mapSlots (f : Leaf → Leaf) : Slots → Slots
  | [] => []
  | (k, s) :: r => (k, s.mapL f) :: mapSlots f r
def mapBlks (f : Leaf → Leaf) : Blks → Blks
  | [] => []
  | (k, b) :: r => (k, ⟨b.ty, b.cells.map f⟩) :: mapBlks f r
def rmR : Rows → Nat → Rows
  | [], _ => []
  | (k, b) :: r, i => bif Nat.beq k i then rmR r i else (k, b) :: rmR r i

/-- What is no more known of a row that has been appended to. -/
def forget (r : Nat) : Leaf → Leaf
  | .row i => bif Nat.beq i r then .any else .row i
  | .rptr i a b c => bif Nat.beq i r then .any else .rptr i a b c
  | .any => .any
  | .undef => .undef
  | .blit b => .blit b
  | .tv t x => .tv t x
  | .raw v => .raw v
  | .ptr i o => .ptr i o
  | .eptr t xs i o => .eptr t xs i o
  | .clo f c => .clo f c

/-- A row is frozen: what holds it holds data from then on. -/
def frz (r : Nat) (t : Ty) (xs : List t.den) : Leaf → Leaf
  | .row i => bif Nat.beq i r then .tv (.sl t) xs else .row i
  | .rptr i a b c => bif Nat.beq i r then .any else .rptr i a b c
  | .any => .any
  | .undef => .undef
  | .blit b => .blit b
  | .tv t x => .tv t x
  | .raw v => .raw v
  | .ptr i o => .ptr i o
  | .eptr t xs i o => .eptr t xs i o
  | .clo f c => .clo f c

def freeze (σ : St) (r : Nat) : St :=
  match getR σ.rows r with
  | some R => { slots := mapSlots (frz r R.t R.xs) σ.slots, blks := mapBlks (frz r R.t R.xs) σ.blks, rows := rmR σ.rows r }
  | none => σ

def rowsInL : List Leaf → List Nat
  | [] => []
  | .row r :: ls => r :: rowsInL ls
  | _ :: ls => rowsInL ls
def rowsIn : SV → List Nat
  | .leaf l => rowsInL [l]
  | .agg ls => rowsInL ls
  | .tupv _ _ => []

def freezeRows : List Nat → St → St
  | [], σ => σ
  | r :: rs, σ => freezeRows rs (freeze σ r)
def freezeAt : List Nat → St → St
  | [], σ => σ
  | t :: ts, σ => freezeAt ts (freezeRows (rowsIn (getS σ.slots t)) σ)

/-- The slots whose rows a region hands to a callee, cuts, or lays into a literal (through its own moves). -/
def tmpOf : Operand → List Nat
  | .tmp t => [t]
  | _ => []
def movesTo : List Oper → Nat → List Nat
  | [], _ => []
  | o :: r, t => match o.op with
    | .move (.tmp s) => match o.dst with
      | some d => bif Nat.beq d t then s :: movesTo r t else movesTo r t
      | none => movesTo r t
    | _ => movesTo r t
def handed : List Oper → List Nat
  | [] => []
  | o :: r => match o.op with
    | .call c => match c.callee with
      | .builtin _ => handed r
      | _ => c.args.toList.flatMap tmpOf ++ handed r
    | .slice _ x _ _ _ => tmpOf x ++ handed r
    | .build _ ps => (ps.toList.flatMap fun p => tmpOf p.2) ++ handed r
    | .buildSlice _ _ ps => (ps.toList.flatMap fun p => tmpOf p.2) ++ handed r
    | _ => handed r
def toFreeze (ops : List Oper) : List Nat := handed ops ++ (handed ops).flatMap (movesTo ops)

/-- Laid bare only where a row is there. -/
def fSt (σ : St) (k : St → Prop) : Prop := fSlots σ.slots fun sl => fBlks σ.blks fun bs => fRows σ.rows fun rs => k ⟨sl, bs, rs⟩
theorem fSt_eq (σ : St) (k : St → Prop) : fSt σ k = k σ := by simp only [fSt, fSlots_eq, fBlks_eq, fRows_eq]
def freezeK (ops : List Oper) (σ : St) (k : St → Prop) : Prop :=
  match σ with
  | ⟨sl, bs, []⟩ => k ⟨sl, bs, []⟩
  | ⟨sl, bs, r :: rs⟩ => fSt (freezeAt (toFreeze ops) ⟨sl, bs, r :: rs⟩) k

/-! ### Operations that make or turn what is the call's own -/
def strBytes (s : ByteArray) : List Int := s.data.toList.map fun b => (b.toNat : Int)

def appendSrc (t : Ty) (s : SV) : Option (List t.den) :=
  match s with
  | .leaf l => match popSl t [l] with
    | some (x, _) => some x
    | none => none
  | _ => none
def appendSrcK (t : Ty) (s : SV) (k : List t.den → Prop) : Prop :=
  match s with
  | .leaf l => popSlK t [l] False fun x _ => k x
  | _ => False
theorem appendSrcK_eq (t : Ty) (s : SV) (k : List t.den → Prop) : appendSrcK t s k = match appendSrc t s with | some x => k x | none => False := by
  unfold appendSrcK appendSrc
  cases s with
  | leaf l =>
    simp only [popSlK_eq]
    cases popSl t [l] with
    | none => rfl
    | some p => rfl
  | agg ls => rfl
  | tupv t x => rfl

def appendRow (E : Env) (t : TypeId) (rows : Rows) (s : SV) : Option (Option Nat × RowS) :=
  match E.tt t with
  | none => none
  | some ti => match ti.k with
    | .slice te => match s with
      | .leaf (.row r) => match getR rows r with
        | some R => bif Nat.beq R.e te then some (some r, R) else none
        | _ => none
      | .leaf (.raw (.slice none 0 0)) => match E.tt te with
        | some tei => match tei.ty with
          | some T => some (none, { t := T, e := te, xs := [] })
          | none => none
        | none => none
      | _ => none
    | _ => none

def newRowK (sl : Slots) (bs : Blks) (rs : Rows) (d : Nat) (R : RowS) (k : St → Prop) : Prop :=
  bif anySlots (Leaf.namesR d) sl || anyBlks (Leaf.namesR d) bs then False else k ⟨(d, .leaf (.row d)) :: sl, bs, (d, R) :: rs⟩

def seqEv (E : Env) (sl : Slots) (bs : Blks) (rs : Rows) (o : Oper) (k : St → Prop) : Prop :=
  match o.dst with
  | none => False
  | some d => match o.op with
    | .alloc t => match E.tt t with
      | some ti => bif Nat.beq ti.zero.length ti.size && !(anySlots (Leaf.namesB d) sl || anyBlks (Leaf.namesB d) bs) then fLs ti.zero fun z => k ⟨(d, .leaf (.ptr d 0)) :: sl, (d, ⟨t, z⟩) :: bs, rs⟩ else False
      | none => False
    | .box t x => match cellsOf (evO sl x) with
      | some ls => bif anySlots (Leaf.namesB d) sl || anyBlks (Leaf.namesB d) bs then False else fLs ls fun z => k ⟨(d, .leaf (.ptr d 0)) :: sl, (d, ⟨t, z⟩) :: bs, rs⟩
      | none => False
    | .call c => match c.callee with
      | .builtin .append => match c.argTypes.toList with
        | t :: t' :: [] => bif Nat.beq t t' then match c.args.toList with
          | s :: x :: [] => match appendRow E t rs (evO sl s) with
            | some (r, R) => match E.tt R.e with
              | some tei => bif Nat.beq tei.size R.t.size && Nat.beq tei.zero.length tei.size && Nat.ble 1 tei.size then appendSrcK R.t (evO sl x) fun ys => (R.xs.length + ys.length) * tei.bytes ≤ 140737488355328 ∧ R.xs.length + ys.length ≤ maxLen ∧
                  (match r with
                   | none => newRowK sl bs rs d ⟨R.t, R.e, R.xs ++ ys⟩ k
                   | some r => fSlots (mapSlots (forget r) sl) fun sl' => fBlks (mapBlks (forget r) bs) fun bs' => fRows (rmR rs r) fun rs' => newRowK sl' bs' rs' d ⟨R.t, R.e, R.xs ++ ys⟩ k)
                else False
              | none => False
            | none => False
          | _ => False
          else False
        | _ => False
      | _ => False
    | _ => False

def exec1 (E : Env) (o : Oper) (σ : St) (k : St → Prop) : Prop :=
  match σ with
  | ⟨sl, bs, rs⟩ => match pureEv E sl bs rs o.op with
    | some (r, p) => oblige p (putK sl bs rs o.dst r k)
    | none => match storeEv E sl bs o.op with
      | some (i, ⟨t, cs⟩) => match o.dst with
        | none => fLs cs fun cs' => setBK bs i ⟨t, cs'⟩ fun bs' => k ⟨sl, bs', rs⟩
        | some _ => False
      | none => seqEv E sl bs rs o k

/-- A slot that is known now. -/
def setK (σ : St) (d : Option Nat) (s : SV) (k : St → Prop) : Prop :=
  match σ with
  | ⟨sl, bs, rs⟩ => putK sl bs rs d s k
theorem setK_eq (σ : St) (d : Option Nat) (s : SV) (k : St → Prop) : setK σ d s k = k (σ.put d s) := by
  obtain ⟨sl, bs, rs⟩ := σ
  exact putK_eq sl bs rs d s k

def dstOf (all : List Oper) (j : Nat) : Option Nat :=
  match all[j]? with
  | some o => o.dst
  | none => none

def guarded (w b : Bool) (yes no : Prop) : Prop :=
  match w, b with
  | true, true => yes
  | false, false => yes
  | true, false => no
  | false, true => no

def execOps (E : Env) (all : List Oper) : List Oper → St → (St → Prop) → Prop
  | [], σ, k => k σ
  | o :: r, σ, k => match o.guard with
    | none => exec1 E o σ fun σ' => execOps E all r σ' k
    | some (j, w) => match dstOf all j with
      | none => False
      | some t => match getS σ.slots t with
        | .leaf (.blit b) => guarded w b (exec1 E o σ fun σ' => execOps E all r σ' k) (setK σ o.dst (.leaf .undef) fun σ' => execOps E all r σ' k)
        | .leaf (.tv .bool e) =>
          ((e : Bool) = true → setK σ (some t) (.leaf (.blit true)) fun σ => guarded w true (exec1 E o σ fun σ' => execOps E all r σ' k) (setK σ o.dst (.leaf .undef) fun σ' => execOps E all r σ' k)) ∧
          ((e : Bool) = false → setK σ (some t) (.leaf (.blit false)) fun σ => guarded w false (exec1 E o σ fun σ' => execOps E all r σ' k) (setK σ o.dst (.leaf .undef) fun σ' => execOps E all r σ' k))
        | .leaf .undef => setK σ o.dst (.leaf .undef) fun σ' => execOps E all r σ' k
        | _ => False

end Go.Fr
