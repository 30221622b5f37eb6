/-
  The symbolic walk over regions. Conditions: none.
-/
import Derived.Test.YtepnpmaoodljkaaDoorFrB
namespace Go.Fr
open Go Go.RowKit
universe u

def St.put (σ : St) (d : Option Nat) (s : SV) : St :=
  match d with
  | some t => { σ with slots := (t, s) :: σ.slots }
  | none => σ
/-- The slot of a frame's temporary. -/
def dstAt (b : Nat) (d : Option Nat) : Option Nat :=
  match d with
  | some t => some (b + t)
  | none => none

/-! ### The same, laid bare: so that what is handed on is written out -/
def fLs : List Leaf → (List Leaf → Prop) → Prop
  | [], k => k []
  | l :: r, k => fLs r fun r' => k (l :: r')
def fSV : SV → (SV → Prop) → Prop
  | .agg ls, k => fLs ls fun ls' => k (.agg ls')
  | .leaf l, k => k (.leaf l)
  | .tupv t x, k => k (.tupv t x)
def fSlots : Slots → (Slots → Prop) → Prop
  | [], k => k []
  | (t, s) :: r, k => fSV s fun s' => fSlots r fun r' => k ((t, s') :: r')
def fBlks : Blks → (Blks → Prop) → Prop
  | [], k => k []
  | (n, ⟨t, cs, it⟩) :: r, k => fLs cs fun cs' => fBlks r fun r' => k ((n, ⟨t, cs', it⟩) :: r')
def fRows : Rows → (Rows → Prop) → Prop
  | [], k => k []
  | (n, ⟨t, e, xs⟩) :: r, k => fRows r fun r' => k ((n, ⟨t, e, xs⟩) :: r')

theorem fLs_eq (ls : List Leaf) (k : List Leaf → Prop) : fLs ls k = k ls := by
  induction ls generalizing k with
  | nil => rfl
  | cons l r ih => simp only [fLs, ih]
theorem fSV_eq (s : SV) (k : SV → Prop) : fSV s k = k s := by
  cases s <;> simp only [fSV, fLs_eq]
theorem fSlots_eq (s : Slots) (k : Slots → Prop) : fSlots s k = k s := by
  induction s generalizing k with
  | nil => rfl
  | cons l r ih => obtain ⟨t, s⟩ := l; simp only [fSlots, ih, fSV_eq]
theorem fBlks_eq (s : Blks) (k : Blks → Prop) : fBlks s k = k s := by
  induction s generalizing k with
  | nil => rfl
  | cons l r ih => obtain ⟨n, t, s, it⟩ := l; simp only [fBlks, ih, fLs_eq]
theorem fRows_eq (s : Rows) (k : Rows → Prop) : fRows s k = k s := by
  induction s generalizing k with
  | nil => rfl
  | cons l r ih => obtain ⟨n, t, e, xs⟩ := l; simp only [fRows, ih]

/-- A slot is set. -/
def putK (sl : Slots) (bs : Blks) (rs : Rows) (d : Option Nat) (s : SV) (k : St → Prop) : Prop :=
  match d with
  | some t => fSV s fun s' => k ⟨(t, s') :: sl, bs, rs⟩
  | none => k ⟨sl, bs, rs⟩
theorem putK_eq (sl : Slots) (bs : Blks) (rs : Rows) (d : Option Nat) (s : SV) (k : St → Prop) : putK sl bs rs d s k = k (St.put ⟨sl, bs, rs⟩ d s) := by
  cases d <;> simp [putK, St.put, fSV_eq]

/-- A block is turned. -/
def setB : Blks → Nat → Blk → Blks
  | [], _, _ => []
  | (k, b) :: r, i, c => bif Nat.beq k i then (k, c) :: r else (k, b) :: setB r i c
def setBK : Blks → Nat → Blk → (Blks → Prop) → Prop
  | [], _, _, K => K []
  | (k, b) :: r, i, c, K => bif Nat.beq k i then K ((k, c) :: r) else setBK r i c fun r' => K ((k, b) :: r')
theorem setBK_eq (s : Blks) (i : Nat) (c : Blk) (K : Blks → Prop) : setBK s i c K = K (setB s i c) := by
  induction s generalizing K with
  | nil => rfl
  | cons l r ih => obtain ⟨k, b⟩ := l; simp only [setBK, setB, ih]; cases Nat.beq k i <;> rfl
/-- A row is turned. -/
def setR : Rows → Nat → RowS → Rows
  | [], _, _ => []
  | (k, b) :: r, i, c => bif Nat.beq k i then (k, c) :: r else (k, b) :: setR r i c
def setRK : Rows → Nat → RowS → (Rows → Prop) → Prop
  | [], _, _, K => K []
  | (k, b) :: r, i, c, K => bif Nat.beq k i then K ((k, c) :: r) else setRK r i c fun r' => K ((k, b) :: r')
theorem setRK_eq (s : Rows) (i : Nat) (c : RowS) (K : Rows → Prop) : setRK s i c K = K (setR s i c) := by
  induction s generalizing K with
  | nil => rfl
  | cons l r ih => obtain ⟨k, b⟩ := l; simp only [setRK, setR, ih]; cases Nat.beq k i <;> rfl

/-- A slot's data get a name. -/
def nameK (c : Bool) (s : SV) (k : SV → Prop) : Prop :=
  match c with
  | true => match s with
    | .leaf l => match l with
      | .tv T x => ∀ a : T.den, a = x → k (.leaf (.tv T a))
      | l => k (.leaf l)
    | s => k s
  | false => k s
theorem nameK_at {c : Bool} {s : SV} {k : SV → Prop} (e : nameK c s k) : k s := by
  unfold nameK at e
  split at e
  · split at e
    · split at e
      · exact e _ rfl
      · exact e
    · exact e
  · exact e
def nmAt (f : Nat → Bool) (d : Option Nat) : Bool :=
  match d with
  | some t => f t
  | none => false

def oblige (p : Option Prop) (k : Prop) : Prop :=
  match p with
  | none => k
  | some p => p ∧ k

/-! ### Who names a block, who names a row -/
def anyNat : List Nat → Nat → Bool
  | [], _ => false
  | x :: r, t => Nat.beq x t || anyNat r t
mutual
def Leaf.namesB (t : Nat) : Leaf → Bool
  | .ptr i _ => Nat.beq i t
  | .mref i => Nat.beq i t
  | .clo _ caps => anyB t caps
  | .any => false
  | .undef => false
  | .blit _ => false
  | .tv _ _ => false
  | .raw _ => false
  | .eptr _ _ _ _ => false
  | .row _ => false
  | .rptr _ _ _ _ => false
  | .rsub _ _ _ => false
def anyB (t : Nat) : List Leaf → Bool
  | [] => false
  | l :: r => l.namesB t || anyB t r
end
mutual
def Leaf.namesR (t : Nat) : Leaf → Bool
  | .row i => Nat.beq i t
  | .rptr i _ _ _ => Nat.beq i t
  | .rsub i _ _ => Nat.beq i t
  | .clo _ caps => anyR t caps
  | .any => false
  | .undef => false
  | .blit _ => false
  | .tv _ _ => false
  | .raw _ => false
  | .eptr _ _ _ _ => false
  | .ptr _ _ => false
  | .mref _ => false
def anyR (t : Nat) : List Leaf → Bool
  | [] => false
  | l :: r => l.namesR t || anyR t r
end
def anyLeaf (f : Leaf → Bool) : List Leaf → Bool
  | [] => false
  | l :: r => f l || anyLeaf f r
def SV.anyL (f : Leaf → Bool) : SV → Bool
  | .leaf l => f l
  | .agg ls => anyLeaf f ls
  | .tupv _ _ => false
def anySlots (f : Leaf → Bool) : Slots → Bool
  | [] => false
  | (_, s) :: r => s.anyL f || anySlots f r
def anyBlks (f : Leaf → Bool) : Blks → Bool
  | [] => false
  | (_, b) :: r => anyLeaf f b.cells || anyBlks f r

/-! ### A leaf is put for a row -/
mutual
def Leaf.sub (g : Nat → Option Leaf) : Leaf → Leaf
  | .row i => match g i with
    | some l => l
    | none => .row i
  | .rptr i a b c => match g i with
    | some _ => .any
    | none => .rptr i a b c
  | .rsub i a b => match g i with
    | some _ => .any
    | none => .rsub i a b
  | .clo f caps => .clo f (subs g caps)
  | .any => .any
  | .undef => .undef
  | .blit b => .blit b
  | .tv t x => .tv t x
  | .raw v => .raw v
  | .ptr i o => .ptr i o
  | .mref i => .mref i
  | .eptr t xs i o => .eptr t xs i o
def subs (g : Nat → Option Leaf) : List Leaf → List Leaf
  | [] => []
  | l :: r => l.sub g :: subs g r
end
def SV.sub (g : Nat → Option Leaf) : SV → SV
  | .leaf l => .leaf (l.sub g)
  | .agg ls => .agg (subs g ls)
  | .tupv t x => .tupv t x
def mapSlots (g : Nat → Option Leaf) : Slots → Slots
  | [] => []
  | (k, s) :: r => (k, s.sub g) :: mapSlots g r
def mapBlks (g : Nat → Option Leaf) : Blks → Blks
  | [] => []
  | (k, b) :: r => (k, ⟨b.ty, subs g b.cells, b.it⟩) :: mapBlks g r
def rmR : Rows → Nat → Rows
  | [], _ => []
  | (k, b) :: r, i => bif Nat.beq k i then rmR r i else (k, b) :: rmR r i

/-- What is no more known of a row that has been appended to. -/
def forget (r : Nat) (i : Nat) : Option Leaf := bif Nat.beq i r then some .any else none
/-- A row is frozen: what holds it holds data from then on. -/
def frz (r : Nat) (t : Ty) (xs : List t.den) (i : Nat) : Option Leaf := bif Nat.beq i r then some (.tv (.sl t) xs) else none

def freeze (σ : St) (r : Nat) : St :=
  match getR σ.rows r with
  | some R => { slots := mapSlots (frz r R.t R.xs) σ.slots, blks := mapBlks (frz r R.t R.xs) σ.blks, rows := rmR σ.rows r }
  | none => σ

mutual
def Leaf.rowsIn : Leaf → List Nat
  | .row r => [r]
  | .clo _ caps => rowsInL caps
  | .any => []
  | .undef => []
  | .blit _ => []
  | .tv _ _ => []
  | .raw _ => []
  | .eptr _ _ _ _ => []
  | .ptr _ _ => []
  | .mref _ => []
  | .rptr _ _ _ _ => []
  | .rsub _ _ _ => []
def rowsInL : List Leaf → List Nat
  | [] => []
  | l :: ls => l.rowsIn ++ rowsInL ls
end
def rowsIn : SV → List Nat
  | .leaf l => l.rowsIn
  | .agg ls => rowsInL ls
  | .tupv _ _ => []

def freezeRows : List Nat → St → St
  | [], σ => σ
  | r :: rs, σ => freezeRows rs (freeze σ r)
def freezeAt : List Nat → St → St
  | [], σ => σ
  | t :: ts, σ => freezeAt ts (freezeRows (rowsIn (getS σ.slots t)) σ)
/-- The rows that lie in a block to which a slot points. -/
def rowsBehind (σ : St) (t : Nat) : List Nat :=
  match getS σ.slots t with
  | .leaf (.ptr i _) => match getB σ.blks i with
    | some b => rowsInL b.cells
    | none => []
  | _ => []
def freezeBehind : List Nat → St → St
  | [], σ => σ
  | t :: ts, σ => freezeBehind ts (freezeRows (rowsBehind σ t) σ)

/-- The slots whose rows a region hands to a callee, cuts, or lays into a literal (through its own moves and loads). -/
def tmpOf : Operand → List Nat
  | .tmp t => [t]
  | _ => []
def movesTo : List Oper → Nat → List Nat
  | [], _ => []
  | o :: r, t => match o.op with
    | .move (.tmp s) => match o.dst with
      | some d => bif Nat.beq d t then s :: movesTo r t else movesTo r t
      | none => movesTo r t
    | _ => movesTo r t
def handed (nm : Nat → Bool) (b : Nat) : List Oper → List Nat
  | [] => []
  | o :: r => match o.op with
    | .call c => match c.callee with
      | .builtin _ => handed nm b r
      | .value f => match f with
        | .func g => bif nm (3000000000 + g) then handed nm b r else c.args.toList.flatMap tmpOf ++ handed nm b r
        | _ => tmpOf f ++ c.args.toList.flatMap tmpOf ++ handed nm b r
      | _ => c.args.toList.flatMap tmpOf ++ handed nm b r
    | .slice _ x _ _ _ => match o.dst with
      | some d => bif nm (2000000000 + (b + d)) then handed nm b r else tmpOf x ++ handed nm b r
      | none => tmpOf x ++ handed nm b r
    | .convert _ _ x => tmpOf x ++ handed nm b r
    | .build _ ps => match o.dst with
      | some d => bif nm (2000000000 + (b + d)) then handed nm b r else (ps.toList.flatMap fun p => tmpOf p.2) ++ handed nm b r
      | none => (ps.toList.flatMap fun p => tmpOf p.2) ++ handed nm b r
    | .buildSlice _ _ ps => (ps.toList.flatMap fun p => tmpOf p.2) ++ handed nm b r
    | _ => handed nm b r
def addrFrom : List Oper → Nat → Option Nat
  | [], _ => none
  | o :: r, t => match o.dst with
    | some d => bif Nat.beq d t then (match o.op with
      | .fieldAddr _ (.tmp s) _ => some s
      | .move (.tmp s) => some s
      | _ => none) else addrFrom r t
    | none => addrFrom r t
def baseOf (ops : List Oper) : Nat → Nat → Nat
  | 0, t => t
  | n + 1, t => match addrFrom ops t with
    | some s => baseOf ops n s
    | none => t
def loadsTo (ops : List Oper) : List Oper → Nat → List Nat
  | [], _ => []
  | o :: r, t => match o.op with
    | .load _ (.tmp a) => match o.dst with
      | some d => bif Nat.beq d t then baseOf ops 8 a :: loadsTo ops r t else loadsTo ops r t
      | none => loadsTo ops r t
    | _ => loadsTo ops r t
def addAll (b : Nat) : List Nat → List Nat
  | [] => []
  | t :: r => (b + t) :: addAll b r
def toFreeze (nm : Nat → Bool) (b : Nat) (ops : List Oper) : List Nat := handed nm b ops ++ (handed nm b ops).flatMap (movesTo ops)

/-- Laid bare only where a row is there. -/
def fSt (σ : St) (k : St → Prop) : Prop := fSlots σ.slots fun sl => fBlks σ.blks fun bs => fRows σ.rows fun rs => k ⟨sl, bs, rs⟩
theorem fSt_eq (σ : St) (k : St → Prop) : fSt σ k = k σ := by simp only [fSt, fSlots_eq, fBlks_eq, fRows_eq]
def freezeK (nm : Nat → Bool) (b : Nat) (ops : List Oper) (σ : St) (k : St → Prop) : Prop :=
  match σ with
  | ⟨sl, bs, []⟩ => k ⟨sl, bs, []⟩
  | ⟨sl, bs, r :: rs⟩ => fSt (freezeBehind (addAll b ((toFreeze nm b ops).flatMap (loadsTo ops ops))) (freezeAt (addAll b (toFreeze nm b ops)) ⟨sl, bs, r :: rs⟩)) k

/-! ### Operations that make or turn what is the call's own -/
def strBytes (s : ByteArray) : List Int := s.data.toList.map fun b => (b.toNat : Int)

def appendSrc (t : Ty) (s : SV) : Option (List t.den) :=
  match s with
  | .leaf l => match popSl t [l] with
    | some (x, _) => some x
    | none => none
  | _ => none
def appendSrcK (t : Ty) (s : SV) (k : List t.den → Prop) : Prop :=
  match s with
  | .leaf l => popSlK t [l] False fun x _ => k x
  | _ => False
theorem appendSrcK_eq (t : Ty) (s : SV) (k : List t.den → Prop) : appendSrcK t s k = match appendSrc t s with | some x => k x | none => False := by
  unfold appendSrcK appendSrc
  cases s with
  | leaf l =>
    simp only [popSlK_eq]
    cases popSl t [l] with
    | none => rfl
    | some p => rfl
  | agg ls => rfl
  | tupv t x => rfl

def appendRow (E : Env) (t : TypeId) (rows : Rows) (s : SV) : Option (Option Nat × RowS) :=
  match E.tt t with
  | none => none
  | some ti => match ti.k with
    | .slice te => match s with
      | .leaf (.row r) => match getR rows r with
        | some R => bif Nat.beq R.e te then some (some r, R) else none
        | _ => none
      | .leaf (.raw (.slice none 0 0)) => match E.tt te with
        | some tei => match tei.ty with
          | some T => some (none, { t := T, e := te, xs := [] })
          | none => none
        | none => none
      | _ => none
    | _ => none

def newRowK (sl : Slots) (bs : Blks) (rs : Rows) (d : Nat) (R : RowS) (k : St → Prop) : Prop :=
  bif anySlots (Leaf.namesR d) sl || anyBlks (Leaf.namesR d) bs then False else k ⟨(d, .leaf (.row d)) :: sl, bs, (d, R) :: rs⟩
def usedB (sl : Slots) (bs : Blks) (q : Nat) : Bool := anySlots (Leaf.namesB q) sl || anyBlks (Leaf.namesB q) bs
def mkBlkK (sl : Slots) (bs : Blks) (rs : Rows) (d q : Nat) (t : TypeId) (ls : List Leaf) (it : Option It) (k : St → Prop) : Prop :=
  fLs ls fun z => k ⟨(d, .leaf (.ptr q 0)) :: sl, (q, ⟨t, z, it⟩) :: bs, rs⟩
def newBlkQ (sl : Slots) (bs : Blks) (rs : Rows) (d q1 q2 q3 : Nat) (t : TypeId) (ls : List Leaf) (it : Option It) (k : St → Prop) : Prop :=
  bif usedB sl bs d then bif usedB sl bs q1 then bif usedB sl bs q2 then bif usedB sl bs q3 then False else mkBlkK sl bs rs d q3 t ls it k else mkBlkK sl bs rs d q2 t ls it k else mkBlkK sl bs rs d q1 t ls it k else mkBlkK sl bs rs d d t ls it k
/-- A block's name is its slot, or a fresh one where that is still in use. -/
def newBlkK (sl : Slots) (bs : Blks) (rs : Rows) (d : Nat) (t : TypeId) (ls : List Leaf) (it : Option It) (k : St → Prop) : Prop :=
  newBlkQ sl bs rs d (d + 100000000) (d + 200000000) (d + 300000000) t ls it k

def appendK (E : Env) (sl : Slots) (bs : Blks) (rs : Rows) (d : Nat) (t : TypeId) (s : SV) (src : (T : Ty) → (List T.den → Prop) → Prop) (k : St → Prop) : Prop :=
  match appendRow E t rs s with
  | some (r, R) => match E.tt R.e with
    | some tei => bif Nat.beq tei.size R.t.size && Nat.beq tei.zero.length tei.size && Nat.ble 1 tei.size then src R.t fun ys => (R.xs.length + ys.length) * tei.bytes ≤ 140737488355328 ∧ R.xs.length + ys.length ≤ maxLen ∧
        (match r with
         | none => newRowK sl bs rs d ⟨R.t, R.e, R.xs ++ ys⟩ k
         | some r => fSlots (mapSlots (forget r) sl) fun sl' => fBlks (mapBlks (forget r) bs) fun bs' => fRows (rmR rs r) fun rs' => newRowK sl' bs' rs' d ⟨R.t, R.e, R.xs ++ ys⟩ k)
      else False
    | none => False
  | none => False
/-- The bytes of a text, as numbers. -/
def strSrcK (s : SV) (T : Ty) (k : List T.den → Prop) : Prop :=
  match T, k with
  | .int .u8, k => match asStr s with
    | some x => k (strBytes x)
    | none => False
  | _, _ => False

/-- What a step through a text gives. -/
def nextT : Ty := .pair .bool (.pair (.int .i64) (.pair (.int .i32) .unit))
def nextF : Ty := .pair .bool .unit

/-- A call that hands back a slice of its own. -/
def ownK : (T : Ty) → T.den → ((t : Ty) → List t.den → Prop) → Prop
  | .sl t, xs, k => k t xs
  | _, _, _ => False
def ownCall (E : Env) (b : Nat) (sl : Slots) (c : Call) (k : (t : Ty) → TypeId → List t.den → Prop) : Prop :=
  match c.callee with
  | .value fv => match asFn (evO b sl fv) with
    | some (f, caps) => match E.ct f with
      | some C => match C.own with
        | some e => match cutTail C.tail (c.args.toList.map (evO b sl) ++ leafSVs caps) with
          | some ss => argsK C.arg ss False fun x => C.pre x ∧ ownK C.res (C.fn x) fun t xs => k t e xs
          | none => False
        | none => False
      | none => False
    | none => False
  | _ => False
/-- A row is cut: its first elements are a row from then on, or its last ones are looked at. -/
def rowSliceK (E : Env) (sl : Slots) (bs : Blks) (rs : Rows) (d : Nat) (t : TypeId) (r : Nat) (R : RowS) (lo hi : Option SV) (k : St → Prop) : Prop :=
  match E.tt t with
  | some ti => match ti.k with
    | .slice te => match E.tt te with
      | some tei => bif Nat.beq tei.size R.t.size then match lo, hi with
        | none, some h => match asInt h with
          | some (_, h) => (0 ≤ h ∧ h ≤ (R.xs.length : Int)) ∧ fSlots (mapSlots (forget r) sl) fun sl' => fBlks (mapBlks (forget r) bs) fun bs' => fRows (rmR rs r) fun rs' => newRowK sl' bs' rs' d ⟨R.t, R.e, R.xs.take h.toNat⟩ k
          | none => False
        | some l, none => match asInt l with
          | some (_, l) => (0 ≤ l ∧ l < (R.xs.length : Int)) ∧ k ⟨(d, .leaf (.rsub r R.t.size l.toNat)) :: sl, bs, rs⟩
          | none => False
        | none, none => False
        | some _, some _ => False
        else False
      | none => False
    | _ => False
  | none => False
def nilB : BinOp → Bool → Option Bool
  | .eql, c => some c
  | .neq, c => some (!c)
  | _, _ => none
/-- A slice is held against nil: only an empty one may be. -/
def nilK (E : Env) (sl : Slots) (bs : Blks) (rs : Rows) (d : Nat) (op : BinOp) (t : TypeId) (x y : SV) (k : St → Prop) : Prop :=
  match E.tt t with
  | some ti => match ti.k with
    | .slice _ => match y with
      | .leaf (.raw (.slice none 0 0)) => match x with
        | .leaf (.tv (.sl _) xs) => ∀ c : Bool, (c = true → List.length xs = 0) → (match nilB op c with | some e => k ⟨(d, mkBool e) :: sl, bs, rs⟩ | none => False)
        | .leaf (.row r) => match getR rs r with
          | some R => ∀ c : Bool, (c = true → R.xs.length = 0) → (match nilB op c with | some e => k ⟨(d, mkBool e) :: sl, bs, rs⟩ | none => False)
          | none => False
        | .leaf (.raw (.slice none 0 0)) => match nilB op true with | some e => k ⟨(d, .leaf (.blit e)) :: sl, bs, rs⟩ | none => False
        | _ => False
      | _ => False
    | _ => False
  | none => False
/-- So many zero values. -/
def zeroSrcK (E : Env) (t : TypeId) (s x : SV) (T : Ty) (k : List T.den → Prop) : Prop :=
  match s with
  | .leaf (.raw (.slice none 0 0)) => match E.tt t with
    | some ti => match ti.k with
      | .slice te => match E.tt te with
        | some tei => implodeK T tei.zero False fun z r => match r with
          | [] => match asInt x with
            | some (_, n) => (0 ≤ n ∧ n ≤ 4611686018427387904) ∧ k (List.replicate n.toNat z)
            | none => False
          | _ :: _ => False
        | none => False
      | _ => False
    | none => False
  | _ => False
/-- The last elements of a row are set to zero. -/
def clearK (E : Env) (b : Nat) (sl : Slots) (bs : Blks) (rs : Rows) (o : Oper) (k : St → Prop) : Prop :=
  match o.op with
  | .call c => match c.callee with
    | .builtin .clear => match c.argTypes.toList with
      | t :: [] => match c.args.toList with
        | x :: [] => match evO b sl x with
          | .leaf (.rsub r sz i) => match getR rs r with
            | some R => match E.tt t with
              | some ti => match ti.k with
                | .slice te => match E.tt te with
                  | some tei => bif Nat.beq sz R.t.size && Nat.beq tei.size R.t.size && Nat.beq tei.zero.length tei.size && Nat.ble 1 tei.size then implodeK R.t tei.zero False fun z r' => match r' with
                    | [] => setRK rs r ⟨R.t, R.e, R.xs.take i ++ List.replicate (R.xs.length - i) z⟩ fun rs' => k ⟨sl, bs, rs'⟩
                    | _ :: _ => False
                    else False
                  | none => False
                | _ => False
              | none => False
            | none => False
          | _ => False
        | _ => False
      | _ => False
    | _ => False
  | _ => False
/-! ### Maps of the call's own -/
def mapKV {R : Sort u} (E : Env) (t : TypeId) (fail : R) (k : TI → Ty → Ty → R) : R :=
  match E.tt t with
  | some ti => match ti.k with
    | .map kt et => match E.tt kt with
      | some ki => match ki.ty with
        | some K => match E.tt et with
          | some ei => match ei.ty with
            | some V => bif K.plain then k ei K V else fail
            | none => fail
          | none => fail
        | none => fail
      | none => fail
    | _ => fail
  | none => fail
def mkMapK (sl : Slots) (bs : Blks) (rs : Rows) (d q : Nat) (t : TypeId) (K V : Ty) (k : St → Prop) : Prop :=
  k ⟨(d, .leaf (.mref q)) :: sl, (q, ⟨t, [.tv (mapT K V) []], some .map⟩) :: bs, rs⟩
def newMapK (sl : Slots) (bs : Blks) (rs : Rows) (d q : Nat) (t : TypeId) (K V : Ty) (k : St → Prop) : Prop :=
  bif usedB sl bs d then (bif usedB sl bs q then False else mkMapK sl bs rs d q t K V k) else mkMapK sl bs rs d d t K V k
/-- The map that a slot holds. -/
def mapAtK (bs : Blks) (m : SV) (T : Ty) (k : Nat → TypeId → List T.den → Prop) : Prop :=
  match m with
  | .leaf (.mref i) => match getB bs i with
    | some ⟨bt, cs, some .map⟩ => implodeK (.sl T) cs False fun xs r => match r with
      | [] => k i bt xs
      | _ :: _ => False
    | _ => False
  | _ => False
/-- The entries of a map, be it the call's own or data. -/
def mapValK (bs : Blks) (m : SV) (K V : Ty) (k : List (K.den × V.den × Unit) → Prop) : Prop :=
  match m with
  | .leaf (.mref i) => mapAtK bs (.leaf (.mref i)) (.pair K (.pair V .unit)) fun _ _ xs => k xs
  | .leaf l => implodeK (.mp K V) [l] False fun xs r => match r with
    | [] => k xs
    | _ :: _ => False
  | _ => False
def mapLookK (E : Env) (bs : Blks) (t : TypeId) (m key : SV) (k : SV → Prop) : Prop :=
  mapKV E t False fun ei K V => mapValK bs m K V fun xs => argValK K key False fun y => implodeK V ei.zero False fun z r => match r with
    | [] => bif Nat.beq ei.zero.length ei.size then k (.tupv (.pair V (.pair .bool .unit)) ((mget K V y xs).getD z, (mget K V y xs).isSome, ())) else False
    | _ :: _ => False
def mapPutK (E : Env) (sl : Slots) (bs : Blks) (rs : Rows) (t : TypeId) (m key v : SV) (k : St → Prop) : Prop :=
  mapKV E t False fun _ K V => mapAtK bs m (.pair K (.pair V .unit)) fun i bt xs => argValK K key False fun y => argValK V v False fun z =>
    mget K V y xs = none ∧ setBK bs i ⟨bt, [.tv (mapT K V) (xs ++ [(y, z, ())])], some .map⟩ fun bs' => k ⟨sl, bs', rs⟩
def mapDelK (E : Env) (sl : Slots) (bs : Blks) (rs : Rows) (t : TypeId) (m key : SV) (k : St → Prop) : Prop :=
  mapKV E t False fun _ K V => mapAtK bs m (.pair K (.pair V .unit)) fun i bt xs => argValK K key False fun y =>
    setBK bs i ⟨bt, [.tv (mapT K V) (mdel K V y xs)], some .map⟩ fun bs' => k ⟨sl, bs', rs⟩
/-- Operations on maps that yield nothing. -/
def mapEv (E : Env) (b : Nat) (sl : Slots) (op : Op) : Option (Bool × TypeId × SV × SV × SV) :=
  match op with
  | .mapUpdate t m x v => some (true, t, evO b sl m, evO b sl x, evO b sl v)
  | .call c => match c.callee with
    | .builtin .delete => match c.argTypes.toList with
      | t :: _ => match c.args.toList with
        | m :: x :: [] => some (false, t, evO b sl m, evO b sl x, .leaf .any)
        | _ => none
      | _ => none
    | _ => none
  | _ => none
def mapOrClear (E : Env) (b : Nat) (sl : Slots) (bs : Blks) (rs : Rows) (o : Oper) (k : St → Prop) : Prop :=
  match mapEv E b sl o.op with
  | some (put, t, m, x, v) => match put with
    | true => mapPutK E sl bs rs t m x v k
    | false => mapDelK E sl bs rs t m x k
  | none => clearK E b sl bs rs o k
def seqEv0 (E : Env) (b : Nat) (sl : Slots) (bs : Blks) (rs : Rows) (o : Oper) (k : St → Prop) : Prop :=
  match dstAt b o.dst with
  | none => mapOrClear E b sl bs rs o k
  | some d => match o.op with
    | .makeMap t r => match r with
      | none => mapKV E t False fun _ K V => newMapK sl bs rs d (d + 100000000) t K V k
      | some _ => False
    | .lookup t m x ok => match ok with
      | true => mapLookK E bs t (evO b sl m) (evO b sl x) fun s => k ⟨(d, s) :: sl, bs, rs⟩
      | false => False
    | .slice t x lo hi mx => match mx with
      | none => match evO b sl x with
        | .leaf (.row r) => match getR rs r with
          | some R => rowSliceK E sl bs rs d t r R (lo.map (evO b sl)) (hi.map (evO b sl)) k
          | none => False
        | _ => False
      | some _ => False
    | .binOp op t x y _ => nilK E sl bs rs d op t (evO b sl x) (evO b sl y) k
    | .alloc t => match E.tt t with
      | some ti => bif Nat.beq ti.zero.length ti.size then newBlkK sl bs rs d t ti.zero none k else False
      | none => False
    | .box t x => match cellsOf (evO b sl x) with
      | some ls => newBlkK sl bs rs d t ls none k
      | none => False
    | .range t x => match E.tt t with
      | some ti => match ti.k with
        | .str => match asStr (evO b sl x) with
          | some s => newBlkK sl bs rs d 0 [] (some (.str s 0)) k
          | none => False
        | _ => False
      | none => False
    | .next x isStr => match isStr with
      | true => match evO b sl x with
        | .leaf (.ptr i 0) => match getB bs i with
          | some ⟨t, cs, some (.str s p)⟩ =>
            (decide (p < s.size) = true → setBK bs i ⟨t, cs, some (.str s (p + (Utf8.decode s p).2))⟩ fun bs' => k ⟨(d, .tupv nextT (true, (p : Int), ((Utf8.decode s p).1 : Int), ())) :: sl, bs', rs⟩) ∧
            (decide (p < s.size) = false → k ⟨(d, .tupv nextF (false, ())) :: sl, bs, rs⟩)
          | _ => False
        | _ => False
      | false => False
    | .call c => match c.callee with
      | .builtin .append => match c.argTypes.toList with
        | t :: t' :: [] => match c.args.toList with
          | s :: x :: [] => match Nat.beq t t' with
            | true => appendK E sl bs rs d t (evO b sl s) (fun T => appendSrcK T (evO b sl x)) k
            | false => match E.tt t' with
              | some ti' => match ti'.k with
                | .str => appendK E sl bs rs d t (evO b sl s) (strSrcK (evO b sl x)) k
                | .int _ => appendK E sl bs rs d t (evO b sl s) (zeroSrcK E t (evO b sl s) (evO b sl x)) k
                | _ => False
              | none => False
          | _ => False
        | _ => False
      | .value _ => ownCall E b sl c fun t e xs => newRowK sl bs rs d ⟨t, e, xs⟩ k
      | _ => False
    | _ => False

/-- A slice is made: so many zero values, and room for more. -/
def makeSliceK (E : Env) (sl : Slots) (bs : Blks) (rs : Rows) (d : Nat) (t : TypeId) (ln cp : SV) (k : St → Prop) : Prop :=
  match E.tt t with
  | some ti => match ti.k with
    | .slice te => match E.tt te with
      | some tei => match tei.ty with
        | some T => bif Nat.beq tei.size T.size && Nat.beq tei.zero.length tei.size && Nat.ble 1 tei.size then implodeK T tei.zero False fun z r => match r with
          | [] => match asInt ln with
            | some (_, m) => match asInt cp with
              | some (_, c) => (0 ≤ m ∧ m ≤ c ∧ c * (tei.bytes : Int) ≤ 140737488355328 ∧ c ≤ 1000000000000) ∧ newRowK sl bs rs d ⟨T, te, List.replicate m.toNat z⟩ k
              | none => False
            | none => False
          | _ :: _ => False
          else False
        | none => False
      | none => False
    | _ => False
  | none => False
/-- Elements are copied into a row of the call's own. -/
def copyK (E : Env) (b : Nat) (sl : Slots) (bs : Blks) (rs : Rows) (dst : Option Nat) (c : Call) (k : St → Prop) : Prop :=
  match c.argTypes.toList with
  | t :: _ => match c.args.toList with
    | x :: y :: [] => match evO b sl x with
      | .leaf (.row r) => match getR rs r with
        | some R => match E.tt t with
          | some ti => match ti.k with
            | .slice te => match E.tt te with
              | some tei => bif Nat.beq tei.size R.t.size then appendSrcK R.t (evO b sl y) fun ys => setRK rs r ⟨R.t, R.e, ys.take R.xs.length ++ R.xs.drop ys.length⟩ fun rs' => putK sl bs rs' (dstAt b dst) (mkInt .i64 ((min ys.length R.xs.length : Nat) : Int)) k
                else False
              | none => False
            | _ => False
          | none => False
        | none => False
      | _ => False
    | _ => False
  | _ => False
def seqEv (E : Env) (b : Nat) (sl : Slots) (bs : Blks) (rs : Rows) (o : Oper) (k : St → Prop) : Prop :=
  match o.op with
  | .makeSlice t l c => match dstAt b o.dst with
    | some d => makeSliceK E sl bs rs d t (evO b sl l) (evO b sl c) k
    | none => False
  | .call c => match c.callee with
    | .builtin .copy => copyK E b sl bs rs o.dst c k
    | _ => seqEv0 E b sl bs rs o k
  | _ => seqEv0 E b sl bs rs o k

/-- A slice built of what is told, where it is to be the call's own row: marked among the names. -/
def ownBuild (E : Env) (b : Nat) (o : Oper) : Option (Nat × TypeId × Nat × List (Nat × Operand)) :=
  match o.op with
  | .buildSlice t n ps => match dstAt b o.dst with
    | some d => bif E.nm (1000000000 + d) then some (d, t, n, ps.toList) else none
    | none => none
  | _ => none
def buildRowK (E : Env) (b : Nat) (sl : Slots) (bs : Blks) (rs : Rows) (d : Nat) (t : TypeId) (len : Nat) (parts : List (Nat × Operand)) (k : St → Prop) : Prop :=
  match E.tt t with
  | none => False
  | some ti => match ti.k with
    | .slice te => match E.tt te with
      | none => False
      | some tei => match tei.ty with
        | none => False
        | some T => bif Nat.beq parts.length len && Nat.ble (len * tei.size) 16777216 && Nat.beq tei.zero.length tei.size && Nat.beq tei.size T.size && Nat.ble 1 T.size then buildElemsK b T sl False 0 parts fun ds => newRowK sl bs rs d ⟨T, te, ds⟩ k else False
    | _ => False

/-- A function that is walked at its call: the frame's first slot, the arguments, the state; what it yields. -/
abbrev Inliner := FuncId → Nat → List SV → St → (SV → St → Prop) → Prop

/-- The rows that a call hands to a callee which reads data. -/
def argRows (b : Nat) (sl : Slots) : List Operand → List Nat
  | [] => []
  | x :: r => rowsIn (evO b sl x) ++ argRows b sl r
/-- Rows that are handed to a callee which reads data are frozen. -/
def fzK (E : Env) (b : Nat) (o : Oper) (σ : St) (k : St → Prop) : Prop :=
  match o.op with
  | .call c => match c.callee with
    | .value (.func f) => match E.ct f with
      | some _ => match argRows b σ.slots c.args.toList with
        | [] => k σ
        | r :: rs => fSt (freezeRows (r :: rs) σ) k
      | none => k σ
    | _ => k σ
  | _ => k σ
/-- A call that is handed a row, and turns it. -/
def rowCall (E : Env) (b : Nat) (sl : Slots) (op : Op) : Option (RContract × SV) :=
  match op with
  | .call c => match c.callee with
    | .value fv => match asFn (evO b sl fv) with
      | some (f, []) => match E.rct f with
        | some C => match cutTail C.tail (c.args.toList.map (evO b sl)) with
          | some (s :: []) => some (C, s)
          | _ => none
        | none => none
      | _ => none
    | _ => none
  | _ => none
def rowBackK (sl : Slots) (bs : Blks) (rs : Rows) (d : Option Nat) (R : RowS) (k : St → Prop) : Prop :=
  match d with
  | some d => newRowK sl bs rs d R k
  | none => False
def rowCallK (C : RContract) (s : SV) (sl : Slots) (bs : Blks) (rs : Rows) (d : Option Nat) (k : St → Prop) : Prop :=
  match s with
  | .leaf (.row r) => match getR rs r with
    | some R => bif Nat.beq R.e C.e then popSlK C.t [.tv (.sl R.t) R.xs] False fun xs _ => C.pre xs ∧ ∀ ys : List C.t.den, C.post xs ys → (match C.back with
      | false => setRK rs r ⟨C.t, C.e, ys⟩ fun rs' => putK sl bs rs' d (.leaf .any) k
      | true => fSlots (mapSlots (forget r) sl) fun sl' => fBlks (mapBlks (forget r) bs) fun bs' => fRows (rmR rs r) fun rs' => rowBackK sl' bs' rs' d ⟨C.t, C.e, ys⟩ k)
      else False
    | none => False
  | .leaf (.raw (.slice none 0 0)) => C.pre [] ∧ ∀ ys : List C.t.den, C.post [] ys → (match C.back with
      | false => putK sl bs rs d (.leaf .any) k
      | true => rowBackK sl bs rs d ⟨C.t, C.e, ys⟩ k)
  | _ => False

def exec1 (E : Env) (J : Inliner) (b top : Nat) (o : Oper) (σ : St) (k : St → Prop) : Prop :=
  fzK E b o σ fun σ => match σ with
  | ⟨sl, bs, rs⟩ => match ownBuild E b o with
    | some (d, t, n, ps) => buildRowK E b sl bs rs d t n ps k
    | none => match pureEv E b sl bs rs o.op with
    | some (r, p) => oblige p (nameK (nmAt E.nm (dstAt b o.dst)) r fun r' => putK sl bs rs (dstAt b o.dst) r' k)
    | none => match storeEv E b sl bs o.op with
      | some (i, ⟨t, cs, it⟩) => match o.dst with
        | none => fLs cs fun cs' => setBK bs i ⟨t, cs', it⟩ fun bs' => k ⟨sl, bs', rs⟩
        | some _ => False
      | none => match rowStoreEv E b sl rs o.op with
        | some (r, ⟨t, e, xs⟩) => match o.dst with
          | none => setRK rs r ⟨t, e, xs⟩ fun rs' => k ⟨sl, bs, rs'⟩
          | some _ => False
        | none => match inlEv E b sl o.op with
          | some (f, args) => J f top args ⟨sl, bs, rs⟩ fun s σ' => match σ' with
            | ⟨sl', bs', rs'⟩ => putK sl' bs' rs' (dstAt b o.dst) s k
          | none => match rowCall E b sl o.op with
            | some (C, s) => rowCallK C s sl bs rs (dstAt b o.dst) k
            | none => seqEv E b sl bs rs o k

/-- A slot that is known now. -/
def setK (σ : St) (d : Option Nat) (s : SV) (k : St → Prop) : Prop :=
  match σ with
  | ⟨sl, bs, rs⟩ => putK sl bs rs d s k
theorem setK_eq (σ : St) (d : Option Nat) (s : SV) (k : St → Prop) : setK σ d s k = k (σ.put d s) := by
  obtain ⟨sl, bs, rs⟩ := σ
  exact putK_eq sl bs rs d s k

def dstOf (all : List Oper) (j : Nat) : Option Nat :=
  match all[j]? with
  | some o => o.dst
  | none => none

def guarded (w b : Bool) (yes no : Prop) : Prop :=
  match w, b with
  | true, true => yes
  | false, false => yes
  | true, false => no
  | false, true => no

def execOps (E : Env) (J : Inliner) (b top : Nat) (all : List Oper) : List Oper → St → (St → Prop) → Prop
  | [], σ, k => k σ
  | o :: r, σ, k => match o.guard with
    | none => exec1 E J b top o σ fun σ' => execOps E J b top all r σ' k
    | some (j, w) => match dstOf all j with
      | none => False
      | some t => match getS σ.slots (b + t) with
        | .leaf (.blit c) => guarded w c (exec1 E J b top o σ fun σ' => execOps E J b top all r σ' k) (setK σ (dstAt b o.dst) (.leaf .undef) fun σ' => execOps E J b top all r σ' k)
        | .leaf (.tv .bool e) =>
          ((e : Bool) = true → setK σ (some (b + t)) (.leaf (.blit true)) fun σ => guarded w true (exec1 E J b top o σ fun σ' => execOps E J b top all r σ' k) (setK σ (dstAt b o.dst) (.leaf .undef) fun σ' => execOps E J b top all r σ' k)) ∧
          ((e : Bool) = false → setK σ (some (b + t)) (.leaf (.blit false)) fun σ => guarded w false (exec1 E J b top o σ fun σ' => execOps E J b top all r σ' k) (setK σ (dstAt b o.dst) (.leaf .undef) fun σ' => execOps E J b top all r σ' k))
        | .leaf .undef => setK σ (dstAt b o.dst) (.leaf .undef) fun σ' => execOps E J b top all r σ' k
        | _ => False

end Go.Fr
