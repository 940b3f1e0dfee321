/- A SMALL EXECUTOR WITH VALUE SEMANTICS over the loaded program's code (own work): slices are typed lists, boxed variables and owned arrays are objects under the number of the slot that made them. Continuation-passing. Its soundness is proved in VmSound. -/
import Derived.Orders
import Derived.Below
namespace Go.Proofs.Vm
open Go
set_option linter.unusedVariables false

/-! ### Types of data -/
inductive Ty where
  | int (k : IntKind)
  | bool
  | str
  | unit
  | pair (a b : Ty)
  | sl (e : Ty)

def Ty.den : Ty → Type
  | .int _ => Int
  | .bool => Bool
  | .str => ByteArray
  | .unit => Unit
  | .pair a b => a.den × b.den
  | .sl e => List e.den

def Ty.width : Ty → Nat
  | .unit => 0
  | .pair a b => a.width + b.width
  | _ => 1

def Ty.dflt : (t : Ty) → t.den
  | .int _ => (0 : Int)
  | .bool => false
  | .str => (⟨#[]⟩ : ByteArray)
  | .unit => ()
  | .pair a b => (a.dflt, b.dflt)
  | .sl _ => []

def kindEq (a b : IntKind) : Bool := decide (a = b)
theorem kindEq_eq {a b : IntKind} (h : kindEq a b = true) : a = b := of_decide_eq_true h

def Ty.eqb : Ty → Ty → Bool
  | .int k, .int l => kindEq k l
  | .bool, .bool => true
  | .str, .str => true
  | .unit, .unit => true
  | .pair a b, .pair c d => Ty.eqb a c && Ty.eqb b d
  | .sl a, .sl b => Ty.eqb a b
  | _, _ => false

theorem Ty.eqb_eq : ∀ {a b : Ty}, Ty.eqb a b = true → a = b
  | .int k, .int l, h => by rw [kindEq_eq h]
  | .bool, .bool, _ => rfl
  | .str, .str, _ => rfl
  | .unit, .unit, _ => rfl
  | .pair a b, .pair c d, h => by
    simp only [Ty.eqb, Bool.and_eq_true] at h
    rw [Ty.eqb_eq h.1, Ty.eqb_eq h.2]
  | .sl a, .sl b, h => by rw [Ty.eqb_eq (a := a) (b := b) h]

/-- a typed list under another name of its type -/
def castList (a b : Ty) (xs : List a.den) : Option (List b.den) :=
  match h : Ty.eqb a b with
  | true => some (Ty.eqb_eq h ▸ xs)
  | false => none

/-! ### Values -/
inductive V where
  | undef
  | val (v : Value)
  | sl (e : Ty) (xs : List e.den)
  | os (id : Nat)
  | vref (id off : Nat)
  | pc (cs : List V) (off : Nat)
  | pa (e : Ty) (xs : List e.den)
  | pe (id i off : Nat)
  | fn (f : FuncId) (caps : List V)
  | agg (cs : List V)
  | tup (vs : List V)
  | mb (cs : List V)

inductive VObj where
  | box (cs : List V)
  | arr (e : Ty) (xs : List e.den) (wr : Bool)

structure St where
  t : List V
  o : List (Nat × VObj)

inductive Ex where
  | nrm
  | exit (id : Nat)
  | ret

def flat : (t : Ty) → t.den → List V
  | .int k, n => [.val (.int k n)]
  | .bool, b => [.val (.bool b)]
  | .str, s => [.val (.string s)]
  | .unit, _ => []
  | .pair a b, x => flat a x.1 ++ flat b x.2
  | .sl e, xs => [.sl e xs]

def cellInt (k : IntKind) : V → Option Int
  | .val (.int l n) => match kindEq l k with | true => some n | false => none
  | _ => none
def cellBool : V → Option Bool
  | .val (.bool b) => some b
  | _ => none
def cellStr : V → Option ByteArray
  | .val (.string s) => some s
  | _ => none
def cellSl (e : Ty) : V → Option (List e.den)
  | .sl e' xs => castList e' e xs
  | .val (.slice none 0 0) => some []
  | _ => none

def unflat : (t : Ty) → List V → Option (t.den × List V)
  | .unit, cs => some ((), cs)
  | .pair a b, cs => match unflat a cs with
    | some (x, cs1) => match unflat b cs1 with
      | some (y, cs2) => some ((x, y), cs2)
      | none => none
    | none => none
  | .int k, cs => match cs with | c :: cs => (match cellInt k c with | some x => some (x, cs) | none => none) | [] => none
  | .bool, cs => match cs with | c :: cs => (match cellBool c with | some x => some (x, cs) | none => none) | [] => none
  | .str, cs => match cs with | c :: cs => (match cellStr c with | some x => some (x, cs) | none => none) | [] => none
  | .sl e, cs => match cs with | c :: cs => (match cellSl e c with | some x => some (x, cs) | none => none) | [] => none

/-- the whole of some cells as one datum -/
def unflatAll (t : Ty) (cs : List V) : Option t.den :=
  match unflat t cs with
  | some (x, []) => some x
  | _ => none

def V.cells : V → List V
  | .agg cs => cs
  | v => [v]

/-- a datum as a value of a slot -/
def enc (t : Ty) (x : t.den) : V :=
  match t, x with
  | .unit, _ => .agg []
  | .pair a b, x => .agg (flat (.pair a b) x)
  | .int k, n => .val (.int k n)
  | .bool, b => .val (.bool b)
  | .str, s => .val (.string s)
  | .sl e, xs => .sl e xs

def dec (t : Ty) (v : V) : Option t.den := unflatAll t v.cells

def ofValue : Value → V
  | .agg cs => .agg (cs.toList.map .val)
  | .func (.func f) first caps => match first.toList, caps.toList with
    | [], [] => .fn f []
    | _, _ => .val (.func (.func f) first caps)
  | v => .val v

def allVal : List V → Option (List Value)
  | [] => some []
  | .val v :: cs => match allVal cs with | some vs => some (v :: vs) | none => none
  | _ => none

def toVal : V → Option Value
  | .val v => some v
  | .agg cs => match allVal cs with | some vs => some (.agg vs.toArray) | none => none
  | _ => none

/-! ### States -/
def setL : List V → Nat → V → List V
  | [], _, _ => []
  | _ :: l, 0, v => v :: l
  | x :: l, n + 1, v => x :: setL l n v

def getL : List V → Nat → V
  | [], _ => .undef
  | x :: _, 0 => x
  | _ :: l, n + 1 => getL l n

def St.setT (st : St) (s : Nat) (v : V) : St := { st with t := setL st.t s v }
def St.put (st : St) (dst : Option Nat) (v : V) : St :=
  match dst with
  | some d => st.setT d v
  | none => st

def findO : List (Nat × VObj) → Nat → Option VObj
  | [], _ => none
  | (i, x) :: l, n => match Nat.beq i n with | true => some x | false => findO l n

def setO : List (Nat × VObj) → Nat → VObj → List (Nat × VObj)
  | [], _, _ => []
  | (i, x) :: l, n, y => match Nat.beq i n with | true => (i, y) :: l | false => (i, x) :: setO l n y

def dropO : List (Nat × VObj) → Nat → List (Nat × VObj)
  | [], _ => []
  | (i, x) :: l, n => match Nat.beq i n with | true => dropO l n | false => (i, x) :: dropO l n

/-- no reference to an object is left -/
def V.kill (id : Nat) : V → V
  | .undef => .undef
  | .val v => .val v
  | .sl e xs => .sl e xs
  | .pc cs off => .pc cs off
  | .pa e xs => .pa e xs
  | .os i => match Nat.beq i id with | true => .undef | false => .os i
  | .vref i off => match Nat.beq i id with | true => .undef | false => .vref i off
  | .pe i j off => match Nat.beq i id with | true => .undef | false => .pe i j off
  | .fn f caps => .fn f (go caps)
  | .agg cs => .agg (go cs)
  | .tup vs => .tup (go vs)
  | .mb _ => .undef
where go : List V → List V
  | [] => []
  | v :: vs => V.kill id v :: go vs

def killL (id : Nat) : List V → List V
  | [] => []
  | v :: vs => V.kill id v :: killL id vs

def killO (id : Nat) : List (Nat × VObj) → List (Nat × VObj)
  | [] => []
  | (i, .box cs) :: l => (i, .box (killL id cs)) :: killO id l
  | (i, .arr e xs wr) :: l => (i, .arr e xs wr) :: killO id l

def St.kill (st : St) (id : Nat) : St := { t := killL id st.t, o := killO id (dropO st.o id) }

/-- a new object under a slot's number; the slot holds what leads to it -/
def St.new (st : St) (d : Nat) (ob : VObj) (v : V) : St :=
  let s := st.kill d
  { t := setL s.t d v, o := (d, ob) :: s.o }

/-- an owned array read as data; nothing else changes (owned arrays that may be written are no data) -/
def St.thaw (st : St) : V → V
  | .os id => match findO st.o id with
    | some (.arr e xs false) => .sl e xs
    | _ => .undef
  | v => v

def thawL (st : St) : List V → List V
  | [] => []
  | v :: vs => st.thaw v :: thawL st vs

def St.thawA (st : St) : V → V
  | .agg cs => .agg (thawL st cs)
  | v => st.thaw v

/-- owned arrays among some values may not be written any more -/
def demote : List V → List (Nat × VObj) → List (Nat × VObj)
  | [], o => o
  | .os id :: vs, o => match findO o id with
    | some (.arr e xs true) => demote vs (setO o id (.arr e xs false))
    | _ => demote vs o
  | .agg cs :: vs, o => demote vs (demoteC cs o)
  | _ :: vs, o => demote vs o
where demoteC : List V → List (Nat × VObj) → List (Nat × VObj)
  | [], o => o
  | .os id :: vs, o => match findO o id with
    | some (.arr e xs true) => demoteC vs (setO o id (.arr e xs false))
    | _ => demoteC vs o
  | _ :: vs, o => demoteC vs o

def St.demote (st : St) (vs : List V) : St := { st with o := Vm.demote vs st.o }

/-- no reference to an object, at no depth -/
def V.noref : V → Bool
  | .os _ => false
  | .vref _ _ => false
  | .pe _ _ _ => false
  | .mb _ => false
  | .fn _ caps => go caps
  | .agg cs => go cs
  | .tup vs => go vs
  | _ => true
where go : List V → Bool
  | [] => true
  | v :: vs => match V.noref v with | true => go vs | false => false

/-- as somebody else sees it: owned arrays as data, no references -/
def St.clr (st : St) (v : V) : V :=
  match v with
  | .os id => match findO st.o id with
    | some (.arr e xs false) => .sl e xs
    | _ => .undef
  | v => match v.noref with | true => v | false => .undef

def clrL (st : St) : List V → List V
  | [] => []
  | v :: vs => st.clr v :: clrL st vs

/-- a value that is one cell of memory -/
def V.one : V → Bool
  | .undef => false
  | .agg _ => false
  | .tup _ => false
  | .mb _ => false
  | .val (.agg _) => false
  | .val (.tuple _) => false
  | _ => true

def V.okc : V → Bool
  | .agg cs => go cs
  | v => v.one
where go : List V → Bool
  | [] => true
  | v :: vs => match v.one with | true => go vs | false => false

def allOne : List V → Bool
  | [] => true
  | v :: vs => match v.one with | true => allOne vs | false => false

/-! ### The context -/
structure Ctx where
  P : Program
  gl : Nat → Option V
  muts : FuncId → List Nat
  G : {R : Type} → FuncId → List V → (V → List (List V) → Option R) → Option R
  L : {R : Type} → Nat → St → (Ex → St → Option R) → Option R
  dead : Nat → List Nat
  deadX : Nat → List Nat
  own : Nat → List (Nat × Ty)

def ev (cx : Ctx) (st : St) : Operand → V
  | .tmp t => getL st.t t
  | .const v => ofValue v
  | .global g => match cx.gl g with | some v => v | none => .undef
  | .func f => .fn f []

def evL (cx : Ctx) (st : St) : List Operand → List V
  | [] => []
  | x :: xs => ev cx st x :: evL cx st xs

def pureRun (P : Program) {α : Type} : Sem α → Option α
  | .pure a => some a
  | .program k => pureRun P (k P)
  | .mark _ k => pureRun P k
  | _ => none

def allConv (cx : Ctx) (st : St) : List Operand → Bool
  | [] => true
  | x :: xs => match toVal (ev cx st x) with | some _ => allConv cx st xs | none => false

def isSelect : Op → Bool
  | .select _ _ => true
  | _ => false

def opPure (cx : Ctx) (o : Oper) (st : St) : Option V :=
  match isSelect o.op with
  | true => none
  | false => match allConv cx st o.op.operands.toList with
  | true => match pureRun cx.P (execOp (fun x => match toVal (ev cx st x) with | some v => v | none => undef) o) with
    | some (.value v) => some (ofValue v)
    | _ => none
  | false => none

/-- what is known of a test's slot on one way -/
def St.know (st : St) (x : Operand) (b : Bool) : St :=
  match x with
  | .tmp s => st.setT s (.val (.bool b))
  | _ => st

def isAggT (P : Program) (t : TypeId) : Option Bool :=
  match P.underlying t with
  | some (.struct _) => some true
  | some (.array _ _) => some true
  | some _ => some false
  | none => none

def sizeT (P : Program) (t : TypeId) : Option Nat := match P.info? t with | some i => some i.size | none => none

/-- the value of type t at some cells -/
def partV (P : Program) (t : TypeId) (cs : List V) (off : Nat) : Option V :=
  match isAggT P t with
  | some true => match sizeT P t with
    | some n => match Nat.beq ((cs.drop off).take n).length n with
      | true => some (.agg ((cs.drop off).take n))
      | false => none
    | none => none
  | some false => cs[off]?
  | none => none

def tyOf (P : Program) : Nat → TypeId → Option Ty
  | 0, _ => none
  | d + 1, t => match P.underlying t with
    | some (.int k) => some (.int k)
    | some .bool => some .bool
    | some .string => some .str
    | some (.slice e) => match tyOf P d e with | some x => some (.sl x) | none => none
    | some (.struct fs) => fs.toList.foldr (fun f acc => match tyOf P d f.type, acc with | some x, some y => some (.pair x y) | _, _ => none) (some .unit)
    | _ => none

def elemTy (P : Program) (e : TypeId) : Option Ty := tyOf P 20 e

/-- cells laid over others from a place on -/
def over : List V → Nat → List V → Option (List V)
  | cs, 0, [] => some cs
  | c :: cs, n + 1, xs => match over cs n xs with | some r => some (c :: r) | none => none
  | _ :: cs, 0, x :: xs => match over cs 0 xs with | some r => some (x :: r) | none => none
  | [], _, _ => none

section
variable {R : Type} (cx : Ctx)

def loadV (st : St) (t : TypeId) (a : V) : Option V :=
  match a with
  | .vref id off => match findO st.o id with
    | some (.box cs) => partV cx.P t cs off
    | _ => none
  | .pc cs off => partV cx.P t cs off
  | .pe id i off => match findO st.o id with
    | some (.arr e xs _) => partV cx.P t (flat e (xs.getD i e.dflt)) off
    | _ => none
  | _ => none

/-- element i of a typed list, by its place in int64 -/
def atIdx (n : Nat) (i : Int) (k : Nat → Option R) : Option R :=
  cond (decide (0 ≤ i)) (cond (decide (i < (n : Int))) (k i.toNat) none) none

def indexAddrV (st : St) (t : TypeId) (x ix : V) (k : V → Option R) : Option R :=
  match ix with
  | .val (.int _ i) =>
    match cx.P.underlying t, x with
    | some (.slice e), .sl ty xs => match sizeT cx.P e with
      | some n => match Nat.beq n ty.width with
        | true => atIdx xs.length i fun j => k (.pc (flat ty (xs.getD j ty.dflt)) 0)
        | false => none
      | none => none
    | some (.slice e), .os id => match findO st.o id with
      | some (.arr ty xs wr) => match sizeT cx.P e with
        | some n => match Nat.beq n ty.width with
          | true => match wr with
            | true => atIdx xs.length i fun j => k (.pe id j 0)
            | false => atIdx xs.length i fun j => k (.pc (flat ty (xs.getD j ty.dflt)) 0)
          | false => none
        | none => none
      | _ => none
    | some (.array m e), .pa ty xs => match sizeT cx.P e with
      | some n => match Nat.beq n ty.width && Nat.beq m xs.length with
        | true => atIdx xs.length i fun j => k (.pc (flat ty (xs.getD j ty.dflt)) 0)
        | false => none
      | none => none
    | _, _ => none
  | _ => none

def bt (s : ByteArray) (i : Nat) : Int := ((s.data.toList.getD i 0).toNat : Int)

def fieldOf (P : Program) (s : TypeId) (f : Nat) : Option Field :=
  match P.underlying s with
  | some (.struct fs) => fs[f]?
  | _ => none

def addOff (a : V) (n : Nat) : Option V :=
  match a with
  | .vref id off => some (.vref id (off + n))
  | .pc cs off => some (.pc cs (off + n))
  | .pe id i off => some (.pe id i (off + n))
  | _ => none

/-- the parts of a literal laid over cells -/
def fillV (place : Nat → Option (Nat × Nat)) : List V → List (Nat × V) → Option (List V)
  | cells, [] => some cells
  | cells, (i, v) :: rest => match place i with
    | none => none
    | some (off, size) => match Nat.beq v.cells.length size with
      | true => match over cells off v.cells with
        | some cells' => fillV place cells' rest
        | none => none
      | false => none

def zeroCellsV (P : Program) (t : TypeId) : Option (List V) :=
  match P.info? t with
  | some i => match i.zero with
    | some z => some (z.cells.toList.map .val)
    | none => none
  | none => none

def fieldPlaces (P : Program) : List Field → Option (List (Nat × Nat))
  | [] => some []
  | f :: fs => match sizeT P f.type, fieldPlaces P fs with
    | some n, some r => some ((f.offset, n) :: r)
    | _, _ => none

def okParts : List (Nat × V) → Bool
  | [] => true
  | (_, v) :: r => match v.okc with | true => okParts r | false => false

def buildV (P : Program) (t : TypeId) (parts : List (Nat × V)) : Option V :=
  match okParts parts, P.underlying t with
  | true, some (.struct fs) => match zeroCellsV P t, fieldPlaces P fs.toList with
    | some z, some ps => match fillV (fun i => ps[i]?) z parts with
      | some cs => some (.agg cs)
      | none => none
    | _, _ => none
  | _, _ => none

def seqParts : Nat → List (Nat × V) → Bool
  | _, [] => true
  | n, (i, _) :: r => match Nat.beq i n with | true => seqParts (n + 1) r | false => false

def unflats (t : Ty) : List (Nat × V) → Option (List t.den)
  | [] => some []
  | (_, v) :: r => match unflatAll t v.cells, unflats t r with
    | some x, some xs => some (x :: xs)
    | _, _ => none

def litSlice (P : Program) (t : TypeId) (len : Nat) (parts : List (Nat × V)) : Option (Σ ty : Ty, List ty.den) :=
  match P.underlying t with
  | some (.slice e) => match elemTy P e, sizeT P e with
    | some ty, some n => match Nat.beq n ty.width with
      | true => match seqParts 0 parts && okParts parts with
        | true => match Nat.beq parts.length len && Nat.ble (len * n) 16777216 && (zeroCellsV P e).isSome with
          | true => match unflats ty parts with
            | some xs => some ⟨ty, xs⟩
            | none => none
          | false => none
        | false => none
      | false => none
    | _, _ => none
  | _ => none

def strEq (x y : ByteArray) : Bool := x.toList == y.toList

/-- struct equality, field by field -/
def eqFieldsV (P : Program) : Nat → List Field → List V → List V → Option Bool
  | 0, _, _, _ => none
  | _ + 1, [], _, _ => some true
  | n + 1, f :: fs, xs, ys => match eqFieldsV P n fs xs ys with
    | none => none
    | some r => match f.name == "_" with
      | true => none
      | false => match P.underlying f.type with
        | some (.struct gs) => match partV P f.type xs f.offset, partV P f.type ys f.offset with
          | some (.agg xs'), some (.agg ys') => match P.stoodInHeld f.type with
            | true => none
            | false => match eqFieldsV P n gs.toList xs' ys' with
              | some b => some (b && r)
              | none => none
          | _, _ => none
        | some (.int _) => match partV P f.type xs f.offset, partV P f.type ys f.offset with
          | some (.val (.int k a)), some (.val (.int l b)) => match kindEq k l with
            | true => some ((a == b) && r)
            | false => none
          | _, _ => none
        | some .bool => match partV P f.type xs f.offset, partV P f.type ys f.offset with
          | some (.val (.bool a)), some (.val (.bool b)) => some ((a == b) && r)
          | _, _ => none
        | some .string => match partV P f.type xs f.offset, partV P f.type ys f.offset with
          | some (.val (.string a)), some (.val (.string b)) => some (strEq a b && r)
          | _, _ => none
        | _ => none

def eqStruct (P : Program) (t : TypeId) (xs ys : List V) : Option Bool :=
  match P.underlying t with
  | some (.struct fs) => match P.stoodInHeld t || P.eqGuardType P.depth t with
    | true => none
    | false => eqFieldsV P 60 fs.toList xs ys
  | _ => none


/-! ### Operations -/
/-- what a closure bears, as the callee sees it -/
def capV (st : St) : V → V
  | .vref id off => match findO st.o id with
    | some (.box cs) => .pc (clrL st cs) off
    | _ => .undef
  | v => st.clr v

def capVs (st : St) : List V → List V
  | [] => []
  | v :: vs => capV st v :: capVs st vs

/-- an argument of a call, as the callee sees it: boxes are frozen -/
def argV (st : St) (v : V) : Option V :=
  match v with
  | .vref id off => match findO st.o id with
    | some (.box cs) => some (.pc (clrL st cs) off)
    | _ => none
  | .os id => match findO st.o id with
    | some (.arr e xs false) => some (.sl e xs)
    | _ => none
  | .agg cs => match V.noref.go (clrL st cs) with | true => some (.agg (clrL st cs)) | false => none
  | .fn f caps => match V.noref.go (capVs st caps) with | true => some (.fn f (capVs st caps)) | false => none
  | v => match v.noref with | true => some v | false => none

/-- a box that is handed over -/
def mutV (st : St) (v : V) : Option (Nat × List V) :=
  match v with
  | .vref id 0 => match findO st.o id with
    | some (.box cs) => match V.noref.go cs with | true => some (id, cs) | false => none
    | _ => none
  | _ => none

def hasN (n : Nat) : List Nat → Bool
  | [] => false
  | m :: ms => match Nat.beq m n with | true => true | false => hasN n ms

/-- the boxes that are handed over -/
def mutIds (st : St) (mus : List Nat) : Nat → List V → Option (List Nat)
  | _, [] => some []
  | i, v :: vs => match hasN i mus with
    | true => match mutV st v, mutIds st mus (i + 1) vs with
      | some (id, _), some r => match hasN id r with | true => none | false => some (id :: r)
      | _, _ => none
    | false => mutIds st mus (i + 1) vs

def dropAll : List Nat → List (Nat × VObj) → List (Nat × VObj)
  | [], o => o
  | id :: r, o => dropAll r (dropO o id)

/-- arguments; st2: without the boxes that are handed over -/
def argVs (st st2 : St) (mus : List Nat) : Nat → List V → Option (List V)
  | _, [] => some []
  | i, v :: vs => match hasN i mus with
    | true => match mutV st v, argVs st st2 mus (i + 1) vs with
      | some (_, cs), some r => some (.mb cs :: r)
      | _, _ => none
    | false => match argV st2 v, argVs st st2 mus (i + 1) vs with
      | some a, some r => some (a :: r)
      | _, _ => none

/-- boxes that were handed over hold what the callee left -/
def giveBack : List (Nat × VObj) → List Nat → List (List V) → Option (List (Nat × VObj))
  | o, [], [] => some o
  | o, id :: ids, m :: ms => giveBack (setO o id (.box m)) ids ms
  | _, _, _ => none

def lenOfV (st : St) (v : V) : Option Nat :=
  match v with
  | .sl _ xs => some xs.length
  | .os id => match findO st.o id with | some (.arr _ xs _) => some xs.length | _ => none
  | .val (.slice none 0 0) => some 0
  | _ => none

/-- bounds of a slice expression: low, high and the length -/
def bounds2 (n : Nat) (lo hi : Option V) (k : Nat → Nat → Option R) : Option R :=
  let withHi (k : Nat → Option R) : Option R := match hi with
    | none => k n
    | some (.val (.int _ h)) => cond (decide (0 ≤ h)) (cond (decide (h ≤ (n : Int))) (k h.toNat) none) none
    | _ => none
  withHi fun h => match lo with
    | none => k 0 h
    | some (.val (.int _ l)) => cond (decide (0 ≤ l)) (cond (decide (l ≤ (h : Int))) (k l.toNat h) none) none
    | _ => none

/-- the greatest number of bytes that an owned array takes -/
def roomB : Nat := 2 ^ 46

def opF (o : Oper) (st : St) (k : V → Option R) : Option R :=
  match o.op with
  | .move x => k (ev cx st x)
  | .assign x => k (ev cx st x)
  | .load t a => match loadV cx st t (ev cx st a) with | some v => k v | none => none
  | .nilCheck x => match ev cx st x with
    | .vref id off => k (.vref id off)
    | .pc cs off => k (.pc cs off)
    | .pa e xs => k (.pa e xs)
    | .pe id i off => k (.pe id i off)
    | .fn f caps => k (.fn f caps)
    | _ => none
  | .fieldAddr s x f => match fieldOf cx.P s f with
    | some fd => match sizeT cx.P fd.type with
      | some (_ + 1) => match addOff (ev cx st x) fd.offset with | some v => k v | none => none
      | _ => none
    | none => none
  | .field s x f => match fieldOf cx.P s f, ev cx st x with
    | some fd, .agg cs => match partV cx.P fd.type cs fd.offset with | some v => k v | none => none
    | _, _ => none
  | .indexAddr t x ix => indexAddrV cx st t (ev cx st x) (ev cx st ix) k
  | .index t x ix => match cx.P.underlying t, ev cx st x, ev cx st ix with
    | some .string, .val (.string s), .val (.int _ i) => atIdx s.size i fun j => k (.val (.int .u8 (bt s j)))
    | _, _, _ => none
  | .build t parts => match buildV cx.P t (parts.toList.map fun p => (p.1, ev cx st p.2)) with | some v => k v | none => none
  | .buildSlice t len parts => match litSlice cx.P t len (parts.toList.map fun p => (p.1, st.thawA (ev cx st p.2))) with
    | some ⟨ty, xs⟩ => k (.sl ty xs)
    | none => none
  | .binOp b t x y yt => match b, ev cx st x, ev cx st y with
    | .quo, .val (.int ik m), .val (.int jk n) => match kindEq ik jk with
      | true => cond (n == 0) none (k (.val (.int ik (ik.wrap (m.tdiv n)))))
      | false => none
    | .rem, .val (.int ik m), .val (.int jk n) => match kindEq ik jk with
      | true => cond (n == 0) none (k (.val (.int ik (m.tmod n))))
      | false => none
    | .eql, .agg xs, .agg ys => match eqStruct cx.P t xs ys with | some r => k (.val (.bool r)) | none => none
    | .neq, .agg xs, .agg ys => match eqStruct cx.P t xs ys with | some r => k (.val (.bool (!r))) | none => none
    | _, _, _ => match opPure cx o st with | some v => k v | none => none
  | .slice t x lo hi none => match cx.P.underlying t, ev cx st x with
    | some .string, .val (.string s) => bounds2 s.size (lo.map (ev cx st)) (hi.map (ev cx st)) fun l h => k (.val (.string (s.extract l h)))
    | some (.slice e), v => match sizeT cx.P e, st.thaw v with
      | some n, .sl ty xs => match Nat.beq n ty.width with
        | true => bounds2 xs.length (lo.map (ev cx st)) (hi.map (ev cx st)) fun l h => k (.sl ty ((xs.take h).drop l))
        | false => none
      | _, _ => none
    | _, _ => none
  | .makeFunc fn first captured => match fn, first.toList with
    | .func f, [] => k (.fn f (captured.toList.map (ev cx st)))
    | _, _ => none
  | .extract t i => match ev cx st t with
    | .tup vs => match vs[i]? with | some v => k v | none => none
    | _ => none
  | .call c => match c.callee with
    | .builtin .len => match c.args.toList, c.argTypes.toList with
      | [x], [t] => match cx.P.underlying t with
        | some .string => match ev cx st x with
          | .val (.string s) => k (.val (.int .i64 s.size))
          | _ => none
        | some (.slice _) => match lenOfV st (ev cx st x) with
          | some n => k (.val (.int .i64 n))
          | none => none
        | _ => none
      | _, _ => none
    | .builtin .min => match opPure cx o st with | some v => k v | none => none
    | .builtin .max => match opPure cx o st with | some v => k v | none => none
    | .builtin _ => none
    | .value f => match ev cx st f with
      | .fn f caps => match cx.muts f with
        | [] => match argVs st st [] 0 (evL cx st c.args.toList ++ caps) with
          | some args => cx.G f args fun v ms => match ms with | [] => k v | _ => none
          | none => none
        | _ => none
      | _ => none
    | _ => none
  | _ => match opPure cx o st with | some v => k v | none => none

/-- operands that an operation takes as data -/
def dataOperands (op : Op) : List Operand :=
  match op with
  | .buildSlice _ _ parts => parts.toList.map (·.2)
  | .slice _ x _ _ _ => [x]
  | .call c => match c.callee with | .builtin _ => [] | _ => c.args.toList
  | _ => []

def V.scalar : V → Bool
  | .val _ => true
  | .tup vs => go vs
  | _ => false
where go : List V → Bool
  | [] => true
  | .val _ :: vs => go vs
  | _ => false

def sameOperand : Operand → Operand → Bool
  | .tmp a, .tmp b => Nat.beq a b
  | .const (.int k a), .const (.int l b) => kindEq k l && (a == b)
  | _, _ => false

def dstOk : Option Nat → Bool
  | some d => Nat.blt d 100000
  | none => true

def opB1 (o : Oper) (st : St) (k : St → Option R) : Option R :=
  match o.op, o.dst with
  | .box _ x, some d => match allOne (ev cx st x).cells with
    | true => k (st.new d (.box (killL d (ev cx st x).cells)) (.vref d 0))
    | false => none
  | .alloc e, some d => match zeroCellsV cx.P e with
    | some cs => k (st.new d (.box cs) (.vref d 0))
    | none => none
  | .store t a x, dst => match sizeT cx.P t, ev cx st a with
    | some n, .vref id off => match findO st.o id, Nat.beq (ev cx st x).cells.length n && allOne (ev cx st x).cells with
      | some (.box cs), true => match over cs off (ev cx st x).cells with
        | some cs' => k ({ st with o := setO st.o id (.box cs') }.put dst .undef)
        | none => none
      | _, _ => none
    | some n, .pe id i off => match findO st.o id, Nat.beq (ev cx st x).cells.length n && allOne (ev cx st x).cells with
      | some (.arr e xs true), true => match over (flat e (xs.getD i e.dflt)) off (thawL st (ev cx st x).cells) with
        | some cs' => match unflatAll e cs' with
          | some y => k ({ st with o := setO st.o id (.arr e (xs.set i y) true) }.put dst .undef)
          | none => none
        | none => none
      | _, _ => none
    | _, _ => none
  | .buildSlice t 0 parts, some d => match parts.toList, cx.P.underlying t with
    | [], some (.slice e) => match elemTy cx.P e, sizeT cx.P e with
      | some ty, some n => match Nat.beq n ty.width with
        | true => k (st.new d (.arr ty [] false) (.os d))
        | false => none
      | _, _ => none
    | _, _ => none
  | .makeSlice t l c, some d => match sameOperand l c, cx.P.underlying t with
    | true, some (.slice e) => match elemTy cx.P e, cx.P.info? e, ev cx st l with
      | some ty, some inf, .val (.int _ n) => match zeroCellsV cx.P e with
        | some z => match Nat.beq inf.size ty.width, unflatAll ty z with
          | true, some x0 => cond (decide (0 ≤ n)) (cond (decide (n * (inf.bytes + 1) ≤ (roomB : Int))) (k (st.new d (.arr ty (List.replicate n.toNat x0) true) (.os d))) none) none
          | _, _ => none
        | none => none
      | _, _, _ => none
    | _, _ => none
  | .call c, some d => match c.callee with
    | .builtin .append => match c.args.toList, c.argTypes.toList with
      | [x, y], [tx, ty0] => match Nat.beq tx ty0, cx.P.underlying tx with
        | true, some (.slice e) => match elemTy cx.P e, cx.P.info? e, zeroCellsV cx.P e with
          | some ty, some inf, some z => match Nat.beq inf.size ty.width && Nat.beq z.length ty.width && Nat.ble inf.bytes 65536, cellSl ty (st.thaw (ev cx st y)) with
            | true, some ys => match ev cx st x with
              | .os id => match findO st.o id with
                | some (.arr ty' xs wr) => match castList ty' ty xs with
                  | some xs => cond (Nat.ble ((xs.length + ys.length) * (inf.bytes + 1)) roomB) (k { t := setL (killL id st.t) d (.os id), o := setO (killO id st.o) id (.arr ty (xs ++ ys) wr) }) none
                  | none => none
                | _ => none
              | .val (.slice none 0 0) => cond (Nat.ble (ys.length * (inf.bytes + 1)) roomB) (k (st.new d (.arr ty ys false) (.os d))) none
              | _ => none
            | _, _ => none
          | _, _, _ => none
        | _, _ => none
      | _, _ => none
    | .value f => match ev cx st f with
      | .fn f caps =>
        let vs := evL cx st c.args.toList ++ caps
        let st1 := st.demote vs
        match mutIds st1 (cx.muts f) 0 vs with
        | some ids => match argVs st1 { st1 with o := dropAll ids st1.o } (cx.muts f) 0 vs with
          | some args => cx.G f args fun v ms => match ms, v.scalar with
            | [], true => k (st.put (some d) v)
            | _, _ => match giveBack st1.o ids ms with
              | some ob => k ({ st with o := ob }.put (some d) v)
              | none => none
          | none => none
        | none => none
      | _ => none
    | _ => none
  | _, _ => none

def opB (o : Oper) (st : St) (k : St → Option R) : Option R :=
  match dstOk o.dst with
  | true => opB1 cx o st k
  | false => none

def isF (cx : Ctx) (op : Op) : Bool :=
  match op with
  | .box .. | .alloc .. | .store .. | .makeSlice .. => false
  | .call c => match c.callee with
    | .builtin .append => false
    | .builtin _ => true
    | .value (.func f) => match cx.muts f with | [] => true | _ => false
    | .value _ => true
    | _ => false
  | _ => true

/-- one operation, in order -/
def op (o : Oper) (st : St) (k : St → Option R) : Option R :=
  match o.op with
  | .pick c a b => match ev cx st c with
    | .val (.bool t) => cond t (k ((st.know c true).put o.dst (ev cx (st.know c true) a))) (k ((st.know c false).put o.dst (ev cx (st.know c false) b)))
    | _ => none
  | .box .. | .alloc .. | .store .. | .makeSlice .. => opB cx o st k
  | .buildSlice _ 0 _ => opB cx o st k
  | .call c => match c.callee with
    | .builtin .append => opB cx o st k
    | .builtin _ => opF cx o st fun v => k (st.put o.dst v)
    | _ => opB cx o st k
  | _ => let st1 := st.demote (evL cx st (dataOperands o.op))
    opF cx o st1 fun v => k (st1.put o.dst v)

def guardSlot (all : List Oper) (j : Nat) : Option Nat := match all[j]? with | some o => o.dst | none => none

def ops (all : List Oper) : List Oper → St → (St → Option R) → Option R
  | [], st, k => k st
  | o :: rest, st, k => match o.guard with
    | none => op cx o st fun st' => ops all rest st' k
    | some (j, want) => match guardSlot all j with
      | none => none
      | some s => match getL st.t s with
        | .val (.bool b) => cond b
            (match want with
              | true => op cx o (st.know (.tmp s) true) fun st' => ops all rest st' k
              | false => ops all rest ((st.know (.tmp s) true).put o.dst (.val undef)) k)
            (match want with
              | true => ops all rest ((st.know (.tmp s) false).put o.dst (.val undef)) k
              | false => op cx o (st.know (.tmp s) false) fun st' => ops all rest st' k)
        | .val (.tuple _) => ops all rest (st.put o.dst (.val undef)) k
        | _ => none

/-! ### Regions whose order is drawn -/
def opTmps : List Operand → List Nat
  | [] => []
  | .tmp t :: r => t :: opTmps r
  | _ :: r => opTmps r

/-- the slots that an operation reads or sets -/
def names (all : List Oper) (o : Oper) : List Nat :=
  let r := opTmps o.op.operands.toList
  let r := match o.dst with | some d => d :: r | none => r
  match o.guard with
  | some (j, _) => match guardSlot all j with | some s => s :: r | none => r
  | none => r

def onlyL (ns : List Nat) : Nat → List V → List V
  | _, [] => []
  | i, v :: l => (match hasN i ns with | true => v | false => .undef) :: onlyL ns (i + 1) l

def St.only (st : St) (ns : List Nat) : St := { st with t := onlyL ns 0 st.t }

/-- one operation that only sets its slot -/
def opO1 (o : Oper) (st : St) (k : V → Option R) : Option R :=
  match o.op with
  | .pick c a b => match ev cx st c with
    | .val (.bool t) => cond t (k (ev cx st a)) (k (ev cx st b))
    | _ => none
  | _ => match isF cx o.op with
    | true => opF cx o st k
    | false => none

/-- out of what it names alone -/
def opO (all : List Oper) (o : Oper) (st : St) (k : V → Option R) : Option R := opO1 cx o (st.only (names all o)) k

def opsF (all : List Oper) : List Oper → St → (St → Option R) → Option R
  | [], st, k => k st
  | o :: rest, st, k => match o.guard with
    | none => opO cx all o st fun v => opsF all rest (st.put o.dst v) k
    | some (j, want) => match guardSlot all j with
      | none => none
      | some s => match getL st.t s with
        | .val (.bool b) => cond b
            (match want with
              | true => opO cx all o (st.know (.tmp s) true) fun v => opsF all rest ((st.know (.tmp s) true).put o.dst v) k
              | false => opsF all rest ((st.know (.tmp s) true).put o.dst (.val undef)) k)
            (match want with
              | true => opsF all rest ((st.know (.tmp s) false).put o.dst (.val undef)) k
              | false => opO cx all o (st.know (.tmp s) false) fun v => opsF all rest ((st.know (.tmp s) false).put o.dst v) k)
        | .val (.tuple _) => opsF all rest (st.put o.dst (.val undef)) k
        | _ => none

def edges (o : Oper) : List Nat := (o.after.toList.filter (Region.binds .any)).map (·.on)

def maskOf (o : Oper) (acc : List Nat) : Nat := (edges o).foldl (fun s e => s ||| 2 ^ e ||| acc.getD e 0) 0

/-- for each operation, the ones that come before it, as bits -/
def clos : List Oper → List Nat → List Nat
  | [], acc => acc
  | o :: r, acc => clos r (acc ++ [maskOf o acc])

def anyIn : List Nat → List Nat → Bool
  | [], _ => false
  | x :: xs, ys => match hasN x ys with | true => true | false => anyIn xs ys

/-- no edge leads forward -/
def backward : List Oper → Nat → Bool
  | [], _ => true
  | o :: r, i => (edges o).all (fun e => Nat.blt e i) && backward r (i + 1)

def dstL (o : Oper) : List Nat := match o.dst with | some d => [d] | none => []

/-- two operations that share a slot that one of them sets are ordered -/
def pairsOk (all : List Oper) (bs : List Nat) : List Oper → Nat → Bool
  | [], _ => true
  | o :: r, j => (go o j all 0) && pairsOk all bs r (j + 1)
where go (o : Oper) (j : Nat) : List Oper → Nat → Bool
  | [], _ => true
  | q :: qs, i => match Nat.blt i j with
    | true => (match anyIn (dstL q) (names all o) || anyIn (dstL o) (names all q) with | true => Nat.testBit (bs.getD j 0) i | false => true) && go o j qs (i + 1)
    | false => true

def tailOk (bs : List Nat) (p : Nat) : List Oper → Nat → Bool
  | [], _ => true
  | _ :: r, i => (match Nat.ble p i with | true => Nat.beq (bs.getD i 0 % 2 ^ i) (2 ^ i - 1) | false => true) && tailOk bs p r (i + 1)

def firstB : List Oper → Nat → Nat
  | [], i => i
  | o :: r, i => match isF cx o.op with | true => firstB r (i + 1) | false => i

/-- may a region whose order is drawn be walked in the order of its text? -/
def drawOk (all : List Oper) (p : Nat) : Bool :=
  let bs := clos all []
  backward all 0 && pairsOk all bs all 0 && tailOk bs p all 0

def keyOf : Code → Nat
  | .region id _ _ => id
  | .seq a _ => keyOf a
  | .cond _ a _ => keyOf a
  | .block _ a => keyOf a
  | .loop a => keyOf a
  | .scope a => keyOf a
  | _ => 0

/-- some slots and their objects are forgotten -/
def forget : List Nat → St → St
  | [], st => st
  | s :: r, st => match Nat.ble 1000000 s with
    | true => forget r { t := setL st.t (s - 1000000) .undef, o := st.o }
    | false => forget r { t := setL st.t s .undef, o := dropO st.o s }

/-- nil slices in some slots become owned arrays -/
def ownNil : List (Nat × Ty) → St → St
  | [], st => st
  | (s, e) :: r, st => match getL st.t s with
    | .val (.slice none 0 0) => ownNil r { t := setL (st.kill (200000 + s)).t s (.os (200000 + s)), o := (200000 + s, .arr e [] false) :: (st.kill (200000 + s)).o }
    | _ => ownNil r st

def prep (key : Nat) (st : St) : St := forget (cx.dead key) (ownNil (cx.own key) st)

def run : Code → St → (Ex → St → Option R) → Option R
  | .skip, st, k => k .nrm st
  | .label _, st, k => k .nrm st
  | .region _ rops false, st, k => ops cx rops.toList rops.toList st fun st' => k .nrm st'
  | .region _ rops true, st, k => match drawOk rops.toList (firstB cx rops.toList 0) && cx.P.follows .mixedOrders with
    | true => opsF cx rops.toList (rops.toList.take (firstB cx rops.toList 0)) st fun st' => ops cx rops.toList (rops.toList.drop (firstB cx rops.toList 0)) st' fun st'' => k .nrm st''
    | false => none
  | .seq a b, st, k => run a st fun e st' => match e with
    | .nrm => run b st' k
    | .exit i => k (.exit i) st'
    | .ret => k .ret st'
  | .cond c x y, st, k => match ev cx st c with
    | .val (.bool t) => cond t (run x (st.know c true) k) (run y (st.know c false) k)
    | _ => none
  | .block id c, st, k => run c st fun e st' => match e with
    | .nrm => k .nrm st'
    | .exit i => match Nat.beq i id with | true => k .nrm st' | false => k (.exit i) st'
    | .ret => k .ret st'
  | .loop b, st, k => cx.L (keyOf b) (prep cx (keyOf b) st) k
  | .scope b, st, k => run b st k
  | .exit id, st, k => k (.exit id) st
  | .ret, st, k => k .ret st
  | _, _, _ => none

/-- rounds of a loop -/
def rounds (b : Code) (k : Ex → St → Option R) : Nat → St → Option R
  | 0, _ => none
  | n + 1, st => run cx b st fun e st' => match e with
    | .nrm => rounds b k n (forget (cx.dead (keyOf b)) st')
    | .exit i => k (.exit i) (forget (cx.deadX (keyOf b)) st')
    | .ret => k .ret (forget (cx.deadX (keyOf b)) st')

/-- what the result variables hold -/
def resultV (st : St) : ResultVar → Option V
  | .tmp t => match getL st.t t with | .undef => none | v => some v
  | .cell a ty => match loadV cx st ty (getL st.t a) with | some v => some v | none => none

def resultVs (st : St) : List ResultVar → Option (List V)
  | [] => some []
  | r :: rs => match resultV cx st r, resultVs st rs with
    | some v, some vs => some (v :: vs)
    | _, _ => none

def retCell (st : St) (v : V) : V :=
  match v with
  | .val v => .val v
  | .sl e xs => .sl e xs
  | .os id => match findO st.o id with | some (.arr e xs false) => .sl e xs | _ => .undef
  | _ => .undef

def retCells (st : St) : List V → List V
  | [] => []
  | v :: vs => retCell st v :: retCells st vs

/-- results are data: what was owned is given as data -/
def retV (st : St) (v : V) : Option V :=
  match v with
  | .val v => some (.val v)
  | .sl e xs => some (.sl e xs)
  | .os id => match findO st.o id with | some (.arr e xs false) => some (.sl e xs) | _ => none
  | .agg cs => some (.agg (retCells st cs))
  | _ => none

def retVs (st : St) : List V → Option (List V)
  | [] => some []
  | v :: vs => match retV st v, retVs st vs with
    | some a, some r => some (a :: r)
    | _, _ => none

def repl : Nat → List V
  | 0 => []
  | n + 1 => .undef :: repl n

/-- boxes that were handed over stand under numbers beyond the slots -/
def startT : Nat → List V → List V
  | _, [] => []
  | i, .mb _ :: vs => .vref (100000 + i) 0 :: startT (i + 1) vs
  | i, v :: vs => v :: startT (i + 1) vs

def startO : Nat → List V → List (Nat × VObj)
  | _, [] => []
  | i, .mb cs :: vs => (100000 + i, .box cs) :: startO (i + 1) vs
  | i, _ :: vs => startO (i + 1) vs

/-- the cells of the boxes that were handed over -/
def boxCells (st : St) : Nat → List V → List V
  | _, [] => []
  | i, v :: vs => match v with
    | .mb _ => match findO st.o (100000 + i) with
      | some (.box cs) => cs ++ boxCells st (i + 1) vs
      | _ => boxCells st (i + 1) vs
    | _ => boxCells st (i + 1) vs

def endM (st : St) : Nat → List V → Option (List (List V))
  | _, [] => some []
  | i, v :: vs => match v with
    | .mb _ => match findO st.o (100000 + i), endM st (i + 1) vs with
      | some (.box cs), some r => some (retCells st cs :: r)
      | _, _ => none
    | _ => endM st (i + 1) vs

def body (fn : Func) (args : List V) (k : V → List (List V) → Option R) : Option R :=
  match fn.body with
  | none => none
  | some c => run cx c { t := startT 0 args ++ repl (fn.ntmps - args.length), o := startO 0 args } fun e st =>
    match e with
    | .exit _ => none
    | _ => match resultVs cx st fn.results.toList with
      | none => none
      | some vs =>
        let st1 := st.demote (vs ++ boxCells st 0 args)
        match retVs st1 vs, endM st1 0 args with
        | some [v], some ms => k v ms
        | some vs, some ms => k (.tup vs) ms
        | _, _ => none

end
end Go.Proofs.Vm
