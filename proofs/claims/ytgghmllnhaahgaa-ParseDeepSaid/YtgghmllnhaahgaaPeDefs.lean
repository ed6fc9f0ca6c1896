/- The abstract state of a Go function's run: closed data by their kinds, records and lists of the call's own; and how all of it reads in memory. -/
import Derived.Below
import Derived.OrdersHeld
import Derived.KernelRfl
namespace Go.Pe
open Go.RowKit

/-- A value that holds values of its own kind. -/
inductive V where
  | mk (kind n : Int) (s : List UInt8) (items : List V) (keys : List (List UInt8))
def V.kind : V → Int | .mk a _ _ _ _ => a
def V.n : V → Int | .mk _ a _ _ _ => a
def V.s : V → List UInt8 | .mk _ _ a _ _ => a
def V.items : V → List V | .mk _ _ _ a _ => a
def V.keys : V → List (List UInt8) | .mk _ _ _ _ a => a

/-- Kinds of closed data. -/
inductive Ty where
  | bool | int (k : IntKind) | str | list (e : Ty) | unit | prod (a b : Ty) | value
  deriving DecidableEq
@[reducible] def Ty.den : Ty → Type
  | .bool => Bool
  | .int _ => Int
  | .str => List UInt8
  | .list e => List e.den
  | .unit => Unit
  | .prod a b => a.den × b.den
  | .value => V
def Ty.size : Ty → Nat
  | .unit => 0
  | .prod a b => a.size + b.size
  | .value => 5
  | _ => 1

/-- A row of values that hold lists of their own: what names it, and the one of them that is a record by itself. -/
inductive SX where
  | stk (fs : List V)            -- the row, at rest
  | foc (r : Nat) (fs : List V)  -- the row, whose last one is record r
  | cut (r : Nat) (fs : List V)  -- that row without its last one
  | tp (r off : Nat)             -- a pointer into record r
  | mark                         -- (first in such a record)
  | same                         -- what stood there at first

/-- What a slot, or a cell of a record, holds. -/
inductive AV where
  | d (t : Ty) (x : t.den)
  | full (e : Ty) (x : List e.den)
  | nilS
  | whole (t : Nat)
  | ptr (r off : Nat)
  | eptr (t i off : Nat)
  | pim (cells : List AV)
  | agg (l : List AV)
  | tup (l : List AV)
  | fn (f : Fn) (fst cap : List AV)
  | ifc (q : Nat) (l : List AV)
  | bld (r : Nat)
  | sx (x : SX)
  | nilP
  | dead

/-- A list of the call's own. -/
structure LObj where
  e : Ty
  xs : List e.den

structure St where
  slots : List AV
  recs : List (Option (List AV))
  lsts : List (Option LObj)

def nth {α : Type} (xs : List α) (i : Int) : Option α := if 0 ≤ i then xs[i.toNat]? else none

def getL {α : Type} (l : List (Option α)) (i : Nat) : Option α := match l[i]? with | some (some x) => some x | _ => none

/-- The constants of the text. -/
def ofConst1 : Value → AV
  | .bool b => .d .bool b
  | .int k n => .d (.int k) n
  | .string s => .d .str s.data.toList
  | .slice none 0 0 => .nilS
  | .pointer none => .nilP
  | _ => .dead
def ofConst : Value → AV
  | .agg l => .agg (l.toList.map ofConst1)
  | v => ofConst1 v

def St.ev (st : St) : Operand → AV
  | .tmp t => st.slots.getD t .dead
  | .const v => ofConst v
  | .func f => .fn (.func f) [] []
  | .global _ => .dead

def St.put (st : St) (dst : Option Nat) (v : AV) : St :=
  match dst with
  | some d => { st with slots := st.slots.set d v }
  | none => st

/-- As data of a kind; a list of the call's own reads as it stands. -/
def asTy (lsts : List (Option LObj)) (t : Ty) : AV → Option t.den
  | .d t' x => if h : t' = t then some (h ▸ x) else none
  | .full e x => if h : Ty.list e = t then some (h ▸ (x : (Ty.list e).den)) else none
  | .nilS => match t with | .list _ => some [] | _ => none
  | .whole j => match getL lsts j with | some o => (if h : Ty.list o.e = t then some (h ▸ (o.xs : (Ty.list o.e).den)) else none) | none => none
  | _ => none

/-- A value's cells. -/
def unpack : (t : Ty) → t.den → List AV
  | .unit, _ => []
  | .prod a b, x => unpack a x.1 ++ unpack b x.2
  | .value, x => [.d (.int .i64) x.kind, .d (.int .i64) x.n, .d .str x.s, .d (.list .value) x.items, .d (.list .str) x.keys]
  | .bool, x => [.d .bool x]
  | .int k, x => [.d (.int k) x]
  | .str, x => [.d .str x]
  | .list e, x => [.d (.list e) x]

/-- Cells taken together to a value of a kind; what is left. -/
def packTo (lsts : List (Option LObj)) : (t : Ty) → List AV → Option (t.den × List AV)
  | .unit, l => some ((), l)
  | .prod a b, l => (packTo lsts a l).bind fun r => (packTo lsts b r.2).bind fun q => some ((r.1, q.1), q.2)
  | .value, c1 :: c2 :: c3 :: c4 :: c5 :: l =>
    (asTy lsts (.int .i64) c1).bind fun x1 => (asTy lsts (.int .i64) c2).bind fun x2 => (asTy lsts .str c3).bind fun x3 => (asTy lsts (.list .value) c4).bind fun x4 => (asTy lsts (.list .str) c5).bind fun x5 => some (V.mk x1 x2 x3 x4 x5, l)
  | .bool, c :: l => (asTy lsts .bool c).bind fun x => some (x, l)
  | .int k, c :: l => (asTy lsts (.int k) c).bind fun x => some (x, l)
  | .str, c :: l => (asTy lsts .str c).bind fun x => some (x, l)
  | .list e, c :: l => (asTy lsts (.list e) c).bind fun x => some (x, l)
  | _, [] => none
  | .value, _ => none

def AV.cells : AV → List AV
  | .agg l => l
  | v => [v]

/-- A value's cells, as one value of a kind. -/
def packVal (lsts : List (Option LObj)) (t : Ty) (v : AV) : Option t.den :=
  (packTo lsts t v.cells).bind fun r => match r.2 with | [] => some r.1 | _ => none

mutual
/-- Closed: no own memory within. -/
def AV.closed : AV → Bool
  | .d _ _ | .full _ _ | .nilS | .nilP => true
  | .agg l | .tup l | .pim l | .ifc _ l => closedL l
  | .fn _ a b => closedL a && closedL b
  | _ => false
def closedL : List AV → Bool
  | [] => true
  | v :: l => v.closed && closedL l
end
mutual
/-- With lists of the call's own read as they stand. -/
def AV.close (lsts : List (Option LObj)) : AV → Option AV
  | .d t x => some (.d t x)
  | .full e x => some (.full e x)
  | .nilS => some .nilS
  | .nilP => some .nilP
  | .whole j => match getL lsts j with | some o => some (.d (.list o.e) o.xs) | none => none
  | .agg l => (closeL lsts l).bind fun m => some (.agg m)
  | .ifc q l => (closeL lsts l).bind fun m => some (.ifc q m)
  | .tup l => (closeL lsts l).bind fun m => some (.tup m)
  | .fn f a b => (closeL lsts a).bind fun a' => (closeL lsts b).bind fun b' => some (.fn f a' b')
  | .pim l => if closedL l then some (.pim l) else none
  | _ => none
def closeL (lsts : List (Option LObj)) : List AV → Option (List AV)
  | [] => some []
  | v :: l => (v.close lsts).bind fun x => (closeL lsts l).bind fun m => some (x :: m)
end
mutual
/-- Nothing in memory within. -/
def AV.scalar : AV → Bool
  | .d .bool _ | .d (.int _) _ | .d .str _ | .nilP | .nilS => true
  | .agg l | .tup l => scalarL l
  | _ => false
def scalarL : List AV → Bool
  | [] => true
  | v :: l => v.scalar && scalarL l
end

/-- Places of the call's own. -/
inductive Loc | r (n : Nat) | l (n : Nat) | n (k : Nat)
  deriving DecidableEq
mutual
/-- The places that a value names. -/
def AV.locs : AV → List Loc
  | .ptr r _ | .bld r | .sx (.tp r _) => [.r r]
  | .whole t | .eptr t _ _ => [.l t]
  | .agg l | .tup l | .ifc _ l => locsL l
  | .fn _ a b => locsL a ++ locsL b
  | _ => []
def locsL : List AV → List Loc
  | [] => []
  | v :: l => v.locs ++ locsL l
end
def hasR (n : Nat) : List Loc → Bool
  | [] => false
  | .r m :: l => Nat.beq m n || hasR n l
  | .l _ :: l | .n _ :: l => hasR n l
def hasL (n : Nat) : List Loc → Bool
  | [] => false
  | .l m :: l => Nat.beq m n || hasL n l
  | .r _ :: l | .n _ :: l => hasL n l
/-- Is it such a record? -/
def isMark : List AV → Bool | .sx .mark :: _ => true | _ => false
def SX.isCell : SX → Bool | .tp _ _ | .mark => false | _ => true

/-- What is known of a type. -/
structure TI where
  desc : TypeDesc
  size : Nat
  agg : Bool
  ty : Option Ty
  zero : List AV
  eq : Bool   -- a struct of plain fields, that '==' compares field by field
  bld : Bool   -- strings.Builder

/-- A function's answer, handed on. -/
def PFun : Type 1 := {S : Type} → List AV → (AV → Option S) → Option S

end Go.Pe
