/- Texts of the proof, what is used of them: Defs, Hand, Ev, Rep, Nat, Sim, Ops1, Ops2, Ops3, Mem. -/
import Derived.Below
import Derived.OrdersHeld
import Derived.KernelRfl
import Derived.WalkKit
import Derived.MapKept
import Derived.Deep.AppendSrc
import Derived.Laws.MakeOwn
import Derived.ControlIn
import Derived.Laws.StructEq
import Derived.Laws.BytesString
import Derived.Laws.IdiomStrings
import Derived.Laws.Tables
import Derived.Lib.ConvBytes
section
namespace Go.Pe
open Go.RowKit

inductive V where
  | mk (kind n : Int) (s : List UInt8) (items : List V) (keys : List (List UInt8))
def V.kind : V → Int | .mk a _ _ _ _ => a
def V.n : V → Int | .mk _ a _ _ _ => a
def V.s : V → List UInt8 | .mk _ _ a _ _ => a
def V.items : V → List V | .mk _ _ _ a _ => a
def V.keys : V → List (List UInt8) | .mk _ _ _ _ a => a

inductive Ty where
  | bool | int (k : IntKind) | str | list (e : Ty) | unit | prod (a b : Ty) | value
  deriving DecidableEq
@[reducible] def Ty.den : Ty → Type
  | .bool => Bool
  | .int _ => Int
  | .str => List UInt8
  | .list e => List e.den
  | .unit => Unit
  | .prod a b => a.den × b.den
  | .value => V
def Ty.size : Ty → Nat
  | .unit => 0
  | .prod a b => a.size + b.size
  | .value => 5
  | _ => 1

@[reducible] def Ty.mapT (k v : Ty) : Bool → Ty
  | true => .prod (.prod .unit .unit) (.prod k v)
  | false => .prod .unit (.prod k v)
def Ty.isMap : Ty → Bool
  | .prod .unit _ => true
  | .prod (.prod .unit .unit) _ => true
  | _ => false

inductive SX where
  | stk (fs : List V)            -- the row, at rest
  | foc (r : Nat) (fs : List V)  -- the row, whose last one is record r
  | cut (r : Nat) (fs : List V)  -- that row without its last one
  | tp (r off : Nat)             -- a pointer into record r
  | mark                         -- (first in such a record)
  | same                         -- what stood there at first

inductive AV where
  | d (t : Ty) (x : t.den)
  | full (e : Ty) (x : List e.den)
  | nilS
  | whole (t : Nat)
  | ptr (r off : Nat)
  | eptr (t i off : Nat)
  | pim (cells : List AV)
  | agg (l : List AV)
  | tup (l : List AV)
  | fn (f : Fn) (fst cap : List AV)
  | ifc (q : Nat) (l : List AV)
  | bld (r : Nat)
  | sx (x : SX)
  | nilP
  | dead

structure LObj where
  e : Ty
  xs : List e.den

structure St where
  slots : List AV
  recs : List (Option (List AV))
  lsts : List (Option LObj)

def nth {α : Type} (xs : List α) (i : Int) : Option α := if 0 ≤ i then xs[i.toNat]? else none

def getL {α : Type} (l : List (Option α)) (i : Nat) : Option α := match l[i]? with | some (some x) => some x | _ => none

def ofConst1 : Value → AV
  | .bool b => .d .bool b
  | .int k n => .d (.int k) n
  | .string s => .d .str s.data.toList
  | .slice none 0 0 => .nilS
  | .pointer none => .nilP
  | _ => .dead
def ofConst : Value → AV
  | .agg l => .agg (l.toList.map ofConst1)
  | v => ofConst1 v

def St.ev (st : St) : Operand → AV
  | .tmp t => st.slots.getD t .dead
  | .const v => ofConst v
  | .func f => .fn (.func f) [] []
  | .global _ => .dead

def St.put (st : St) (dst : Option Nat) (v : AV) : St :=
  match dst with
  | some d => { st with slots := st.slots.set d v }
  | none => st

def asTy (lsts : List (Option LObj)) (t : Ty) : AV → Option t.den
  | .d t' x => if h : t' = t then some (h ▸ x) else none
  | .full e x => if h : Ty.list e = t then some (h ▸ (x : (Ty.list e).den)) else none
  | .nilS => match t with | .list _ => some [] | _ => none
  | .whole j => match getL lsts j with | some o => (match o.e.isMap with | true => none | false => if h : Ty.list o.e = t then some (h ▸ (o.xs : (Ty.list o.e).den)) else none) | none => none
  | _ => none

def unpack : (t : Ty) → t.den → List AV
  | .unit, _ => []
  | .prod a b, x => unpack a x.1 ++ unpack b x.2
  | .value, x => [.d (.int .i64) x.kind, .d (.int .i64) x.n, .d .str x.s, .d (.list .value) x.items, .d (.list .str) x.keys]
  | .bool, x => [.d .bool x]
  | .int k, x => [.d (.int k) x]
  | .str, x => [.d .str x]
  | .list e, x => [.d (.list e) x]

def packTo (lsts : List (Option LObj)) : (t : Ty) → List AV → Option (t.den × List AV)
  | .unit, l => some ((), l)
  | .prod a b, l => (packTo lsts a l).bind fun r => (packTo lsts b r.2).bind fun q => some ((r.1, q.1), q.2)
  | .value, c1 :: c2 :: c3 :: c4 :: c5 :: l =>
    (asTy lsts (.int .i64) c1).bind fun x1 => (asTy lsts (.int .i64) c2).bind fun x2 => (asTy lsts .str c3).bind fun x3 => (asTy lsts (.list .value) c4).bind fun x4 => (asTy lsts (.list .str) c5).bind fun x5 => some (V.mk x1 x2 x3 x4 x5, l)
  | .bool, c :: l => (asTy lsts .bool c).bind fun x => some (x, l)
  | .int k, c :: l => (asTy lsts (.int k) c).bind fun x => some (x, l)
  | .str, c :: l => (asTy lsts .str c).bind fun x => some (x, l)
  | .list e, c :: l => (asTy lsts (.list e) c).bind fun x => some (x, l)
  | _, [] => none
  | .value, _ => none

def AV.cells : AV → List AV
  | .agg l => l
  | v => [v]

def packVal (lsts : List (Option LObj)) (t : Ty) (v : AV) : Option t.den :=
  (packTo lsts t v.cells).bind fun r => match r.2 with | [] => some r.1 | _ => none

mutual
/-- Closed: no own memory within. -/
def AV.closed : AV → Bool
  | .d _ _ | .full _ _ | .nilS | .nilP => true
  | .agg l | .tup l | .pim l | .ifc _ l => closedL l
  | .fn _ a b => closedL a && closedL b
  | _ => false
def closedL : List AV → Bool
  | [] => true
  | v :: l => v.closed && closedL l
end
mutual
/-- With lists of the call's own read as they stand. -/
def AV.close (lsts : List (Option LObj)) : AV → Option AV
  | .d t x => some (.d t x)
  | .full e x => some (.full e x)
  | .nilS => some .nilS
  | .nilP => some .nilP
  | .whole j => match getL lsts j with | some o => (match o.e.isMap with | true => none | false => some (.d (.list o.e) o.xs)) | none => none
  | .agg l => (closeL lsts l).bind fun m => some (.agg m)
  | .ifc q l => (closeL lsts l).bind fun m => some (.ifc q m)
  | .tup l => (closeL lsts l).bind fun m => some (.tup m)
  | .fn f a b => (closeL lsts a).bind fun a' => (closeL lsts b).bind fun b' => some (.fn f a' b')
  | .pim l => if closedL l then some (.pim l) else none
  | _ => none
def closeL (lsts : List (Option LObj)) : List AV → Option (List AV)
  | [] => some []
  | v :: l => (v.close lsts).bind fun x => (closeL lsts l).bind fun m => some (x :: m)
end
mutual
/-- Nothing in memory within. -/
def AV.scalar : AV → Bool
  | .d .bool _ | .d (.int _) _ | .d .str _ | .nilP | .nilS => true
  | .agg l | .tup l => scalarL l
  | _ => false
def scalarL : List AV → Bool
  | [] => true
  | v :: l => v.scalar && scalarL l
end
inductive Loc | r (n : Nat) | l (n : Nat) | n (k : Nat)
  deriving DecidableEq
mutual
/-- The places that a value names. -/
def AV.locs : AV → List Loc
  | .ptr r _ | .bld r | .sx (.tp r _) => [.r r]
  | .whole t | .eptr t _ _ => [.l t]
  | .agg l | .tup l | .ifc _ l => locsL l
  | .fn _ a b => locsL a ++ locsL b
  | _ => []
def locsL : List AV → List Loc
  | [] => []
  | v :: l => v.locs ++ locsL l
end
def hasR (n : Nat) : List Loc → Bool
  | [] => false
  | .r m :: l => Nat.beq m n || hasR n l
  | .l _ :: l | .n _ :: l => hasR n l
def hasL (n : Nat) : List Loc → Bool
  | [] => false
  | .l m :: l => Nat.beq m n || hasL n l
  | .r _ :: l | .n _ :: l => hasL n l
def isMark : List AV → Bool | .sx .mark :: _ => true | _ => false
def SX.isCell : SX → Bool | .tp _ _ | .mark => false | _ => true

structure TI where
  desc : TypeDesc
  size : Nat
  agg : Bool
  ty : Option Ty
  zero : List AV
  eq : Bool   -- a struct of plain fields, that '==' compares field by field
  bld : Bool   -- strings.Builder

def PFun : Type 1 := {S : Type} → List AV → (AV → Option S) → Option S

end Go.Pe
end
section
namespace Go.Pe
open Go.RowKit

inductive SAV where
  | dead | hole (t : Ty) | ptr (r off : Nat) | whole (t : Nat) | nilP | nilS | eptr (t off : Nat) | agg (l : List SAV) | ifc (q : Nat) (l : List SAV) | bld (r : Nat) | fn (f : Fn) (a b : List SAV) | stk | same
mutual
@[reducible] def SAV.den : SAV → Type
  | .hole t => t.den
  | .eptr _ _ => Nat
  | .agg l => SAVs.den l
  | .ifc _ l => SAVs.den l
  | .fn _ a b => SAVs.den a × SAVs.den b
  | .stk => List V
  | .dead | .ptr _ _ | .whole _ | .nilP | .nilS | .bld _ | .same => Unit
@[reducible] def SAVs.den : List SAV → Type
  | [] => Unit
  | s :: r => s.den × SAVs.den r
end
@[reducible] def recsDen : List (Option (List SAV)) → Type
  | [] => Unit
  | none :: r => recsDen r
  | some l :: r => SAVs.den l × recsDen r
@[reducible] def lstsDen : List (Option Ty) → Type
  | [] => Unit
  | none :: r => lstsDen r
  | some t :: r => List t.den × lstsDen r
structure Shape where
  slots : List SAV
  recs : List (Option (List SAV))
  lsts : List (Option Ty)
@[reducible] def Shape.den (sh : Shape) : Type := SAVs.den sh.slots × recsDen sh.recs × lstsDen sh.lsts

mutual
def fillA : (s : SAV) → s.den → AV
  | .dead, _ => .dead
  | .hole t, x => .d t x
  | .ptr r off, _ => .ptr r off
  | .bld r, _ => .bld r
  | .whole t, _ => .whole t
  | .nilP, _ => .nilP
  | .nilS, _ => .nilS
  | .eptr t off, i => .eptr t i off
  | .agg l, z => .agg (fillL l z)
  | .ifc q l, z => .ifc q (fillL l z)
  | .fn f a b, z => .fn f (fillL a z.1) (fillL b z.2)
  | .stk, x => .sx (.stk x)
  | .same, _ => .sx .same
def fillL : (l : List SAV) → SAVs.den l → List AV
  | [], _ => []
  | s :: r, z => fillA s z.1 :: fillL r z.2
end
def fillR : (l : List (Option (List SAV))) → recsDen l → List (Option (List AV))
  | [], _ => []
  | none :: r, z => none :: fillR r z
  | some l :: r, z => some (fillL l z.1) :: fillR r z.2
def fillT : (l : List (Option Ty)) → lstsDen l → List (Option LObj)
  | [], _ => []
  | none :: r, z => none :: fillT r z
  | some t :: r, z => some ⟨t, z.1⟩ :: fillT r z.2
def fill (sh : Shape) (z : sh.den) : St := ⟨fillL sh.slots z.1, fillR sh.recs z.2.1, fillT sh.lsts z.2.2⟩

def plainT (keep : List (Option Ty)) (t : Nat) : Bool := match getL keep t with | some e => !e.isMap | none => true
def shut (keep : List (Option Ty)) : AV → Bool
  | .whole j => (getL keep j).isNone
  | _ => true
def Ty.single : Ty → Bool | .bool | .int _ | .str | .list _ => true | _ => false
def fnEq : Fn → Fn → Bool
  | .func a, .func b => Nat.beq a b
  | _, _ => false
theorem fnEq_eq {f g : Fn} (h : fnEq f g = true) : f = g := by
  unfold fnEq at h
  split at h
  · rw [Nat.eq_of_beq_eq_true h]
  · cases h
mutual
def absA (lsts : List (Option LObj)) (keep : List (Option Ty)) (nr : Nat) : (s : SAV) → AV → Option s.den
  | .dead, _ => some ()
  | .hole t, v => if t.single && shut keep v then asTy lsts t v else none
  | .ptr r off, v => (match v with | .ptr r' off' => if r = r' ∧ off = off' ∧ r < nr then some () else none | _ => none)
  | .bld r, v => (match v with | .bld r' => if r = r' ∧ r < nr then some () else none | _ => none)
  | .whole t, v => (match v with
    | .whole t' => if t = t' ∧ (getL lsts t).isSome = true ∧ (getL keep t).isSome = true then some () else none
    | .nilS => if (getL lsts t).isNone = true ∧ (getL keep t).isSome = true ∧ plainT keep t = true then some () else none
    | _ => none)
  | .nilP, v => (match v with | .nilP => some () | _ => none)
  | .nilS, v => (match v with | .nilS => some () | _ => none)
  | .eptr t off, v => (match v with | .eptr t' i off' => if t = t' ∧ off = off' ∧ (getL lsts t).isSome = true ∧ (getL keep t).isSome = true then some i else none | _ => none)
  | .agg l, v => (match v with | .agg vs => absL lsts keep nr l vs | _ => none)
  | .ifc q l, v => (match v with | .ifc q' vs => (match Nat.beq q q' with | true => absL lsts keep nr l vs | false => none) | _ => none)
  | .fn f a b, v => (match v with | .fn g vs us => (match fnEq f g with | true => (absL lsts keep nr a vs).bind fun x => (absL lsts keep nr b us).bind fun y => some (x, y) | false => none) | _ => none)
  | .stk, v => (match v with | .sx (.stk fs) => some fs | _ => none)
  | .same, v => (match v with | .sx .same => some () | _ => none)
def absL (lsts : List (Option LObj)) (keep : List (Option Ty)) (nr : Nat) : (l : List SAV) → List AV → Option (SAVs.den l)
  | [], vs => (match vs with | [] => some () | _ :: _ => none)
  | s :: r, vs => (match vs with | v :: vs => (absA lsts keep nr s v).bind fun x => (absL lsts keep nr r vs).bind fun y => some (x, y) | [] => none)
end
def absR (lsts : List (Option LObj)) (keep : List (Option Ty)) (nr : Nat) : (l : List (Option (List SAV))) → List (Option (List AV)) → Option (recsDen l)
  | [], _ => some ()
  | none :: r, vs => absR lsts keep nr r vs.tail
  | some l :: r, some c :: vs => (match isMark c with | true => none | false => (absL lsts keep nr l c).bind fun x => (absR lsts keep nr r vs).bind fun y => some (x, y))
  | _, _ => none
def absT : (l : List (Option Ty)) → List (Option LObj) → Option (lstsDen l)
  | [], _ => some ()
  | none :: r, vs => absT r vs.tail
  | some t :: r, vs =>
    (match vs.head? with
    | some (some o) => if h : Ty.list o.e = Ty.list t then some ((h ▸ (o.xs : (Ty.list o.e).den) : (Ty.list t).den) : List t.den) else none
    | _ => (match t.isMap with | true => none | false => some ([] : List t.den))).bind fun x => (absT r vs.tail).bind fun y => some (x, y)
def abs (sh : Shape) (st : St) : Option sh.den :=
  (absL st.lsts sh.lsts sh.recs.length sh.slots st.slots).bind fun x => (absR st.lsts sh.lsts sh.recs.length sh.recs st.recs).bind fun y => (absT sh.lsts st.lsts).bind fun z => some (x, y, z)

inductive SM | hand | keep (x : SX) | no
def SM.isHand : SM → Bool | .hand => true | _ => false
def SM.view : SM → SX → AV
  | .hand, .stk fs => .sx (.stk fs)
  | .keep (.stk _), .stk _ => .sx .same
  | .keep (.foc _ _), .foc _ _ => .sx .same
  | .keep .same, .same => .sx .same
  | _, _ => .dead
def SM.back : SM → SX → AV
  | .hand, .stk fs => .sx (.stk fs)
  | .keep (.stk fs), .same => .sx (.stk fs)
  | .keep (.foc r fs), .same => .sx (.foc r fs)
  | .keep .same, .same => .sx .same
  | _, _ => .dead
def SM.old : SM → SX → AV
  | .hand, _ => .dead
  | _, x => .sx x
mutual
/-- Other numbers for the call's own records and lists. -/
def AV.ren (fr fl : Nat → Option Nat) (fx : SX → AV) : AV → AV
  | .ptr r off => (match fr r with | some i => .ptr i off | none => .dead)
  | .bld r => (match fr r with | some i => .bld i | none => .dead)
  | .whole t => (match fl t with | some i => .whole i | none => .dead)
  | .eptr t i off => (match fl t with | some j => .eptr j i off | none => .dead)
  | .agg l => .agg (renL fr fl fx l)
  | .ifc q l => .ifc q (renL fr fl fx l)
  | .tup l => .tup (renL fr fl fx l)
  | .pim l => .pim (renL fr fl fx l)
  | .fn f a b => .fn f (renL fr fl fx a) (renL fr fl fx b)
  | .sx x => fx x
  | v => v
def renL (fr fl : Nat → Option Nat) (fx : SX → AV) : List AV → List AV
  | [] => []
  | v :: l => v.ren fr fl fx :: renL fr fl fx l
end
def idx (n : Nat) : List Nat → Option Nat
  | [] => none
  | m :: l => match Nat.beq m n with | true => some 0 | false => (idx n l).map (· + 1)
def nodupB : List Nat → Bool
  | [] => true
  | m :: l => (match idx m l with | none => true | some _ => false) && nodupB l

structure HF where
  I : Shape
  O : Shape
  F : I.den → Option O.den

structure Mt where
  ρ : List Nat
  lm : List Nat
  fz : List Nat
  sm : SM
def mtN (i r : Nat) (l : List Nat) : Option (List Nat) :=
  match l[i]? with
  | some r' => (match Nat.beq r r' with | true => some l | false => none)
  | none => (match Nat.beq i l.length with | true => (match idx r l with | none => some (l ++ [r]) | some _ => none) | false => none)
mutual
def mtA : SAV → AV → Mt → Option Mt
  | .ptr i _, v, m => (match v with | .ptr r _ => (mtN i r m.ρ).map fun l => { m with ρ := l } | _ => none)
  | .bld i, v, m => (match v with | .bld r => (mtN i r m.ρ).map fun l => { m with ρ := l } | _ => none)
  | .whole i, v, m => (match v with | .whole r => (mtN i r m.lm).map fun l => { m with lm := l } | .nilS => some m | _ => none)
  | .eptr i _, v, m => (match v with | .eptr r _ _ => (mtN i r m.lm).map fun l => { m with lm := l } | _ => none)
  | .hole _, v, m => (match v with | .whole r => some { m with fz := r :: m.fz } | _ => some m)
  | .agg l, v, m => (match v with | .agg vs => mtL l vs m | _ => none)
  | .ifc _ l, v, m => (match v with | .ifc _ vs => mtL l vs m | _ => none)
  | .fn f a b, v, m => (match v with | .fn g vs us => (match fnEq f g with | true => (mtL a vs m).bind (mtL b us) | false => none) | _ => none)
  | .nilP, v, m => (match v with | .nilP => some m | _ => none)
  | .nilS, v, m => (match v with | .nilS => some m | _ => none)
  | .stk, v, m => (match v with | .sx (.stk _) => (match m.sm with | .no => some { m with sm := .hand } | _ => none) | _ => none)
  | .same, v, m => (match m.sm with | .no => (match v with | .sx _ => some { m with sm := .keep .mark } | _ => none) | _ => none)
  | .dead, _, m => some m
def mtL : List SAV → List AV → Mt → Option Mt
  | [], vs, m => (match vs with | [] => some m | _ :: _ => none)
  | s :: l, vs, m => (match vs with | v :: vs => (mtA s v m).bind (mtL l vs) | [] => none)
end
def mtRecs (st : St) : List (Option (List SAV)) → Nat → Mt → Option Mt
  | [], _, m => some m
  | none :: r, i, m => mtRecs st r (i + 1) m
  | some l :: r, i, m => match m.ρ[i]? with
    | some j => (match getL st.recs j with | some cells => (mtL l cells m).bind (mtRecs st r (i + 1)) | none => none)
    | none => none
def mt (h : HF) (st : St) (args : List AV) : Option Mt := (mtL h.I.slots args ⟨[], [], [], .no⟩).bind fun m => mtRecs st h.I.recs 0 m

def findC : List AV → Option SX
  | [] => none
  | .sx (.stk fs) :: _ => some (.stk fs)
  | .sx (.foc r fs) :: _ => some (.foc r fs)
  | .sx .same :: _ => some .same
  | _ :: l => findC l
def findR (recs : List (Option (List AV))) : List Nat → Option SX
  | [] => none
  | r :: ρ => match getL recs r with
    | some c => (match findC c with | some x => some x | none => findR recs ρ)
    | none => findR recs ρ
def fixSM (recs : List (Option (List AV))) (ρ : List Nat) : SM → SM
  | .keep _ => (match findR recs ρ with | some x => .keep x | none => .no)
  | s => s
def viewR (ρ lm : List Nat) (sm : SM) : List AV → List AV := renL (fun r => idx r ρ) (fun t => idx t lm) sm.view
def view (st : St) (ρ lm : List Nat) (sm : SM) (args : List AV) : St := ⟨viewR ρ lm sm args, ρ.map fun r => (getL st.recs r).map (viewR ρ lm sm), lm.map fun t => getL st.lsts t⟩
def backN (ρ : List Nat) (n : Nat) (i : Nat) : Nat := match ρ[i]? with | some r => r | none => n + (i - ρ.length)
def srcN (ρ : List Nat) (n j : Nat) : Option Nat := match idx j ρ with
  | some i => some i
  | none => (match Nat.blt j n with | true => none | false => some (ρ.length + (j - n)))
def mapAt (st s : St) (t i : Nat) : Bool := match getL st.lsts t, getL s.lsts i with
  | some o, some o' => o.e.isMap && decide (o'.e = o.e)
  | _, _ => false
def keptMaps (st s : St) : List Nat → Nat → Bool
  | [], _ => true
  | t :: lm, i => (match getL s.lsts i with | some o' => (match o'.e.isMap with | true => mapAt st s t i | false => true) | none => true) && keptMaps st s lm (i + 1)
def unL (lm : List Nat) (st s : St) (t : Nat) : Option Nat := match idx t lm with | some i => (match mapAt st s t i with | true => some t | false => none) | none => some t
def backL (ρ lm : List Nat) (sm : SM) (n nl : Nat) : List AV → List AV := renL (fun i => some (backN ρ n i)) (fun i => some (backN lm nl i)) sm.back
def newRecs (st : St) (ρ lm : List Nat) (sm : SM) (s : St) (j : Nat) : Option (List AV) := match srcN ρ st.recs.length j with
  | some i => (match getL s.recs i with | some c => (match isMark c with | true => none | false => some (backL ρ lm sm st.recs.length st.lsts.length c)) | none => none)
  | none => (match getL st.recs j with | some c => (match isMark c && sm.isHand with | true => none | false => some (renL some (unL lm st s) sm.old c)) | none => none)
def newLsts (st : St) (lm : List Nat) (s : St) (j : Nat) : Option LObj := match srcN lm st.lsts.length j with
  | some i => getL s.lsts i
  | none => getL st.lsts j
def unview (st : St) (ρ lm : List Nat) (sm : SM) (s : St) : St :=
  ⟨renL some (unL lm st s) sm.old st.slots, (List.range (st.recs.length + (s.recs.length - ρ.length))).map (newRecs st ρ lm sm s), (List.range (st.lsts.length + (s.lsts.length - lm.length))).map (newLsts st lm s)⟩
def unvals (st : St) (ρ lm : List Nat) (sm : SM) (s : St) : List AV := backL ρ lm sm st.recs.length st.lsts.length s.slots
def allSome (l : List (Option (List AV))) : List Nat → Bool
  | [] => true
  | r :: ρ => (match getL l r with | some c => !isMark c | none => false) && allSome l ρ
def allLt (n : Nat) : List Nat → Bool
  | [] => true
  | r :: ρ => Nat.blt r n && allLt n ρ

structure PF where
  I : Shape
  O : Shape
  Z : Shape
  F : I.den → Option (O.den ⊕ Z.den)
def PF.hf (h : PF) : HF := ⟨h.I, h.O, fun _ => none⟩
def Ext : Type 1 := {S : Type} → St → List AV → (AV → St → Option S) → Option S
structure Env where
  ti : Nat → Option TI
  fn : Nat → Option (PFun × Bool)   -- with whether what it hands back is scalar
  hf : Nat → List HF
  pf : Nat → List PF
  top : Nat → Bool   -- functions that yield the place of a row's last one
  own : List Nat   -- literals that are lists of the call's own, by the slots that they go to
  ext : Nat → Option Ext   -- functions whose deed is told of the state itself
end Go.Pe
end
section
namespace Go.Pe
open Go.RowKit

section
variable (ε : Env) {S : Type}

def ty1 (t : Nat) : Option Ty := (ε.ti t).bind fun i => i.ty
def elemT (t : Nat) : Option Nat := match ε.ti t with | some i => (match i.desc with | .slice e => some e | _ => none) | none => none

def evInt (op : BinOp) (k : IntKind) (a b : Int) (K : AV → Option S) : Option S :=
  match op with
  | .add => K (.d (.int k) (k.wrap (a + b)))
  | .sub => K (.d (.int k) (k.wrap (a - b)))
  | .mul => K (.d (.int k) (k.wrap (a * b)))
  | .quo => if b = 0 then none else K (.d (.int k) (k.wrap (a.tdiv b)))
  | .rem => if b = 0 then none else K (.d (.int k) (a.tmod b))
  | .and => K (.d (.int k) (k.wrap (BitVec.ofInt k.bits a &&& BitVec.ofInt k.bits b).toNat))
  | .or => K (.d (.int k) (k.wrap (BitVec.ofInt k.bits a ||| BitVec.ofInt k.bits b).toNat))
  | .xor => K (.d (.int k) (k.wrap (BitVec.ofInt k.bits a ^^^ BitVec.ofInt k.bits b).toNat))
  | .andNot => K (.d (.int k) (k.wrap (BitVec.ofInt k.bits a &&& ~~~BitVec.ofInt k.bits b).toNat))
  | .eql => K (.d .bool (a == b))
  | .neq => K (.d .bool (a != b))
  | .lss => K (.d .bool (decide (a < b)))
  | .leq => K (.d .bool (decide (a ≤ b)))
  | .gtr => K (.d .bool (decide (a > b)))
  | .geq => K (.d .bool (decide (a ≥ b)))
  | _ => none

def evStr (op : BinOp) (a b : List UInt8) (K : AV → Option S) : Option S :=
  match op with
  | .add => if a.length + b.length ≤ 4611686018427387904 then K (.d .str (a ++ b)) else none
  | .eql => K (.d .bool (a == b))
  | .neq => K (.d .bool (a != b))
  | .lss => K (.d .bool (Op.bytesLess a b))
  | .leq => K (.d .bool (Op.bytesLess a b || a == b))
  | .gtr => K (.d .bool (!(Op.bytesLess a b || a == b)))
  | .geq => K (.d .bool (!(Op.bytesLess a b)))
  | _ => none

def eqCell : TypeDesc → AV → AV → Option Bool
  | .bool, .d .bool a, .d .bool b => some (a == b)
  | .int _, .d (.int k) a, .d (.int k') b => if k = k' then some (a == b) else none
  | .string, .d .str a, .d .str b => some (a == b)
  | _, _, _ => none
def eqField (f : Field) (x y : AV) : Option Bool := match ε.ti f.type with | some i => eqCell i.desc x y | none => none
def eqCells : List Field → List AV → List AV → Option Bool
  | [], [], [] => some true
  | [f], [x], [y] => eqField ε f x y
  | f :: fs, x :: xs, y :: ys => (eqField ε f x y).bind fun b => (eqCells fs xs ys).bind fun r => some (b && r)
  | _, _, _ => none
def eqT (t : Nat) : Option (List Field) := match ε.ti t with | some i => (match i.eq with | true => (match i.desc with | .struct fs => some fs.toList | _ => none) | false => none) | none => none
def isBool (t : Nat) : Bool := match ε.ti t with | some i => (match i.desc with | .bool => true | _ => false) | none => false
def evBool (op : BinOp) (a b : Bool) (K : AV → Option S) : Option S := match op with
  | .eql => K (.d .bool (a == b))
  | .neq => K (.d .bool (a != b))
  | _ => none
def evBin (op : BinOp) (t : Nat) (x y : AV) (K : AV → Option S) : Option S :=
  match x, y with
  | .d (.int k) a, .d (.int k') b =>
    match op with
    | .shl => if b < 0 then none else K (.d (.int k) (k.wrap (a * 2 ^ (min b.toNat k.bits))))
    | .shr => if b < 0 then none else K (.d (.int k) (a.fdiv (2 ^ (min b.toNat k.bits))))
    | op => if k = k' then evInt op k a b K else none
  | .d .str a, .d .str b => evStr op a b K
  | .agg a, .agg b => (match eqT ε t with
    | some fs => (match op with
      | .eql => (eqCells ε fs a b).bind fun r => K (.d .bool r)
      | .neq => (eqCells ε fs a b).bind fun r => K (.d .bool (!r))
      | _ => none)
    | none => none)
  | .d .bool a, .d .bool b => (match isBool ε t with | true => evBool op a b K | false => none)
  | _, _ => none

def evUn (op : UnOp) (x : AV) (K : AV → Option S) : Option S :=
  match op, x with
  | .not, .d .bool b => K (.d .bool (!b))
  | .neg, .d (.int k) n => K (.d (.int k) (k.wrap (0 - n)))
  | _, _ => none

def bytesOf (s : List UInt8) : List Int := s.map fun b => (b.toNat : Int)
def strOf (l : List Int) : List UInt8 := l.map fun n => UInt8.ofNat n.toNat

def isByteSlice (t : Nat) : Bool := match elemT ε t with
  | some et => (match ε.ti et with | some i => (match i.desc with | .int .u8 => i.size == 1 | _ => false) | none => false)
  | none => false
def isStr (t : Nat) : Bool := match ε.ti t with | some i => (match i.desc with | .string => true | _ => false) | none => false
def szOk (t : Nat) (e : Ty) : Bool := match elemT ε t with
  | some et => (match ε.ti et with | some i => i.size == e.size | none => false)
  | none => false

def evConv (lsts : List (Option LObj)) (src dst : Nat) (x : AV) (K : AV → Option S) : Option S :=
  match ε.ti src, ε.ti dst with
  | some _, some i =>
    (match i.desc, x with
    | .int k, .d (.int _) n => K (.d (.int k) (k.wrap n))
    | .string, .d .str s => K (.d .str s)
    | .string, x => if isByteSlice ε src then (asTy lsts (.list (.int .u8)) x).bind fun l => K (.d .str (strOf l)) else none
    | .slice _, .d .str s => if isByteSlice ε dst then K (.d (.list (.int .u8)) (bytesOf s)) else none
    | _, _ => none)
  | _, _ => none

def AV.list (lsts : List (Option LObj)) : AV → Option LObj
  | .d (.list e) x => some ⟨e, x⟩
  | .full e x => some ⟨e, x⟩
  | .whole t => (match getL lsts t with | some o => (match o.e.isMap with | true => none | false => some o) | none => none)
  | _ => none

def evLen (t : Nat) (lsts : List (Option LObj)) (x : AV) (K : AV → Option S) : Option S :=
  match x with
  | .d .str s => if isStr ε t then K (.d (.int .i64) (s.length : Int)) else none
  | .nilS => if (elemT ε t).isSome then K (.d (.int .i64) 0) else none
  | .sx (.stk fs) => if (elemT ε t).isSome then K (.d (.int .i64) (fs.length : Int)) else none
  | .sx (.foc _ fs) => if (elemT ε t).isSome then K (.d (.int .i64) ((fs.length : Int) + 1)) else none
  | x => if (elemT ε t).isSome then (match x.list lsts with
    | some o => K (.d (.int .i64) (o.xs.length : Int))
    | none => none) else none

def cutLo {α : Type} (l : List α) (a : Int) (K : List α → Option S) : Option S := if 0 ≤ a ∧ a ≤ (l.length : Int) then K (l.drop a.toNat) else none
def cutHi {α : Type} (l : List α) (b : Int) (K : List α → Option S) : Option S := if 0 ≤ b ∧ b ≤ (l.length : Int) then K (l.take b.toNat) else none
def cutMid {α : Type} (l : List α) (a b : Int) (K : List α → Option S) : Option S := if 0 ≤ a ∧ a ≤ b ∧ b ≤ (l.length : Int) then K ((l.take b.toNat).drop a.toNat) else none
def sameInt (a b : Int) (K : Option S) : Option S := if a = b then K else none
def within (n : Int) (len : Nat) (K : Option S) : Option S := if 0 ≤ n ∧ n < (len : Int) then K else none
def cut {α : Type} (l : List α) (lo hi : Option AV) (K : List α → Option S) : Option S :=
  match lo, hi with
  | none, none => K l
  | some (.d (.int _) a), none => cutLo l a K
  | none, some (.d (.int _) b) => cutHi l b K
  | some (.d (.int _) a), some (.d (.int _) b) => cutMid l a b K
  | _, _ => none

def evSlice (t : Nat) (x : AV) (lo hi mx : Option AV) (K : AV → Option S) : Option S :=
  match x, mx with
  | .d .str s, none => if isStr ε t then cut s lo hi fun r => K (.d .str r) else none
  | .d (.list e) l, none => if szOk ε t e then cut l lo hi fun r => K (.d (.list e) r) else none
  | .full e l, none => if szOk ε t e then cut l lo hi fun r => K (.d (.list e) r) else none
  | .d (.list e) l, some (.d (.int _) m) => (match hi with | some (.d (.int _) b) => if szOk ε t e then sameInt m b (cut l lo hi fun r => K (.full e r)) else none | _ => none)
  | .full e l, some (.d (.int _) m) => (match hi with | some (.d (.int _) b) => if szOk ε t e then sameInt m b (cut l lo hi fun r => K (.full e r)) else none | _ => none)
  | .sx (.foc r fs), none => (match lo, hi with | none, some (.d (.int _) b) => if szOk ε t .value then sameInt b (fs.length : Int) (K (.sx (.cut r fs))) else none | _, _ => none)
  | _, _ => none

def fieldAt (t f : Nat) : Option (Nat × Nat × Bool) :=   -- where a field begins, its cells, whether it is a struct
  match ε.ti t with
  | some i => (match i.desc with
    | .struct fs => (match fs[f]? with | some fd => (match ε.ti fd.type with | some j => some (fd.offset, j.size, j.agg) | none => none) | none => none)
    | _ => none)
  | none => none

def partOf (cells : List AV) (off n : Nat) (ag : Bool) : Option AV :=
  if ag then (if off + n ≤ cells.length then some (.agg ((cells.drop off).take n)) else none)
  else match cells.drop off with | c :: _ => some c | [] => none

def evField (t : Nat) (x : AV) (f : Nat) (K : AV → Option S) : Option S :=
  match fieldAt ε t f, x with
  | some (off, n, ag), .agg l => (partOf l off n ag).bind K
  | _, _ => none

def evFieldAddr (st : St) (t : Nat) (x : AV) (f : Nat) (K : AV → Option S) : Option S :=
  match fieldAt ε t f with
  | some (off, n, _) => if n = 0 then none else
    (match x with
    | .ptr r o => if (getL st.recs r).isSome then K (.ptr r (o + off)) else none
    | .eptr t' i o => if (getL st.lsts t').isSome then K (.eptr t' i (o + off)) else none
    | .pim l => if off ≤ l.length then K (.pim (l.drop off)) else none
    | .sx (.tp r o) => K (.sx (.tp r (o + off)))
    | _ => none)
  | none => none

def evIndex (t : Nat) (x i : AV) (K : AV → Option S) : Option S :=
  match x, i with
  | .d .str s, .d (.int _) n => if isStr ε t then (nth s n).bind fun b => K (.d (.int .u8) (b.toNat : Int)) else none
  | _, _ => none

def evIndexAddr (t : Nat) (lsts : List (Option LObj)) (x i : AV) (K : AV → Option S) : Option S :=
  match x, i with
  | .whole q, .d (.int _) n => (match getL lsts q with | some o => (match o.e.isMap with | true => none | false => if szOk ε t o.e then within n o.xs.length (K (.eptr q (Int.toNat n) 0)) else none) | none => none)
  | .d (.list e) l, .d (.int _) n => if szOk ε t e then (nth l n).bind fun y => K (.pim (unpack e y)) else none
  | .full e l, .d (.int _) n => if szOk ε t e then (nth l n).bind fun y => K (.pim (unpack e y)) else none
  | .sx (.foc r fs), .d (.int _) n => if szOk ε t .value then sameInt n (fs.length : Int) (K (.sx (.tp r 0))) else none
  | _, _ => none

def topCells (recs : List (Option (List AV))) (r : Nat) : Option (List AV) := match getL recs r with
  | some (.sx .mark :: c) => some c
  | _ => none
def evLoad (st : St) (t : Nat) (a : AV) (K : AV → Option S) : Option S :=
  match ε.ti t with
  | none => none
  | some i =>
    match a with
    | .ptr r off => (match getL st.recs r with | some cells => (partOf cells off i.size i.agg).bind K | none => none)
    | .pim cells => (partOf cells 0 i.size i.agg).bind K
    | .eptr q n off => (match getL st.lsts q with | some o => (match o.e.isMap with | true => none | false => (o.xs[n]?).bind fun y => (partOf (unpack o.e y) off i.size i.agg).bind K) | none => none)
    | .sx (.tp r off) => (match topCells st.recs r with | some cells => (partOf cells off i.size i.agg).bind K | none => none)
    | _ => none

def AV.isCell : AV → Bool
  | .d t _ => (match t with | .bool | .int _ | .str | .list _ => true | _ => false)
  | .full _ _ | .nilS | .whole _ | .ptr _ _ | .eptr _ _ _ | .pim _ | .fn _ _ _ | .nilP | .ifc _ _ => true
  | .sx x => x.isCell
  | _ => false
def cellsOk : List AV → Bool
  | [] => true
  | v :: l => v.isCell && cellsOk l

def splice (cells : List AV) (off : Nat) (new : List AV) : List AV := cells.take off ++ new ++ cells.drop (off + new.length)

mutual
/-- A list of the call's own is told no more. -/
def AV.kill (t : Nat) : AV → AV
  | .whole j => if j = t then .dead else .whole j
  | .eptr j i o => if j = t then .dead else .eptr j i o
  | .pim l => .pim (killL t l)
  | .agg l => .agg (killL t l)
  | .ifc q l => .ifc q (killL t l)
  | .tup l => .tup (killL t l)
  | .fn f a b => .fn f (killL t a) (killL t b)
  | v => v
def killL (t : Nat) : List AV → List AV
  | [] => []
  | v :: l => v.kill t :: killL t l
end
mutual
/-- A list of the call's own is closed from now on. -/
def AV.froze (t : Nat) (o : LObj) : AV → AV
  | .whole j => if j = t then (match o.e.isMap with | true => .dead | false => .d (.list o.e) o.xs) else .whole j
  | .eptr j i q => if j = t then .dead else .eptr j i q
  | .pim l => .pim (frozeL t o l)
  | .agg l => .agg (frozeL t o l)
  | .ifc q l => .ifc q (frozeL t o l)
  | .tup l => .tup (frozeL t o l)
  | .fn f a b => .fn f (frozeL t o a) (frozeL t o b)
  | v => v
def frozeL (t : Nat) (o : LObj) : List AV → List AV
  | [] => []
  | v :: l => v.froze t o :: frozeL t o l
end
def St.mapAV (f : AV → AV) (st : St) : St := { st with slots := st.slots.map f, recs := st.recs.map fun r => r.map fun l => l.map f }
def St.freeze1 (st : St) (t : Nat) : St :=
  match getL st.lsts t with
  | some o => { (st.mapAV (AV.froze t o)) with lsts := st.lsts.set t none }
  | none => st
mutual
def AV.wholes : AV → List Nat
  | .whole j => [j]
  | .agg l | .tup l | .ifc _ l => wholesL l
  | .fn _ a b => wholesL a ++ wholesL b
  | _ => []
def wholesL : List AV → List Nat
  | [] => []
  | v :: l => v.wholes ++ wholesL l
end
def St.freeze (st : St) (ts : List Nat) : St := ts.foldl St.freeze1 st

def evStore (st : St) (t : Nat) (a v : Operand) (K : St → Option S) : Option S :=
  match ε.ti t with
  | none => none
  | some i =>
    match st.ev a with
    | .ptr r off => if (st.ev v).cells.length = i.size ∧ cellsOk (st.ev v).cells = true then (match getL st.recs r with
      | some cells => if off + i.size ≤ cells.length then K { st with recs := st.recs.set r (some (splice cells off (st.ev v).cells)) } else none
      | none => none) else none
    | .eptr _ _ _ =>
      let st1 := st.freeze (st.ev v).wholes
      if (st1.ev v).cells.length = i.size ∧ cellsOk (st1.ev v).cells = true then
        (match st1.ev a with
        | .eptr q n off => (match getL st1.lsts q with
          | some o => match o.e.isMap with | true => none | false => (o.xs[n]?).bind fun y => if off + i.size ≤ (unpack o.e y).length then
            (packTo [] o.e (splice (unpack o.e y) off (st1.ev v).cells)).bind fun z => (match z.2 with | [] => K { st1 with lsts := st1.lsts.set q (some ⟨o.e, o.xs.set n z.1⟩) } | _ => none) else none
          | none => none)
        | _ => none) else none
    | .sx (.tp r off) => if (st.ev v).cells.length = i.size ∧ cellsOk (st.ev v).cells = true then (match topCells st.recs r with
      | some cells => if off + i.size ≤ cells.length then K { st with recs := st.recs.set r (some (.sx .mark :: splice cells off (st.ev v).cells)) } else none
      | none => none) else none
    | _ => none

def appArg (lsts : List (Option LObj)) (xT : Nat) (e : Ty) (x : AV) : Option (List e.den) :=
  match x with
  | .d .str b => if isStr ε xT then asTy [] (.list e) (.d (.list (.int .u8)) (bytesOf b)) else none
  | x => if (elemT ε xT).isSome then asTy lsts (.list e) x else none
def appOk (n : Nat) (K : Option S) : Option S := if n ≤ 4294967296 then K else none
mutual
/-- Nothing more is told of a row of values that hold lists of their own. -/
def AV.killS : AV → AV
  | .sx _ => .dead
  | .pim l => .pim (killSL l)
  | .agg l => .agg (killSL l)
  | .ifc q l => .ifc q (killSL l)
  | .tup l => .tup (killSL l)
  | .fn f a b => .fn f (killSL a) (killSL b)
  | v => v
def killSL : List AV → List AV
  | [] => []
  | v :: l => v.killS :: killSL l
end
def killSR (recs : List (Option (List AV))) : List (Option (List AV)) := recs.map fun r => match r with
  | some c => (match isMark c with | true => none | false => some (killSL c))
  | none => none
def oneOf {α : Type} : List α → Option α
  | [x] => some x
  | _ => none
def evAppend (st : St) (sT xT : Nat) (s x : AV) (K : AV → St → Option S) : Option S :=
  match s with
  | .nilS => (match (elemT ε sT).bind (ty1 ε) with
    | some e => (appArg ε st.lsts xT e x).bind fun ys => appOk ys.length (K (.whole st.lsts.length) { st with lsts := st.lsts ++ [some ⟨e, ys⟩] })
    | none => none)
  | .full e xs => if (elemT ε sT).bind (ty1 ε) = some e then (appArg ε st.lsts xT e x).bind fun ys => appOk (xs.length + ys.length) (K (.d (.list e) (xs ++ ys)) st) else none
  | .whole t => (match getL st.lsts t with
    | some o => if (elemT ε sT).bind (ty1 ε) = some o.e then (appArg ε st.lsts xT o.e x).bind fun ys =>
        appOk (o.xs.length + ys.length) (K (.whole t) { (st.mapAV (AV.kill t)) with lsts := st.lsts.set t (some ⟨o.e, o.xs ++ ys⟩) }) else none
    | none => none)
  | .sx (.stk fs) => if (elemT ε sT).bind (ty1 ε) = some .value then (appArg ε st.lsts xT .value x).bind fun ys => (oneOf ys).bind fun y =>
        appOk (fs.length + 1) (K (.sx (.foc st.recs.length fs)) { st with slots := killSL st.slots, recs := killSR st.recs ++ [some (.sx .mark :: unpack .value y)] }) else none
  | _ => none

@[reducible] def kv {k v : Ty} : (ag : Bool) → (Ty.mapT k v ag).den → k.den × v.den
  | true, x => x.2
  | false, x => x.2
@[reducible] def ent {k v : Ty} : (ag : Bool) → k.den × v.den → (Ty.mapT k v ag).den
  | true, x => (((), ()), x)
  | false, x => ((), x)
def Ty.isKey : Ty → Bool | .int _ | .str => true | _ => false
def keyEq : (k : Ty) → k.den → k.den → Bool
  | .int _, a, b => a == b
  | .str, a, b => a == b
  | _, _, _ => false
def mapGet {α β : Type} (eq : α → α → Bool) (key : α) : List (α × β) → Option β
  | [] => none
  | x :: xs => match eq key x.1 with | true => some x.2 | false => mapGet eq key xs
def mapPut {α β : Type} (eq : α → α → Bool) (key : α) (y : β) : List (α × β) → List (α × β)
  | [] => [(key, y)]
  | x :: xs => match eq key x.1 with | true => (key, y) :: xs | false => x :: mapPut eq key y xs
def mapDel {α β : Type} (eq : α → α → Bool) (key : α) : List (α × β) → List (α × β)
  | [] => []
  | x :: xs => match eq key x.1 with | true => xs | false => x :: mapDel eq key xs
def keyKind (i : TI) : Option Ty := match i.desc with | .int k => some (.int k) | .string => some .str | _ => none
def mapInfo (t : Nat) : Option (Ty × Ty × TI) := match ε.ti t with
  | some i => (match i.desc with
    | .map a b => (match (ε.ti a).bind keyKind, ε.ti b with
      | some k, some j => (match j.ty with | some v => some (k, v, j) | none => none)
      | _, _ => none)
    | _ => none)
  | none => none
def asMap (k v : Ty) (ag : Bool) (lsts : List (Option LObj)) (q : Nat) : Option (List (k.den × v.den)) := match getL lsts q with
  | some o => if h : Ty.list o.e = Ty.list (Ty.mapT k v ag) then some ((h ▸ (o.xs : (Ty.list o.e).den) : (Ty.list (Ty.mapT k v ag)).den).map (kv ag)) else none
  | none => none
def valOf (v : Ty) (ag : Bool) (y : v.den) : AV := match ag with | true => .agg (unpack v y) | false => .d v y
def isAgg' : AV → Bool | .agg _ => true | _ => false
def keyLen : (k : Ty) → k.den → Nat
  | .str, s => s.length
  | _, _ => 0
def lenOk (n : Nat) (K : Option S) : Option S := if n ≤ 4611686018427387904 then K else none
def evMakeMap (st : St) (t : Nat) (K : AV → St → Option S) : Option S := match mapInfo ε t with
  | some (k, v, j) => K (.whole st.lsts.length) { st with lsts := st.lsts ++ [some ⟨Ty.mapT k v j.agg, []⟩] }
  | none => none
def evLookup (t : Nat) (lsts : List (Option LObj)) (x i : AV) (cOk : Bool) (K : AV → Option S) : Option S := match mapInfo ε t, x with
  | some (k, v, j), .whole q => (asMap k v j.agg lsts q).bind fun l => (asTy [] k i).bind fun key => (packTo [] v j.zero).bind fun z => (match z.2 with
    | [] => (match cOk with
      | true => K (.tup [valOf v j.agg ((mapGet (keyEq k) key l).getD z.1), .d .bool (mapGet (keyEq k) key l).isSome])
      | false => K (valOf v j.agg ((mapGet (keyEq k) key l).getD z.1)))
    | _ => none)
  | _, _ => none
def evMapUpdate (st : St) (t : Nat) (m i x : AV) (K : St → Option S) : Option S := match mapInfo ε t, m with
  | some (k, v, j), .whole q => (asMap k v j.agg st.lsts q).bind fun l => (asTy [] k i).bind fun key => (packVal [] v x).bind fun y => (match isAgg' x == j.agg with
    | true => appOk (l.length + 1) (lenOk (keyLen k key) (K { st with lsts := st.lsts.set q (some ⟨Ty.mapT k v j.agg, (mapPut (keyEq k) key y l).map (ent j.agg)⟩) }))
    | false => none)
  | _, _ => none
def evDelete (st : St) (t : Nat) (m i : AV) (K : St → Option S) : Option S := match mapInfo ε t, m with
  | some (k, v, j), .whole q => (asMap k v j.agg st.lsts q).bind fun l => (asTy [] k i).bind fun key => K { st with lsts := st.lsts.set q (some ⟨Ty.mapT k v j.agg, (mapDel (keyEq k) key l).map (ent j.agg)⟩) }
  | _, _ => none

def makeOk (n c : Int) (K : Option S) : Option S := if 0 ≤ n ∧ n ≤ c ∧ c ≤ 4294967296 then K else none
def evMake (st : St) (t : Nat) (len cap : AV) (K : AV → St → Option S) : Option S :=
  match elemT ε t with
  | none => none
  | some et => match ε.ti et, len, cap with
    | some i, .d (.int _) n, .d (.int _) c => (match i.ty with
      | some e => (match packTo [] e i.zero with
        | some (z, []) => makeOk n c (K (.whole st.lsts.length) { st with lsts := st.lsts ++ [some ⟨e, List.replicate (Int.toNat n) z⟩] })
        | _ => none)
      | none => none)
    | _, _, _ => none

def evBuildGo (place : Nat → Option (Nat × Nat)) (cells : List AV) : List (Nat × AV) → Option (List AV)
  | [] => some cells
  | (i, v) :: rest => match place i with
    | some (off, n) => if v.cells.length = n ∧ off + n ≤ cells.length ∧ cellsOk v.cells = true then evBuildGo place (splice cells off v.cells) rest else none
    | none => none
def evBuild (t : Nat) (parts : List (Nat × AV)) (K : AV → Option S) : Option S :=
  match ε.ti t with
  | some i => (match i.desc with
    | .struct fs => if !fs.toList.all (fun fd => (ε.ti fd.type).isSome) then none else (evBuildGo (fun f => (fieldAt ε t f).map fun q => (q.1, q.2.1)) i.zero parts).bind fun l => K (.agg l)
    | .array _ el => (match ε.ti el with
      | some j => (evBuildGo (fun f => some (f * j.size, j.size)) i.zero parts).bind fun l => K (.agg l)
      | none => none)
    | _ => none)
  | none => none

def packAll (e : Ty) : List (Nat × AV) → Nat → Option (List e.den)
  | [], _ => some []
  | (i, v) :: rest, k => if i = k ∧ cellsOk v.cells = true then (packVal [] e v).bind fun x => (packAll e rest (k + 1)).bind fun l => some (x :: l) else none
def hasN (n : Nat) : List Nat → Bool
  | [] => false
  | m :: l => match Nat.beq m n with | true => true | false => hasN n l
def ownLit (d : Option Nat) : Bool := match d with | some n => hasN n ε.own | none => false
def evBuildSlice (st : St) (own : Bool) (t len : Nat) (parts : List (Nat × Operand)) (K : AV → St → Option S) : Option S :=
  match (elemT ε t).bind (ty1 ε) with
  | some e => if parts.length = len ∧ len * e.size ≤ 16777216 ∧ e.size ≠ 0 then
      (match parts with
      | [] => K (.whole st.lsts.length) { st with lsts := st.lsts ++ [some ⟨e, []⟩] }
      | parts => let st1 := st.freeze (parts.flatMap fun p => (st.ev p.2).wholes)
        (packAll e (parts.map fun p => (p.1, st1.ev p.2)) 0).bind fun l => (match own with | true => K (.whole st1.lsts.length) { st1 with lsts := st1.lsts ++ [some ⟨e, l⟩] } | false => K (.full e l) st1)) else none
  | none => none

def resVal : List AV → AV
  | [v] => v
  | l => .tup l
def evHand (h : HF) (ρ lm : List Nat) (sm : SM) (st : St) (args : List AV) (K : AV → St → Option S) : Option S :=
  match nodupB ρ && nodupB lm && allSome st.recs ρ && allLt st.lsts.length lm && Nat.ble ρ.length h.I.recs.length && Nat.ble lm.length h.I.lsts.length with
  | false => none
  | true => (abs h.I (view st ρ lm sm args)).bind fun y => (h.F y).bind fun o => match keptMaps st (fill h.O o) lm 0 with | true => K (resVal (unvals st ρ lm sm (fill h.O o))) (unview st ρ lm sm (fill h.O o)) | false => none
def evHands (st : St) (args : St → Option (List AV)) (K : AV → St → Option S) : List HF → Option S
  | [] => none
  | h :: r => match (args st).bind (mt h st) with
    | some m => (args (st.freeze m.fz)).bind fun l => evHand h m.ρ m.lm (fixSM (st.freeze m.fz).recs m.ρ m.sm) (st.freeze m.fz) l K
    | none => evHands st args K r
def evHandP (h : PF) (ρ lm : List Nat) (sm : SM) (st : St) (args : List AV) (K Z : AV → St → Option S) : Option S :=
  match nodupB ρ && nodupB lm && allSome st.recs ρ && allLt st.lsts.length lm && Nat.ble ρ.length h.I.recs.length && Nat.ble lm.length h.I.lsts.length with
  | false => none
  | true => (abs h.I (view st ρ lm sm args)).bind fun y => (h.F y).bind fun o => match o with
    | .inl o => (match keptMaps st (fill h.O o) lm 0 with | true => K (resVal (unvals st ρ lm sm (fill h.O o))) (unview st ρ lm sm (fill h.O o)) | false => none)
    | .inr z => (match keptMaps st (fill h.Z z) lm 0 with | true => Z (resVal (unvals st ρ lm sm (fill h.Z z))) (unview st ρ lm sm (fill h.Z z)) | false => none)
def evHandsP (st : St) (args : St → Option (List AV)) (K Z : AV → St → Option S) : List PF → Option S
  | [] => none
  | h :: r => match (args st).bind (mt h.hf st) with
    | some m => (args (st.freeze m.fz)).bind fun l => evHandP h m.ρ m.lm (fixSM (st.freeze m.fz).recs m.ρ m.sm) (st.freeze m.fz) l K Z
    | none => evHandsP st args K Z r
def callArgs (g : Operand) (args : List Operand) (st : St) : Option (List AV) :=
  match st.ev g with
  | .fn _ a b => some (a ++ args.map st.ev ++ b)
  | _ => none
def evCall (st : St) (f : Nat) (args : List Operand) (pre post : List AV) (K : AV → St → Option S) : Option S :=
  match ε.fn f with
  | none => none
  | some (G, sc) =>
    if sc then (closeL st.lsts (pre ++ args.map st.ev ++ post)).bind fun as => G as fun v => if v.scalar then K v st else none
    else
      let st1 := st.freeze (args.flatMap fun p => (st.ev p).wholes)
      if closedL (pre ++ args.map st1.ev ++ post) then G (pre ++ args.map st1.ev ++ post) fun v => K v st1 else none

noncomputable def minI : Int → Int → Int := Classical.choose (⟨fun a b => if @LT.lt Int _ b a then b else a, fun _ _ => rfl⟩ : ∃ f : Int → Int → Int, ∀ a b, f a b = if @LT.lt Int _ b a then b else a)
theorem minI_eq (a b : Int) : minI a b = if @LT.lt Int _ b a then b else a := Classical.choose_spec (⟨fun a b => if @LT.lt Int _ b a then b else a, fun _ _ => rfl⟩ : ∃ f : Int → Int → Int, ∀ a b, f a b = if @LT.lt Int _ b a then b else a) a b
noncomputable def maxI : Int → Int → Int := Classical.choose (⟨fun a b => if @GT.gt Int _ b a then b else a, fun _ _ => rfl⟩ : ∃ f : Int → Int → Int, ∀ a b, f a b = if @GT.gt Int _ b a then b else a)
theorem maxI_eq (a b : Int) : maxI a b = if @GT.gt Int _ b a then b else a := Classical.choose_spec (⟨fun a b => if @GT.gt Int _ b a then b else a, fun _ _ => rfl⟩ : ∃ f : Int → Int → Int, ∀ a b, f a b = if @GT.gt Int _ b a then b else a) a b
noncomputable def evMin (x y : AV) (K : AV → Option S) : Option S :=
  match x, y with
  | .d (.int k) a, .d (.int _) b => K (.d (.int k) (minI a b))
  | _, _ => none
noncomputable def evMax (x y : AV) (K : AV → Option S) : Option S :=
  match x, y with
  | .d (.int k) a, .d (.int _) b => K (.d (.int k) (maxI a b))
  | _, _ => none
def bldZero (b : Bool) (n : Nat) (cells : List AV) : List AV := match b with
  | true => (match cells with | [.nilP, .nilS] => [.bld n, .nilS] | l => l)
  | false => cells
def opt (st : St) (x : Option Operand) : Option AV := x.map st.ev

noncomputable def evOp (st : St) (o : Oper) (K : AV → St → Option S) : Option S :=
  match o.op with
  | .move x | .assign x => K (st.ev x) st
  | .pick c a b => (match st.ev c with | .d .bool t => cond t (K (st.ev a) st) (K (st.ev b) st) | _ => none)
  | .alloc t => (match ε.ti t with | some i => K (.ptr st.recs.length 0) { st with recs := st.recs ++ [some (bldZero i.bld st.recs.length i.zero)] } | none => none)
  | .box t x => (match ε.ti t with | some i => if (st.ev x).cells.length = i.size ∧ cellsOk (st.ev x).cells = true then K (.ptr st.recs.length 0) { st with recs := st.recs ++ [some (bldZero i.bld st.recs.length (st.ev x).cells)] } else none | none => none)
  | .build t parts => evBuild ε t (parts.toList.map fun p => (p.1, st.ev p.2)) fun v => K v st
  | .buildSlice t n parts => evBuildSlice ε st (ownLit ε o.dst) t n parts.toList K
  | .load t a => evLoad ε st t (st.ev a) fun v => K v st
  | .store t a x => evStore ε st t a x fun st' => K .dead st'
  | .nilCheck x => (match st.ev x with | .ptr r off => if (getL st.recs r).isSome then K (.ptr r off) st else none | .pim l => K (.pim l) st | .eptr t i off => if (getL st.lsts t).isSome then K (.eptr t i off) st else none | .sx x => (match x with | .tp r o => K (.sx (.tp r o)) st | _ => none) | .fn f a b => (match f with | .func _ => K (.fn f a b) st | _ => none) | _ => none)
  | .binOp op t x y _ => evBin ε op t (st.ev x) (st.ev y) fun v => K v st
  | .unOp op _ x => evUn op (st.ev x) fun v => K v st
  | .convert src dst x => evConv ε st.lsts src dst (st.ev x) fun v => K v st
  | .makeFunc f a b => K (.fn f (a.toList.map st.ev) (b.toList.map st.ev)) st
  | .makeInterface t x => (match ε.ti t with | some i => (match i.desc with | .struct _ | .int _ | .string | .bool => K (.ifc t [st.ev x]) st | _ => none) | none => none)
  | .makeSlice t l c => evMake ε st t (st.ev l) (st.ev c) K
  | .slice t x lo hi mx => evSlice ε t (st.ev x) (opt st lo) (opt st hi) (opt st mx) fun v => K v st
  | .fieldAddr t x f => evFieldAddr ε st t (st.ev x) f fun v => K v st
  | .field t x f => evField ε t (st.ev x) f fun v => K v st
  | .indexAddr t x i => evIndexAddr ε t st.lsts (st.ev x) (st.ev i) fun v => K v st
  | .index t x i => evIndex ε t (st.ev x) (st.ev i) fun v => K v st
  | .makeMap t n => (match n with | none => evMakeMap ε st t K | some _ => none)
  | .lookup t x i ok => evLookup ε t st.lsts (st.ev x) (st.ev i) ok fun v => K v st
  | .mapUpdate t m i x => evMapUpdate ε st t (st.ev m) (st.ev i) (st.ev x) fun st' => K .dead st'
  | .insert t m i x => evMapUpdate ε st t (st.ev m) (st.ev i) (st.ev x) fun st' => K .dead st'
  | .extract x i => (match st.ev x with | .tup l => (match l[i]? with | some v => K v st | none => none) | _ => none)
  | .call c => (match c.callee with
    | .builtin .len => (match c.argTypes.toList, c.args.toList with | [t], [x] => evLen ε t st.lsts (st.ev x) fun v => K v st | _, _ => none)
    | .builtin .append => (match c.argTypes.toList, c.args.toList with | [t, u], [s, x] => evAppend ε st t u (st.ev s) (st.ev x) K | _, _ => none)
    | .builtin .min => (match c.args.toList with | [x, y] => evMin (st.ev x) (st.ev y) fun v => K v st | _ => none)
    | .builtin .max => (match c.args.toList with | [x, y] => evMax (st.ev x) (st.ev y) fun v => K v st | _ => none)
    | .builtin .delete => (match c.argTypes.toList, c.args.toList with | [t, _], [m, i] => evDelete ε st t (st.ev m) (st.ev i) fun st' => K (.tup []) st' | _, _ => none)
    | .value g => (match st.ev g with | .fn (.func f) a b => (match (ε.fn f).isSome with | true => evCall ε st f c.args.toList a b K | false => evHands st (callArgs g c.args.toList) K (ε.hf f)) | _ => none)
    | _ => none)
  | _ => none

def nilCmp (st : St) (o : Oper) : Option ((e : Ty) × List e.den) :=
  match o.op with
  | .binOp .eql t x (.const (.slice none 0 0)) _ => (match st.ev x with
    | .d (.list e) xs => (match (elemT ε t).isSome with | true => some ⟨e, xs⟩ | false => none)
    | _ => none)
  | _ => none
open Classical in
noncomputable def nilEq {α : Type} (xs : List α) (T F : Option S) : Option S := if xs = [] then (if T = F then T else none) else F

noncomputable def normL {α R : Type} (l : List α) : (List α → R) → R := List.rec (motive := fun _ => (List α → R) → R) (fun K => K []) (fun x _ ih K => ih fun r => K (x :: r)) l
theorem normL_eq {α R : Type} : ∀ (l : List α) (K : List α → R), normL l K = K l
  | [], _ => rfl
  | x :: l, K => (normL_eq l fun r => K (x :: r) : normL l (fun r => K (x :: r)) = K (x :: l))
noncomputable def normA {R : Type} (v : AV) (K : AV → R) : R := match v with
  | .agg l => normL l fun l => K (.agg l)
  | .tup l => normL l fun l => K (.tup l)
  | .pim l => normL l fun l => K (.pim l)
  | v => K v
theorem normA_eq {R : Type} (v : AV) (K : AV → R) : normA v K = K v := by cases v <;> simp only [normA, normL_eq]
noncomputable def normO {α R : Type} (o : Option (List α)) (K : Option (List α) → R) : R := match o with
  | none => K none
  | some l => normL l fun l => K (some l)
theorem normO_eq {α R : Type} (o : Option (List α)) (K : Option (List α) → R) : normO o K = K o := by cases o <;> simp only [normO, normL_eq]
noncomputable def normR {α R : Type} (l : List (Option (List α))) : (List (Option (List α)) → R) → R := List.rec (motive := fun _ => (List (Option (List α)) → R) → R) (fun K => K []) (fun x _ ih K => normO x fun x => ih fun r => K (x :: r)) l
theorem normR_eq {α R : Type} : ∀ (l : List (Option (List α))) (K : List (Option (List α)) → R), normR l K = K l
  | [], _ => rfl
  | x :: l, K => (show normO x (fun x => normR l fun r => K (x :: r)) = _ by rw [normO_eq, normR_eq l])
noncomputable def normSt {R : Type} (st : St) (K : St → R) : R := match st with
  | ⟨a, b, c⟩ => normL a fun a => normR b fun b => normL c fun c => K ⟨a, b, c⟩
theorem normSt_eq {R : Type} (st : St) (K : St → R) : normSt st K = K st := by cases st; simp only [normSt, normL_eq, normR_eq]
noncomputable def putN {R : Type} (st : St) (dst : Option Nat) (v : AV) (K : St → R) : R := normA v fun v => normSt (st.put dst v) K
theorem putN_eq {R : Type} (st : St) (dst : Option Nat) (v : AV) (K : St → R) : putN st dst v K = K (st.put dst v) := by simp only [putN, normA_eq, normSt_eq]

def cellAt (recs : List (Option (List AV))) (q j : Nat) : Option SX := match getL recs q with
  | some c => (match isMark c with | true => none | false => (match c[j]? with | some (.sx x) => some x | _ => none))
  | none => none
def evTop (st : St) : List AV → (AV → St → Option S) → Option S
  | [.ptr q off], K => (match cellAt st.recs q off with
    | some (.foc r fs) => appOk (fs.length + 1) (K (.sx (.tp r 0)) st)
    | _ => none)
  | _, _ => none
noncomputable def evOpZ (st : St) (o : Oper) (K Z : AV → St → Option S) : Option S :=
  match o.op with
  | .panic x => (match st.ev x with | .ifc q l => Z (.ifc q l) st | _ => none)
  | .call c => (match c.callee with
    | .value g => (match st.ev g with
      | .fn (.func f) _ _ => (match ε.pf f with | [] => (match ε.top f with | true => (match callArgs g c.args.toList st with | some l => evTop st l K | none => none) | false => (match ε.ext f with | some G => (match callArgs g c.args.toList st with | some l => G st l K | none => none) | none => evOp ε st o K)) | h :: r => evHandsP st (callArgs g c.args.toList) K Z (h :: r))
      | _ => evOp ε st o K)
    | _ => evOp ε st o K)
  | _ => evOp ε st o K
noncomputable def evOps (ops : Array Oper) : List Nat → St → (St → Option S) → (AV → St → Option S) → Option S
  | [], st, K, _ => K st
  | i :: rest, st, K, Z => match ops[i]? with
    | none => evOps ops rest st K Z
    | some o => match o.guard with
      | none => (match nilCmp ε st o with
        | some q => nilEq q.2 (putN st o.dst (.d .bool true) fun s => evOps ops rest s K Z) (putN st o.dst (.d .bool false) fun s => evOps ops rest s K Z)
        | none => evOpZ ε st o (fun v st' => putN st' o.dst v fun s => evOps ops rest s K Z) Z)
      | some (j, want) => match (ops[j]?).bind (·.dst) with
        | none => none
        | some d => match st.slots[d]? with
          | some (.tup []) => putN st o.dst (.tup []) fun s => evOps ops rest s K Z
          | some (.d .bool b) =>
            cond b
              (if want then evOpZ ε { st with slots := st.slots.set d (.d .bool true) } o (fun v st' => putN st' o.dst v fun s => evOps ops rest s K Z) Z
               else (putN { st with slots := st.slots.set d (.d .bool true) } o.dst (.tup []) fun s => evOps ops rest s K Z))
              (if want then (putN { st with slots := st.slots.set d (.d .bool false) } o.dst (.tup []) fun s => evOps ops rest s K Z)
               else evOpZ ε { st with slots := st.slots.set d (.d .bool false) } o (fun v st' => putN st' o.dst v fun s => evOps ops rest s K Z) Z)
          | _ => none

structure It where
  idx : Nat
  kind : Nat
  n : Nat
  anc : Nat
  touch : List Loc
  cl : Bool
  mf : Bool
  hm : Bool
  al : Bool
def homOp : Op → Bool
  | .move _ | .assign _ | .fieldAddr _ _ _ | .extract _ _ | .field _ _ _ | .nilCheck _ | .load _ _ | .lookup _ _ _ _ => true
  | _ => false
mutual
/-- Nothing within is told no more. -/
def AV.hmok : AV → Bool
  | .dead => false
  | .agg l | .tup l | .ifc _ l => hmokL l
  | .pim l => closedL l
  | .fn _ a b => hmokL a && hmokL b
  | _ => true
def hmokL : List AV → Bool
  | [] => true
  | v :: l => v.hmok && hmokL l
end
def hmOps (st : St) : List Operand → Bool
  | [] => true
  | x :: r => (st.ev x).hmok && hmOps st r
def tgtOf (st : St) (o : Oper) : Nat := match o.op with
  | .store _ a _ => (match st.ev a with | .ptr r _ => r | .sx (.tp r _) => r | .eptr t _ _ => t | _ => 0)
  | .call c => (match c.args.toList with | s :: _ => (match st.ev s with | .whole t => t | _ => 0) | _ => 0)
  | _ => 0
def memfree : Op → Bool
  | .move _ | .assign _ | .pick _ _ _ | .fieldAddr _ _ _ | .extract _ _ | .field _ _ _ | .binOp _ _ _ _ _ | .unOp _ _ _ => true
  | _ => false
def freshHF (h : HF) : Bool := match h.I, h.O with
  | ⟨[], [], []⟩, ⟨[.whole 0], [], [some _]⟩ => true
  | _, _ => false
def freshCall (a b : List AV) (args : List Operand) (hs : List HF) : Bool := match a, b, args, hs with
  | [], [], [], [h] => freshHF h
  | _, _, _, _ => false
def kindOf (st : St) (o : Oper) : Nat :=
  match o.op with
  | .alloc _ | .box _ _ => 1
  | .makeSlice _ _ _ => 2
  | .makeMap _ _ | .mapUpdate _ _ _ _ | .insert _ _ _ _ => 3
  | .store _ a x => (match st.ev a with | .ptr _ _ => 5 | .sx y => (match y with | .tp _ _ => 5 | _ => 3) | .eptr _ _ _ => (match (st.ev x).wholes with | [] => 6 | _ => 3) | _ => 3)
  | .buildSlice _ _ parts => (match parts.toList with | [] => 2 | l => (match ownLit ε o.dst with | true => 3 | false => (match l.flatMap fun p => (st.ev p.2).wholes with | [] => 0 | _ => 3)))
  | .call c => (match c.callee with
    | .builtin .append => (match c.args.toList with | s :: _ => (match st.ev s with | .nilS => 2 | .full _ _ => 0 | .whole _ => 4 | _ => 3) | _ => 3)
    | .builtin .delete => 3
    | .value g => (match st.ev g with
      | .fn (.func f) a b => (match ε.fn f with
        | some (_, sc) => (match sc with | true => 0 | false => (match c.args.toList.flatMap fun p => (st.ev p).wholes with | [] => 0 | _ => 7))
        | none => (match freshCall a b c.args.toList (ε.hf f) with | true => 2 | false => 3))
      | _ => 3)
    | _ => 0)
  | _ => 0
def touchOf (st : St) (o : Oper) : List Loc := o.op.operands.toList.flatMap fun x => (st.ev x).locs
def ancAt (done : List It) (i : Nat) : Option Nat := match done with
  | [] => none
  | y :: r => match Nat.beq y.idx i with | true => some y.anc | false => ancAt r i
def ancOf (done : List It) (i : Nat) : List Edge → Option Nat
  | [] => some 0
  | e :: r => match Region.binds .any e with
    | false => ancOf done i r
    | true => match ancAt done e.on with
      | some m => (match ancOf done i r with | some k => some (Nat.lor (Nat.lor (Nat.shiftLeft 1 e.on) m) k) | none => none)
      | none => none
def wrOk (y x : It) : Bool := (Nat.beq y.kind 5 && Nat.blt x.kind 3 && !hasR y.n x.touch && !(Nat.beq x.kind 1 && Nat.beq x.n y.n)) || (Nat.beq y.kind 6 && Nat.blt x.kind 3 && !hasL y.n x.touch && !(Nat.beq x.kind 2 && Nat.beq x.n y.n))
def wr2Ok (y x : It) : Bool := (Nat.beq y.kind 5 && Nat.beq x.kind 6) || (Nat.beq y.kind 6 && Nat.beq x.kind 5) || (Nat.beq y.kind 5 && Nat.beq x.kind 5 && !Nat.beq y.n x.n) || (Nat.beq y.kind 6 && Nat.beq x.kind 6 && !Nat.beq y.n x.n)
def hmOk (y x : It) : Bool := Nat.beq y.kind 4 && x.hm && !hasL y.n x.touch
def frOk (y x : It) : Bool := Nat.beq y.kind 7 && Nat.beq x.kind 1 && x.al
def apOk (y x : It) : Bool := Nat.beq y.kind 4 && Nat.beq x.kind 1 && x.al && !hasR x.n y.touch
def pairOk (ops : Array Oper) (y x : It) : Bool :=
  (match ops[y.idx]?, ops[x.idx]? with | some p, some q => p.apart ops q | _, _ => false) &&
  ((Nat.blt y.kind 3 && Nat.blt x.kind 3 && !(Nat.beq y.kind 1 && Nat.beq x.kind 1) && !(Nat.beq y.kind 2 && Nat.beq x.kind 2) &&
  !(Nat.beq y.kind 1 && hasR y.n x.touch) && !(Nat.beq y.kind 2 && hasL y.n x.touch) && !(Nat.beq x.kind 1 && hasR x.n y.touch) && !(Nat.beq x.kind 2 && hasL x.n y.touch)) ||
  (Nat.beq y.kind 4 && x.cl) || (y.cl && Nat.beq x.kind 4) || (Nat.beq y.kind 5 && x.mf) || (y.mf && Nat.beq x.kind 5) || wrOk y x || wrOk x y || wr2Ok y x || hmOk y x || hmOk x y || frOk y x || frOk x y || apOk y x || apOk x y)
def pairsOk (ops : Array Oper) (x : It) : List It → Bool
  | [] => true
  | y :: r => (Nat.testBit x.anc y.idx || pairOk ops y x) && pairsOk ops x r
def closedOps (st : St) : List Operand → Bool
  | [] => true
  | x :: r => (st.ev x).closed && closedOps st r
def flatL : List AV → Bool
  | [] => true
  | v :: l => (match v with | .d _ _ | .nilS | .nilP => true | _ => false) && flatL l
def allocOf (o : Oper) : Bool := match o.guard with
  | none => (match o.op with | .alloc t => (match ε.ti t with | some i => flatL i.zero | none => false) | _ => false)
  | some _ => false
def itOf (st : St) (o : Oper) (i anc : Nat) (v : AV) : It :=
  let k := kindOf ε st o
  ⟨i, k, (match k with | 1 => st.recs.length | 2 => st.lsts.length | _ => tgtOf st o), anc, touchOf st o, Nat.beq k 0 && closedOps st o.op.operands.toList && v.closed, Nat.beq k 0 && (memfree o.op || closedOps st o.op.operands.toList), Nat.beq k 0 && homOp o.op && hmOps st o.op.operands.toList, allocOf ε o⟩
def itSkip (i anc : Nat) : It := ⟨i, 0, 0, anc, [], true, true, true, false⟩

def tabOf (done : List It) : List (Nat × Nat) := done.map fun y => (y.idx, y.anc)
def ancAtT (i : Nat) : List (Nat × Nat) → Option Nat
  | [] => none
  | (j, m) :: r => match Nat.beq j i with | true => some m | false => ancAtT i r
def ancOfT (tab : List (Nat × Nat)) : List Edge → Option Nat
  | [] => some 0
  | e :: r => match Region.binds .any e with
    | false => ancOfT tab r
    | true => match ancAtT e.on tab with
      | some m => (match ancOfT tab r with | some k => some (Nat.lor (Nat.lor (Nat.shiftLeft 1 e.on) m) k) | none => none)
      | none => none
def pairOkT (ops : Array Oper) (j i : Nat) (y x : It) : Bool :=
  (match ops[j]?, ops[i]? with | some p, some q => p.apart ops q | _, _ => false) &&
  ((Nat.blt y.kind 3 && Nat.blt x.kind 3 && !(Nat.beq y.kind 1 && Nat.beq x.kind 1) && !(Nat.beq y.kind 2 && Nat.beq x.kind 2) &&
  !(Nat.beq y.kind 1 && hasR y.n x.touch) && !(Nat.beq y.kind 2 && hasL y.n x.touch) && !(Nat.beq x.kind 1 && hasR x.n y.touch) && !(Nat.beq x.kind 2 && hasL x.n y.touch)) ||
  (Nat.beq y.kind 4 && x.cl) || (y.cl && Nat.beq x.kind 4) || (Nat.beq y.kind 5 && x.mf) || (y.mf && Nat.beq x.kind 5) || wrOk y x || wrOk x y || wr2Ok y x || hmOk y x || hmOk x y || frOk y x || frOk x y || apOk y x || apOk x y)
def pairsOkT (ops : Array Oper) (i anc : Nat) (x : It) : List (Nat × Nat) → List It → Bool
  | (j, _) :: t, y :: r => (Nat.testBit anc j || pairOkT ops j i y x) && pairsOkT ops i anc x t r
  | [], [] => true
  | _, _ => false
theorem ancAtT_eq (i : Nat) : ∀ done : List It, ancAtT i (tabOf done) = ancAt done i
  | [] => rfl
  | y :: r => by simp only [tabOf, List.map_cons, ancAtT, ancAt]; rw [← ancAtT_eq i r]; rfl
theorem ancOfT_eq (i : Nat) (done : List It) : ∀ es, ancOfT (tabOf done) es = ancOf done i es
  | [] => rfl
  | e :: r => by simp only [ancOfT, ancOf]; rw [ancOfT_eq i done r, ancAtT_eq]
theorem pairsOkT_eq (ops : Array Oper) (x : It) : ∀ done : List It, pairsOkT ops x.idx x.anc x (tabOf done) done = pairsOk ops x done
  | [] => rfl
  | y :: r => by simp only [tabOf, List.map_cons, pairsOkT, pairsOk]; rw [← pairsOkT_eq ops x r]; rfl

noncomputable def normK {R : Type} (k : Nat) (K : Nat → R) : R := match Nat.beq k 0 with
  | true => K 0
  | false => match Nat.beq k 1 with
    | true => K 1
    | false => match Nat.beq k 2 with
      | true => K 2
      | false => match Nat.beq k 3 with
        | true => K 3
        | false => match Nat.beq k 4 with
          | true => K 4
          | false => match Nat.beq k 5 with
            | true => K 5
            | false => match Nat.beq k 6 with
              | true => K 6
              | false => match Nat.beq k 7 with
                | true => K 7
                | false => K k
theorem normK_eq {R : Type} (k : Nat) (K : Nat → R) : normK k K = K k := by
  unfold normK
  (repeat' split) <;> first | rfl | (rename_i h; rw [Nat.eq_of_beq_eq_true h])
def normB {R : Type} (b : Bool) (K : Bool → R) : R := match b with | true => K true | false => K false
theorem normB_eq {R : Type} (b : Bool) (K : Bool → R) : normB b K = K b := by cases b <;> rfl
noncomputable def normIt {R : Type} (x : It) (K : It → R) : R := match x with
  | ⟨i, k, n, a, t, c, m, h, l⟩ => normK k fun k => normL t fun t => normB c fun c => normB m fun m => normB h fun h => normB l fun l => K ⟨i, k, n, a, t, c, m, h, l⟩
theorem normIt_eq {R : Type} (x : It) (K : It → R) : normIt x K = K x := by cases x; simp only [normIt, normK_eq, normL_eq, normB_eq]

noncomputable def evD (ops : Array Oper) : List Nat → List (Nat × Nat) → List It → St → (St → Option S) → Option S
  | [], _, _, st, K => K st
  | i :: rest, tab, done, st, K => match ops[i]? with
    | none => none
    | some o => match ancOfT tab o.after.toList with
      | none => none
      | some anc => match o.guard with
        | none => evOp ε st o fun v st' => normIt (itOf ε st o i anc v) fun it => (match pairsOkT ops i anc it tab done with | true => putN st' o.dst v fun s => evD ops rest ((i, anc) :: tab) (it :: done) s K | false => none)
        | some (j, want) => match (ops[j]?).bind (·.dst) with
          | none => none
          | some d => match st.slots[d]? with
            | some (.tup []) => (match pairsOkT ops i anc (itSkip i anc) tab done with | true => putN st o.dst (.tup []) fun s => evD ops rest ((i, anc) :: tab) (itSkip i anc :: done) s K | false => none)
            | some (.d .bool b) =>
              cond b
                (match want with
                 | true => evOp ε { st with slots := st.slots.set d (.d .bool true) } o fun v st' => normIt (itOf ε { st with slots := st.slots.set d (.d .bool true) } o i anc v) fun it => (match pairsOkT ops i anc it tab done with | true => putN st' o.dst v fun s => evD ops rest ((i, anc) :: tab) (it :: done) s K | false => none)
                 | false => (match pairsOkT ops i anc (itSkip i anc) tab done with | true => putN { st with slots := st.slots.set d (.d .bool true) } o.dst (.tup []) fun s => evD ops rest ((i, anc) :: tab) (itSkip i anc :: done) s K | false => none))
                (match want with
                 | true => (match pairsOkT ops i anc (itSkip i anc) tab done with | true => putN { st with slots := st.slots.set d (.d .bool false) } o.dst (.tup []) fun s => evD ops rest ((i, anc) :: tab) (itSkip i anc :: done) s K | false => none)
                 | false => evOp ε { st with slots := st.slots.set d (.d .bool false) } o fun v st' => normIt (itOf ε { st with slots := st.slots.set d (.d .bool false) } o i anc v) fun it => (match pairsOkT ops i anc it tab done with | true => putN st' o.dst v fun s => evD ops rest ((i, anc) :: tab) (it :: done) s K | false => none))
            | _ => none

inductive Ex | normal | exit (id : Nat) | ret | panic
  deriving DecidableEq

noncomputable def evC : Code → St → (Ex → St → Option S) → Option S
  | .skip, st, K | .label _, st, K => K .normal st
  | .region _ ops draw, st, K => (match draw with | true => evD ε ops (List.range ops.size) [] [] st fun st' => K .normal st' | false => evOps ε ops (List.range ops.size) st (fun st' => K .normal st') fun v st' => K .panic { st' with slots := [v] })
  | .seq a b, st, K => evC a st fun ex st' => match ex with | .normal => evC b st' K | e => K e st'
  | .cond c x y, st, K => (match st.ev c with | .d .bool b => cond b (evC x st K) (evC y st K) | _ => none)
  | .block id c, st, K => evC c st fun ex st' => match ex with | .exit j => if j = id then K .normal st' else K (.exit j) st' | e => K e st'
  | .exit id, st, K => K (.exit id) st
  | .ret, st, K => K .ret st
  | _, _, _ => none

def evRes (st : St) : List ResultVar → Option (List AV)
  | [] => some []
  | .tmp t :: r => (((st.slots.getD t .dead).close st.lsts)).bind fun v => (evRes st r).bind fun l => some (v :: l)
  | .cell a t :: r => match st.slots.getD a .dead with
    | .ptr q 0 => (match getL st.recs q, ε.ti t with
      | some cells, some i => if cells.length = i.size then (((if i.agg then some (.agg cells) else cells.head?) : Option AV).bind fun v => (v.close st.lsts).bind fun v => (evRes st r).bind fun l => some (v :: l)) else none
      | _, _ => none)
    | _ => none
end
end Go.Pe
end
section
namespace Go.Pe
open Go.RowKit

def CellsAt (w : World) (ad : Addr) (us : List Value) : Prop := ∀ j, j < us.length → w.cell? ⟨ad.block, ad.off + j, none⟩ = us[j]?

def RepAll {α : Type} (R : α → List Value → Prop) : List α → List Value → Prop
  | [], us => us = []
  | x :: xs, us => ∃ u1 u2, us = u1 ++ u2 ∧ R x u1 ∧ RepAll R xs u2

def SliceRep {α : Type} (A : Nat → Prop) (w : World) (R : α → List Value → Prop) (xs : List α) (v : Value) : Prop :=
  ∃ a cap, v = .slice a xs.length cap ∧ xs.length ≤ cap ∧ (xs = [] ∨ ∃ ad us, a = some ad ∧ ad.spot = none ∧ A ad.block ∧ CellsAt w ad us ∧ RepAll R xs us)

inductive RepV (A : Nat → Prop) (w : World) : V → List Value → Prop
  | mk (kind n : Int) (s : List UInt8) (items : List V) (keys : List (List UInt8)) (a : Option Addr) (cap : Nat) (kv : Value) (us : Nat → List Value)
      (hcap : items.length ≤ cap)
      (hmem : items = [] ∨ ∃ ad, a = some ad ∧ ad.spot = none ∧ A ad.block ∧ ∀ i, i < items.length → (us i).length = 5 ∧ ∀ j, j < 5 → w.cell? ⟨ad.block, ad.off + (i * 5 + j), none⟩ = (us i)[j]?)
      (hit : ∀ i (h : i < items.length), RepV A w items[i] (us i))
      (hkeys : SliceRep A w (fun k vs => vs = [Value.string ⟨k.toArray⟩]) keys kv) :
      RepV A w (.mk kind n s items keys) [.int .i64 kind, .int .i64 n, .string ⟨s.toArray⟩, .slice a items.length cap, kv]

def Rep (A : Nat → Prop) (w : World) : (t : Ty) → t.den → List Value → Prop
  | .bool, b, vs => vs = [.bool b]
  | .int k, n, vs => vs = [.int k n]
  | .str, s, vs => vs = [.string ⟨s.toArray⟩]
  | .list e, xs, vs => ∃ v, vs = [v] ∧ SliceRep A w (Rep A w e) xs v
  | .unit, _, vs => vs = []
  | .prod a b, x, vs => ∃ u1 u2, vs = u1 ++ u2 ∧ Rep A w a x.1 u1 ∧ Rep A w b x.2 u2
  | .value, x, vs => RepV A w x vs

theorem RepV.length {A w x vs} (h : RepV A w x vs) : vs.length = 5 := by cases h; rfl
theorem Rep.length {A w} : ∀ {t : Ty} {x : t.den} {vs}, Rep A w t x vs → vs.length = t.size
  | .bool, _, _, h | .int _, _, _, h | .str, _, _, h | .unit, _, _, h => by simp only [Rep] at h; subst h; rfl
  | .list _, _, _, h => by obtain ⟨v, rfl, _⟩ := h; rfl
  | .prod a b, _, _, h => by obtain ⟨u1, u2, rfl, h1, h2⟩ := h; simp [Ty.size, Rep.length h1, Rep.length h2]
  | .value, _, _, h => RepV.length h

theorem RepAll.imp {α : Type} {R R' : α → List Value → Prop} (h : ∀ x u, R x u → R' x u) : ∀ {xs us}, RepAll R xs us → RepAll R' xs us
  | [], _, hr => hr
  | _ :: _, _, ⟨u1, u2, e, h1, h2⟩ => ⟨u1, u2, e, h _ _ h1, RepAll.imp h h2⟩
theorem cell?_of_heap {w w' : World} {a : Addr} (h : w'.heap[a.block]? = w.heap[a.block]?) : w'.cell? a = w.cell? a := World.cell?_of_block (w := w) h
theorem CellsAt.mono {w w' : World} {ad : Addr} {us} (h : w'.heap[ad.block]? = w.heap[ad.block]?) (hc : CellsAt w ad us) : CellsAt w' ad us := fun j hj => by
  rw [← hc j hj]; exact cell?_of_heap (a := ⟨ad.block, ad.off + j, none⟩) h
theorem SliceRep.imp {α : Type} {A A' : Nat → Prop} {w w' : World} {R R' : α → List Value → Prop} {xs v} (hA : ∀ b, A b → A' b) (hw : ∀ b, A b → w'.heap[b]? = w.heap[b]?)
    (h : ∀ x u, R x u → R' x u) (hs : SliceRep A w R xs v) : SliceRep A' w' R' xs v := by
  obtain ⟨a, cap, e, hc, hm⟩ := hs
  refine ⟨a, cap, e, hc, ?_⟩
  rcases hm with hm | ⟨ad, us, ha, hsp, hAb, hcells, hr⟩
  · exact .inl hm
  · exact .inr ⟨ad, us, ha, hsp, hA _ hAb, hcells.mono (hw _ hAb), hr.imp h⟩
theorem RepV.mono {A A' : Nat → Prop} {w w' : World} (hA : ∀ b, A b → A' b) (hw : ∀ b, A b → w'.heap[b]? = w.heap[b]?) {x vs} (h : RepV A w x vs) : RepV A' w' x vs := by
  induction h with
  | mk kind n s items keys a cap kv us hcap hmem hit hkeys ih =>
    refine .mk kind n s items keys a cap kv us hcap ?_ ih (hkeys.imp hA hw fun _ _ h => h)
    rcases hmem with hm | ⟨ad, ha, hsp, hAb, hc⟩
    · exact .inl hm
    · exact .inr ⟨ad, ha, hsp, hA _ hAb, fun i hi => ⟨(hc i hi).1, fun j hj => by rw [← (hc i hi).2 j hj]; exact cell?_of_heap (a := ⟨ad.block, _, none⟩) (hw _ hAb)⟩⟩
theorem Rep.mono {A A' : Nat → Prop} {w w' : World} (hA : ∀ b, A b → A' b) (hw : ∀ b, A b → w'.heap[b]? = w.heap[b]?) : ∀ {t : Ty} {x : t.den} {vs}, Rep A w t x vs → Rep A' w' t x vs
  | .bool, _, _, h | .int _, _, _, h | .str, _, _, h | .unit, _, _, h => h
  | .list _, _, _, ⟨v, e, h⟩ => ⟨v, e, h.imp hA hw fun _ _ h => Rep.mono hA hw h⟩
  | .prod _ _, _, _, ⟨u1, u2, e, h1, h2⟩ => ⟨u1, u2, e, Rep.mono hA hw h1, Rep.mono hA hw h2⟩
  | .value, _, _, h => RepV.mono hA hw h

section all
variable {α : Type} {R : α → List Value → Prop} {sz : Nat}
theorem RepAll.length (hs : ∀ x u, R x u → u.length = sz) : ∀ {xs us}, RepAll R xs us → us.length = xs.length * sz
  | [], _, h => by simp only [RepAll] at h; subst h; simp
  | x :: xs, _, ⟨u1, u2, e, h1, h2⟩ => by subst e; simp only [List.length_append, hs _ _ h1, RepAll.length hs h2, List.length_cons, Nat.succ_mul]; omega
theorem RepAll.get (hs : ∀ x u, R x u → u.length = sz) : ∀ {xs us} (i : Nat) (y : α), RepAll R xs us → xs[i]? = some y → ∃ p u q, us = p ++ (u ++ q) ∧ p.length = i * sz ∧ R y u
  | [], _, _, _, _, h => by simp at h
  | x :: xs, _, 0, y, ⟨u1, u2, e, h1, _⟩, h => by simp at h; subst h; exact ⟨[], u1, u2, by simpa using e, by simp, h1⟩
  | x :: xs, _, i + 1, y, ⟨u1, u2, e, h1, h2⟩, h => by
    obtain ⟨p, u, q, e2, hp, hu⟩ := RepAll.get hs i y h2 (by simpa using h)
    exact ⟨u1 ++ p, u, q, by rw [e, e2, List.append_assoc], by simp [hp, hs _ _ h1, Nat.succ_mul]; omega, hu⟩
theorem RepAll.set (hs : ∀ x u, R x u → u.length = sz) : ∀ {xs us} (i : Nat) (y' : α) (p u u' q : List Value), RepAll R xs us → i < xs.length → us = p ++ (u ++ q) → p.length = i * sz → u.length = sz → R y' u' → RepAll R (xs.set i y') (p ++ (u' ++ q))
  | [], _, _, _, _, _, _, _, _, h, _, _, _, _ => by simp at h
  | x :: xs, _, 0, y', p, u, u', q, ⟨u1, u2, e, h1, h2⟩, _, e2, hp, hu, hy => by
    have : p = [] := by cases p <;> simp_all
    subst this
    rw [e, List.nil_append] at e2
    have hl : u1.length = u.length := by rw [hs _ _ h1, hu]
    obtain ⟨rfl, rfl⟩ := List.append_inj e2 hl
    exact ⟨u', _, by simp, hy, h2⟩
  | x :: xs, _, i + 1, y', p, u, u', q, ⟨u1, u2, e, h1, h2⟩, hi, e2, hp, hu, hy => by
    have h1l := hs _ _ h1
    have hsplit : p = u1 ++ p.drop sz := by
      rw [e] at e2
      have h3 := congrArg (List.take sz) e2
      rw [List.take_append_of_le_length (by omega), List.take_of_length_le (by omega), List.take_append_of_le_length (by rw [hp, Nat.succ_mul]; omega)] at h3
      rw [h3]; simp
    have e3 : u2 = p.drop sz ++ (u ++ q) := by
      rw [e, hsplit, List.append_assoc] at e2
      have := (List.append_inj e2 rfl).2
      simpa [h1l] using this
    refine ⟨u1, p.drop sz ++ (u' ++ q), by rw [← List.append_assoc u1, ← hsplit], h1, ?_⟩
    exact RepAll.set hs i y' (p.drop sz) u u' q h2 (by simpa using hi) e3 (by rw [List.length_drop, hp, Nat.succ_mul]; omega) hu hy
theorem RepAll.append : ∀ {xs ys us vs}, RepAll R xs us → RepAll R ys vs → RepAll R (xs ++ ys) (us ++ vs)
  | [], _, _, _, h, h' => by simp only [RepAll] at h; subst h; simpa using h'
  | x :: xs, _, _, _, ⟨u1, u2, e, h1, h2⟩, h' => ⟨u1, u2 ++ _, by rw [e, List.append_assoc], h1, RepAll.append h2 h'⟩
theorem RepAll.take (hs : ∀ x u, R x u → u.length = sz) : ∀ (n : Nat) {xs us}, RepAll R xs us → RepAll R (xs.take n) (us.take (n * sz))
  | 0, xs, _, _ => by simp [RepAll]
  | n + 1, [], _, h => by simp only [RepAll] at h; subst h; simp [RepAll]
  | n + 1, x :: xs, _, ⟨u1, u2, e, h1, h2⟩ => by
    refine ⟨u1, u2.take (n * sz), ?_, h1, RepAll.take hs n h2⟩
    rw [e, List.take_append, hs _ _ h1, List.take_of_length_le (l := u1) (by rw [hs _ _ h1, Nat.succ_mul]; omega)]
    congr 2; rw [Nat.succ_mul]; omega
theorem RepAll.drop (hs : ∀ x u, R x u → u.length = sz) : ∀ (n : Nat) {xs us}, RepAll R xs us → RepAll R (xs.drop n) (us.drop (n * sz))
  | 0, xs, _, h => by simpa using h
  | n + 1, [], _, h => by simp only [RepAll] at h; subst h; simp [RepAll]
  | n + 1, x :: xs, _, ⟨u1, u2, e, h1, h2⟩ => by
    have := RepAll.drop hs n h2
    rw [List.drop_succ_cons, e, List.drop_append, List.drop_of_length_le (l := u1) (by rw [hs _ _ h1, Nat.succ_mul]; omega), hs _ _ h1, List.nil_append]
    have e2 : (n + 1) * sz - sz = n * sz := by rw [Nat.succ_mul]; omega
    rw [e2]; exact this
end all
theorem CellsAt.take {w : World} {ad : Addr} {us} (n : Nat) (h : CellsAt w ad us) : CellsAt w ad (us.take n) := fun j hj => by
  rw [List.length_take] at hj
  rw [h j (by omega), List.getElem?_take_of_lt (by omega)]
theorem CellsAt.drop {w : World} {ad : Addr} {us} (n : Nat) (h : CellsAt w ad us) : CellsAt w ⟨ad.block, ad.off + n, none⟩ (us.drop n) := fun j hj => by
  rw [List.length_drop] at hj
  have := h (n + j) (by omega)
  simp only [List.getElem?_drop, ← this, Nat.add_assoc]
theorem CellsAt.mid {w : World} {ad : Addr} {p u q} (h : CellsAt w ad (p ++ (u ++ q))) : CellsAt w ⟨ad.block, ad.off + p.length, none⟩ u := fun j hj => by
  have := h (p.length + j) (by simp; omega)
  rw [List.getElem?_append_right (by omega), List.getElem?_append_left (by omega)] at this
  simpa [Nat.add_assoc] using this

structure DP where
  top : Option Nat
  cap : Nat
  fs : List V
structure Mu where
  at_ : Loc → Option Nat
  cap : Nat → Nat
  dp : Option DP
structure Cx where
  A : Nat → Prop
  w : World
  μ : Mu
  recs : List (Option (List AV))
  lsts : List (Option LObj)
  keep : Value

def hdrV (μ : Mu) (n cap : Nat) : Value := match μ.at_ (.n 0) with
  | none => .slice none 0 0
  | some b => .slice (some ⟨b, 0, none⟩) n cap
theorem hdrV_one (μ : Mu) (n cap : Nat) : (hdrV μ n cap).oneCell' = true := by unfold hdrV; split <;> rfl
def RepSX (μ : Mu) (keep : Value) : SX → Value → Prop
  | .stk fs, v => ∃ cap, μ.dp = some ⟨none, cap, fs⟩ ∧ v = hdrV μ fs.length cap ∧ (μ.at_ (.n 0) = none → fs = [])
  | .foc r fs, v => ∃ cap b, μ.dp = some ⟨some r, cap, fs⟩ ∧ μ.at_ (.n 0) = some b ∧ v = .slice (some ⟨b, 0, none⟩) (fs.length + 1) cap ∧ fs.length + 1 ≤ cap
  | .cut r fs, v => ∃ cap b, μ.dp = some ⟨some r, cap, fs⟩ ∧ μ.at_ (.n 0) = some b ∧ v = .slice (some ⟨b, 0, none⟩) fs.length cap
  | .tp r off, v => ∃ cap fs b, μ.dp = some ⟨some r, cap, fs⟩ ∧ μ.at_ (.n 0) = some b ∧ v = .pointer (some ⟨b, fs.length * 5 + off, none⟩)
  | .mark, _ => False
  | .same, v => v = keep ∧ v.oneCell' = true
theorem RepSX.one {μ : Mu} {keep : Value} {x : SX} {v : Value} (h : RepSX μ keep x v) : v.oneCell' = true := by
  cases x <;> simp only [RepSX] at h
  · obtain ⟨_, _, rfl, _⟩ := h; exact hdrV_one ..
  · obtain ⟨_, _, _, _, rfl, _⟩ := h; rfl
  · obtain ⟨_, _, _, _, rfl⟩ := h; rfl
  · obtain ⟨_, _, _, _, _, rfl⟩ := h; rfl
  · exact h.2

def LObj.len (o : LObj) : Nat := match o.e.isMap with | true => 0 | false => o.xs.length
def Mu.capOf (μ : Mu) (o : LObj) (t : Nat) : Nat := match o.e.isMap with | true => 0 | false => μ.cap t
def hdlV (m : Bool) (b n cap : Nat) : Value := match m with | true => .map (some b) | false => .slice (some ⟨b, 0, none⟩) n cap
def WholeAt (μ : Mu) (t : Nat) (o : LObj) (v : Value) : Prop :=
  (μ.at_ (.l t) = none ∧ o.e.isMap = false ∧ v = .slice none 0 0) ∨ ∃ b, μ.at_ (.l t) = some b ∧ v = hdlV o.e.isMap b o.len (μ.capOf o t)
theorem WholeAt.tr {μ μ' : Mu} {t t' : Nat} {o o' : LObj} {v : Value} (he : o'.e = o.e) (hl : o'.len = o.len) (hμ : μ'.at_ (.l t') = μ.at_ (.l t)) (hc : μ'.capOf o' t' = μ.capOf o t) (h : WholeAt μ t o v) : WholeAt μ' t' o' v := by
  unfold WholeAt at h ⊢
  rw [hμ, hc, hl, he]; exact h
def WholeAt0 (μ : Mu) (t : Nat) (o : LObj) (v : Value) : Prop :=
  (μ.at_ (.l t) = none ∧ v = .slice none 0 0) ∨ ∃ b, μ.at_ (.l t) = some b ∧ v = .slice (some ⟨b, 0, none⟩) o.xs.length (μ.cap t)
theorem WholeAt.plain {μ : Mu} {t : Nat} {o : LObj} {v : Value} (hp : o.e.isMap = false) : WholeAt μ t o v ↔ WholeAt0 μ t o v := by
  simp only [WholeAt, WholeAt0, LObj.len, Mu.capOf, hdlV, hp, true_and]
theorem WholeAt.map {μ : Mu} {t : Nat} {o : LObj} {v : Value} (hp : o.e.isMap = true) : WholeAt μ t o v ↔ ∃ b, μ.at_ (.l t) = some b ∧ v = .map (some b) := by
  simp [WholeAt, hdlV, hp]

mutual
def RepAV (c : Cx) : AV → Value → Prop
  | .d t x, v => Rep c.A c.w t x [v]
  | .full e x, v => (∃ a, v = .slice a x.length x.length) ∧ Rep c.A c.w (.list e) x [v]
  | .nilS, v => v = .slice none 0 0
  | .whole t, v => t < c.lsts.length ∧ v.oneCell' = true ∧ ∀ o, getL c.lsts t = some o → WholeAt c.μ t o v
  | .ptr r off, v => r < c.recs.length ∧ v.oneCell' = true ∧ ((getL c.recs r).isSome = true → ∃ b, c.μ.at_ (.r r) = some b ∧ v = .pointer (some ⟨b, off, none⟩))
  | .bld r, v => r < c.recs.length ∧ v.oneCell' = true ∧ ((getL c.recs r).isSome = true → ∃ b, c.μ.at_ (.r r) = some b ∧ (v = .pointer none ∨ v = .pointer (some ⟨b, 0, none⟩)))
  | .eptr t i off, v => t < c.lsts.length ∧ v.oneCell' = true ∧ ∀ o, getL c.lsts t = some o → ∃ b, c.μ.at_ (.l t) = some b ∧ v = .pointer (some ⟨b, i * o.e.size + off, none⟩)
  | .pim cells, v => ∃ ad us, v = .pointer (some ad) ∧ ad.spot = none ∧ c.A ad.block ∧ CellsAt c.w ad us ∧ RepAVs c cells us
  | .agg l, v => ∃ us : Array Value, v = .agg us ∧ RepAVs c l us.toList
  | .ifc q l, v => ∃ u : Value, v = .iface q u ∧ RepAVs c l [u]
  | .tup l, v => ∃ us : Array Value, v = .tuple us ∧ RepAVs c l us.toList
  | .fn f a b, v => ∃ a' b' : Array Value, v = .func f a' b' ∧ RepAVs c a a'.toList ∧ RepAVs c b b'.toList
  | .nilP, v => v = .pointer none
  | .sx x, v => RepSX c.μ c.keep x v
  | .dead, _ => True
def RepAVs (c : Cx) : List AV → List Value → Prop
  | [], vs => vs = []
  | x :: xs, vs => ∃ v us, vs = v :: us ∧ RepAV c x v ∧ RepAVs c xs us
end
structure Cx.Le (c c' : Cx) : Prop where
  A : ∀ b, c.A b → c'.A b
  w : ∀ b, c.A b → c'.w.heap[b]? = c.w.heap[b]?
  nr : c.recs.length ≤ c'.recs.length
  nl : c.lsts.length ≤ c'.lsts.length
  r : ∀ r, r < c.recs.length → (getL c'.recs r).isSome = true → (getL c.recs r).isSome = true ∧ c'.μ.at_ (.r r) = c.μ.at_ (.r r)
  l : ∀ t o', t < c.lsts.length → getL c'.lsts t = some o' → ∃ o, getL c.lsts t = some o ∧ o'.e = o.e ∧ o'.len = o.len ∧ c'.μ.at_ (.l t) = c.μ.at_ (.l t) ∧ c'.μ.capOf o' t = c.μ.capOf o t
  s : ∀ x v, RepSX c.μ c.keep x v → RepSX c'.μ c'.keep x v

mutual
theorem RepAV.mono {c c' : Cx} (h : c.Le c') : ∀ {av v}, RepAV c av v → RepAV c' av v
  | .d t x, v, hr => by simp only [RepAV] at hr ⊢; exact hr.mono h.A h.w
  | .full e x, v, hr => by simp only [RepAV] at hr ⊢; exact ⟨hr.1, hr.2.mono h.A h.w⟩
  | .nilS, v, hr => by simpa only [RepAV] using hr
  | .whole t, v, hr => by
    simp only [RepAV] at hr ⊢
    refine ⟨Nat.lt_of_lt_of_le hr.1 h.nl, hr.2.1, fun o' ho' => ?_⟩
    obtain ⟨o, ho, he, hl, hμ, hcap⟩ := h.l t o' hr.1 ho'
    exact (hr.2.2 o ho).tr he hl hμ hcap
  | .ptr r off, v, hr => by
    simp only [RepAV] at hr ⊢
    refine ⟨Nat.lt_of_lt_of_le hr.1 h.nr, hr.2.1, fun hs => ?_⟩
    obtain ⟨h1, h2⟩ := h.r r hr.1 hs
    rw [h2]; exact hr.2.2 h1
  | .bld r, v, hr => by
    simp only [RepAV] at hr ⊢
    refine ⟨Nat.lt_of_lt_of_le hr.1 h.nr, hr.2.1, fun hs => ?_⟩
    obtain ⟨h1, h2⟩ := h.r r hr.1 hs
    rw [h2]; exact hr.2.2 h1
  | .eptr t i off, v, hr => by
    simp only [RepAV] at hr ⊢
    refine ⟨Nat.lt_of_lt_of_le hr.1 h.nl, hr.2.1, fun o' ho' => ?_⟩
    obtain ⟨o, ho, he, hl, hμ, hcap⟩ := h.l t o' hr.1 ho'
    rw [hμ, he]; exact hr.2.2 o ho
  | .pim cells, v, hr => by
    simp only [RepAV] at hr ⊢
    obtain ⟨ad, us, e, hsp, hA, hc, hu⟩ := hr
    exact ⟨ad, us, e, hsp, h.A _ hA, hc.mono (h.w _ hA), hu.mono h⟩
  | .agg l, v, hr => by simp only [RepAV] at hr ⊢; obtain ⟨us, e, hu⟩ := hr; exact ⟨us, e, hu.mono h⟩
  | .ifc q l, v, hr => by simp only [RepAV] at hr ⊢; obtain ⟨us, e, hu⟩ := hr; exact ⟨us, e, hu.mono h⟩
  | .tup l, v, hr => by simp only [RepAV] at hr ⊢; obtain ⟨us, e, hu⟩ := hr; exact ⟨us, e, hu.mono h⟩
  | .fn f a b, v, hr => by simp only [RepAV] at hr ⊢; obtain ⟨a', b', e, h1, h2⟩ := hr; exact ⟨a', b', e, h1.mono h, h2.mono h⟩
  | .nilP, v, hr => by simpa only [RepAV] using hr
  | .sx x, v, hr => by simp only [RepAV] at hr ⊢; exact h.s x v hr
  | .dead, v, _ => by simp only [RepAV]
theorem RepAVs.mono {c c' : Cx} (h : c.Le c') : ∀ {l vs}, RepAVs c l vs → RepAVs c' l vs
  | [], _, hr => by simpa only [RepAVs] using hr
  | x :: xs, _, hr => by
    simp only [RepAVs] at hr ⊢
    obtain ⟨v, us, e, h1, h2⟩ := hr
    exact ⟨v, us, e, h1.mono h, h2.mono h⟩
end
structure Cx.Ren (c c' : Cx) (fr fl : Nat → Option Nat) (fx : SX → AV) : Prop where
  A : ∀ b, c.A b → c'.A b
  w : ∀ b, c.A b → c'.w.heap[b]? = c.w.heap[b]?
  r : ∀ r r', r < c.recs.length → fr r = some r' → r' < c'.recs.length ∧ ((getL c'.recs r').isSome = true → (getL c.recs r).isSome = true ∧ c'.μ.at_ (.r r') = c.μ.at_ (.r r))
  l : ∀ t t', t < c.lsts.length → fl t = some t' → t' < c'.lsts.length ∧ ∀ o', getL c'.lsts t' = some o' → ∃ o, getL c.lsts t = some o ∧ o'.e = o.e ∧ o'.len = o.len ∧ c'.μ.at_ (.l t') = c.μ.at_ (.l t) ∧ c'.μ.capOf o' t' = c.μ.capOf o t
  s : ∀ x v, RepSX c.μ c.keep x v → RepAV c' (fx x) v
mutual
theorem RepAV.ren {c c' : Cx} {fr fl : Nat → Option Nat} {fx : SX → AV} (h : c.Ren c' fr fl fx) : ∀ {av v}, RepAV c av v → RepAV c' (av.ren fr fl fx) v
  | .d t x, v, hr => by simp only [AV.ren, RepAV] at hr ⊢; exact hr.mono h.A h.w
  | .full e x, v, hr => by simp only [AV.ren, RepAV] at hr ⊢; exact ⟨hr.1, hr.2.mono h.A h.w⟩
  | .nilS, v, hr => by simpa only [AV.ren, RepAV] using hr
  | .whole t, v, hr => by
    simp only [AV.ren]
    split
    · rename_i t' ht
      simp only [RepAV] at hr ⊢
      obtain ⟨h1, h2⟩ := h.l t t' hr.1 ht
      refine ⟨h1, hr.2.1, fun o' ho' => ?_⟩
      obtain ⟨o, ho, he, hl, hμ, hcap⟩ := h2 o' ho'
      exact (hr.2.2 o ho).tr he hl hμ hcap
    · simp only [RepAV]
  | .ptr r off, v, hr => by
    simp only [AV.ren]
    split
    · rename_i r' ht
      simp only [RepAV] at hr ⊢
      obtain ⟨h1, h2⟩ := h.r r r' hr.1 ht
      refine ⟨h1, hr.2.1, fun hs => ?_⟩
      obtain ⟨h3, h4⟩ := h2 hs
      rw [h4]; exact hr.2.2 h3
    · simp only [RepAV]
  | .bld r, v, hr => by
    simp only [AV.ren]
    split
    · rename_i r' ht
      simp only [RepAV] at hr ⊢
      obtain ⟨h1, h2⟩ := h.r r r' hr.1 ht
      refine ⟨h1, hr.2.1, fun hs => ?_⟩
      obtain ⟨h3, h4⟩ := h2 hs
      rw [h4]; exact hr.2.2 h3
    · simp only [RepAV]
  | .eptr t i off, v, hr => by
    simp only [AV.ren]
    split
    · rename_i t' ht
      simp only [RepAV] at hr ⊢
      obtain ⟨h1, h2⟩ := h.l t t' hr.1 ht
      refine ⟨h1, hr.2.1, fun o' ho' => ?_⟩
      obtain ⟨o, ho, he, hl, hμ, hcap⟩ := h2 o' ho'
      rw [hμ, he]; exact hr.2.2 o ho
    · simp only [RepAV]
  | .pim cells, v, hr => by
    simp only [AV.ren, RepAV] at hr ⊢
    obtain ⟨ad, us, e, hsp, hA, hc, hu⟩ := hr
    exact ⟨ad, us, e, hsp, h.A _ hA, hc.mono (h.w _ hA), hu.ren h⟩
  | .agg l, v, hr => by simp only [AV.ren, RepAV] at hr ⊢; obtain ⟨us, e, hu⟩ := hr; exact ⟨us, e, hu.ren h⟩
  | .ifc q l, v, hr => by simp only [AV.ren, RepAV] at hr ⊢; obtain ⟨us, e, hu⟩ := hr; exact ⟨us, e, hu.ren h⟩
  | .tup l, v, hr => by simp only [AV.ren, RepAV] at hr ⊢; obtain ⟨us, e, hu⟩ := hr; exact ⟨us, e, hu.ren h⟩
  | .fn f a b, v, hr => by simp only [AV.ren, RepAV] at hr ⊢; obtain ⟨a', b', e, h1, h2⟩ := hr; exact ⟨a', b', e, h1.ren h, h2.ren h⟩
  | .nilP, v, hr => by simpa only [AV.ren, RepAV] using hr
  | .sx x, v, hr => by simp only [AV.ren]; simp only [RepAV] at hr; exact h.s x v hr
  | .dead, v, _ => by simp only [AV.ren, RepAV]
theorem RepAVs.ren {c c' : Cx} {fr fl : Nat → Option Nat} {fx : SX → AV} (h : c.Ren c' fr fl fx) : ∀ {l vs}, RepAVs c l vs → RepAVs c' (renL fr fl fx l) vs
  | [], _, hr => by simpa only [renL, RepAVs] using hr
  | x :: xs, _, hr => by
    simp only [renL, RepAVs] at hr ⊢
    obtain ⟨v, us, e, h1, h2⟩ := hr
    exact ⟨v, us, e, h1.ren h, h2.ren h⟩
end
theorem RepAVs.length {c : Cx} : ∀ {l vs}, RepAVs c l vs → vs.length = l.length
  | [], _, h => by simp only [RepAVs] at h; subst h; rfl
  | x :: xs, _, h => by simp only [RepAVs] at h; obtain ⟨v, us, rfl, _, h2⟩ := h; simp [RepAVs.length h2]
theorem RepAVs.get {c : Cx} : ∀ {l vs} (i : Nat) (av : AV), RepAVs c l vs → l[i]? = some av → ∃ v, vs[i]? = some v ∧ RepAV c av v
  | [], _, _, _, _, h => by simp at h
  | x :: xs, _, 0, av, hr, h => by simp only [RepAVs] at hr; obtain ⟨v, us, rfl, h1, _⟩ := hr; simp at h; subst h; exact ⟨v, rfl, h1⟩
  | x :: xs, _, i + 1, av, hr, h => by
    simp only [RepAVs] at hr; obtain ⟨v, us, rfl, _, h2⟩ := hr
    simpa using RepAVs.get i av h2 (by simpa using h)
theorem RepAVs.set {c : Cx} : ∀ {l vs} (i : Nat) {av : AV} {v : Value}, RepAVs c l vs → RepAV c av v → RepAVs c (l.set i av) (vs.set i v)
  | [], _, _, _, _, h, _ => by simp only [RepAVs] at h; subst h; simp [RepAVs]
  | x :: xs, _, 0, av, v, hr, h => by simp only [RepAVs] at hr; obtain ⟨v0, us, rfl, h1, h2⟩ := hr; simp only [List.set_cons_zero, RepAVs]; exact ⟨_, _, rfl, h, h2⟩
  | x :: xs, _, i + 1, av, v, hr, h => by simp only [RepAVs] at hr; obtain ⟨v0, us, rfl, h1, h2⟩ := hr; simp only [List.set_cons_succ, RepAVs]; exact ⟨_, _, rfl, h1, h2.set i h⟩
theorem RepAVs.append {c : Cx} : ∀ {l l' vs vs'}, RepAVs c l vs → RepAVs c l' vs' → RepAVs c (l ++ l') (vs ++ vs')
  | [], _, _, _, h, h' => by simp only [RepAVs] at h; subst h; simpa using h'
  | x :: xs, _, _, _, h, h' => by simp only [RepAVs, List.cons_append] at h ⊢; obtain ⟨v, us, rfl, h1, h2⟩ := h; exact ⟨v, us ++ _, rfl, h1, h2.append h'⟩
theorem RepAVs.drop {c : Cx} : ∀ (n : Nat) {l vs}, RepAVs c l vs → RepAVs c (l.drop n) (vs.drop n)
  | 0, _, _, h => by simpa using h
  | n + 1, [], _, h => by simp only [RepAVs] at h; subst h; simp [RepAVs]
  | n + 1, x :: xs, _, h => by simp only [RepAVs] at h; obtain ⟨v, us, rfl, h1, h2⟩ := h; simpa using RepAVs.drop n h2
theorem RepAVs.take {c : Cx} : ∀ (n : Nat) {l vs}, RepAVs c l vs → RepAVs c (l.take n) (vs.take n)
  | 0, _, _, h => by simp [RepAVs]
  | n + 1, [], _, h => by simp only [RepAVs] at h; subst h; simp [RepAVs]
  | n + 1, x :: xs, _, h => by simp only [RepAVs] at h; obtain ⟨v, us, rfl, h1, h2⟩ := h; simp only [List.take_succ_cons, RepAVs]; exact ⟨v, _, rfl, h1, RepAVs.take n h2⟩
theorem RepAVs.splice {c : Cx} {cells new : List AV} {vs us : List Value} {off : Nat} (h : RepAVs c cells vs) (h' : RepAVs c new us) :
    RepAVs c (splice cells off new) (vs.take off ++ us ++ vs.drop (off + us.length)) := by
  unfold Pe.splice; rw [h'.length]
  exact ((h.take _).append h').append (h.drop _)
theorem RepAVs.one {c : Cx} {av : AV} {v : Value} (h : RepAV c av v) : RepAVs c [av] [v] := by simp only [RepAVs]; exact ⟨v, [], rfl, h, rfl⟩
theorem RepAVs.one' {c : Cx} {av : AV} {vs} (h : RepAVs c [av] vs) : ∃ v, vs = [v] ∧ RepAV c av v := by simp only [RepAVs] at h; obtain ⟨v, us, rfl, h1, h2⟩ := h; subst h2; exact ⟨v, rfl, h1⟩
end Go.Pe
end
section
namespace Go.Pe
open Go.RowKit
set_option linter.unusedSimpArgs false
set_option linter.unusedVariables false

def PFun.Uni (G : PFun) : Prop := ∀ (S : Type) (args : List AV) (K : AV → Option S), G args K = (G args some).bind K

theorem PFun.Uni.two {G : PFun} (hG : PFun.Uni @G) {S β : Type} (as : List AV) (g : AV → Option β) (K : β → Option S) (f : AV → Option S) (hf : ∀ v, f v = (g v).bind K) : @G S as f = (@G β as g).bind K := by
  have e : f = fun v => (g v).bind K := funext hf
  subst e
  have h1 := hG S as (fun v => (g v).bind K)
  have h2 := hG β as g
  exact h1.trans (by rw [show @G β as g = _ from h2, Option.bind_assoc])
section
variable {S : Type}
theorem evInt_nat (op : BinOp) (k : IntKind) (a b : Int) (K : AV → Option S) : evInt op k a b K = (evInt op k a b some).bind K := by
  cases op <;> simp only [evInt, Option.bind_some, Option.bind_none] <;> split <;> rfl
theorem evStr_nat (op : BinOp) (a b : List UInt8) (K : AV → Option S) : evStr op a b K = (evStr op a b some).bind K := by
  cases op <;> simp only [evStr, Option.bind_some, Option.bind_none] <;> split <;> rfl
theorem evBool_nat (op : BinOp) (a b : Bool) (K : AV → Option S) : evBool op a b K = (evBool op a b some).bind K := by
  cases op <;> simp only [evBool, Option.bind_some, Option.bind_none]
theorem evBin_nat (ε : Env) (op : BinOp) (t : Nat) (x y : AV) (K : AV → Option S) : evBin ε op t x y K = (evBin ε op t x y some).bind K := by
  unfold evBin
  split
  · split
    · split <;> rfl
    · split <;> rfl
    · split
      · exact evInt_nat ..
      · rfl
  · exact evStr_nat ..
  · split
    · cases op <;> first | rfl | (simp only [Option.bind_assoc]; rfl)
    · rfl
  · split
    · exact evBool_nat ..
    · rfl
  · rfl
theorem evUn_nat (op : UnOp) (x : AV) (K : AV → Option S) : evUn op x K = (evUn op x some).bind K := by
  unfold evUn; split <;> rfl
theorem cutLo_nat {α : Type} (l : List α) (a : Int) (K : List α → Option S) : cutLo l a K = (cutLo l a some).bind K := by unfold cutLo; split <;> rfl
theorem cutHi_nat {α : Type} (l : List α) (a : Int) (K : List α → Option S) : cutHi l a K = (cutHi l a some).bind K := by unfold cutHi; split <;> rfl
theorem cutMid_nat {α : Type} (l : List α) (a b : Int) (K : List α → Option S) : cutMid l a b K = (cutMid l a b some).bind K := by unfold cutMid; split <;> rfl
theorem cut_nat {α : Type} (l : List α) (lo hi : Option AV) (K : List α → Option S) : cut l lo hi K = (cut l lo hi some).bind K := by
  unfold cut; split
  · rfl
  · exact cutLo_nat ..
  · exact cutHi_nat ..
  · exact cutMid_nat ..
  · rfl
theorem cut_nat' {α β : Type} (l : List α) (lo hi : Option AV) (g : List α → β) (K : β → Option S) : (cut l lo hi fun r => K (g r)) = (cut l lo hi fun r => some (g r)).bind K := by
  rw [cut_nat, cut_nat (K := fun r => some (g r)), Option.bind_assoc]; rfl
theorem sameInt_nat {α : Type} (a b : Int) (x : Option α) (K : α → Option S) : sameInt a b (x.bind K) = (sameInt a b x).bind K := by unfold sameInt; split <;> rfl
theorem within_nat {α : Type} (n : Int) (len : Nat) (x : Option α) (K : α → Option S) : within n len (x.bind K) = (within n len x).bind K := by unfold within; split <;> rfl
theorem appOk_nat {α : Type} (n : Nat) (x : Option α) (K : α → Option S) : appOk n (x.bind K) = (appOk n x).bind K := by unfold appOk; split <;> rfl
theorem makeOk_nat {α : Type} (n c : Int) (x : Option α) (K : α → Option S) : makeOk n c (x.bind K) = (makeOk n c x).bind K := by unfold makeOk; split <;> rfl

variable (ε : Env)
theorem evConv_nat (lsts) (src dst : Nat) (x : AV) (K : AV → Option S) : evConv ε lsts src dst x K = (evConv ε lsts src dst x some).bind K := by
  unfold evConv
  split
  · split
    · rfl
    · rfl
    · split
      · rw [Option.bind_assoc]; rfl
      · rfl
    · split <;> rfl
    · rfl
  · rfl
theorem evLen_nat (t : Nat) (lsts) (x : AV) (K : AV → Option S) : evLen ε t lsts x K = (evLen ε t lsts x some).bind K := by
  unfold evLen
  split
  · split <;> rfl
  · split <;> rfl
  · split <;> rfl
  · split <;> rfl
  · split
    · split <;> rfl
    · rfl
theorem evSlice_nat (t : Nat) (x : AV) (lo hi mx : Option AV) (K : AV → Option S) : evSlice ε t x lo hi mx K = (evSlice ε t x lo hi mx some).bind K := by
  unfold evSlice
  split
  · split
    · exact cut_nat' ..
    · rfl
  · split
    · exact cut_nat' ..
    · rfl
  · split
    · exact cut_nat' ..
    · rfl
  · split
    · split
      · rw [← sameInt_nat]; exact congrArg _ (cut_nat' ..)
      · rfl
    · rfl
  · split
    · split
      · rw [← sameInt_nat]; exact congrArg _ (cut_nat' ..)
      · rfl
    · rfl
  · split
    · split
      · rw [← sameInt_nat]; rfl
      · rfl
    · rfl
  · rfl
theorem evField_nat (t : Nat) (x : AV) (f : Nat) (K : AV → Option S) : evField ε t x f K = (evField ε t x f some).bind K := by
  unfold evField; split
  · rw [Option.bind_assoc]; rfl
  · rfl
theorem evFieldAddr_nat (st : St) (t : Nat) (x : AV) (f : Nat) (K : AV → Option S) : evFieldAddr ε st t x f K = (evFieldAddr ε st t x f some).bind K := by
  unfold evFieldAddr; split
  · split
    · rfl
    · split
      · split <;> rfl
      · split <;> rfl
      · split <;> rfl
      · rfl
      · rfl
  · rfl
theorem evIndex_nat (t : Nat) (x i : AV) (K : AV → Option S) : evIndex ε t x i K = (evIndex ε t x i some).bind K := by
  unfold evIndex; split
  · split
    · rw [Option.bind_assoc]; rfl
    · rfl
  · rfl
theorem evIndexAddr_nat (t : Nat) (lsts) (x i : AV) (K : AV → Option S) : evIndexAddr ε t lsts x i K = (evIndexAddr ε t lsts x i some).bind K := by
  unfold evIndexAddr; split
  · split
    · split
      · rfl
      · split
        · rw [← within_nat]; rfl
        · rfl
    · rfl
  · split
    · rw [Option.bind_assoc]; rfl
    · rfl
  · split
    · rw [Option.bind_assoc]; rfl
    · rfl
  · split
    · rw [← sameInt_nat]; rfl
    · rfl
  · rfl
theorem evLoad_nat (st : St) (t : Nat) (a : AV) (K : AV → Option S) : evLoad ε st t a K = (evLoad ε st t a some).bind K := by
  unfold evLoad; split
  · rfl
  · split
    · split
      · rw [Option.bind_assoc]; rfl
      · rfl
    · rw [Option.bind_assoc]; rfl
    · split
      · split
        · rfl
        · rw [Option.bind_assoc]; congr; funext y; rw [Option.bind_assoc]; rfl
      · rfl
    · split
      · rw [Option.bind_assoc]; rfl
      · rfl
    · rfl
theorem lenOk_nat {α : Type} (n : Nat) (x : Option α) (K : α → Option S) : lenOk n (x.bind K) = (lenOk n x).bind K := by unfold lenOk; split <;> rfl
theorem evLookup_nat (t : Nat) (lsts) (x i : AV) (ok : Bool) (K : AV → Option S) : evLookup ε t lsts x i ok K = (evLookup ε t lsts x i ok some).bind K := by
  unfold evLookup
  split
  · rw [Option.bind_assoc]; congr; funext l
    rw [Option.bind_assoc]; congr; funext key
    rw [Option.bind_assoc]; congr; funext z
    split
    · cases ok <;> rfl
    · rfl
  · rfl
theorem evMapUpdate_nat (st : St) (t : Nat) (m i x : AV) (K : St → Option S) : evMapUpdate ε st t m i x K = (evMapUpdate ε st t m i x some).bind K := by
  unfold evMapUpdate
  split
  · rw [Option.bind_assoc]; congr; funext l
    rw [Option.bind_assoc]; congr; funext key
    rw [Option.bind_assoc]; congr; funext y
    split
    · rw [← appOk_nat, ← lenOk_nat]; rfl
    · rfl
  · rfl
theorem evDelete_nat (st : St) (t : Nat) (m i : AV) (K : St → Option S) : evDelete ε st t m i K = (evDelete ε st t m i some).bind K := by
  unfold evDelete
  split
  · rw [Option.bind_assoc]; congr; funext l
    rw [Option.bind_assoc]; rfl
  · rfl
theorem evBuild_nat (t : Nat) (parts : List (Nat × AV)) (K : AV → Option S) : evBuild ε t parts K = (evBuild ε t parts some).bind K := by
  unfold evBuild; split
  · split
    · split
      · rfl
      · rw [Option.bind_assoc]; rfl
    · split
      · rw [Option.bind_assoc]; rfl
      · rfl
    · rfl
  · rfl
theorem evMin_nat (x y : AV) (K : AV → Option S) : evMin x y K = (evMin x y some).bind K := by unfold evMin; split <;> rfl
theorem evMax_nat (x y : AV) (K : AV → Option S) : evMax x y K = (evMax x y some).bind K := by unfold evMax; split <;> rfl

def two : AV → St → Option (AV × St) := fun v st => some (v, st)
def un2 (K : AV → St → Option S) : AV × St → Option S := fun q => K q.1 q.2
theorem evStore_nat (st : St) (t : Nat) (a v : Operand) (K : St → Option S) : evStore ε st t a v K = (evStore ε st t a v some).bind K := by
  unfold evStore; split
  · rfl
  · split
    · split
      · split
        · split <;> rfl
        · rfl
      · rfl
    · dsimp only
      split
      · split
        · split
          · split
            · rfl
            · rw [Option.bind_assoc]; congr; funext y
              split
              · rw [Option.bind_assoc]; congr; funext z; split <;> rfl
              · rfl
          · rfl
        · rfl
      · rfl
    · split
      · split
        · split <;> rfl
        · rfl
      · rfl
    · rfl
theorem evAppend_nat (st : St) (sT xT : Nat) (s x : AV) (K : AV → St → Option S) : evAppend ε st sT xT s x K = (evAppend ε st sT xT s x two).bind (un2 K) := by
  unfold evAppend; split
  · split
    · rw [Option.bind_assoc]; congr; funext y; rw [← appOk_nat]; rfl
    · rfl
  · split
    · rw [Option.bind_assoc]; congr; funext y; rw [← appOk_nat]; rfl
    · rfl
  · split
    · split
      · rw [Option.bind_assoc]; congr; funext y; rw [← appOk_nat]; rfl
      · rfl
    · rfl
  · split
    · rw [Option.bind_assoc]; congr; funext y; rw [Option.bind_assoc]; congr; funext z; rw [← appOk_nat]; rfl
    · rfl
  · rfl
theorem evMake_nat (st : St) (t : Nat) (len cap : AV) (K : AV → St → Option S) : evMake ε st t len cap K = (evMake ε st t len cap two).bind (un2 K) := by
  unfold evMake; split
  · rfl
  · split
    · split
      · split
        · rw [← makeOk_nat]; rfl
        · rfl
      · rfl
    · rfl
theorem evMakeMap_nat (st : St) (t : Nat) (K : AV → St → Option S) : evMakeMap ε st t K = (evMakeMap ε st t two).bind (un2 K) := by
  unfold evMakeMap; split <;> rfl
theorem evBuildSlice_nat (st : St) (own : Bool) (t len : Nat) (parts : List (Nat × Operand)) (K : AV → St → Option S) : evBuildSlice ε st own t len parts K = (evBuildSlice ε st own t len parts two).bind (un2 K) := by
  unfold evBuildSlice; split
  · split
    · split
      · rfl
      · dsimp only; rw [Option.bind_assoc]; cases own <;> rfl
    · rfl
  · rfl
theorem evHand_nat (h : HF) (ρ lm : List Nat) (sm : SM) (st : St) (args : List AV) (K : AV → St → Option S) : evHand h ρ lm sm st args K = (evHand h ρ lm sm st args two).bind (un2 K) := by
  unfold evHand; split
  · rfl
  · rw [Option.bind_assoc]; congr; funext y; rw [Option.bind_assoc]; congr; funext o; split <;> rfl
theorem evHands_nat (st : St) (args : St → Option (List AV)) (K : AV → St → Option S) : ∀ l : List HF, evHands st args K l = (evHands st args two l).bind (un2 K)
  | [] => rfl
  | h :: r => by
    unfold evHands; split
    · rw [Option.bind_assoc]; congr; funext l; exact evHand_nat ..
    · exact evHands_nat st args K r
theorem evCall_nat (hu : ∀ f G sc, ε.fn f = some (G, sc) → G.Uni) (st : St) (f : Nat) (args : List Operand) (pre post : List AV) (K : AV → St → Option S) : evCall ε st f args pre post K = (evCall ε st f args pre post two).bind (un2 K) := by
  unfold evCall; split
  · rfl
  · rename_i G sc h
    have hG := hu f G sc h
    split
    · rw [Option.bind_assoc]; congr; funext as
      exact PFun.Uni.two hG as (fun v => if v.scalar = true then two v st else none) (un2 K) _ fun v => by split <;> rfl
    · dsimp only
      split
      · exact PFun.Uni.two hG _ (fun v => two v _) (un2 K) _ fun v => rfl
      · rfl
end
end Go.Pe
end
section
namespace Go.Pe
open Go.RowKit

structure Dom where
  A : Nat → Prop
  F : Nat → Prop
  X : Nat → Prop
  wF : World
  pin : Nat → Option Nat
  np : Nat
  keep : Value
  pinl : Nat → Option Nat
  nl : Nat
def Dom.of (A : Nat → Prop) (w : World) : Dom := ⟨A, fun _ => False, fun _ => False, w, fun _ => none, 0, .bool false, fun _ => none, 0⟩
def Imm (A0 : Dom) (w0 : World) (μ : Mu) (w : World) (b : Nat) : Prop := ((A0.A b ∨ w0.heap.size ≤ b) ∧ ¬ A0.X b) ∧ b < w.heap.size ∧ ∀ x, μ.at_ x ≠ some b
def cx (A0 : Dom) (w0 : World) (recs : List (Option (List AV))) (lsts : List (Option LObj)) (w : World) (μ : Mu) : Cx := ⟨Imm A0 w0 μ w, w, μ, recs, lsts, A0.keep⟩

def Own (w : World) (b : Nat) (vs : Array Value) : Prop := ∃ el, w.heap[b]? = some (.cells vs el (0, 0))

def entCells (ag : Bool) (e : MapEntry) : List Value := e.key :: (match ag with | true => e.val.cells.toList | false => [e.val])
def OwnM (k v : Ty) (ag : Bool) (w : World) (b : Nat) (vs : Array Value) : Prop :=
  ∃ es clock, w.heap[b]? = some (.map es clock) ∧ MapKept.Stamped es clock ∧ es.size ≤ 4294967296 ∧ vs.toList = es.toList.flatMap (entCells ag) ∧
    ∀ e ∈ es.toList, (entCells ag e).length = k.size + v.size ∧ (ag = true → ∃ us, e.val = .agg us) ∧ ∀ s, e.key = .string s → s.size ≤ 4611686018427387904
def OwnL : Ty → World → Nat → Array Value → Prop
  | .prod .unit (.prod k v), w, b, vs => OwnM k v false w b vs
  | .prod (.prod .unit .unit) (.prod k v), w, b, vs => OwnM k v true w b vs
  | e, w, b, vs => e.isMap = false ∧ Own w b vs
def RepL (A : Nat → Prop) (w : World) (e : Ty) (xs : List e.den) (us rest : List Value) : Prop := RepAll (Rep A w e) xs us ∧ (e.isMap = true → rest = [])
def LstAt (c : Cx) (t : Nat) (o : LObj) : Prop :=
  (c.μ.at_ (.l t) = none ∧ o.xs = [] ∧ o.e.isMap = false) ∨
  ∃ b vs, c.μ.at_ (.l t) = some b ∧ OwnL o.e c.w b vs ∧ vs.size = c.μ.cap t * o.e.size ∧ o.xs.length ≤ c.μ.cap t ∧ ∃ us rest, vs.toList = us ++ rest ∧ RepL c.A c.w o.e o.xs us rest
theorem OwnM.ext {k v : Ty} {ag : Bool} {w w' : World} {b : Nat} {vs : Array Value} (h : OwnM k v ag w b vs) (hb : w'.heap[b]? = w.heap[b]?) : OwnM k v ag w' b vs := by
  obtain ⟨es, clock, h1, h2⟩ := h; exact ⟨es, clock, by rw [hb]; exact h1, h2⟩
theorem OwnL.plain {e : Ty} {w : World} {b : Nat} {vs : Array Value} (hp : e.isMap = false) : OwnL e w b vs ↔ Own w b vs := by
  unfold OwnL
  split
  · simp [Ty.isMap] at hp
  · simp [Ty.isMap] at hp
  · exact ⟨fun h => h.2, fun h => ⟨hp, h⟩⟩
theorem OwnL.ext {e : Ty} {w w' : World} {b : Nat} {vs : Array Value} (h : OwnL e w b vs) (hb : w'.heap[b]? = w.heap[b]?) : OwnL e w' b vs := by
  unfold OwnL at h ⊢
  split at h
  · exact h.ext hb
  · exact h.ext hb
  · obtain ⟨h0, el, h1⟩ := h; exact ⟨h0, el, by rw [hb]; exact h1⟩
theorem OwnL.obj {e : Ty} {w : World} {b : Nat} {vs : Array Value} (h : OwnL e w b vs) : (∃ es c, w.heap[b]? = some (.map es c)) ∨ ∃ el, w.heap[b]? = some (.cells vs el (0, 0)) := by
  unfold OwnL at h
  split at h
  · obtain ⟨es, c, h1, _⟩ := h; exact .inl ⟨es, c, h1⟩
  · obtain ⟨es, c, h1, _⟩ := h; exact .inl ⟨es, c, h1⟩
  · exact .inr h.2
theorem RepL.imp {A A' : Nat → Prop} {w w' : World} {e : Ty} {xs : List e.den} {us rest : List Value} (hi : ∀ x u, Rep A w e x u → Rep A' w' e x u) (h : RepL A w e xs us rest) : RepL A' w' e xs us rest := ⟨h.1.imp hi, h.2⟩
theorem RepL.plain {A : Nat → Prop} {w : World} {e : Ty} {xs : List e.den} {us rest : List Value} (hp : e.isMap = false) (h : RepAll (Rep A w e) xs us) : RepL A w e xs us rest := ⟨h, fun h => by rw [hp] at h; cases h⟩
def LstAt0 (c : Cx) (t : Nat) (o : LObj) : Prop := (c.μ.at_ (.l t) = none ∧ o.xs = []) ∨
    ∃ b vs, c.μ.at_ (.l t) = some b ∧ Own c.w b vs ∧ vs.size = c.μ.cap t * o.e.size ∧ o.xs.length ≤ c.μ.cap t ∧ ∃ us rest, vs.toList = us ++ rest ∧ RepAll (Rep c.A c.w o.e) o.xs us
theorem LstAt.plain {c : Cx} {t : Nat} {o : LObj} (hp : o.e.isMap = false) : LstAt c t o ↔ LstAt0 c t o := by
  simp only [LstAt, LstAt0, OwnL.plain hp, RepL, hp]
  simp
theorem LstAt.map {c : Cx} {t : Nat} {o : LObj} (hp : o.e.isMap = true) (h : LstAt c t o) : ∃ b vs, c.μ.at_ (.l t) = some b ∧ OwnL o.e c.w b vs ∧ vs.size = c.μ.cap t * o.e.size ∧ o.xs.length ≤ c.μ.cap t ∧ RepAll (Rep c.A c.w o.e) o.xs vs.toList := by
  rcases h with ⟨_, _, h⟩ | ⟨b, vs, h1, h2, h3, h4, us, rest, h5, h6, h7⟩
  · rw [hp] at h; cases h
  · rw [h7 hp, List.append_nil] at h5
    exact ⟨b, vs, h1, h2, h3, h4, by rw [h5]; exact h6⟩

def NestAt (c : Cx) (k : Nat) (e : Ty) (xs : List e.den) (v : Value) : Prop :=
  (c.μ.at_ (.n k) = none ∧ xs = [] ∧ v = .slice none 0 0) ∨
  ∃ b vs cap, c.μ.at_ (.n k) = some b ∧ v = .slice (some ⟨b, 0, none⟩) xs.length cap ∧ Own c.w b vs ∧ vs.size = cap * e.size ∧ xs.length ≤ cap ∧ ∃ us rest, vs.toList = us ++ rest ∧ RepAll (Rep c.A c.w e) xs us
def FramesAt (c : Cx) : Nat → List V → List Value → Prop
  | _, [], us => us = []
  | i, f :: fs, us => ∃ iv kv us', us = .int .i64 f.kind :: .int .i64 f.n :: .string ⟨f.s.toArray⟩ :: iv :: kv :: us' ∧ NestAt c (2 * i + 1) .value f.items iv ∧ NestAt c (2 * i + 2) .str f.keys kv ∧ FramesAt c (i + 1) fs us'
structure DeepAt (c : Cx) (d : DP) : Prop where
  top : ∀ r, d.top = some r → r < c.recs.length ∧ c.μ.at_ (.r r) = none
  lim : ∀ k b, c.μ.at_ (.n k) = some b → k ≤ 2 * d.fs.length
  row : (c.μ.at_ (.n 0) = none ∧ d.fs = [] ∧ d.top = none) ∨ ∃ b vs pre rest, c.μ.at_ (.n 0) = some b ∧ Own c.w b vs ∧ vs.size = d.cap * 5 ∧ d.fs.length + d.top.toList.length ≤ d.cap ∧ vs.toList = pre ++ rest ∧ FramesAt c 0 d.fs pre
def TopAt (c : Cx) (r : Nat) (cells : List AV) : Prop :=
  ∃ d b vs, c.μ.dp = some d ∧ d.top = some r ∧ c.μ.at_ (.n 0) = some b ∧ Own c.w b vs ∧ RepAVs c cells ((vs.toList.drop (d.fs.length * 5)).take 5)

class GI where
  inv : World → Prop
  mono : ∀ {w w' : World}, inv w → Below w.heap.size w w' → inv w'
  bt : TypeId   -- strings.Builder
  u8 : TypeId   -- uint8
set_option linter.unusedSectionVars false
set_option linter.unusedVariables false
variable [GI]
def isBld : List AV → Bool | .bld _ :: _ => true | _ => false
structure BTy (recs : List (Option (List AV))) (lsts : List (Option LObj)) (w : World) (μ : Mu) : Prop where
  r : ∀ r cells, getL recs r = some cells → isBld cells = true → ∀ b, μ.at_ (.r r) = some b → ∃ vs, w.heap[b]? = some (.cells vs GI.bt (0, 0))
  l : ∀ t o, getL lsts t = some o → o.e = .int .u8 → ∀ b, μ.at_ (.l t) = some b → ∃ vs, w.heap[b]? = some (.cells vs GI.u8 (0, 0))
theorem BTy.map {recs lsts recs' lsts'} {w w' : World} {μ μ' : Mu} (h : BTy recs lsts w μ)
    (hr : ∀ r' cells', getL recs' r' = some cells' → isBld cells' = true → ∀ b, μ'.at_ (.r r') = some b → (∃ r cells, getL recs r = some cells ∧ isBld cells = true ∧ μ.at_ (.r r) = some b) ∨ ∃ vs, w'.heap[b]? = some (.cells vs GI.bt (0, 0)))
    (hl : ∀ t' o', getL lsts' t' = some o' → o'.e = .int .u8 → ∀ b, μ'.at_ (.l t') = some b → (∃ t o, getL lsts t = some o ∧ o.e = .int .u8 ∧ μ.at_ (.l t) = some b) ∨ ∃ vs, w'.heap[b]? = some (.cells vs GI.u8 (0, 0)))
    (hw : ∀ x b (vs : Array Value) (T : TypeId), μ.at_ x = some b → w.heap[b]? = some (.cells vs T (0, 0)) → ∃ vs', w'.heap[b]? = some (.cells vs' T (0, 0))) : BTy recs' lsts' w' μ' := by
  refine ⟨fun r' cells' h1 h2 b hb => ?_, fun t' o' h1 h2 b hb => ?_⟩
  · rcases hr r' cells' h1 h2 b hb with ⟨r, cells, g1, g2, g3⟩ | g
    · obtain ⟨vs, h3⟩ := h.r r cells g1 g2 b g3
      exact hw _ _ _ _ g3 h3
    · exact g
  · rcases hl t' o' h1 h2 b hb with ⟨t, o, g1, g2, g3⟩ | g
    · obtain ⟨vs, h3⟩ := h.l t o g1 g2 b g3
      exact hw _ _ _ _ g3 h3
    · exact g
theorem BTy.ext {recs lsts} {w w' : World} {μ : Mu} (h : BTy recs lsts w μ) (hw : ∀ x b, μ.at_ x = some b → w'.heap[b]? = w.heap[b]?) : BTy recs lsts w' μ :=
  h.map (fun r c h1 h2 b hb => .inl ⟨r, c, h1, h2, hb⟩) (fun t o h1 h2 b hb => .inl ⟨t, o, h1, h2, hb⟩) fun x b vs T hx hv => ⟨vs, (hw x b hx).trans hv⟩

def PinL (A0 : Dom) (lsts : List (Option LObj)) (μ : Mu) : Prop := A0.nl ≤ lsts.length ∧ ∀ t b, A0.pinl t = some b → t < A0.nl ∧ ∀ o, getL lsts t = some o → o.e.isMap = true → μ.at_ (.l t) = some b
theorem PinL.of {A0 lsts lsts' μ μ'} (h : PinL A0 lsts μ) (hn : A0.nl ≤ lsts'.length) (hl : ∀ t o', t < lsts.length → getL lsts' t = some o' → o'.e.isMap = true → ∃ o, getL lsts t = some o ∧ o.e.isMap = true ∧ μ'.at_ (.l t) = μ.at_ (.l t)) : PinL A0 lsts' μ' := ⟨hn, fun t b hb => by
  obtain ⟨h1, h2⟩ := h.2 t b hb
  refine ⟨h1, fun o' ho' hm => ?_⟩
  obtain ⟨o, ho, he, hat⟩ := hl t o' (Nat.lt_of_lt_of_le h1 h.1) ho' hm
  rw [hat]; exact h2 o ho he⟩
theorem PinL.le {A0 w0 recs lsts recs' lsts' w w' μ μ'} (h : PinL A0 lsts μ) (hle : (cx A0 w0 recs lsts w μ).Le (cx A0 w0 recs' lsts' w' μ')) : PinL A0 lsts' μ' :=
  h.of (Nat.le_trans h.1 hle.nl) fun t o' ht ho hm => by obtain ⟨o, h1, h2, _, h3, _⟩ := hle.l t o' ht ho; exact ⟨o, h1, by rw [← h2]; exact hm, h3⟩
theorem Mu.capOf_eq {μ μ' : Mu} {t t' : Nat} (h : μ'.cap t' = μ.cap t) (o : LObj) : μ'.capOf o t' = μ.capOf o t := by
  unfold Mu.capOf; split
  · rfl
  · exact h
structure Mem (A0 : Dom) (w0 : World) (recs : List (Option (List AV))) (lsts : List (Option LObj)) (w : World) (μ : Mu) : Prop where
  hrec : ∀ r cells, getL recs r = some cells → isMark cells = false → ∃ b vs, μ.at_ (.r r) = some b ∧ Own w b vs ∧ RepAVs (cx A0 w0 recs lsts w μ) cells vs.toList
  hlst : ∀ t o, getL lsts t = some o → LstAt (cx A0 w0 recs lsts w μ) t o
  live : ∀ x b, μ.at_ x = some b → w0.heap.size ≤ b ∧ b < w.heap.size ∧ (match x with | .r r => (getL recs r).isSome = true | .l t => (getL lsts t).isSome = true | .n _ => μ.dp.isSome = true)
  inj : ∀ x y b, μ.at_ x = some b → μ.at_ y = some b → x = y
  below : Below w0.heap.size w0 w
  fr : ∀ b, A0.F b → b < w.heap.size ∧ w.heap[b]? = A0.wF.heap[b]? ∧ ∀ x, μ.at_ x ≠ some b
  xo : ∀ b, A0.X b → b < w.heap.size ∧ ∀ x, μ.at_ x ≠ some b
  np : A0.np ≤ recs.length
  pins : ∀ r b, A0.pin r = some b → r < A0.np ∧ ((getL recs r).isSome = true → μ.at_ (.r r) = some b)
  gi : GI.inv w0
  bty : BTy recs lsts w μ
  htop : ∀ r cells, getL recs r = some (.sx .mark :: cells) → TopAt (cx A0 w0 recs lsts w μ) r cells
  deep : ∀ d, μ.dp = some d → DeepAt (cx A0 w0 recs lsts w μ) d
  pinl : PinL A0 lsts μ

structure Cx.Deep (c c' : Cx) : Prop where
  A : ∀ b, c.A b → c'.A b
  w : ∀ b, c.A b → c'.w.heap[b]? = c.w.heap[b]?
  n : ∀ k, c'.μ.at_ (.n k) = c.μ.at_ (.n k)
  b : ∀ k b, c.μ.at_ (.n k) = some b → c'.w.heap[b]? = c.w.heap[b]?
  nr : c.recs.length ≤ c'.recs.length
  r : ∀ r, r < c.recs.length → c.μ.at_ (.r r) = none → c'.μ.at_ (.r r) = none
structure Cx.Deep1 (c c' : Cx) : Prop where
  A : ∀ b, c.A b → c'.A b
  w : ∀ b, c.A b → c'.w.heap[b]? = c.w.heap[b]?
  n : ∀ k, k ≠ 0 → c'.μ.at_ (.n k) = c.μ.at_ (.n k)
  b : ∀ k b, k ≠ 0 → c.μ.at_ (.n k) = some b → c'.w.heap[b]? = c.w.heap[b]?
theorem Cx.Deep.one {c c' : Cx} (h : c.Deep c') : c.Deep1 c' := ⟨h.A, h.w, fun k _ => h.n k, fun k b _ hb => h.b k b hb⟩
theorem Own.ext0 {w w' : World} {b vs} (h : Own w b vs) (hb : w'.heap[b]? = w.heap[b]?) : Own w' b vs := by
  obtain ⟨el, e⟩ := h; exact ⟨el, by rw [hb]; exact e⟩
theorem NestAt.mono {c c' : Cx} (h : c.Deep1 c') {k e xs v} (hk : k ≠ 0) (hn : NestAt c k e xs v) : NestAt c' k e xs v := by
  rcases hn with ⟨h1, h2, h3⟩ | ⟨b, vs, cap, h1, h2, h3, h4, h5, us, rest, h6, h7⟩
  · exact .inl ⟨by rw [h.n _ hk]; exact h1, h2, h3⟩
  · exact .inr ⟨b, vs, cap, by rw [h.n _ hk]; exact h1, h2, h3.ext0 (h.b _ _ hk h1), h4, h5, us, rest, h6, h7.imp fun x u hx => hx.mono h.A h.w⟩
theorem FramesAt.mono {c c' : Cx} (h : c.Deep1 c') : ∀ {fs i us}, FramesAt c i fs us → FramesAt c' i fs us
  | [], _, _, hf => hf
  | f :: fs, i, us, hf => by
    obtain ⟨iv, kv, us', h1, h2, h3, h4⟩ := hf
    exact ⟨iv, kv, us', h1, h2.mono h (by omega), h3.mono h (by omega), FramesAt.mono h h4⟩
theorem FramesAt.length {c : Cx} : ∀ {fs i us}, FramesAt c i fs us → us.length = fs.length * 5
  | [], _, _, hf => by simp only [FramesAt] at hf; subst hf; rfl
  | f :: fs, i, us, hf => by
    obtain ⟨iv, kv, us', rfl, _, _, h4⟩ := hf
    simp [FramesAt.length h4]; omega
theorem DeepAt.mono {c c' : Cx} (h : c.Deep c') {d : DP} (hd : DeepAt c d) : DeepAt c' d := by
  refine ⟨fun r hr => ?_, fun k b hk => hd.lim k b (by rw [← h.n]; exact hk), ?_⟩
  · obtain ⟨h1, h2⟩ := hd.top r hr
    exact ⟨Nat.lt_of_lt_of_le h1 h.nr, h.r r h1 h2⟩
  · rcases hd.row with ⟨h1, h2, h3⟩ | ⟨b, vs, pre, rest, h1, h2, h3, h4, h5, h6⟩
    · exact .inl ⟨by rw [h.n]; exact h1, h2, h3⟩
    · exact .inr ⟨b, vs, pre, rest, by rw [h.n]; exact h1, h2.ext0 (h.b _ _ h1), h3, h4, h5, h6.mono h.one⟩
theorem TopAt.imp {c c' : Cx} {r : Nat} {cells cells' : List AV} (hdp : c'.μ.dp = c.μ.dp) (hn : c'.μ.at_ (.n 0) = c.μ.at_ (.n 0)) (hb : ∀ b, c.μ.at_ (.n 0) = some b → c'.w.heap[b]? = c.w.heap[b]?) (hr : ∀ us, RepAVs c cells us → RepAVs c' cells' us) (h : TopAt c r cells) : TopAt c' r cells' := by
  obtain ⟨d, b, vs, h1, h2, h3, h4, h5⟩ := h
  exact ⟨d, b, vs, by rw [hdp]; exact h1, h2, by rw [hn]; exact h3, h4.ext0 (hb _ h3), hr _ h5⟩
theorem isMark_some {c : List AV} (h : isMark c = true) : ∃ l, c = .sx .mark :: l := by
  unfold isMark at h; split at h
  · exact ⟨_, rfl⟩
  · cases h
theorem Mem.plain {A0 w0 recs lsts w μ} (hm : Mem A0 w0 recs lsts w μ) {r b : Nat} {cells : List AV} (h : getL recs r = some cells) (hb : μ.at_ (.r r) = some b) : isMark cells = false := by
  cases hk : isMark cells with
  | false => rfl
  | true =>
    obtain ⟨l, rfl⟩ := isMark_some hk
    obtain ⟨d, _, _, h1, h2, _⟩ := hm.htop r l h
    have := ((hm.deep d h1).top r h2).2
    rw [show (cx A0 w0 recs lsts w μ).μ.at_ (.r r) = μ.at_ (.r r) from rfl, hb] at this; cases this

theorem Mem.rec_at {A0 w0 recs lsts w μ} (hm : Mem A0 w0 recs lsts w μ) {r b : Nat} {cells : List AV} (h : getL recs r = some cells) (hb : μ.at_ (.r r) = some b) : ∃ vs, Own w b vs ∧ RepAVs (cx A0 w0 recs lsts w μ) cells vs.toList := by
  obtain ⟨b', vs, h1, h2, h3⟩ := hm.hrec r cells h (hm.plain h hb)
  rw [hb] at h1; cases h1
  exact ⟨vs, h2, h3⟩
structure Sim (A0 : Dom) (w0 : World) (st : St) (tmps : Array Value) (w : World) (μ : Mu) : Prop where
  slots : RepAVs (cx A0 w0 st.recs st.lsts w μ) st.slots tmps.toList
  mem : Mem A0 w0 st.recs st.lsts w μ

def c0 (A : Nat → Prop) (w : World) : Cx := ⟨A, w, ⟨fun _ => none, fun _ => 0, none⟩, [], [], .bool false⟩
def News (w w' : World) (A : Nat → Prop) (b : Nat) : Prop := A b ∨ (w.heap.size ≤ b ∧ b < w'.heap.size)

def Sound (P : Program) (f : Nat) (G : PFun) : Prop :=
  (∃ fn, P.funcs[f]? = some fn ∧ (fn.name == "runtime.NumGoroutine") = false ∧ fn.body.isSome = true) ∧
  ∀ (S : Type) (args : List AV) (K : AV → Option S) (r : S), G args K = some r →
    ∀ (A : Nat → Prop) (w : World) (vs : List Value), (∀ b, A b → b < w.heap.size) → GI.inv w → closedL args = true → RepAVs (c0 A w) args vs →
      ∃ av, K av = some r ∧ av.closed = true ∧ Calls P f vs.toArray w fun e w' => ∃ v, e = .returned v ∧ Below w.heap.size w w' ∧ RepAV (c0 (News w w' A) w') av v

def retVal (vs : List Value) : Value := if h : vs.toArray.size = 1 then vs.toArray[0] else .tuple vs.toArray
def SoundH (P : Program) (f : Nat) (h : HF) : Prop :=
  (∃ fn, P.funcs[f]? = some fn ∧ (fn.name == "runtime.NumGoroutine") = false ∧ fn.body.isSome = true) ∧
  ∀ y o, h.F y = some o → ∀ (A0 : Dom) (w0 w : World) (vs : List Value) (μ : Mu), Sim A0 w0 (fill h.I y) vs.toArray w μ →
    Calls P f vs.toArray w fun e w' => ∃ us μ', e = .returned (retVal us) ∧ Sim A0 w0 (fill h.O o) us.toArray w' μ'

def SoundP (P : Program) (f : Nat) (h : PF) : Prop :=
  (∃ fn, P.funcs[f]? = some fn ∧ (fn.name == "runtime.NumGoroutine") = false ∧ fn.body.isSome = true) ∧
  ∀ y o, h.F y = some o → ∀ (A0 : Dom) (w0 w : World) (vs : List Value) (μ : Mu), Sim A0 w0 (fill h.I y) vs.toArray w μ →
    Calls P f vs.toArray w fun e w' => match o with
      | .inl o => ∃ us μ', e = .returned (retVal us) ∧ Sim A0 w0 (fill h.O o) us.toArray w' μ'
      | .inr z => ∃ v μ', e = .panicked [{ v := v, recovered := false }] ∧ Sim A0 w0 (fill h.Z z) #[v] w' μ'

def eqFs : Nat → List Field → Bool
  | _, [] => true
  | i, f :: r => (f.name != "_") && Nat.beq f.offset i && eqFs (i + 1) r
def isAggV : Value → Bool | .agg _ => true | _ => false
structure TiOk (P : Program) (t : Nat) (i : TI) : Prop where
  under : P.underlying t = some i.desc
  info : ∃ inf, P.info? t = some inf ∧ inf.size = i.size ∧ inf.bytes ≤ 16384 ∧ ∃ z, inf.zero = some z ∧ z.cells.size = i.size ∧ ∀ c : Cx, RepAVs c i.zero z.cells.toList
  agg : i.agg = (match i.desc with | .struct _ | .array _ _ => true | _ => false)
  ty : ∀ e, i.ty = some e → e.size = i.size
  plain : ∀ e, i.ty = some e → e.isMap = false
  u8 : i.ty = some (.int .u8) → t = GI.u8
  bld : i.bld = true → t = GI.bt
  eq : i.eq = true → ∃ fs, P.underlying t = some (.struct fs) ∧ P.stoodInHeld t = false ∧ P.eqGuardType P.depth t = false ∧ eqFs 0 fs.toList = true
  zag : ∀ inf z, P.info? t = some inf → inf.zero = some z → isAggV z = i.agg
def TopFn (P : Program) (f : Nat) : Prop :=
  (∃ fn, P.funcs[f]? = some fn ∧ (fn.name == "runtime.NumGoroutine") = false ∧ fn.body.isSome = true) ∧
  ∀ (w : World) (b off bS n cap : Nat), n < 4294967296 → w.cell? ⟨b, off, none⟩ = some (.slice (some ⟨bS, 0, none⟩) (n + 1) cap) →
    Calls P f #[.pointer (some ⟨b, off, none⟩)] w fun e w' => e = .returned (.pointer (some ⟨bS, n * 5, none⟩)) ∧ Below w.heap.size w w'
def ExtOk (P : Program) (f : Nat) (G : Ext) : Prop :=
  (∃ fn, P.funcs[f]? = some fn ∧ (fn.name == "runtime.NumGoroutine") = false ∧ fn.body.isSome = true) ∧
  ∀ (S : Type) (st : St) (args : List AV) (K : AV → St → Option S) (r : S), G st args K = some r → ∃ av st', K av st' = some r ∧
    ∀ (A0 : Dom) (w0 w : World) (tmps : Array Value) (μ : Mu) (vs : List Value), Sim A0 w0 st tmps w μ → RepAVs (cx A0 w0 st.recs st.lsts w μ) args vs →
      Calls P f vs.toArray w fun e w' => ∃ v μ', e = .returned v ∧ RepAV (cx A0 w0 st'.recs st'.lsts w' μ') av v ∧ Sim A0 w0 st' tmps w' μ'
structure EnvOk (P : Program) (ε : Env) : Prop where
  ti : ∀ t i, ε.ti t = some i → TiOk P t i
  fn : ∀ f G sc, ε.fn f = some (G, sc) → Sound P f G
  uni : ∀ f G sc, ε.fn f = some (G, sc) → PFun.Uni @G
  mixed : P.follows .mixedOrders = true
  hf : ∀ f h, h ∈ ε.hf f → SoundH P f h
  pf : ∀ f h, h ∈ ε.pf f → SoundP P f h
  top : ∀ f, ε.top f = true → TopFn P f
  ext : ∀ f G, ε.ext f = some G → ExtOk P f G

section
variable {A0 : Dom} {w0 w w' : World} {recs : List (Option (List AV))} {lsts : List (Option LObj)} {μ : Mu}

theorem Imm.ext (hs : w.heap.size ≤ w'.heap.size) {b} (h : Imm A0 w0 μ w b) : Imm A0 w0 μ w' b := ⟨h.1, Nat.lt_of_lt_of_le h.2.1 hs, h.2.2⟩
theorem cx.ext (h : Below w.heap.size w w') : (cx A0 w0 recs lsts w μ).Le (cx A0 w0 recs lsts w' μ) :=
  ⟨fun _ hb => hb.ext h.size, fun b hb => h.block b hb.2.1, Nat.le_refl _, Nat.le_refl _, fun _ _ hs => ⟨hs, rfl⟩, fun _ o _ ho => ⟨o, ho, rfl, rfl, rfl, rfl⟩, fun _ _ h => h⟩
theorem Own.ext {b vs} (h : Own w b vs) (hb : w'.heap[b]? = w.heap[b]?) : Own w' b vs := by
  obtain ⟨el, e⟩ := h; exact ⟨el, by rw [hb]; exact e⟩
theorem Mem.ext (hm : Mem A0 w0 recs lsts w μ) (h : Below w.heap.size w w') : Mem A0 w0 recs lsts w' μ where
  hrec r cells hr hk := by
    obtain ⟨b, vs, hb, ho, hv⟩ := hm.hrec r cells hr hk
    exact ⟨b, vs, hb, ho.ext (h.block b (hm.live _ _ hb).2.1), hv.mono (cx.ext h)⟩
  hlst t o ht := by
    rcases hm.hlst t o ht with h1 | ⟨b, vs, hb, ho, hsz, hc, us, rest, e, hr⟩
    · exact .inl h1
    · exact .inr ⟨b, vs, hb, ho.ext (h.block b (hm.live _ _ hb).2.1), hsz, hc, us, rest, e, hr.imp fun x u hx => hx.mono (cx.ext (A0 := A0) (w0 := w0) (recs := recs) (lsts := lsts) (μ := μ) h).A (cx.ext (A0 := A0) (w0 := w0) (recs := recs) (lsts := lsts) (μ := μ) h).w⟩
  live x b hx := by obtain ⟨h1, h2, h3⟩ := hm.live x b hx; exact ⟨h1, Nat.lt_of_lt_of_le h2 h.size, h3⟩
  inj := hm.inj
  below := hm.below.trans (h.mono hm.below.size)
  fr b hb := by obtain ⟨h1, h2, h3⟩ := hm.fr b hb; exact ⟨Nat.lt_of_lt_of_le h1 h.size, by rw [h.block b h1]; exact h2, h3⟩
  xo b hb := by obtain ⟨h1, h2⟩ := hm.xo b hb; exact ⟨Nat.lt_of_lt_of_le h1 h.size, h2⟩
  np := hm.np
  pins := hm.pins
  gi := hm.gi
  bty := hm.bty.ext fun x b hx => h.block b (hm.live _ _ hx).2.1
  htop r cells hr := (hm.htop r cells hr).imp (c := cx A0 w0 recs lsts w μ) rfl rfl (fun b hb => h.block b (hm.live _ _ hb).2.1) fun us hu => hu.mono (cx.ext h)
  deep d hd := (hm.deep d hd).mono ⟨(cx.ext (A0 := A0) (w0 := w0) (recs := recs) (lsts := lsts) (μ := μ) h).A, (cx.ext (A0 := A0) (w0 := w0) (recs := recs) (lsts := lsts) (μ := μ) h).w, fun _ => rfl, fun k b hb => h.block b (hm.live _ _ hb).2.1, Nat.le_refl _, fun _ _ h => h⟩
  pinl := hm.pinl
theorem Mem.new_ok (hm : Mem A0 w0 recs lsts w μ) {k : Nat} (hk : w.heap.size ≤ k) : (A0.A k ∨ w0.heap.size ≤ k) ∧ ¬ A0.X k :=
  ⟨.inr (Nat.le_trans hm.below.size hk), fun hx => absurd (hm.xo k hx).1 (by omega)⟩
theorem Mem.own_ok (hm : Mem A0 w0 recs lsts w μ) {x : Loc} {b : Nat} (hb : μ.at_ x = some b) : (A0.A b ∨ w0.heap.size ≤ b) ∧ ¬ A0.X b :=
  ⟨.inr (hm.live x b hb).1, fun hx => (hm.xo b hx).2 x hb⟩
theorem Sim.ext {st : St} {tmps} (hm : Sim A0 w0 st tmps w μ) (h : Below w.heap.size w w') : Sim A0 w0 st tmps w' μ := ⟨hm.slots.mono (cx.ext h), hm.mem.ext h⟩
end

structure Cx.Sub (c c' : Cx) : Prop where
  A : ∀ b, c.A b → c'.A b
  w : ∀ b, c.A b → c'.w.heap[b]? = c.w.heap[b]?
mutual
theorem RepAV.closed {c c' : Cx} (h : c.Sub c') : ∀ {av v}, av.closed = true → RepAV c av v → RepAV c' av v
  | .d t x, v, _, hr => by simp only [RepAV] at hr ⊢; exact hr.mono h.A h.w
  | .full e x, v, _, hr => by simp only [RepAV] at hr ⊢; exact ⟨hr.1, hr.2.mono h.A h.w⟩
  | .nilS, v, _, hr => by simpa only [RepAV] using hr
  | .nilP, v, _, hr => by simpa only [RepAV] using hr
  | .pim cells, v, hc, hr => by
    simp only [RepAV] at hr ⊢
    obtain ⟨ad, us, e, hsp, hA, hcs, hu⟩ := hr
    exact ⟨ad, us, e, hsp, h.A _ hA, hcs.mono (h.w _ hA), hu.closed h (by simpa [AV.closed] using hc)⟩
  | .agg l, v, hc, hr => by simp only [RepAV] at hr ⊢; obtain ⟨us, e, hu⟩ := hr; exact ⟨us, e, hu.closed h (by simpa [AV.closed] using hc)⟩
  | .ifc q l, v, hc, hr => by simp only [RepAV] at hr ⊢; obtain ⟨us, e, hu⟩ := hr; exact ⟨us, e, hu.closed h (by simpa [AV.closed] using hc)⟩
  | .tup l, v, hc, hr => by simp only [RepAV] at hr ⊢; obtain ⟨us, e, hu⟩ := hr; exact ⟨us, e, hu.closed h (by simpa [AV.closed] using hc)⟩
  | .fn f a b, v, hc, hr => by
    simp only [RepAV] at hr ⊢; obtain ⟨a', b', e, h1, h2⟩ := hr
    simp only [AV.closed, Bool.and_eq_true] at hc
    exact ⟨a', b', e, h1.closed h hc.1, h2.closed h hc.2⟩
  | .whole _, _, hc, _ | .sx _, _, hc, _ | .bld _, _, hc, _ | .ptr _ _, _, hc, _ | .eptr _ _ _, _, hc, _ | .dead, _, hc, _ => by simp [AV.closed] at hc
theorem RepAVs.closed {c c' : Cx} (h : c.Sub c') : ∀ {l vs}, RepAVs c l vs → closedL l = true → RepAVs c' l vs
  | [], _, hr, _ => by simpa only [RepAVs] using hr
  | x :: xs, _, hr, hc => by
    simp only [RepAVs] at hr ⊢
    simp only [closedL, Bool.and_eq_true] at hc
    obtain ⟨v, us, e, h1, h2⟩ := hr
    exact ⟨v, us, e, RepAV.closed h hc.1 h1, h2.closed h hc.2⟩
end
theorem ofConst1_rep (c : Cx) (v : Value) : RepAV c (ofConst1 v) v := by
  unfold ofConst1
  split <;> simp only [RepAV, Rep] <;> first | rfl | trivial | exact ⟨_, rfl⟩ | skip
theorem ofConst1s_rep (c : Cx) : ∀ l : List Value, RepAVs c (l.map ofConst1) l
  | [] => by simp [RepAVs]
  | v :: l => by simp only [List.map_cons, RepAVs]; exact ⟨v, l, rfl, ofConst1_rep c v, ofConst1s_rep c l⟩
theorem ofConst_rep (c : Cx) (v : Value) : RepAV c (ofConst v) v := by
  unfold ofConst
  split
  · rename_i l
    simp only [RepAV]
    exact ⟨l, rfl, ofConst1s_rep c l.toList⟩
  · exact ofConst1_rep c v
theorem ev_rep {c : Cx} {st : St} {a : Act} (h : RepAVs c st.slots a.tmps.toList) (x : Operand) : RepAV c (st.ev x) (a.eval x) := by
  cases x with
  | tmp t =>
    simp only [St.ev, Act.eval]
    cases hs : st.slots[t]? with
    | none => rw [List.getD_eq_getElem?_getD, hs]; simp only [Option.getD_none, RepAV]
    | some av =>
      obtain ⟨v, hv, hr⟩ := h.get t av hs
      rw [List.getD_eq_getElem?_getD, hs]
      have : a.tmps.getD t undef = v := by rw [Array.getD_eq_getD_getElem?, ← Array.getElem?_toList, hv]; rfl
      rw [this]; exact hr
  | const v => exact ofConst_rep c v
  | global g => simp only [St.ev, RepAV]
  | func f => simp only [St.ev, Act.eval, RepAV, RepAVs]; exact ⟨#[], #[], rfl, rfl, rfl⟩
theorem evs_rep {c : Cx} {st : St} {a : Act} (h : RepAVs c st.slots a.tmps.toList) : ∀ xs : List Operand, RepAVs c (xs.map st.ev) (xs.map a.eval)
  | [] => by simp [RepAVs]
  | x :: xs => by simp only [List.map_cons, RepAVs]; exact ⟨_, _, rfl, ev_rep h x, evs_rep h xs⟩

theorem Sim.put {A0 w0 st} {a : Act} {w μ} (h : Sim A0 w0 st a.tmps w μ) (dst : Option Nat) {av : AV} {v : Value} (hr : RepAV (cx A0 w0 st.recs st.lsts w μ) av v) :
    Sim A0 w0 (st.put dst av) (a.put dst v).tmps w μ := by
  cases dst with
  | none => exact h
  | some d =>
    refine ⟨?_, h.mem⟩
    simp only [St.put, Act.put, Array.toList_setIfInBounds]
    exact h.slots.set d hr

def Post (A0 : Dom) (w0 : World) (tmps : Array Value) (av : AV) (st' : St) (v : Value) (w' : World) : Prop :=
  ∃ μ', RepAV (cx A0 w0 st'.recs st'.lsts w' μ') av v ∧ Sim A0 w0 st' tmps w' μ'
def Fr (ρ : Option Nat) : Fence := { Fence.wide with round := ρ }
theorem callsIn_fr {P : Program} {n : Nat} {ρ : Option Nat} {f : FuncId} {args : Array Value} {w : World} {R : Ending → World → Prop} (h : Calls P f args w R) : CallsIn (Fr ρ) n P f args w R := by
  cases ρ with
  | none => exact callsIn_wide.2 h
  | some l => exact (callsIn_wide.2 h : CallsIn Fence.wide n P f args w R)
def Dok (B : Dom) (w0 : World) (A : Dom) : List Deferred → Prop
  | [] => True
  | d :: ds => (∃ D, d = { target := .collected D, args := #[] } ∧ A.F D ∧ A.X D ∧ A.wF.heap[D]? = some (.deferred (some [])) ∧ ¬ B.F D ∧ ¬ B.X D ∧ w0.heap.size ≤ D ∧ ∀ d' ∈ ds, d' ≠ { target := .collected D, args := #[] }) ∧ Dok B w0 A ds
theorem put_defers (a : Act) (d : Option Nat) (v : Value) : (a.put d v).defers = a.defers := by cases d <;> rfl
def OpOk (P : Program) (A0 : Dom) (w0 : World) (o : Oper) (a : Act) (w : World) (av : AV) (st' : St) : Prop :=
  ∀ (ρ : Option Nat) (n : Nat) (next : Act → World → Prop) (Q : Exit → Act → World → Prop), (∀ v w', Post A0 w0 a.tmps av st' v w' → next (a.put o.dst v) w') → o.wpIn (Fr ρ) n P a w next Q
def OpPan (P : Program) (A0 : Dom) (w0 : World) (o : Oper) (a : Act) (w : World) (av : AV) (st' : St) : Prop :=
  ∀ (ρ : Option Nat) (n : Nat) (next : Act → World → Prop) (Q : Exit → Act → World → Prop), (∀ v w', Post A0 w0 a.tmps av st' v w' → Q (.panic [{ v := v, recovered := false }]) a w') → o.wpIn (Fr ρ) n P a w next Q
section
variable {P : Program} {A0 : Dom} {w0 w : World} {st : St} {a : Act} {μ : Mu} {o : Oper}
theorem OpOk.run {av : AV} {st' : St} {v : Value} {w' : World} (hr : (execOp a.eval o).run P w = .ok (.value v) w') (hp : Post A0 w0 a.tmps av st' v w') (hnd : ∀ c, o.op ≠ .defer c := by intro c h; cases h) : OpOk P A0 w0 o a w av st' := by
  intro ρ n next Q hn
  refine ⟨fun f _ => trivial, ?_⟩
  rw [Oper.semAt_eq _ _ _ hnd, hr]; exact hn v w' hp
theorem OpOk.same (hs : Sim A0 w0 st a.tmps w μ) {av : AV} {v : Value} (hr : (execOp a.eval o).run P w = .ok (.value v) w) (hp : RepAV (cx A0 w0 st.recs st.lsts w μ) av v) (hnd : ∀ c, o.op ≠ .defer c := by intro c h; cases h) : OpOk P A0 w0 o a w av st :=
  OpOk.run hr ⟨μ, hp, hs⟩ hnd
end

theorem RepAVs.nil {c : Cx} {us} (h : RepAVs c [] us) : us = [] := by simpa only [RepAVs] using h
theorem RepAVs.cons' {c : Cx} {x xs us} (h : RepAVs c (x :: xs) us) : ∃ v vs, us = v :: vs ∧ RepAV c x v ∧ RepAVs c xs vs := by simpa only [RepAVs] using h
theorem RepAVs.cons {c : Cx} {x xs v vs} (h1 : RepAV c x v) (h2 : RepAVs c xs vs) : RepAVs c (x :: xs) (v :: vs) := by simp only [RepAVs]; exact ⟨_, _, rfl, h1, h2⟩

theorem SliceRep.ofV {A w} {items : List V} {a cap} {us : Nat → List Value} (hcap : items.length ≤ cap)
    (hmem : items = [] ∨ ∃ ad, a = some ad ∧ ad.spot = none ∧ A ad.block ∧ ∀ i, i < items.length → (us i).length = 5 ∧ ∀ j, j < 5 → w.cell? ⟨ad.block, ad.off + (i * 5 + j), none⟩ = (us i)[j]?)
    (hit : ∀ i (h : i < items.length), RepV A w items[i] (us i)) : SliceRep A w (RepV A w) items (.slice a items.length cap) := by
  refine ⟨a, cap, rfl, hcap, ?_⟩
  rcases hmem with hm | ⟨ad, ha, hsp, hA, hc⟩
  · exact .inl hm
  · refine .inr ⟨ad, (List.range items.length).flatMap us, ha, hsp, hA, ?_, ?_⟩
    · have key : ∀ (l : List V) (k : Nat) (us : Nat → List Value), (∀ i, i < l.length → (us i).length = 5 ∧ ∀ j, j < 5 → w.cell? ⟨ad.block, ad.off + ((k + i) * 5 + j), none⟩ = (us i)[j]?) →
          ∀ j, j < ((List.range l.length).flatMap us).length → w.cell? ⟨ad.block, ad.off + (k * 5 + j), none⟩ = ((List.range l.length).flatMap us)[j]? := by
        intro l
        induction l with
        | nil => intro k us _ j hj; simp at hj
        | cons x xs ih =>
          intro k us h j hj
          rw [List.length_cons, List.range_succ_eq_map, List.flatMap_cons, List.flatMap_map] at hj ⊢
          obtain ⟨h5, h0⟩ := h 0 (by simp)
          by_cases hlt : j < 5
          · rw [List.getElem?_append_left (by omega)]
            simpa using h0 j hlt
          · rw [List.getElem?_append_right (by omega)]
            have := ih (k + 1) (fun i => us (i + 1)) (fun i hi => by
              obtain ⟨h1, h2⟩ := h (i + 1) (by simpa using hi)
              exact ⟨h1, fun j hj => by rw [← h2 j hj]; congr 2; omega⟩) (j - 5) (by rw [List.length_append, h5] at hj; simp only [Nat.succ_eq_add_one] at hj; omega)
            simp only [Nat.succ_eq_add_one, h5]
            rw [← this]; congr 2; omega
      intro j hj
      have := key items 0 us (fun i hi => by simpa using hc i hi) j hj
      simpa using this
    · have key : ∀ (l : List V) (us : Nat → List Value), (∀ i (h : i < l.length), RepV A w l[i] (us i)) → RepAll (RepV A w) l ((List.range l.length).flatMap us) := by
        intro l
        induction l with
        | nil => intro us _; simp [RepAll]
        | cons x xs ih =>
          intro us h
          rw [List.length_cons, List.range_succ_eq_map, List.flatMap_cons, List.flatMap_map]
          exact ⟨us 0, _, rfl, h 0 (by simp), ih (fun i => us (i + 1)) fun i hi => h (i + 1) (by simpa using hi)⟩
      exact key items us hit
theorem SliceRep.toV {A w} {items : List V} {v} (h : SliceRep A w (RepV A w) items v) : ∃ a cap, ∃ us : Nat → List Value, v = .slice a items.length cap ∧ items.length ≤ cap ∧
    (items = [] ∨ ∃ ad, a = some ad ∧ ad.spot = none ∧ A ad.block ∧ ∀ i, i < items.length → (us i).length = 5 ∧ ∀ j, j < 5 → w.cell? ⟨ad.block, ad.off + (i * 5 + j), none⟩ = (us i)[j]?) ∧ ∀ i (h : i < items.length), RepV A w items[i] (us i) := by
  obtain ⟨a, cap, e, hcap, hm⟩ := h
  rcases hm with hm | ⟨ad, us, ha, hsp, hA, hc, hr⟩
  · exact ⟨a, cap, fun _ => [], e, hcap, .inl hm, fun i hi => by subst hm; simp at hi⟩
  · have get : ∀ i (hi : i < items.length), RepV A w items[i] ((us.drop (i * 5)).take 5) := by
      intro i hi
      obtain ⟨p, u, q, e1, hp, hu⟩ := hr.get (sz := 5) (fun x u h => h.length) i items[i] (List.getElem?_eq_getElem hi)
      rw [e1, List.drop_append, List.drop_of_length_le (by omega), List.nil_append, hp, Nat.sub_self, List.drop_zero, List.take_append_of_le_length (by rw [hu.length]; exact Nat.le_refl _), List.take_of_length_le (by rw [hu.length]; exact Nat.le_refl _)]
      exact hu
    refine ⟨a, cap, fun i => (us.drop (i * 5)).take 5, e, hcap, .inr ⟨ad, ha, hsp, hA, fun i hi => ⟨(get i hi).length, fun j hj => ?_⟩⟩, get⟩
    have hl := hr.length (sz := 5) fun x u h => h.length
    rw [hc (i * 5 + j) (by omega), List.getElem?_take_of_lt hj, List.getElem?_drop]

theorem RepV.cells {A w} {x : V} {us} (h : RepV A w x us) : ∃ iv kv, us = [.int .i64 x.kind, .int .i64 x.n, .string ⟨x.s.toArray⟩, iv, kv] ∧ SliceRep A w (RepV A w) x.items iv ∧ SliceRep A w (fun k vs => vs = [Value.string ⟨k.toArray⟩]) x.keys kv := by
  cases h with
  | mk kind n s items keys a cap kv us hcap hmem hit hkeys => exact ⟨_, _, rfl, SliceRep.ofV hcap hmem hit, hkeys⟩
theorem RepV.of {A w} {kind n : Int} {s items keys iv kv} (h1 : SliceRep A w (RepV A w) items iv) (h2 : SliceRep A w (fun k vs => vs = [Value.string ⟨k.toArray⟩]) keys kv) :
    RepV A w (.mk kind n s items keys) [.int .i64 kind, .int .i64 n, .string ⟨s.toArray⟩, iv, kv] := by
  obtain ⟨a, cap, us, rfl, hcap, hm, hit⟩ := h1.toV
  exact .mk kind n s items keys a cap kv us hcap hm hit h2

theorem unpack_rep {c : Cx} : ∀ {t : Ty} {x : t.den} {us}, Rep c.A c.w t x us → RepAVs c (unpack t x) us
  | .unit, _, us, h => by simp only [Rep] at h; simp only [unpack, RepAVs]; exact h
  | .bool, _, _, h | .int _, _, _, h | .str, _, _, h => by simp only [Rep] at h; subst h; simp only [unpack]; exact RepAVs.one (by simp only [RepAV, Rep])
  | .list _, _, _, h => by obtain ⟨v, rfl, h⟩ := h; simp only [unpack]; exact RepAVs.one (by simp only [RepAV, Rep]; exact ⟨v, rfl, h⟩)
  | .prod a b, _, _, h => by obtain ⟨u1, u2, rfl, h1, h2⟩ := h; simp only [unpack]; exact (unpack_rep h1).append (unpack_rep h2)
  | .value, x, _, h => by
    obtain ⟨iv, kv, rfl, h1, h2⟩ := RepV.cells h
    simp only [unpack, RepAVs, RepAV, Rep]
    exact ⟨_, _, rfl, rfl, _, _, rfl, rfl, _, _, rfl, rfl, _, _, rfl, ⟨_, rfl, h1⟩, _, _, rfl, ⟨_, rfl, h2⟩, rfl⟩

theorem asTy_rep {c : Cx} {A' : Nat → Prop} {lsts : List (Option LObj)} (hA : ∀ b, c.A b → A' b) (hl : ∀ t o v, getL lsts t = some o → o.e.isMap = false → RepAV c (.whole t) v → Rep A' c.w (.list o.e) o.xs [v])
    {t : Ty} {av : AV} {x : t.den} {v} (h : asTy lsts t av = some x) (hr : RepAV c av v) : Rep A' c.w t x [v] := by
  cases av <;> simp only [asTy] at h
  case d t' y =>
    split at h
    · rename_i e; subst e; simp only [Option.some.injEq] at h; subst h
      simp only [RepAV] at hr; exact hr.mono hA fun _ _ => rfl
    · cases h
  case full e y =>
    split at h
    · rename_i e; subst e; simp only [Option.some.injEq] at h; subst h
      simp only [RepAV] at hr; exact hr.2.mono hA fun _ _ => rfl
    · cases h
  case nilS =>
    cases t <;> simp only at h <;> first | cases h | skip
    simp only [RepAV] at hr
    subst hr
    exact ⟨_, rfl, none, 0, rfl, Nat.le_refl _, .inl rfl⟩
  case whole j =>
    split at h
    · rename_i o ho
      split at h
      · cases h
      · rename_i hp
        split at h
        · rename_i e; subst e; simp only [Option.some.injEq] at h; subst h
          exact hl j o v ho hp hr
        · cases h
    · cases h
  all_goals cases h

theorem packTo_rep {c : Cx} {A' : Nat → Prop} {lsts : List (Option LObj)} (hA : ∀ b, c.A b → A' b) (hl : ∀ t o v, getL lsts t = some o → o.e.isMap = false → RepAV c (.whole t) v → Rep A' c.w (.list o.e) o.xs [v]) :
    ∀ {t : Ty} {l : List AV} {z : t.den × List AV} {us}, packTo lsts t l = some z → RepAVs c l us → ∃ u1 u2, us = u1 ++ u2 ∧ Rep A' c.w t z.1 u1 ∧ RepAVs c z.2 u2
  | .unit, l, z, us, h, hr => by simp only [packTo, Option.some.injEq] at h; subst h; exact ⟨[], us, rfl, rfl, hr⟩
  | .prod a b, l, z, us, h, hr => by
    simp only [packTo, Option.bind_eq_some_iff] at h
    obtain ⟨r, h1, q, h2, e⟩ := h
    simp only [Option.some.injEq] at e; subst e
    obtain ⟨u1, u2, rfl, g1, g2⟩ := packTo_rep hA hl h1 hr
    obtain ⟨u3, u4, rfl, g3, g4⟩ := packTo_rep hA hl h2 g2
    exact ⟨u1 ++ u3, u4, by simp, ⟨u1, u3, rfl, g1, g3⟩, g4⟩
  | .value, c1 :: c2 :: c3 :: c4 :: c5 :: l, z, us, h, hr => by
    simp only [packTo, Option.bind_eq_some_iff] at h
    obtain ⟨x1, h1, x2, h2, x3, h3, x4, h4, x5, h5, e⟩ := h
    simp only [Option.some.injEq] at e; subst e
    obtain ⟨v1, _, rfl, r1, hr1⟩ := hr.cons'
    obtain ⟨v2, _, rfl, r2, hr2⟩ := hr1.cons'
    obtain ⟨v3, _, rfl, r3, hr3⟩ := hr2.cons'
    obtain ⟨v4, _, rfl, r4, hr4⟩ := hr3.cons'
    obtain ⟨v5, us, rfl, r5, hr5⟩ := hr4.cons'
    have e1 := asTy_rep hA hl h1 r1; have e2 := asTy_rep hA hl h2 r2; have e3 := asTy_rep hA hl h3 r3; have e4 := asTy_rep hA hl h4 r4; have e5 := asTy_rep hA hl h5 r5
    simp only [Rep, List.cons.injEq, and_true] at e1 e2 e3
    obtain ⟨v, e, e4⟩ := e4; simp only [List.cons.injEq, and_true] at e; subst e
    obtain ⟨v, e, e5⟩ := e5; simp only [List.cons.injEq, and_true] at e; subst e
    subst e1; subst e2; subst e3
    exact ⟨[_, _, _, _, _], us, rfl, RepV.of e4 e5, hr5⟩
  | .bool, c1 :: l, z, us, h, hr => by
    simp only [packTo, Option.bind_eq_some_iff] at h; obtain ⟨x1, h1, e⟩ := h; simp only [Option.some.injEq] at e; subst e
    obtain ⟨v1, us, rfl, r1, hr1⟩ := hr.cons'; exact ⟨[v1], us, rfl, asTy_rep hA hl h1 r1, hr1⟩
  | .int k, c1 :: l, z, us, h, hr => by
    simp only [packTo, Option.bind_eq_some_iff] at h; obtain ⟨x1, h1, e⟩ := h; simp only [Option.some.injEq] at e; subst e
    obtain ⟨v1, us, rfl, r1, hr1⟩ := hr.cons'; exact ⟨[v1], us, rfl, asTy_rep hA hl h1 r1, hr1⟩
  | .str, c1 :: l, z, us, h, hr => by
    simp only [packTo, Option.bind_eq_some_iff] at h; obtain ⟨x1, h1, e⟩ := h; simp only [Option.some.injEq] at e; subst e
    obtain ⟨v1, us, rfl, r1, hr1⟩ := hr.cons'; exact ⟨[v1], us, rfl, asTy_rep hA hl h1 r1, hr1⟩
  | .list e, c1 :: l, z, us, h, hr => by
    simp only [packTo, Option.bind_eq_some_iff] at h; obtain ⟨x1, h1, e⟩ := h; simp only [Option.some.injEq] at e; subst e
    obtain ⟨v1, us, rfl, r1, hr1⟩ := hr.cons'; exact ⟨[v1], us, rfl, asTy_rep hA hl h1 r1, hr1⟩
  | .bool, [], _, _, h, _ | .int _, [], _, _, h, _ | .str, [], _, _, h, _ | .list _, [], _, _, h, _ | .value, [], _, _, h, _ | .value, [_], _, _, h, _ | .value, [_, _], _, _, h, _ | .value, [_, _, _], _, _, h, _ | .value, [_, _, _, _], _, _, h, _ => by simp [packTo] at h
theorem no_lists {c : Cx} {A' : Nat → Prop} (t : Nat) (o : LObj) (v : Value) (h : getL ([] : List (Option LObj)) t = some o) (_ : o.e.isMap = false) : RepAV c (.whole t) v → Rep A' c.w (.list o.e) o.xs [v] := by simp [getL] at h
end Go.Pe
end
section
namespace Go.Pe
open Go.RowKit
set_option linter.unusedSectionVars false
variable [GI]
set_option linter.unusedSimpArgs false
set_option linter.unusedVariables false

theorem toList_str (s : List UInt8) : (⟨s.toArray⟩ : ByteArray).toList = s := by rw [ByteArray.toList_eq]
theorem size_str (s : List UInt8) : (⟨s.toArray⟩ : ByteArray).size = s.length := by simp [ByteArray.size]
theorem get_str (s : List UInt8) (n : Nat) : (⟨s.toArray⟩ : ByteArray)[n]? = s[n]? := by
  by_cases h : n < s.length
  · rw [List.getElem?_eq_getElem h, getElem?_pos _ _ (by rw [size_str]; exact h)]; rfl
  · rw [List.getElem?_eq_none (by omega), getElem?_neg _ _ (by rw [size_str]; exact h)]
theorem extract_str (s : List UInt8) (l h : Nat) : (⟨s.toArray⟩ : ByteArray).extract l h = ⟨((s.take h).drop l).toArray⟩ := by
  apply ByteArray.ext
  simp [ByteArray.data_extract, List.extract_eq_take_drop, List.drop_take]

section
variable {P : Program} {S : Type} {c : Cx} {w : World}

theorem guard_ok (op : BinOp) (t : TypeId) (X Y : Operand) (x y : Value) (hx : (∀ a, x ≠ .agg a) ∧ x ≠ .nilIface) : (eqGuard op t X Y x y).run P w = .ok () w := by
  unfold eqGuard
  obtain ⟨h1, h2⟩ := hx
  cases op <;> simp <;> cases x <;> simp_all

theorem int_run (op : BinOp) (t : TypeId) (k : IntKind) (x y : Int) (K : AV → Option S) (r : S) (h : evInt op k x y K = some r) (hop : op ≠ .shl ∧ op ≠ .shr) :
    ∃ av v, K av = some r ∧ (binOp op t (.int k x) (.int k y)).run P w = .ok v w ∧ RepAV c av v := by
  obtain ⟨h1, h2⟩ := hop
  cases op <;> simp only [evInt] at h <;> first | (exact absurd rfl h1) | (exact absurd rfl h2) | cases h | skip
  case quo =>
    split at h
    · cases h
    · rename_i hy
      exact ⟨_, .int k (k.wrap (x.tdiv y)), h, by simp [binOp, Op.intDiv, hy], by simp only [RepAV, Rep]⟩
  case rem =>
    split at h
    · cases h
    · rename_i hy
      exact ⟨_, .int k (x.tmod y), h, by simp [binOp, Op.intDiv, hy], by simp only [RepAV, Rep]⟩
  all_goals exact ⟨_, _, h, by simp only [binOp, Op.intArith, Op.intBits, Op.intCmp, ne_eq, not_true, if_false]; rfl, by simp only [RepAV, Rep]⟩

theorem str_run (op : BinOp) (t : TypeId) (x y : List UInt8) (K : AV → Option S) (r : S) (h : evStr op x y K = some r) :
    ∃ av v, K av = some r ∧ (binOp op t (.string ⟨x.toArray⟩) (.string ⟨y.toArray⟩)).run P w = .ok v w ∧ RepAV c av v := by
  cases op <;> simp only [evStr] at h <;> first | cases h | skip
  case add =>
    split at h
    · rename_i hl
      refine ⟨_, .string ⟨(x ++ y).toArray⟩, h, ?_, by simp only [RepAV, Rep]⟩
      simp only [binOp]
      rw [run_string_add_sum w _ _ (by rw [size_str, size_str]; omega), ByteArray.mk_append_mk]
    · cases h
  all_goals exact ⟨_, _, h, by simp only [binOp, Op.stringOp, toList_str]; rfl, by simp only [RepAV, Rep, bne]⟩

theorem un_run (op : UnOp) {x : AV} {vx : Value} (hx : RepAV c x vx) (K : AV → Option S) (r : S) (h : evUn op x K = some r) :
    ∃ av v, K av = some r ∧ (Op.unary op vx).run P w = .ok v w ∧ RepAV c av v := by
  unfold evUn at h
  split at h
  · simp only [RepAV, Rep, List.cons.injEq, and_true] at hx; subst hx
    exact ⟨_, _, h, rfl, by simp only [RepAV, Rep]⟩
  · simp only [RepAV, Rep, List.cons.injEq, and_true] at hx; subst hx
    exact ⟨_, _, h, rfl, by simp only [RepAV, Rep]⟩
  · cases h

variable {ε : Env}
theorem bytes_beq (a b : List UInt8) : ((⟨a.toArray⟩ : ByteArray) == ⟨b.toArray⟩) = (a == b) := by
  rw [Go.beq_toListBytes, toList_str, toList_str]
theorem part_scalar {t : TypeId} {us : Array Value} {i : Nat} {v : Value} (ht : P.underlying t = some .bool ∨ (∃ k, P.underlying t = some (.int k)) ∨ P.underlying t = some .string) (hi : us[i]? = some v) : (part t us i).run P w = .ok v w := by
  have hagg : (isAgg t).run P w = .ok false w := by
    unfold isAgg
    rcases ht with hu | ⟨k, hu⟩ | hu <;> simp [run_underlying hu]
  unfold part
  simp [hagg, hi]
theorem eqField_run (hε : EnvOk P ε) {f : Field} {d : Nat} {x y : AV} {vx vy : Value} {b : Bool} (hx : RepAV c x vx) (hy : RepAV c y vy) (h : eqField ε f x y = some b) :
    (P.underlying f.type = some .bool ∨ (∃ k, P.underlying f.type = some (.int k)) ∨ P.underlying f.type = some .string) ∧ (Op.equalIn (d + 1) f.type vx vy).run P w = .ok b w := by
  unfold eqField at h
  split at h
  · rename_i i hi
    have hu := (hε.ti _ i hi).under
    unfold eqCell at h
    split at h
    · rename_i hd
      rw [hd] at hu
      simp only [RepAV, Rep, List.cons.injEq, and_true] at hx hy
      subst hx; subst hy; cases h
      exact ⟨.inl hu, by simp [Op.equalIn, run_underlying hu]⟩
    · rename_i hd
      rw [hd] at hu
      split at h
      · rename_i e; subst e
        simp only [RepAV, Rep, List.cons.injEq, and_true] at hx hy
        subst hx; subst hy; cases h
        exact ⟨.inr (.inl ⟨_, hu⟩), by simp [Op.equalIn, run_underlying hu]⟩
      · cases h
    · rename_i hd
      rw [hd] at hu
      simp only [RepAV, Rep, List.cons.injEq, and_true] at hx hy
      subst hx; subst hy; cases h
      exact ⟨.inr (.inr hu), by simp [Op.equalIn, run_underlying hu, bytes_beq]⟩
    · cases h
  · cases h
theorem eqCells_run (hε : EnvOk P ε) {d : Nat} : ∀ (fs : List Field) (xs ys : List AV) (us vs pu pv : List Value) (ua va : Array Value) (i : Nat) (r : Bool), eqFs i fs = true → pu.length = i → pv.length = i → ua.toList = pu ++ us → va.toList = pv ++ vs → RepAVs c xs us → RepAVs c ys vs →
    eqCells ε fs xs ys = some r → (Op.eqFields (d + 1) ua va fs).run P w = .ok r w := by
  intro fs
  induction fs with
  | nil =>
    intro xs ys us vs pu pv ua va i r _ _ _ _ _ _ _ h
    cases xs <;> cases ys <;> simp [eqCells] at h
    subst h; simp [Op.eqFields]
  | cons f fs ih =>
    intro xs ys us vs pu pv ua va i r hof h1 h2 h3 h4 hu hv h
    simp only [eqFs, Bool.and_eq_true] at hof
    obtain ⟨⟨hn, ho⟩, hof⟩ := hof
    have ho := Nat.eq_of_beq_eq_true ho
    have hn' : f.name ≠ "_" := by simpa using hn
    cases xs with
    | nil => simp [eqCells] at h
    | cons x xs =>
    cases ys with
    | nil => cases xs <;> cases fs <;> simp [eqCells] at h
    | cons y ys =>
    obtain ⟨u, us', rfl, hu1, hu2⟩ := hu.cons'
    obtain ⟨v, vs', rfl, hv1, hv2⟩ := hv.cons'
    have e1 : ua[f.offset]? = some u := by rw [← Array.getElem?_toList, h3, ho, ← h1]; simp
    have e2 : va[f.offset]? = some v := by rw [← Array.getElem?_toList, h4, ho, ← h2]; simp
    have key : ∀ b s, eqField ε f x y = some b → (Op.eqFields (d + 1) ua va fs).run P w = .ok s w → (Op.eqFields (d + 1) ua va (f :: fs)).run P w = .ok (b && s) w := by
      intro b s hb hs
      obtain ⟨g1, g2⟩ := eqField_run (P := P) (c := c) (w := w) (d := d) hε hu1 hv1 hb
      simp only [Op.eqFields, if_pos hn', Sem.run_bind, part_scalar g1 e1, part_scalar g1 e2, g2, Result.andThen_ok]
      cases b
      · simp
      · simpa using hs
    have rest : ∀ s, eqCells ε fs xs ys = some s → (Op.eqFields (d + 1) ua va fs).run P w = .ok s w := fun s hs =>
      ih xs ys us' vs' (pu ++ [u]) (pv ++ [v]) ua va (i + 1) s hof (by simp [h1]) (by simp [h2]) (by simp [h3]) (by simp [h4]) hu2 hv2 hs
    by_cases hlast : fs = [] ∧ xs = [] ∧ ys = []
    · obtain ⟨rfl, rfl, rfl⟩ := hlast
      have := key r true (by simpa [eqCells] using h) (by simp [Op.eqFields])
      simpa using this
    · have h' : ((eqField ε f x y).bind fun b => (eqCells ε fs xs ys).bind fun r => some (b && r)) = some r := by
        cases fs <;> cases xs <;> cases ys <;> simp_all [eqCells]
      simp only [Option.bind_eq_some_iff, Option.some.injEq] at h'
      obtain ⟨b, hb, s, hs, rfl⟩ := h'
      exact key b s hb (rest s hs)
theorem bin_run (hε : EnvOk P ε) (op : BinOp) (t : TypeId) {x y : AV} {vx vy : Value} (hx : RepAV c x vx) (hy : RepAV c y vy) (X Y : Operand) (K : AV → Option S) (r : S) (h : evBin ε op t x y K = some r) :
    ∃ av v, K av = some r ∧ (do eqGuard op t X Y vx vy; binOp op t vx vy : Sem Value).run P w = .ok v w ∧ RepAV c av v := by
  unfold evBin at h
  split at h
  · simp only [RepAV, Rep, List.cons.injEq, and_true] at hx hy
    subst hx; subst hy
    rename_i k a k' b
    have hg : ∀ op X Y, (eqGuard op t X Y (.int k a) (.int k' b)).run P w = .ok () w := fun op X Y => guard_ok op t X Y _ _ ⟨by simp, by simp⟩
    split at h
    · split at h
      · cases h
      · rename_i hb
        exact ⟨_, .int k (k.wrap (a * 2 ^ (min b.toNat k.bits))), h, by simp [hg, binOp, Op.shift, hb], by simp only [RepAV, Rep]⟩
    · split at h
      · cases h
      · rename_i hb
        exact ⟨_, .int k (a.fdiv (2 ^ (min b.toNat k.bits))), h, by simp [hg, binOp, Op.shift, hb], by simp only [RepAV, Rep]⟩
    · split at h
      · rename_i h1 h2 hk
        subst hk
        obtain ⟨av, v, hK, hr, hp⟩ := int_run (P := P) (c := c) (w := w) op t k a b K r h ⟨h1, h2⟩
        exact ⟨av, v, hK, by simp [hg, hr], hp⟩
      · cases h
  · simp only [RepAV, Rep, List.cons.injEq, and_true] at hx hy
    subst hx; subst hy
    obtain ⟨av, v, hK, hr, hp⟩ := str_run (P := P) (c := c) (w := w) op t _ _ K r h
    refine ⟨av, v, hK, ?_, hp⟩
    rename_i a b
    have hg := guard_ok (P := P) (w := w) op t X Y (.string ⟨a.toArray⟩) (.string ⟨b.toArray⟩) ⟨by simp, by simp⟩
    simp [hg, hr]
  · rename_i a b
    simp only [RepAV] at hx hy
    obtain ⟨us, rfl, hu⟩ := hx
    obtain ⟨vs, rfl, hv⟩ := hy
    split at h
    · rename_i fs hfs
      unfold eqT at hfs
      split at hfs
      · rename_i i hi
        split at hfs
        · rename_i heq
          split at hfs
          · rename_i fs' hdesc
            cases hfs
            obtain ⟨fs2, hu2, hst, hgt, hof⟩ := (hε.ti t i hi).eq heq
            have hu3 := (hε.ti t i hi).under
            rw [hdesc, hu2] at hu3
            cases hu3
            have key : ∀ r, eqCells ε fs'.toList a b = some r → (Op.equal t (.agg us) (.agg vs)).run P w = .ok r w := by
              intro r hr
              have hff : P.fieldsOf t = fs' := by simp [Program.fieldsOf, hu2]
              unfold Op.equal
              rw [show Op.maxDepth = (Op.maxDepth - 2) + 1 + 1 from by decide, run_equalIn_struct w _ t us vs (by rw [hff]; exact hu2) hst, hff]
              exact eqCells_run hε fs'.toList a b us.toList vs.toList [] [] us vs 0 r hof rfl rfl rfl rfl hu hv hr
            have hg : ∀ op, (eqGuard op t X Y (.agg us) (.agg vs)).run P w = .ok () w := by
              intro op
              unfold eqGuard
              cases op <;> simp [hgt, Go.program, Sem.run]
            cases op <;> simp only at h <;> first | cases h | skip
            · simp only [Option.bind_eq_some_iff] at h
              obtain ⟨r', hr', h⟩ := h
              exact ⟨_, .bool r', h, by simp [hg, binOp, key r' hr'], by simp only [RepAV, Rep]⟩
            · simp only [Option.bind_eq_some_iff] at h
              obtain ⟨r', hr', h⟩ := h
              exact ⟨_, .bool (!r'), h, by simp [hg, binOp, key r' hr'], by simp only [RepAV, Rep]⟩
          · cases hfs
        · cases hfs
      · cases hfs
    · cases h
  · split at h
    · rename_i a b _ hb
      change Bool at a b
      simp only [RepAV, Rep, List.cons.injEq, and_true] at hx hy
      subst hx; subst hy
      have hu : P.underlying t = some .bool := by
        unfold isBool at hb
        split at hb
        · rename_i i hi
          split at hb
          · rename_i hd; rw [(hε.ti t i hi).under, hd]
          · cases hb
        · cases hb
      have hg := guard_ok (P := P) (w := w) op t X Y (.bool a) (.bool b) ⟨by simp, by simp⟩
      have he : (Op.equal t (.bool a) (.bool b)).run P w = .ok (a == b) w := by
        unfold Op.equal
        rw [show Op.maxDepth = (Op.maxDepth - 1) + 1 from by decide]
        unfold Op.equalIn
        simp only [Sem.run_bind, run_underlying hu, Result.andThen_ok]
        rfl
      cases op <;> simp only [evBool] at h <;> first | cases h | skip
      · exact ⟨_, .bool (a == b), h, by simp [hg, binOp, he], by simp only [RepAV, Rep]⟩
      · exact ⟨_, .bool (a != b), h, by simp [hg, binOp, he, bne], by simp only [RepAV, Rep]⟩
    · cases h
  · cases h

variable (hε : EnvOk P ε)
include hε
theorem elemT_ok {t et : Nat} (h : elemT ε t = some et) : P.underlying t = some (.slice et) := by
  unfold elemT at h
  split at h
  · rename_i i hi
    split at h
    · rename_i e hd
      cases h
      rw [(hε.ti t i hi).under, hd]
    · cases h
  · cases h
theorem isStr_ok {t : Nat} (h : isStr ε t = true) : P.underlying t = some .string := by
  unfold isStr at h
  split at h
  · rename_i i hi
    split at h
    · rename_i hd; rw [(hε.ti t i hi).under, hd]
    · cases h
  · cases h
theorem szOk_ok {t : Nat} {e : Ty} (h : szOk ε t e = true) : ∃ et inf, P.underlying t = some (.slice et) ∧ P.info? et = some inf ∧ inf.size = e.size := by
  unfold szOk at h
  split at h
  · rename_i et het
    split at h
    · rename_i i hi
      obtain ⟨inf, h1, h2, _⟩ := (hε.ti et i hi).info
      exact ⟨et, inf, elemT_ok hε het, h1, by rw [h2]; exact beq_iff_eq.1 h⟩
    · cases h
  · cases h
theorem isByteSlice_ok {t : Nat} (h : isByteSlice ε t = true) : ∃ et inf, P.underlying t = some (.slice et) ∧ P.underlying et = some (.int .u8) ∧ P.info? et = some inf ∧ inf.size = 1 := by
  unfold isByteSlice at h
  split at h
  · rename_i et het
    split at h
    · rename_i i hi
      split at h
      · rename_i hd
        obtain ⟨inf, h1, h2, _⟩ := (hε.ti et i hi).info
        exact ⟨et, inf, elemT_ok hε het, by rw [(hε.ti et i hi).under, hd], h1, by rw [h2]; exact beq_iff_eq.1 h⟩
      · cases h
    · cases h
  · cases h

omit hε in
theorem list_rep {lsts : List (Option LObj)} (hc : c.lsts = lsts) (hl : ∀ t o, getL lsts t = some o → LstAt c t o) {x : AV} {v : Value} {o : LObj} (hx : RepAV c x v) (h : x.list lsts = some o) :
    ∃ a cap, v = .slice a o.xs.length cap ∧ o.xs.length ≤ cap := by
  unfold AV.list at h
  split at h
  · cases h; simp only [RepAV, Rep] at hx
    obtain ⟨v', e, a, cap, rfl, hc, _⟩ := hx
    simp only [List.cons.injEq, and_true] at e; subst e; exact ⟨a, cap, rfl, hc⟩
  · cases h; simp only [RepAV] at hx
    obtain ⟨⟨a, rfl⟩, _⟩ := hx; exact ⟨a, _, rfl, Nat.le_refl _⟩
  · rename_i t
    simp only [RepAV, hc] at hx
    obtain ⟨h, hp⟩ : getL lsts t = some o ∧ o.e.isMap = false := by
      split at h
      · rename_i o' ho'
        split at h
        · cases h
        · rename_i hp; cases h; exact ⟨ho', hp⟩
      · cases h
    have := (WholeAt.plain hp).1 (hx.2.2 o h)
    rcases (LstAt.plain hp).1 (hl t o h) with ⟨h1, h2⟩ | ⟨b, vs, hb, ho, hsz, hcap, _⟩ <;> rcases this with ⟨h3, rfl⟩ | ⟨b', h3, rfl⟩
    · exact ⟨none, 0, by rw [h2]; rfl, by rw [h2]; exact Nat.le_refl _⟩
    · rw [h1] at h3; cases h3
    · rw [h3] at hb; cases hb
    · exact ⟨_, _, rfl, hcap⟩
  · cases h

theorem len_run {t : Nat} {ts : Array Nat} (ht : ts[0]? = some t) (ty : TypeId) {lsts : List (Option LObj)} (hc : c.lsts = lsts) (hl : ∀ t o, getL lsts t = some o → LstAt c t o) {x : AV} {vx : Value} (hx : RepAV c x vx) (K : AV → Option S) (r : S) (h : evLen ε t lsts x K = some r) :
    ∃ av v, K av = some r ∧ (Builtin.len_ ts ty #[vx]).run P w = .ok v w ∧ RepAV c av v := by
  unfold evLen at h
  split at h
  · split at h
    · rename_i hs
      simp only [RepAV, Rep, List.cons.injEq, and_true] at hx; subst hx
      exact ⟨_, _, h, by simp [Builtin.len_, ht, run_underlying (isStr_ok hε hs), size_str]; rfl, by simp only [RepAV, Rep, goInt]⟩
    · cases h
  · split at h
    · rename_i hs
      obtain ⟨et, he⟩ := Option.isSome_iff_exists.1 hs
      simp only [RepAV] at hx; subst hx
      exact ⟨_, _, h, by simp [Builtin.len_, ht, run_underlying (elemT_ok hε he)]; rfl, by simp only [RepAV, Rep, goInt]⟩
    · cases h
  · split at h
    · rename_i hs
      obtain ⟨et, he⟩ := Option.isSome_iff_exists.1 hs
      simp only [RepAV, RepSX] at hx
      obtain ⟨cap, _, rfl, h0⟩ := hx
      unfold hdrV
      split
      · rename_i hn
        exact ⟨_, _, h, by simp [Builtin.len_, ht, run_underlying (elemT_ok hε he)]; rfl, by simp only [RepAV, Rep, goInt]; rw [h0 hn]; rfl⟩
      · exact ⟨_, _, h, by simp [Builtin.len_, ht, run_underlying (elemT_ok hε he)]; rfl, by simp only [RepAV, Rep, goInt]⟩
    · cases h
  · split at h
    · rename_i hs
      obtain ⟨et, he⟩ := Option.isSome_iff_exists.1 hs
      simp only [RepAV, RepSX] at hx
      obtain ⟨cap, b, _, _, rfl, _⟩ := hx
      exact ⟨_, _, h, by simp [Builtin.len_, ht, run_underlying (elemT_ok hε he)]; rfl, by simp only [RepAV, Rep, goInt]⟩
    · cases h
  · split at h
    · rename_i hs
      obtain ⟨et, he⟩ := Option.isSome_iff_exists.1 hs
      split at h
      · rename_i o ho
        obtain ⟨a, cap, rfl, _⟩ := list_rep hc hl hx ho
        exact ⟨_, _, h, by simp [Builtin.len_, ht, run_underlying (elemT_ok hε he)]; rfl, by simp only [RepAV, Rep, goInt]⟩
      · cases h
    · cases h

theorem index_run {t : Nat} {x i : AV} {vx vi : Value} (hx : RepAV c x vx) (hi : RepAV c i vi) (K : AV → Option S) (r : S) (h : evIndex ε t x i K = some r) :
    ∃ av v, K av = some r ∧ (Instr.index t vx vi).run P w = .ok v w ∧ RepAV c av v := by
  unfold evIndex at h
  split at h
  · split at h
    · rename_i hs
      simp only [RepAV, Rep, List.cons.injEq, and_true] at hx hi; subst hx; subst hi
      simp only [Option.bind_eq_some_iff] at h
      obtain ⟨b, hb, h⟩ := h
      unfold nth at hb
      refine ⟨_, _, h, ?_, by simp only [RepAV, Rep]; rfl⟩
      simp only [Instr.index, asIntOf, Sem.run_bind, Sem.run_pure, Result.andThen_ok, run_underlying (isStr_ok hε hs), get_str, hb]
    · cases h
  · cases h

omit hε in
theorem cut_run {α : Type} (L : List α) {lo hi : Option AV} {vlo vhi : Option Value} {b : Bool} {cap : Nat}
    (hlo : match lo, vlo with | none, none => True | some a, some v => RepAV c a v | _, _ => False)
    (hhi : match hi, vhi with | none, none => True | some a, some v => RepAV c a v | _, _ => False)
    (hcap : L.length ≤ cap) (K : List α → Option S) (r : S) (h : cut L lo hi K = some r) :
    ∃ l h' : Nat, l ≤ h' ∧ h' ≤ L.length ∧ K ((L.take h').drop l) = some r ∧ (Instr.sliceBounds b L.length cap vlo vhi none).run P w = .ok (l, h', cap) w := by
  unfold cut at h
  split at h
  · cases vlo <;> cases vhi <;> simp only at hlo hhi
    refine ⟨0, L.length, Nat.zero_le _, Nat.le_refl _, by simpa using h, ?_⟩
    simp [Instr.sliceBounds]
  · rename_i k a
    unfold cutLo at h
    split at h
    · rename_i hh
      cases vlo <;> cases vhi <;> simp only at hlo hhi
      simp only [RepAV, Rep, List.cons.injEq, and_true] at hlo; subst hlo
      refine ⟨Int.toNat a, L.length, by omega, Nat.le_refl _, by simpa using h, ?_⟩
      simp [Instr.sliceBounds, Instr.sliceBound, asIntOf, hh]
    · cases h
  · rename_i k a
    change Int at a
    unfold cutHi at h
    split at h
    · rename_i hh
      cases vlo <;> cases vhi <;> simp only at hlo hhi
      simp only [RepAV, Rep, List.cons.injEq, and_true] at hhi; subst hhi
      refine ⟨0, Int.toNat a, by omega, by omega, by simpa using h, ?_⟩
      have : 0 ≤ (a : Int) ∧ (a : Int) ≤ (cap : Int) := by omega
      simp [Instr.sliceBounds, Instr.sliceBound, asIntOf, this]
    · cases h
  · rename_i k a k' b
    change Int at a; change Int at b
    unfold cutMid at h
    split at h
    · rename_i hh
      cases vlo <;> cases vhi <;> simp only at hlo hhi
      simp only [RepAV, Rep, List.cons.injEq, and_true] at hhi hlo; subst hhi; subst hlo
      refine ⟨Int.toNat a, Int.toNat b, by omega, by omega, h, ?_⟩
      have h1 : 0 ≤ (b : Int) ∧ (b : Int) ≤ (cap : Int) := by omega
      have h3 : ((Int.toNat b : Nat) : Int) = b := by omega
      simp [Instr.sliceBounds, Instr.sliceBound, asIntOf, h1, hh.1, hh.2.1, h3]
    · cases h
  · cases h
omit hε in
theorem cut_run3 {α : Type} (L : List α) {lo : Option AV} {vlo : Option Value} {b : Bool} {cap : Nat} {k k' : IntKind} {n : Int}
    (hlo : match lo, vlo with | none, none => True | some a, some v => RepAV c a v | _, _ => False)
    (hcap : L.length ≤ cap) (K : List α → Option S) (r : S) (h : cut L lo (some (.d (.int k) n)) K = some r) :
    ∃ l h' : Nat, l ≤ h' ∧ h' ≤ L.length ∧ K ((L.take h').drop l) = some r ∧ (Instr.sliceBounds b L.length cap vlo (some (.int k n)) (some (.int k' n))).run P w = .ok (l, h', h') w := by
  unfold cut at h
  split at h
  · rename_i hh; cases hh
  · rename_i hh; cases hh
  · rename_i k a hk
    cases hk
    unfold cutHi at h
    split at h
    · rename_i hh
      cases vlo <;> simp only at hlo
      refine ⟨0, Int.toNat n, by omega, by omega, by simpa using h, ?_⟩
      have : 0 ≤ n ∧ n ≤ (cap : Int) := by omega
      have h4 : ((Int.toNat n : Nat) : Int) = n := by omega
      simp [Instr.sliceBounds, Instr.sliceBound, asIntOf, this, h4]
    · cases h
  · rename_i k a k' b hk
    cases hk
    change Int at a
    unfold cutMid at h
    split at h
    · rename_i hh
      cases vlo <;> simp only at hlo
      simp only [RepAV, Rep, List.cons.injEq, and_true] at hlo; subst hlo
      refine ⟨Int.toNat a, Int.toNat n, by omega, by omega, h, ?_⟩
      have h1 : 0 ≤ n ∧ n ≤ (cap : Int) := by omega
      have h3 : ((Int.toNat n : Nat) : Int) = n := by omega
      simp [Instr.sliceBounds, Instr.sliceBound, asIntOf, h1, hh.1, hh.2.1, h3]
    · cases h
  · cases h
end
end Go.Pe
end
section
namespace Go.Pe
open Go.RowKit
set_option linter.unusedSectionVars false
variable [GI]
set_option linter.unusedSimpArgs false
set_option linter.unusedVariables false

theorem add_addr {ad : Addr} (h : ad.spot = none) (n : Nat) : ad.add n = ⟨ad.block, ad.off + n, none⟩ := by
  obtain ⟨b, o, s⟩ := ad; subst h; unfold Addr.add; split <;> simp_all
theorem Own.cells {w : World} {b : Nat} {vs : Array Value} (h : Own w b vs) : CellsAt w ⟨b, 0, none⟩ vs.toList := by
  obtain ⟨el, e⟩ := h
  intro j hj
  simp [World.cell?, e]

section
variable {P : Program} {S : Type} {c : Cx} {w : World}

theorem optRep {st : St} {a : Act} (h : RepAVs c st.slots a.tmps.toList) (x : Option Operand) :
    match opt st x, x.map a.eval with | none, none => True | some av, some v => RepAV c av v | _, _ => False := by
  cases x with
  | none => simp [opt]
  | some x => simp only [opt, Option.map_some]; exact ev_rep h x

theorem SliceRep.cut {A : Nat → Prop} {α : Type} {R : α → List Value → Prop} {sz : Nat} (hs : ∀ x u, R x u → u.length = sz) {L : List α} {a : Option Addr} {cap l h' : Nat}
    (hv : SliceRep A w R L (.slice a L.length cap)) (hl : l ≤ h') (hh : h' ≤ L.length) (cap' : Nat) (hc : cap' = cap - l ∨ cap' = h' - l) (m : Nat) (hm : l < h' → m ≠ l) :
    SliceRep A w R ((L.take h').drop l) (.slice (if m = l then a else a.map (·.add (l * sz))) (h' - l) cap') := by
  obtain ⟨a', cap0, e, hcap, hmem⟩ := hv
  cases e
  have hlen : ((L.take h').drop l).length = h' - l := by simp; omega
  refine ⟨_, cap', by rw [hlen], by rw [hlen]; omega, ?_⟩
  by_cases he : (L.take h').drop l = []
  · exact .inl he
  · have hlt : l < h' := by
      rcases Nat.lt_or_ge l h' with h | h
      · exact h
      · exact absurd (List.eq_nil_of_length_eq_zero (by rw [hlen]; omega)) he
    rcases hmem with hm' | ⟨ad, us, ha, hsp, hA, hcs, hr⟩
    · subst hm'; simp at hh; omega
    · subst ha
      refine .inr ⟨⟨ad.block, ad.off + l * sz, none⟩, (us.take (h' * sz)).drop (l * sz), ?_, rfl, hA, (hcs.take _).drop _, (hr.take hs h').drop hs l⟩
      rw [if_neg (hm hlt)]; simp [add_addr hsp]

variable {ε : Env} (hε : EnvOk P ε)
include hε

theorem slice_run {t : Nat} {x : AV} {lo hi mx : Option AV} {vx : Value} {vlo vhi vmx : Option Value} (hx : RepAV c x vx)
    (hlo : match lo, vlo with | none, none => True | some a, some v => RepAV c a v | _, _ => False)
    (hhi : match hi, vhi with | none, none => True | some a, some v => RepAV c a v | _, _ => False)
    (hmx : match mx, vmx with | none, none => True | some a, some v => RepAV c a v | _, _ => False)
    (hw : c.w = w) (K : AV → Option S) (r : S) (h : evSlice ε t x lo hi mx K = some r) :
    ∃ av v, K av = some r ∧ (Instr.sliceAt t vx vlo vhi vmx).run P w = .ok v w ∧ RepAV c av v := by
  unfold evSlice at h
  split at h
  · -- a string
    split at h
    · rename_i s hs
      simp only [RepAV, Rep, List.cons.injEq, and_true] at hx; subst hx
      cases vmx <;> simp only at hmx
      obtain ⟨l, h', hl, hh, hK, hr⟩ := cut_run (P := P) (c := c) (w := w) s (b := false) (cap := s.length) hlo hhi (Nat.le_refl _) _ r h
      refine ⟨_, .string ⟨((s.take h').drop l).toArray⟩, hK, ?_, by simp only [RepAV, Rep]⟩
      have hu := isStr_ok hε hs
      simp [Instr.sliceAt, Instr.slice, run_underlying hu, size_str, hr, extract_str]
    · cases h
  · split at h
    · rename_i e L hs
      simp only [RepAV, Rep, List.cons.injEq, and_true] at hx
      obtain ⟨_, rfl, hx⟩ := hx
      obtain ⟨a, cap, rfl, hcap, hm⟩ := hx
      cases vmx <;> simp only at hmx
      obtain ⟨et, inf, hu, hi', hsz⟩ := szOk_ok hε hs
      obtain ⟨l, h', hl, hh, hK, hr⟩ := cut_run (P := P) (c := c) (w := w) L (b := true) (cap := cap) hlo hhi hcap _ r h
      refine ⟨_, .slice (if cap = l then a else a.map (·.add (l * e.size))) (h' - l) (cap - l), hK, ?_, ?_⟩
      · simp [Instr.sliceAt, Instr.slice, run_underlying hu, hr, sizeOf, typeInfo, hi', hsz]
      · simp only [RepAV, Rep, List.cons.injEq, and_true]
        exact ⟨_, rfl, SliceRep.cut (sz := e.size) (fun x u h => h.length) ⟨a, cap, rfl, hcap, hm⟩ hl hh _ (.inl rfl) cap (fun _ => by omega)⟩
    · cases h
  · split at h
    · rename_i e L hs
      simp only [RepAV, Rep, List.cons.injEq, and_true] at hx
      obtain ⟨⟨a0, rfl⟩, _, rfl, hx⟩ := hx
      obtain ⟨a, cap, e1, hcap, hm⟩ := hx
      cases e1
      cases vmx <;> simp only at hmx
      obtain ⟨et, inf, hu, hi', hsz⟩ := szOk_ok hε hs
      obtain ⟨l, h', hl, hh, hK, hr⟩ := cut_run (P := P) (c := c) (w := w) L (b := true) (cap := L.length) hlo hhi hcap _ r h
      refine ⟨_, .slice (if L.length = l then a0 else a0.map (·.add (l * e.size))) (h' - l) (L.length - l), hK, ?_, ?_⟩
      · simp [Instr.sliceAt, Instr.slice, run_underlying hu, hr, sizeOf, typeInfo, hi', hsz]
      · simp only [RepAV, Rep, List.cons.injEq, and_true]
        exact ⟨_, rfl, SliceRep.cut (sz := e.size) (fun x u h => h.length) ⟨a0, L.length, rfl, hcap, hm⟩ hl hh _ (.inl rfl) _ (fun _ => by omega)⟩
    · cases h
  · split at h
    · split at h
      · rename_i e L km m _ kb b hs
        unfold sameInt at h
        split at h
        · rename_i he
          have he' : (m : Int) = b := he
          simp only [RepAV, Rep, List.cons.injEq, and_true] at hx
          obtain ⟨_, rfl, hx⟩ := hx
          obtain ⟨a0, cap, rfl, hcap, hm⟩ := hx
          cases vmx <;> simp only at hmx
          cases vhi <;> simp only at hhi
          simp only [RepAV, Rep, List.cons.injEq, and_true] at hmx hhi
          subst hmx; subst hhi
          obtain ⟨et, inf, hu, hi', hsz⟩ := szOk_ok hε hs
          obtain ⟨l, h', hl, hh, hK, hr⟩ := cut_run3 (P := P) (c := c) (w := w) L (b := true) (cap := cap) (k' := km) hlo hcap _ r h
          rw [← he'] at hr
          refine ⟨_, .slice (if h' = l then a0 else a0.map (·.add (l * e.size))) (h' - l) (h' - l), hK, ?_, ?_⟩
          · rw [← he']; simp [Instr.sliceAt, Instr.slice, run_underlying hu, hr, sizeOf, typeInfo, hi', hsz]
          · simp only [RepAV, Rep, List.cons.injEq, and_true]
            have hlen : ((L.take h').drop l).length = h' - l := by simp; omega
            exact ⟨⟨_, by rw [hlen]⟩, _, rfl, SliceRep.cut (sz := e.size) (fun x u h => h.length) ⟨a0, _, rfl, hcap, hm⟩ hl hh _ (.inr rfl) h' (fun _ => by omega)⟩
        · cases h
      · cases h
    · cases h
  · split at h
    · split at h
      · rename_i e L km m _ kb b hs
        unfold sameInt at h
        split at h
        · rename_i he
          have he' : (m : Int) = b := he
          simp only [RepAV, Rep, List.cons.injEq, and_true] at hx
          obtain ⟨⟨a0, rfl⟩, _, rfl, hx⟩ := hx
          obtain ⟨a1, cap, e1, hcap, hm⟩ := hx
          cases e1
          cases vmx <;> simp only at hmx
          cases vhi <;> simp only at hhi
          simp only [RepAV, Rep, List.cons.injEq, and_true] at hmx hhi
          subst hmx; subst hhi
          obtain ⟨et, inf, hu, hi', hsz⟩ := szOk_ok hε hs
          obtain ⟨l, h', hl, hh, hK, hr⟩ := cut_run3 (P := P) (c := c) (w := w) L (b := true) (cap := L.length) (k' := km) hlo hcap _ r h
          rw [← he'] at hr
          refine ⟨_, .slice (if h' = l then a0 else a0.map (·.add (l * e.size))) (h' - l) (h' - l), hK, ?_, ?_⟩
          · rw [← he']; simp [Instr.sliceAt, Instr.slice, run_underlying hu, hr, sizeOf, typeInfo, hi', hsz]
          · simp only [RepAV, Rep, List.cons.injEq, and_true]
            have hlen : ((L.take h').drop l).length = h' - l := by simp; omega
            exact ⟨⟨_, by rw [hlen]⟩, _, rfl, SliceRep.cut (sz := e.size) (fun x u h => h.length) ⟨a0, _, rfl, hcap, hm⟩ hl hh _ (.inr rfl) h' (fun _ => by omega)⟩
        · cases h
      · cases h
    · cases h
  · split at h
    · split at h
      · rename_i r' fs _ _ kb n hs
        change Int at n
        unfold sameInt at h
        split at h
        · rename_i hn
          simp only [RepAV, RepSX] at hx
          obtain ⟨cap, b, h1, h2, rfl, h3⟩ := hx
          cases vmx <;> simp only at hmx
          cases vlo <;> simp only at hlo
          cases vhi <;> simp only at hhi
          simp only [RepAV, Rep, List.cons.injEq, and_true] at hhi
          subst hhi
          obtain ⟨et, inf, hu, hi', hsz⟩ := szOk_ok hε hs
          refine ⟨_, .slice (some ⟨b, 0, none⟩) fs.length cap, h, ?_, by simp only [RepAV, RepSX]; exact ⟨cap, b, h1, h2, rfl⟩⟩
          subst hn
          have hr : (Instr.sliceBounds true (fs.length + 1) cap none (some (.int kb (fs.length : Int))) none).run P w = .ok (0, fs.length, cap) w := by
            have h4 : (0 : Int) ≤ (fs.length : Int) ∧ (fs.length : Int) ≤ (cap : Int) := by omega
            simp [Instr.sliceBounds, Instr.sliceBound, asIntOf, h4]
            omega
          have hc0 : cap ≠ 0 := by omega
          simp [Instr.sliceAt, Instr.slice, run_underlying hu, hr, sizeOf, typeInfo, hi', hsz, Addr.add]
        · cases h
      · cases h
    · cases h
  · cases h
end
end Go.Pe
end
section
namespace Go.Pe
open Go.RowKit
set_option linter.unusedSectionVars false
variable [GI]
set_option linter.unusedSimpArgs false
set_option linter.unusedVariables false

theorem isCell_one {c : Cx} {av : AV} {v : Value} (h : av.isCell = true) (hr : RepAV c av v) : v.oneCell' = true ∧ v.cells = #[v] := by
  have key : v.oneCell' = true → v.oneCell' = true ∧ v.cells = #[v] := fun h => ⟨h, by cases v <;> first | rfl | (simp [Value.oneCell'] at h)⟩
  apply key
  match av, h, hr with
  | .d .bool _, _, hr | .d (.int _) _, _, hr | .d .str _, _, hr => simp only [RepAV, Rep, List.cons.injEq, and_true] at hr; subst hr; rfl
  | .d (.list _) _, _, hr => simp only [RepAV, Rep, List.cons.injEq, and_true] at hr; obtain ⟨v', rfl, a, cap, rfl, _⟩ := hr; rfl
  | .full _ _, _, hr => simp only [RepAV] at hr; obtain ⟨⟨a, rfl⟩, _⟩ := hr; rfl
  | .nilS, _, hr => simp only [RepAV] at hr; subst hr; rfl
  | .whole _, _, hr => simp only [RepAV] at hr; exact hr.2.1
  | .ptr _ _, _, hr => simp only [RepAV] at hr; exact hr.2.1
  | .eptr _ _ _, _, hr => simp only [RepAV] at hr; exact hr.2.1
  | .pim _, _, hr => simp only [RepAV] at hr; obtain ⟨ad, us, rfl, _⟩ := hr; rfl
  | .fn _ _ _, _, hr => simp only [RepAV] at hr; obtain ⟨a', b', rfl, _⟩ := hr; rfl
  | .ifc _ _, _, hr => simp only [RepAV] at hr; obtain ⟨u, rfl, _⟩ := hr; rfl
  | .nilP, _, hr => simp only [RepAV] at hr; subst hr; rfl
  | .sx _, _, hr => simp only [RepAV] at hr; exact hr.one
theorem cellsOk_one {c : Cx} : ∀ {l us}, cellsOk l = true → RepAVs c l us → ∀ u ∈ us, u.oneCell' = true
  | [], _, _, hr, u, hu => by simp only [RepAVs] at hr; subst hr; cases hu
  | x :: xs, _, h, hr, u, hu => by
    obtain ⟨v, vs, rfl, h1, h2⟩ := hr.cons'
    simp only [cellsOk, Bool.and_eq_true] at h
    cases hu with
    | head => exact (isCell_one h.1 h1).1
    | tail _ hm => exact cellsOk_one h.2 h2 u hm
theorem cells_rep {c : Cx} {av : AV} {v : Value} (h : cellsOk av.cells = true) (hr : RepAV c av v) : RepAVs c av.cells v.cells.toList ∧ ∀ u ∈ v.cells.toList, u.oneCell' = true := by
  have key : ∀ {av : AV}, av.isCell = true → RepAV c av v → RepAVs c [av] v.cells.toList ∧ ∀ u ∈ v.cells.toList, u.oneCell' = true := by
    intro av h hr
    obtain ⟨h1, h2⟩ := isCell_one h hr
    rw [h2]
    exact ⟨RepAVs.one hr, by simpa using h1⟩
  cases av
  case agg l =>
    simp only [RepAV] at hr
    obtain ⟨us, rfl, hu⟩ := hr
    exact ⟨hu, cellsOk_one h hu⟩
  all_goals
    simp only [AV.cells, cellsOk, Bool.and_true] at h
    exact key h hr

section
variable {P : Program} {S : Type} {c : Cx} {w : World}

theorem isAgg_run {t : Nat} {i : TI} (h : TiOk P t i) : (isAgg t).run P w = .ok i.agg w := by
  unfold isAgg
  rw [h.agg]
  simp only [Sem.run_bind, run_underlying h.under, Result.andThen_ok]
  cases i.desc <;> rfl
theorem sizeOf_run {t : Nat} {i : TI} (h : TiOk P t i) : (sizeOf t).run P w = .ok i.size w := by
  obtain ⟨inf, h1, h2, _⟩ := h.info
  simp [sizeOf, typeInfo, h1, h2]

theorem part_rep {cells : List AV} {us : List Value} {off n : Nat} {ag : Bool} {av : AV} (hr : RepAVs c cells us) (h : partOf cells off n ag = some av) :
    (ag = true ∧ off + n ≤ us.length ∧ RepAV c av (.agg ((us.drop off).take n).toArray)) ∨ (ag = false ∧ ∃ v, us[off]? = some v ∧ RepAV c av v) := by
  unfold partOf at h
  cases ag with
  | true =>
    simp only [if_true] at h
    split at h
    · rename_i hl
      cases h
      refine .inl ⟨rfl, by rw [hr.length]; exact hl, ?_⟩
      simp only [RepAV]
      exact ⟨_, rfl, (hr.drop _).take _⟩
    · cases h
  | false =>
    simp only [Bool.false_eq_true, if_false] at h
    split at h
    · rename_i x xs hd
      cases h
      have := hr.drop off
      rw [hd] at this
      obtain ⟨v, vs, e, h1, _⟩ := this.cons'
      refine .inr ⟨rfl, v, ?_, h1⟩
      have := congrArg (fun l : List Value => l[0]?) e
      simpa using this
    · cases h
theorem load_cells {t : Nat} {i : TI} (hi : TiOk P t i) {cells : List AV} {us : List Value} {ad : Addr} {off : Nat} {av : AV} (hr : RepAVs c cells us) (hc : CellsAt w ad us) (h : partOf cells off i.size i.agg = some av) :
    ∃ v, (loadVar t ⟨ad.block, ad.off + off, none⟩).run P w = .ok v w ∧ RepAV c av v := by
  rcases part_rep hr h with ⟨hag, hl, hp⟩ | ⟨hag, v, hv, hp⟩
  · refine ⟨_, ?_, hp⟩
    have hcl : (loadCells ⟨ad.block, ad.off + off, none⟩ i.size).run P w = .ok ((us.drop off).take i.size).toArray w := by
      have hlen : ((us.drop off).take i.size).length = i.size := by simp; omega
      have := run_loadCells_list (P := P) w ⟨ad.block, ad.off + off, none⟩ ((us.drop off).take i.size) (fun j v hv => by
        rw [add_addr rfl]
        have hj : j < i.size := by
          have := (List.getElem?_eq_some_iff.1 hv).1; omega
        rw [List.getElem?_take_of_lt hj, List.getElem?_drop] at hv
        have h3 := hc (off + j) (List.getElem?_eq_some_iff.1 hv).1
        rw [← hv, ← h3]; simp [Nat.add_assoc])
      rwa [hlen] at this
    unfold loadVar
    simp only [Sem.run_bind, isAgg_run hi, Result.andThen_ok, hag, if_true, sizeOf_run hi, hcl]
    rfl
  · refine ⟨v, ?_, hp⟩
    unfold loadVar
    have h3 := hc off (List.getElem?_eq_some_iff.1 hv).1
    simp only [Sem.run_bind, isAgg_run hi, Result.andThen_ok, hag, Bool.false_eq_true, if_false, run_load, h3, hv]

variable {ε : Env} (hε : EnvOk P ε)
include hε

theorem fieldAt_ok {t f off n : Nat} {ag : Bool} (h : fieldAt ε t f = some (off, n, ag)) :
    ∃ fs fd j, P.underlying t = some (.struct fs) ∧ fs[f]? = some fd ∧ fd.offset = off ∧ TiOk P fd.type j ∧ j.size = n ∧ j.agg = ag := by
  unfold fieldAt at h
  split at h
  · rename_i i hi
    split at h
    · rename_i fs hd
      split at h
      · rename_i fd hf
        split at h
        · rename_i j hj
          cases h
          exact ⟨fs, fd, j, by rw [(hε.ti t i hi).under, hd], hf, rfl, hε.ti _ _ hj, rfl, rfl⟩
        · cases h
      · cases h
    · cases h
  · cases h

theorem field_run {t f : Nat} {x : AV} {vx : Value} (hx : RepAV c x vx) (K : AV → Option S) (r : S) (h : evField ε t x f K = some r) :
    ∃ av v, K av = some r ∧ (Instr.field t vx f).run P w = .ok v w ∧ RepAV c av v := by
  unfold evField at h
  split at h
  · rename_i off n ag l hf
    simp only [RepAV] at hx
    obtain ⟨us, rfl, hu⟩ := hx
    simp only [Option.bind_eq_some_iff] at h
    obtain ⟨av, hp, hK⟩ := h
    obtain ⟨fs, fd, j, hund, hfd, rfl, hj, rfl, rfl⟩ := fieldAt_ok hε hf
    rcases part_rep hu hp with ⟨hag, hl, hp⟩ | ⟨hag, v, hv, hp⟩
    · refine ⟨av, _, hK, ?_, hp⟩
      have : us.extract fd.offset (fd.offset + j.size) = ((us.toList.drop fd.offset).take j.size).toArray := by
        apply Array.ext'; simp [List.extract_eq_take_drop]
      simp [Instr.field, run_underlying hund, hfd, asAgg, part, isAgg_run hj, hag, sizeOf_run hj, this]
    · refine ⟨av, v, hK, ?_, hp⟩
      have hv' : us[fd.offset]? = some v := by simpa using hv
      simp [Instr.field, run_underlying hund, hfd, asAgg, part, isAgg_run hj, hag, hv']
  · cases h

theorem fieldAddr_run {t f : Nat} {x : AV} {vx : Value} {st : St} (hrc : c.recs = st.recs) (hls : c.lsts = st.lsts) (hx : RepAV c x vx) (hw : c.w = w) (K : AV → Option S) (r : S) (h : evFieldAddr ε st t x f K = some r) :
    ∃ av v, K av = some r ∧ (Instr.fieldAt t vx f).run P w = .ok v w ∧ RepAV c av v := by
  unfold evFieldAddr at h
  split at h
  · rename_i off n ag hf
    obtain ⟨fs, fd, j, hund, hfd, rfl, hj, rfl, rfl⟩ := fieldAt_ok hε hf
    split at h
    · cases h
    · rename_i hn
      have key : ∀ ad : Addr, ad.spot = none → (Instr.fieldAt t (.pointer (some ad)) f).run P w = .ok (.pointer (some ⟨ad.block, ad.off + fd.offset, none⟩)) w := by
        intro ad hsp
        simp [Instr.fieldAt, run_underlying hund, hfd, Instr.sureAddr, fieldPlace, sizeOf_run hj, hn, add_addr hsp]
      split at h
      · split at h
        · rename_i r' o hl
          simp only [RepAV, hrc] at hx
          obtain ⟨b, hb, rfl⟩ := hx.2.2 hl
          exact ⟨_, _, h, key _ rfl, by simp only [RepAV, hrc]; exact ⟨hx.1, rfl, fun _ => ⟨b, hb, rfl⟩⟩⟩
        · cases h
      · split at h
        · rename_i q i o hl
          simp only [RepAV, hls] at hx
          obtain ⟨ob, hob⟩ := Option.isSome_iff_exists.1 hl
          obtain ⟨b, hb, rfl⟩ := hx.2.2 ob hob
          exact ⟨_, _, h, key _ rfl, by simp only [RepAV, hls]; exact ⟨hx.1, rfl, fun o' ho' => ⟨b, hb, by rw [hob] at ho'; cases ho'; rw [Nat.add_assoc]⟩⟩⟩
        · cases h
      · split at h
        · rename_i l hl
          simp only [RepAV] at hx
          obtain ⟨ad, us, rfl, hsp, hA, hc, hu⟩ := hx
          exact ⟨_, _, h, key _ hsp, by simp only [RepAV]; exact ⟨_, us.drop fd.offset, rfl, rfl, hA, hc.drop _, hu.drop _⟩⟩
        · cases h
      · rename_i r' o
        simp only [RepAV, RepSX] at hx
        obtain ⟨cap, fs', b, h1, h2, rfl⟩ := hx
        exact ⟨_, _, h, key _ rfl, by simp only [RepAV, RepSX]; exact ⟨cap, fs', b, h1, h2, by rw [Nat.add_assoc]⟩⟩
      · cases h
  · cases h

omit hε in
theorem sliceRep_elem {e : Ty} {L : List e.den} {v : Value} {n : Int} {y : e.den} (h : SliceRep c.A c.w (Rep c.A c.w e) L v) (hy : nth L n = some y) :
    ∃ ad cap, v = .slice (some ad) L.length cap ∧ ad.spot = none ∧ 0 ≤ n ∧ n < (L.length : Int) ∧ RepAV c (.pim (unpack e y)) (.pointer (some ⟨ad.block, ad.off + n.toNat * e.size, none⟩)) := by
  unfold nth at hy
  split at hy
  · rename_i h0
    have hlt : n.toNat < L.length := (List.getElem?_eq_some_iff.1 hy).1
    obtain ⟨a, cap, rfl, hcap, hm⟩ := h
    rcases hm with hm | ⟨ad, us, rfl, hsp, hA, hc, hr⟩
    · subst hm; simp at hlt
    · obtain ⟨p, u, q, e1, hp, hu⟩ := hr.get (sz := e.size) (fun x u h => h.length) _ y hy
      refine ⟨ad, cap, rfl, hsp, h0, by omega, ?_⟩
      simp only [RepAV]
      refine ⟨_, u, rfl, rfl, hA, ?_, unpack_rep hu⟩
      rw [e1] at hc
      have := hc.mid
      rwa [hp] at this
  · cases hy

theorem indexAddr_run {t : Nat} {lsts : List (Option LObj)} (hls : c.lsts = lsts) (hl : ∀ t o, getL lsts t = some o → LstAt c t o) {x i : AV} {vx vi : Value} (hx : RepAV c x vx) (hi : RepAV c i vi) (hw : c.w = w) (K : AV → Option S) (r : S) (h : evIndexAddr ε t lsts x i K = some r) :
    ∃ av v, K av = some r ∧ (Instr.indexAt t vx vi).run P w = .ok v w ∧ RepAV c av v := by
  have key : ∀ (ad : Addr) (len cap : Nat) (k : IntKind) (n : Int) (et : Nat) (inf : TypeInfo), ad.spot = none → P.underlying t = some (.slice et) → P.info? et = some inf → 0 ≤ n → n < (len : Int) →
      (Instr.indexAt t (.slice (some ad) len cap) (.int k n)).run P w = .ok (.pointer (some ⟨ad.block, ad.off + n.toNat * inf.size, none⟩)) w := by
    intro ad len cap k n et inf hsp hu hinf h0 h1
    simp [Instr.indexAt, asIntOf, run_underlying hu, h0, h1, sizeOf, typeInfo, hinf, add_addr hsp]
  have lst : ∀ (e : Ty) (L : List e.den) (v : Value) (n : Int) (k : IntKind), szOk ε t e = true → SliceRep c.A c.w (Rep c.A c.w e) L v → (nth L n).bind (fun y => K (.pim (unpack e y))) = some r →
      ∃ av v', K av = some r ∧ (Instr.indexAt t v (.int k n)).run P w = .ok v' w ∧ RepAV c av v' := by
    intro e L v n k hs hv hb
    simp only [Option.bind_eq_some_iff] at hb
    obtain ⟨y, hy, hK⟩ := hb
    obtain ⟨ad, cap, rfl, hsp, h0, h1, hr⟩ := sliceRep_elem hv hy
    obtain ⟨et, inf, hu, hi', hsz⟩ := szOk_ok hε hs
    exact ⟨_, _, hK, key ad _ _ k n et inf hsp hu hi' h0 h1, by rw [hsz]; exact hr⟩
  unfold evIndexAddr at h
  split at h
  · split at h
    · rename_i q k n _ o ho
      change Int at n
      cases hp : o.e.isMap with
      | true => rw [hp] at h; cases h
      | false =>
      rw [hp] at h
      dsimp only at h
      split at h
      · rename_i hs
        unfold within at h
        split at h
        · rename_i hin
          simp only [RepAV, Rep, hls, List.cons.injEq, and_true] at hx hi
          subst hi
          have hwa := (WholeAt.plain hp).1 (hx.2.2 o ho)
          rcases hwa with ⟨h1, rfl⟩ | ⟨b, hb, rfl⟩
          · rcases (LstAt.plain hp).1 (hl q o ho) with ⟨_, h3⟩ | ⟨b, vs, hb, _⟩
            · rw [h3] at hin; simp at hin; omega
            · rw [h1] at hb; cases hb
          · obtain ⟨et, inf, hu, hi', hsz⟩ := szOk_ok hε hs
            refine ⟨_, _, h, key ⟨b, 0, none⟩ _ _ k n et inf rfl hu hi' hin.1 hin.2, ?_⟩
            simp only [RepAV, hls]
            exact ⟨hx.1, rfl, fun o' ho' => ⟨b, hb, by rw [ho] at ho'; cases ho'; rw [hsz]; simp⟩⟩
        · cases h
      · cases h
    · cases h
  · split at h
    · rename_i e L k n hs
      simp only [RepAV, Rep, List.cons.injEq, and_true] at hx hi
      subst hi
      obtain ⟨_, rfl, hx⟩ := hx
      exact lst e L _ n k hs hx h
    · cases h
  · split at h
    · rename_i e L k n hs
      simp only [RepAV, Rep, List.cons.injEq, and_true] at hx hi
      subst hi
      obtain ⟨_, _, rfl, hx⟩ := hx
      exact lst e L _ n k hs hx h
    · cases h
  · split at h
    · rename_i r' fs k n hs
      change Int at n
      unfold sameInt at h
      split at h
      · rename_i hn
        simp only [RepAV, RepSX, Rep, List.cons.injEq, and_true] at hx hi
        subst hi
        obtain ⟨cap, b, h1, h2, rfl, h3⟩ := hx
        obtain ⟨et, inf, hu, hi', hsz⟩ := szOk_ok hε hs
        refine ⟨_, _, h, key ⟨b, 0, none⟩ _ _ k n et inf rfl hu hi' (by omega) (by omega), ?_⟩
        simp only [RepAV, RepSX]
        refine ⟨cap, fs, b, h1, h2, ?_⟩
        rw [hsz, hn]
        simp [Ty.size]
      · cases h
    · cases h
  · cases h

omit hε in
theorem lstAt_elem {lsts : List (Option LObj)} {q n : Nat} {o : LObj} {y : o.e.den} (hpl : o.e.isMap = false) (hl : LstAt c q o) (hy : o.xs[n]? = some y) :
    ∃ b vs, c.μ.at_ (.l q) = some b ∧ Own c.w b vs ∧ ∃ u, CellsAt c.w ⟨b, n * o.e.size, none⟩ u ∧ RepAVs c (unpack o.e y) u := by
  rcases (LstAt.plain hpl).1 hl with ⟨_, h⟩ | ⟨b, vs, hb, ho, hsz, hcap, us, rest, e1, hr⟩
  · rw [h] at hy; simp at hy
  · obtain ⟨p, u, q', e2, hp, hu⟩ := hr.get (sz := o.e.size) (fun x u h => h.length) n y hy
    refine ⟨b, vs, hb, ho, u, ?_, unpack_rep hu⟩
    have hc := ho.cells
    rw [e1, e2, List.append_assoc, List.append_assoc] at hc
    have := hc.mid
    rw [hp] at this
    simpa using this

omit hε in
theorem topCells_some {recs : List (Option (List AV))} {r : Nat} {cells : List AV} (h : topCells recs r = some cells) : getL recs r = some (.sx .mark :: cells) := by
  unfold topCells at h
  split at h
  · rename_i c hc; cases h; exact hc
  · cases h
theorem load_run {A0 w0 μ} {st : St} {t : Nat} {a : AV} {va : Value} (hc : c = cx A0 w0 st.recs st.lsts w μ) (hm : Mem A0 w0 st.recs st.lsts w μ) (ha : RepAV c a va) (K : AV → Option S) (r : S) (h : evLoad ε st t a K = some r) :
    ∃ av v, K av = some r ∧ (Instr.loadAt t va).run P w = .ok v w ∧ RepAV c av v := by
  unfold evLoad at h
  split at h
  · cases h
  · rename_i i hi
    have hti := hε.ti t i hi
    split at h
    · split at h
      · rename_i r' off _ cells hcells
        simp only [Option.bind_eq_some_iff] at h
        obtain ⟨av, hp, hK⟩ := h
        subst hc
        simp only [RepAV, cx] at ha
        obtain ⟨b, hb, rfl⟩ := ha.2.2 (by rw [hcells]; rfl)
        obtain ⟨vs, ho, hv⟩ := hm.rec_at hcells hb
        obtain ⟨v, hrun, hrep⟩ := load_cells (P := P) hti hv ho.cells hp
        refine ⟨av, v, hK, ?_, hrep⟩
        simp only [Nat.zero_add] at hrun
        simp [Instr.loadAt, Instr.sureAddr, hrun]
      · cases h
    · rename_i cells
      simp only [Option.bind_eq_some_iff] at h
      obtain ⟨av, hp, hK⟩ := h
      simp only [RepAV] at ha
      obtain ⟨ad, us, rfl, hsp, hA, hcs, hu⟩ := ha
      have hw : c.w = w := by rw [hc]; rfl
      rw [hw] at hcs
      obtain ⟨v, hrun, hrep⟩ := load_cells (P := P) hti hu hcs hp
      refine ⟨av, v, hK, ?_, hrep⟩
      obtain ⟨b, o, s⟩ := ad
      simp only at hsp; subst hsp
      simp only [Nat.add_zero] at hrun
      simp [Instr.loadAt, Instr.sureAddr, hrun]
    · split at h
      · rename_i q n off _ o ho
        cases hpl : o.e.isMap with
        | true => rw [hpl] at h; cases h
        | false =>
        rw [hpl] at h
        simp only [Option.bind_eq_some_iff] at h
        obtain ⟨y, hy, av, hp, hK⟩ := h
        have hl := hm.hlst q o ho
        obtain ⟨b, vs, hb, hown, u, hcs, hu⟩ := lstAt_elem (lsts := st.lsts) hpl hl hy
        subst hc
        simp only [RepAV, cx] at ha
        obtain ⟨b', hb', rfl⟩ := ha.2.2 o ho
        rw [show (cx A0 w0 st.recs st.lsts w μ).μ.at_ (.l q) = μ.at_ (.l q) from rfl, hb'] at hb; cases hb
        obtain ⟨v, hrun, hrep⟩ := load_cells (P := P) hti hu hcs hp
        refine ⟨av, v, hK, ?_, hrep⟩
        have hrun' : (loadVar t ⟨b, n * o.e.size + off, none⟩).run P w = .ok v w := hrun
        simp [Instr.loadAt, Instr.sureAddr, hrun']
      · cases h
    · split at h
      · rename_i r' off _ cells hcells
        simp only [Option.bind_eq_some_iff] at h
        obtain ⟨av, hp, hK⟩ := h
        subst hc
        simp only [RepAV, RepSX, cx] at ha
        obtain ⟨cap, fs, b, h1, h2, rfl⟩ := ha
        obtain ⟨d, b', vs, h3, h4, h5, h6, h7⟩ := hm.htop r' cells (topCells_some hcells)
        rw [show (cx A0 w0 st.recs st.lsts w μ).μ.dp = μ.dp from rfl, h1] at h3; cases h3
        rw [show (cx A0 w0 st.recs st.lsts w μ).μ.at_ (.n 0) = μ.at_ (.n 0) from rfl, h2] at h5; cases h5
        have hcs := ((h6.cells).drop (fs.length * 5)).take 5
        obtain ⟨v, hrun, hrep⟩ := load_cells (P := P) hti h7 hcs hp
        refine ⟨av, v, hK, ?_, hrep⟩
        simp only [Nat.zero_add] at hrun
        simp only [Instr.loadAt, Instr.sureAddr]
        exact hrun
      · cases h
    · cases h

/-! ### Conversions -/
omit hε in
theorem bytes_run {a : Option Addr} {cap : Nat} {L : List Int} (hv : SliceRep c.A c.w (Rep c.A c.w (.int .u8)) L (.slice a L.length cap)) (hw : c.w = w) :
    (Conv.bytesToString (.slice a L.length cap)).run P w = .ok (.string ⟨(strOf L).toArray⟩) w := by
  obtain ⟨a', cap', e, hcap, hm⟩ := hv
  cases e
  rcases hm with hm | ⟨ad, us, rfl, hsp, hA, hc, hr⟩
  · subst hm
    cases a with
    | none => rfl
    | some ad =>
      have : (loadCells ad 0).run P w = .ok #[] w := by simp [loadCells, loadCellsFrom]
      simp [Conv.bytesToString, this, strOf]; rfl
  · have hus : us = L.map (Value.int .u8) := by
      clear hc hcap hA
      induction L generalizing us with
      | nil => simpa [RepAll] using hr
      | cons x xs ih =>
        obtain ⟨u1, u2, rfl, h1, h2⟩ := hr
        simp only [Rep] at h1; subst h1
        rw [ih _ h2]; rfl
    have hl : (loadCells ad L.length).run P w = .ok us.toArray w := by
      have := run_loadCells_list (P := P) w ad us (fun j v hv => by
        rw [add_addr hsp]
        have hj := (List.getElem?_eq_some_iff.1 hv).1
        rw [← hw, hc j hj, hv])
      rwa [show us.length = L.length by rw [hus]; simp] at this
    subst hus
    rw [run_bytesToString w ad _ _ L hl]
    have fold : ∀ (l : List Int) (acc : ByteArray), l.foldl (fun r n => r.push (UInt8.ofNat n.toNat)) acc = ⟨(acc.data.toList ++ strOf l).toArray⟩ := by
      intro l
      induction l with
      | nil => intro acc; simp [strOf]
      | cons x xs ih =>
        intro acc
        rw [List.foldl_cons, ih]
        simp [ByteArray.push, strOf]
    rw [fold]; simp

theorem conv_run {A0 w0 μ} {recs : List (Option (List AV))} {lsts : List (Option LObj)} {src dst : Nat} {x : AV} {vx : Value} (hc : c = cx A0 w0 recs lsts w μ) (hm : Mem A0 w0 recs lsts w μ) (hx : RepAV c x vx) (K : AV → Option S) (r : S) (h : evConv ε lsts src dst x K = some r) :
    ∃ av v w', K av = some r ∧ (convert src dst vx).run P w = .ok v w' ∧ Below w.heap.size w w' ∧ RepAV (cx A0 w0 recs lsts w' μ) av v := by
  have hw : c.w = w := by rw [hc]; rfl
  unfold evConv at h
  split at h
  · rename_i is i his hi
    have hs := (hε.ti _ _ his).under
    have hd := (hε.ti _ _ hi).under
    split at h
    · rename_i k k' n hdd
      simp only [RepAV, Rep, List.cons.injEq, and_true] at hx; subst hx
      refine ⟨_, .int k (k.wrap n), w, h, ?_, Below.refl _ _, by simp only [RepAV, Rep]⟩
      simp [convert, run_underlying hs, run_underlying (hd.trans (congrArg some hdd)), Conv.intToInt]
    · rename_i s hdd
      simp only [RepAV, Rep, List.cons.injEq, and_true] at hx; subst hx
      refine ⟨_, .string ⟨s.toArray⟩, w, h, ?_, Below.refl _ _, by simp only [RepAV, Rep]⟩
      simp [convert, run_underlying hs, run_underlying (hd.trans (congrArg some hdd))]
    · split at h
      · rename_i hdd hnot hb
        simp only [Option.bind_eq_some_iff] at h
        obtain ⟨L, hL, hK⟩ := h
        obtain ⟨et, inf, hu, hu8, _⟩ := isByteSlice_ok hε hb
        have hrep : ∃ a cap, vx = .slice a L.length cap ∧ (Conv.bytesToString vx).run P w = .ok (.string ⟨(strOf L).toArray⟩) w := by
          have hl : ∀ t o v, getL lsts t = some o → o.e.isMap = false → RepAV c (.whole t) v → Rep (fun b => True) c.w (.list o.e) o.xs [v] := by
            intro t o v ho hpl hv
            subst hc
            simp only [RepAV, cx] at hv
            rcases (WholeAt.plain hpl).1 (hv.2.2 o ho) with ⟨h1, rfl⟩ | ⟨b, hb, rfl⟩
            · rcases (LstAt.plain hpl).1 (hm.hlst t o ho) with ⟨_, h3⟩ | ⟨b, vs, hb, _⟩
              · rw [h3]; exact ⟨_, rfl, none, 0, rfl, Nat.le_refl _, .inl rfl⟩
              · rw [show (cx A0 w0 recs lsts w μ).μ.at_ (.l t) = μ.at_ (.l t) from rfl, h1] at hb; cases hb
            · rcases (LstAt.plain hpl).1 (hm.hlst t o ho) with ⟨h1, h3⟩ | ⟨b', vs, hb', hown, hsz, hcap, us, rest, e, hr⟩
              · rw [show (cx A0 w0 recs lsts w μ).μ.at_ (.l t) = μ.at_ (.l t) from rfl, hb] at h1; cases h1
              · rw [show (cx A0 w0 recs lsts w μ).μ.at_ (.l t) = μ.at_ (.l t) from rfl, hb] at hb'; cases hb'
                refine ⟨_, rfl, some ⟨b, 0, none⟩, _, rfl, hcap, .inr ⟨_, us, rfl, rfl, trivial, ?_, hr.imp fun x u hx => hx.mono (fun _ _ => trivial) fun _ _ => rfl⟩⟩
                have := hown.cells
                rw [e] at this
                have h2 := this.take us.length
                rwa [List.take_left] at h2
          have h1 := asTy_rep (A' := fun _ => True) (fun _ _ => trivial) hl hL hx
          obtain ⟨v', e, a, cap, rfl, h2⟩ := h1
          simp only [List.cons.injEq, and_true] at e; subst e
          refine ⟨a, cap, rfl, ?_⟩
          have hcc : (⟨fun _ => True, w, μ, recs, lsts, .bool false⟩ : Cx).w = w := rfl
          rw [hw] at h2
          exact bytes_run (c := ⟨fun _ => True, w, μ, recs, lsts, .bool false⟩) ⟨a, cap, rfl, h2⟩ rfl
        obtain ⟨a, cap, rfl, hrun⟩ := hrep
        refine ⟨_, .string ⟨(strOf L).toArray⟩, w, hK, ?_, Below.refl _ _, by simp only [RepAV, Rep]⟩
        rw [run_convert_bytes_string w src dst et a _ cap hu hu8 (by rw [hd, hdd])]
        exact hrun
      · cases h
    · split at h
      · rename_i s _ hb
        simp only [RepAV, Rep, List.cons.injEq, and_true] at hx; subst hx
        obtain ⟨et, inf, hu, hu8, hinf, hsz⟩ := isByteSlice_ok hε hb
        have hbel : Below w.heap.size w (Lib.bytesWorld w et ⟨s.toArray⟩) := ⟨rfl, rfl, rfl, by rw [Lib.bytesWorld_size]; omega, fun k hk => Lib.bytesWorld_at_old w et _ k hk⟩
        refine ⟨_, _, _, h, Lib.run_convert_string_bytes w src dst et ⟨s.toArray⟩ hs hu hu8, hbel, ?_⟩
        simp only [RepAV, Rep, List.cons.injEq, and_true]
        refine ⟨_, rfl, some ⟨w.heap.size, 0, none⟩, grownCap w (⟨s.toArray⟩ : ByteArray).size 0 et, by simp [size_str, bytesOf], ?_, .inr ⟨_, s.map fun b => Value.int .u8 b.toNat, rfl, rfl, ?_, ?_, ?_⟩⟩
        · have : s.length ≤ grownCap w (⟨s.toArray⟩ : ByteArray).size 0 et := by rw [size_str]; exact Nat.le_add_right _ _
          simpa [bytesOf] using this
        · refine ⟨hm.new_ok (Nat.le_refl _), by rw [Lib.bytesWorld_size]; exact Nat.lt_succ_self _, fun x hx => ?_⟩
          have := (hm.live x _ hx).2.1
          exact absurd this (Nat.lt_irrefl _)
        · intro j hj
          have hj' : j < s.length := by simpa using hj
          have := Lib.bytesWorld_cell w et ⟨s.toArray⟩ j (by rw [size_str]; exact hj')
          simp only [Nat.zero_add]
          refine this.trans ?_
          simp [hj', List.getD_eq_getElem?_getD]
        · clear h hb hbel
          induction s with
          | nil => simp [bytesOf, RepAll]
          | cons x xs ih => exact ⟨[_], _, rfl, rfl, ih⟩
      · cases h
    · cases h
  · cases h

/-! ### Structs put together -/
omit hε in
theorem foldl_set : ∀ (vs : List Value) (k : Nat) (off : Nat) (cs : List Value), off + k + vs.length ≤ cs.length →
    ((vs.zipIdx k).foldl (fun (cs : Array Value) p => cs.setIfInBounds (off + p.2) p.1) cs.toArray) = (cs.take (off + k) ++ vs ++ cs.drop (off + k + vs.length)).toArray
  | [], k, off, cs, _ => by simp
  | v :: vs, k, off, cs, h => by
    simp only [List.zipIdx_cons, List.foldl_cons, List.setIfInBounds_toArray]
    simp only [List.length_cons] at h
    rw [foldl_set vs (k + 1) off (cs.set (off + k) v) (by simp; omega)]
    congr 1
    rw [← Nat.add_assoc, List.take_add_one, List.take_set_of_le (by omega), List.getElem?_set_self (by omega), List.drop_set_of_lt (by omega)]
    simp [Nat.add_assoc, Nat.add_comm 1]
omit hε in
theorem build_go {placeA placeM : Nat → Option (Nat × Nat)} (hp : ∀ i p, placeA i = some p → placeM i = some p) : ∀ {parts : List (Nat × AV)} {cells l : List AV} {us : List Value} {vs : List (Nat × Value)},
    evBuildGo placeA cells parts = some l → RepAVs c cells us → parts.length = vs.length → (∀ i (h : i < parts.length) (h' : i < vs.length), parts[i].1 = vs[i].1 ∧ RepAV c parts[i].2 vs[i].2) →
    ∃ us', Instr.fill placeM us.toArray vs = some us'.toArray ∧ RepAVs c l us'
  | [], cells, l, us, vs, h, hr, hl, _ => by
    simp only [evBuildGo, Option.some.injEq] at h; subst h
    have : vs = [] := List.eq_nil_of_length_eq_zero hl.symm
    subst this
    exact ⟨us, rfl, hr⟩
  | (i, av) :: rest, cells, l, us, [], h, hr, hl, _ => by simp at hl
  | (i, av) :: rest, cells, l, us, (i', v) :: vs, h, hr, hl, hall => by
    obtain ⟨rfl, hav⟩ := hall 0 (by simp) (by simp)
    simp only [List.getElem_cons_zero] at hav
    simp only [evBuildGo, List.getElem_cons_zero] at h
    split at h
    · rename_i off n hpl
      split at h
      · rename_i hc
        obtain ⟨h1, h2, h3⟩ := hc
        obtain ⟨hcr, hone⟩ := cells_rep h3 hav
        have hlen := hcr.length
        have hul := hr.length
        obtain ⟨us', hf, hr'⟩ := build_go hp h (hr.splice (off := off) hcr) (by simpa using hl) (fun j h h' => by
          have := hall (j + 1) (by simpa using h) (by simpa using h')
          simpa using this)
        refine ⟨us', ?_, hr'⟩
        have hsz : v.cells.size = n := by rw [← h1, ← hlen]; simp
        simp only [Instr.fill, List.getElem_cons_zero, hp _ _ hpl, hsz, ne_eq, not_true, decide_false, Bool.false_or, decide_eq_true_eq]
        rw [if_neg (by simp; omega)]
        rw [← hf]
        congr 1
        have := foldl_set v.cells.toList 0 off us (by rw [Array.length_toList, hsz]; omega)
        simp only [Nat.add_zero] at this
        rw [← this, ← Array.foldl_toList, Array.toList_zipIdx]
      · cases h
    · cases h

omit hε in
theorem mapM_all {α β : Type} {g : α → Option β} : ∀ {l : List α}, (∀ x ∈ l, (g x).isSome = true) → ∃ r : List β, l.mapM g = some r ∧ ∀ (i : Nat) x, l[i]? = some x → r[i]? = g x
  | [], _ => ⟨[], by simp, by simp⟩
  | x :: xs, h => by
    obtain ⟨b, hb⟩ := Option.isSome_iff_exists.1 (h x (by simp))
    obtain ⟨r, hr, hi⟩ := mapM_all (l := xs) fun y hy => h y (by simp [hy])
    refine ⟨b :: r, by simp [List.mapM_cons, hb, hr], fun i y hy => ?_⟩
    cases i with
    | zero => simp at hy; subst hy; simp [hb]
    | succ i => simpa using hi i y (by simpa using hy)

theorem build_run {A0 w0 μ} {recs lsts} {t : Nat} (hc : c = cx A0 w0 recs lsts w μ) {parts : List (Nat × AV)} {vs : Array (Nat × Value)} (hl : parts.length = vs.toList.length)
    (hall : ∀ i (h : i < parts.length) (h' : i < vs.toList.length), parts[i].1 = vs.toList[i].1 ∧ RepAV c parts[i].2 vs.toList[i].2) (K : AV → Option S) (r : S) (h : evBuild ε t parts K = some r) :
    ∃ av v, K av = some r ∧ (Instr.build t vs).run P w = .ok v w ∧ RepAV c av v := by
  unfold evBuild at h
  split at h
  · rename_i i hi
    have hti := hε.ti t i hi
    obtain ⟨inf, hinf, hsz, hby, z, hz, hzl, hzr⟩ := hti.info
    have hzero : RepAVs c i.zero z.cells.toList := hzr c
    split at h
    · rename_i fs hd
      split at h
      · cases h
      · rename_i hall'
        simp only [Option.bind_eq_some_iff] at h
        obtain ⟨l, hb, hK⟩ := h
        have hsome : ∀ f ∈ fs.toList, ((P.info? f.type).map fun i => (f.offset, i.size)).isSome = true := by
          intro f hf
          simp only [Bool.not_eq_true, Bool.not_eq_false', List.all_eq_true] at hall'
          obtain ⟨j, hj⟩ := Option.isSome_iff_exists.1 (hall' f hf)
          obtain ⟨inf', h1, _⟩ := (hε.ti _ _ hj).info
          simp [h1]
        obtain ⟨places, hpl, hget⟩ := mapM_all hsome
        obtain ⟨us', hf, hr'⟩ := build_go (placeM := fun x => places.toArray[x]?) (fun f p hp => by
          simp only [Option.map_eq_some_iff] at hp
          obtain ⟨⟨off, n, ag⟩, hq, rfl⟩ := hp
          obtain ⟨fs', fd, j, hund, hfd, rfl, hj, rfl, rfl⟩ := fieldAt_ok hε hq
          have : fs' = fs := by rw [hti.under, hd] at hund; cases hund; rfl
          subst this
          obtain ⟨inf', h1, h2, _⟩ := hj.info
          have := hget f fd (by simpa using hfd)
          simpa [h1, h2] using this) hb hzero hl hall
        refine ⟨_, _, hK, run_build w t vs us'.toArray ?_, by simp only [RepAV]; exact ⟨_, rfl, hr'⟩⟩
        unfold Program.built
        simp only [hinf, hti.under, hd, hz, hpl]
        simpa using hf
    · rename_i n el hd
      split at h
      · rename_i j hj
        simp only [Option.bind_eq_some_iff] at h
        obtain ⟨l, hb, hK⟩ := h
        obtain ⟨inf', h1, h2, _⟩ := (hε.ti _ _ hj).info
        obtain ⟨us', hf, hr'⟩ := build_go (placeM := fun i => some (i * inf'.size, inf'.size)) (fun f p hp => by rw [h2]; exact hp) hb hzero hl hall
        refine ⟨_, _, hK, run_build w t vs us'.toArray ?_, by simp only [RepAV]; exact ⟨_, rfl, hr'⟩⟩
        unfold Program.built
        simp only [hinf, hti.under, hd, hz, h1]
        simpa using hf
      · cases h
    · cases h
  · cases h
end
end Go.Pe
end
section
namespace Go.Pe
open Go.RowKit
set_option linter.unusedSectionVars false
variable [GI]
set_option linter.unusedSimpArgs false
set_option linter.unusedVariables false

theorem getL_lt {α : Type} {l : List (Option α)} {i : Nat} {x : α} (h : getL l i = some x) : i < l.length := by
  unfold getL at h
  split at h
  · rename_i h1; exact (List.getElem?_eq_some_iff.1 h1).1
  · cases h
theorem getL_app {α : Type} {l : List (Option α)} {y : Option α} {i : Nat} (h : i < l.length) : getL (l ++ [y]) i = getL l i := by
  unfold getL; rw [List.getElem?_append_left h]
theorem getL_new {α : Type} {l : List (Option α)} {y : Option α} : getL (l ++ [y]) l.length = y := by
  unfold getL; rw [List.getElem?_append_right (Nat.le_refl _)]; simp; cases y <;> rfl
theorem getL_set {α : Type} {l : List (Option α)} {y : Option α} {i j : Nat} (h : i < l.length) : getL (l.set i y) j = if j = i then y else getL l j := by
  unfold getL
  by_cases e : j = i
  · subst e; rw [List.getElem?_set_self h, if_pos rfl]; cases y <;> rfl
  · rw [List.getElem?_set_ne (Ne.symm e), if_neg e]

def Mu.upd (μ : Mu) (x : Loc) (b : Nat) : Mu := { μ with at_ := fun y => if y = x then some b else μ.at_ y }
def Mu.setCap (μ : Mu) (t c : Nat) : Mu := { μ with cap := fun s => if s = t then c else μ.cap s }
theorem RepSX.congr {μ μ' : Mu} {keep : Value} (h1 : μ'.dp = μ.dp) (h2 : μ'.at_ (.n 0) = μ.at_ (.n 0)) {x : SX} {v : Value} (h : RepSX μ keep x v) : RepSX μ' keep x v := by
  cases x <;> simp only [RepSX, hdrV, h1, h2] at h ⊢ <;> exact h
theorem RepSX.upd {μ : Mu} {keep : Value} {y : Loc} {b : Nat} (hy : y ≠ .n 0) {x : SX} {v : Value} (h : RepSX μ keep x v) : RepSX (μ.upd y b) keep x v :=
  RepSX.congr (μ := μ) (μ' := μ.upd y b) rfl (by simp only [Mu.upd]; rw [if_neg (Ne.symm hy)]) h

section
variable {A0 : Dom} {w0 w : World} {recs : List (Option (List AV))} {lsts : List (Option LObj)} {μ : Mu}

theorem heap_alloc (w : World) (o : Obj) {k : Nat} (h : k < w.heap.size) : (w.alloc o).heap[k]? = w.heap[k]? := Below.heap_alloc w o k h
theorem heap_alloc_new (w : World) (o : Obj) : (w.alloc o).heap[w.heap.size]? = some o := by
  show (w.heap.push o)[w.heap.size]? = _
  simp

theorem imm_upd {x : Loc} {o : Obj} {b : Nat} (h : Imm A0 w0 μ w b) : Imm A0 w0 (μ.upd x w.heap.size) (w.alloc o) b := by
  refine ⟨h.1, by have := h.2.1; simp; omega, fun y hy => ?_⟩
  simp only [Mu.upd] at hy
  split at hy
  · cases hy; exact absurd h.2.1 (Nat.lt_irrefl _)
  · exact h.2.2 y hy
theorem imm_cap {t c b : Nat} : Imm A0 w0 (μ.setCap t c) w b ↔ Imm A0 w0 μ w b := Iff.rfl

theorem le_newRec (o : Obj) (cells : List AV) : (cx A0 w0 recs lsts w μ).Le (cx A0 w0 (recs ++ [some cells]) lsts (w.alloc o) (μ.upd (.r recs.length) w.heap.size)) :=
  ⟨fun _ hb => imm_upd hb, fun b hb => heap_alloc w o hb.2.1, by simp [cx], Nat.le_refl _,
   fun r hr hs => by
     have hr' : r < recs.length := hr
     simp only [cx, getL_app hr'] at hs ⊢
     exact ⟨hs, by simp only [Mu.upd]; rw [if_neg (by intro e; cases e; exact absurd hr' (Nat.lt_irrefl _))]⟩,
   fun t o' ht ho => ⟨o', ho, rfl, rfl, by simp [cx, Mu.upd], rfl⟩, fun x v h => RepSX.upd (by simp) h⟩

theorem Mem.newRec' (hm : Mem A0 w0 recs lsts w μ) {cells : List AV} {us : Array Value} (el : TypeId) (hr : RepAVs (cx A0 w0 (recs ++ [some cells]) lsts (w.alloc (.cells us el)) (μ.upd (.r recs.length) w.heap.size)) cells us.toList) (hbt : isBld cells = true → el = GI.bt) :
    Mem A0 w0 (recs ++ [some cells]) lsts (w.alloc (.cells us el)) (μ.upd (.r recs.length) w.heap.size) := by
  have hnm : ∀ l, cells ≠ .sx .mark :: l := by
    rintro l rfl
    obtain ⟨v, vs, _, h, _⟩ := hr.cons'
    simp only [RepAV, RepSX] at h
  have hle := le_newRec (A0 := A0) (w0 := w0) (w := w) (recs := recs) (lsts := lsts) (μ := μ) (.cells us el) cells
  have hlive : ∀ x b, μ.at_ x = some b → x ≠ .r recs.length := by
    intro x b hx e; subst e
    obtain ⟨c, hc⟩ := Option.isSome_iff_exists.1 (hm.live _ _ hx).2.2
    exact absurd (getL_lt hc) (Nat.lt_irrefl _)
  constructor
  · intro r cells' h hk
    rcases Nat.lt_trichotomy r recs.length with hlt | heq | hgt
    · rw [getL_app hlt] at h
      obtain ⟨b, vs, hb, ho, hv⟩ := hm.hrec r cells' h hk
      exact ⟨b, vs, by simp only [Mu.upd]; rw [if_neg (hlive _ _ hb)]; exact hb, ho.ext (heap_alloc w _ (hm.live _ _ hb).2.1), hv.mono hle⟩
    · subst heq
      rw [getL_new] at h; cases h
      exact ⟨w.heap.size, us, by simp [Mu.upd], ⟨el, heap_alloc_new w _⟩, hr⟩
    · have := getL_lt h; simp at this; omega
  · intro t o ht
    rcases hm.hlst t o ht with ⟨h1, h2⟩ | ⟨b, vs, hb, ho, hsz, hcap, us', rest, e, hr'⟩
    · exact .inl ⟨by simpa [cx, Mu.upd] using h1, h2⟩
    · exact .inr ⟨b, vs, by simpa [cx, Mu.upd] using hb, ho.ext (heap_alloc w _ (hm.live _ _ hb).2.1), hsz, hcap, us', rest, e, hr'.imp fun x u hx => hx.mono hle.A hle.w⟩
  · intro x b hx
    simp only [Mu.upd] at hx
    split at hx
    · rename_i e; cases hx; subst e
      exact ⟨hm.below.size, by simp, by simp [getL_new]⟩
    · obtain ⟨h1, h2, h3⟩ := hm.live x b hx
      refine ⟨h1, by simp; omega, ?_⟩
      cases x with
      | r r =>
        obtain ⟨c, hc⟩ := Option.isSome_iff_exists.1 h3
        simp only; rw [getL_app (getL_lt hc)]; exact h3
      | l t => exact h3
      | n k => exact h3
  · intro x y b hx hy
    simp only [Mu.upd] at hx hy
    split at hx <;> split at hy
    · simp_all
    · cases hx; exact absurd (hm.live _ _ hy).2.1 (Nat.lt_irrefl _)
    · cases hy; exact absurd (hm.live _ _ hx).2.1 (Nat.lt_irrefl _)
    · exact hm.inj _ _ _ hx hy
  · exact hm.below.alloc hm.below.size _
  · intro b hb
    obtain ⟨h1, h2, h3⟩ := hm.fr b hb
    refine ⟨by simp; omega, by rw [heap_alloc w _ h1]; exact h2, fun x hx => ?_⟩
    simp only [Mu.upd] at hx
    split at hx
    · cases hx; exact absurd h1 (Nat.lt_irrefl _)
    · exact h3 x hx
  · intro b hb
    obtain ⟨h1, h3⟩ := hm.xo b hb
    refine ⟨by simp; omega, fun x hx => ?_⟩
    simp only [Mu.upd] at hx
    split at hx
    · cases hx; exact absurd h1 (Nat.lt_irrefl _)
    · exact h3 x hx
  · have := hm.np; simp; omega
  · intro r b hb
    obtain ⟨h1, h2⟩ := hm.pins r b hb
    have h0 := Nat.lt_of_lt_of_le h1 hm.np
    refine ⟨h1, fun hs => ?_⟩
    rw [getL_app h0] at hs
    simp only [Mu.upd]
    rw [if_neg (by intro e; cases e; exact absurd h0 (Nat.lt_irrefl _))]
    exact h2 hs
  · exact hm.gi
  · refine hm.bty.map (fun r' c' h1 h2 b hb => ?_) (fun t' o' h1 h2 b hb => .inl ⟨t', o', h1, h2, by simpa [Mu.upd] using hb⟩) fun x b vs T hx hv => ⟨vs, (heap_alloc w _ (hm.live _ _ hx).2.1).trans hv⟩
    rcases Nat.lt_trichotomy r' recs.length with hlt | heq | hgt
    · rw [getL_app hlt] at h1
      simp only [Mu.upd] at hb
      rw [if_neg (by intro e; cases e; exact absurd hlt (Nat.lt_irrefl _))] at hb
      exact .inl ⟨r', c', h1, h2, hb⟩
    · subst heq
      rw [getL_new] at h1; cases h1
      simp only [Mu.upd, if_true] at hb
      cases hb
      exact .inr ⟨us, by rw [heap_alloc_new]; rw [hbt h2]⟩
    · have := getL_lt h1; simp at this; omega
  · intro r c h
    rcases Nat.lt_trichotomy r recs.length with hlt | heq | hgt
    · rw [getL_app hlt] at h
      exact (hm.htop r c h).imp (c := cx A0 w0 recs lsts w μ) rfl (by simp [cx, Mu.upd]) (fun b hb => heap_alloc w _ (hm.live _ _ hb).2.1) fun us hu => hu.mono hle
    · subst heq
      rw [getL_new] at h; exact absurd (Option.some.inj h) (hnm c)
    · have := getL_lt h; simp at this; omega
  · intro d hd
    refine (hm.deep d hd).mono (c := cx A0 w0 recs lsts w μ) ⟨hle.A, hle.w, fun k => by simp [cx, Mu.upd], fun k b hb => heap_alloc w _ (hm.live _ _ hb).2.1, hle.nr, fun r hr h => ?_⟩
    have hr' : r < recs.length := hr
    simp only [cx, Mu.upd]; rw [if_neg (by intro e; cases e; exact absurd hr' (Nat.lt_irrefl _))]; exact h
  · exact hm.pinl.le hle
theorem le_newLst (o : Obj) (l : LObj) (c : Nat) : (cx A0 w0 recs lsts w μ).Le (cx A0 w0 recs (lsts ++ [some l]) (w.alloc o) ((μ.upd (.l lsts.length) w.heap.size).setCap lsts.length c)) :=
  ⟨fun _ hb => imm_upd hb, fun b hb => heap_alloc w o hb.2.1, Nat.le_refl _, by simp [cx],
   fun r hr hs => ⟨hs, by simp [cx, Mu.upd, Mu.setCap]⟩,
   fun t o' ht ho => by
     have ht' : t < lsts.length := ht
     simp only [cx, getL_app ht'] at ho
     exact ⟨o', ho, rfl, rfl, by simp only [cx, Mu.upd, Mu.setCap]; rw [if_neg (by intro e; cases e; exact absurd ht' (Nat.lt_irrefl _))], Mu.capOf_eq (by simp only [cx, Mu.upd, Mu.setCap]; rw [if_neg (by omega)]) _⟩, fun x v h => RepSX.congr (μ := μ.upd (.l lsts.length) w.heap.size) rfl rfl (RepSX.upd (by simp) h)⟩

theorem Mem.newLst' (hm : Mem A0 w0 recs lsts w μ) {l : LObj} {us : List Value} {rest : List Value} (hr : RepL (Imm A0 w0 μ w) w l.e l.xs us rest) {vs : Array Value} (hvs : vs.toList = us ++ rest) {c : Nat} (hsz : vs.size = c * l.e.size) (hcap : l.xs.length ≤ c) (ob : Obj) (hown : OwnL l.e (w.alloc ob) w.heap.size vs) (hel : l.e = .int .u8 → ob = .cells vs GI.u8) :
    Mem A0 w0 recs (lsts ++ [some l]) (w.alloc ob) ((μ.upd (.l lsts.length) w.heap.size).setCap lsts.length c) := by
  have hle := le_newLst (A0 := A0) (w0 := w0) (w := w) (recs := recs) (lsts := lsts) (μ := μ) ob l c
  have hlive : ∀ x b, μ.at_ x = some b → x ≠ .l lsts.length := by
    intro x b hx e; subst e
    obtain ⟨c, hc⟩ := Option.isSome_iff_exists.1 (hm.live _ _ hx).2.2
    exact absurd (getL_lt hc) (Nat.lt_irrefl _)
  constructor
  · intro r cells' h hk
    obtain ⟨b, vs', hb, ho, hv⟩ := hm.hrec r cells' h hk
    exact ⟨b, vs', by simp only [Mu.upd, Mu.setCap]; rw [if_neg (hlive _ _ hb)]; exact hb, ho.ext (heap_alloc w _ (hm.live _ _ hb).2.1), hv.mono hle⟩
  · intro t o ht
    rcases Nat.lt_trichotomy t lsts.length with hlt | heq | hgt
    · rw [getL_app hlt] at ht
      rcases hm.hlst t o ht with ⟨h1, h2⟩ | ⟨b, vs', hb, ho, hsz', hcap', us', rest', e, hr'⟩
      · exact .inl ⟨by simp only [cx, Mu.upd, Mu.setCap]; rw [if_neg (by intro e; cases e; exact absurd hlt (Nat.lt_irrefl _))]; exact h1, h2⟩
      · refine .inr ⟨b, vs', by simp only [cx, Mu.upd, Mu.setCap]; rw [if_neg (hlive _ _ hb)]; exact hb, ho.ext (heap_alloc w _ (hm.live _ _ hb).2.1), ?_, ?_, us', rest', e, hr'.imp fun x u hx => hx.mono hle.A hle.w⟩
        · simp only [cx, Mu.upd, Mu.setCap]; rw [if_neg (by omega)]; exact hsz'
        · simp only [cx, Mu.upd, Mu.setCap]; rw [if_neg (by omega)]; exact hcap'
    · subst heq
      rw [getL_new] at ht; cases ht
      exact .inr ⟨w.heap.size, vs, by simp [cx, Mu.upd, Mu.setCap], hown, by simp [cx, Mu.upd, Mu.setCap, hsz], by simp [cx, Mu.upd, Mu.setCap, hcap], us, rest, hvs, hr.imp fun x u hx => hx.mono hle.A hle.w⟩
    · have := getL_lt ht; simp at this; omega
  · intro x b hx
    simp only [Mu.upd, Mu.setCap] at hx
    split at hx
    · rename_i e; cases hx; subst e
      exact ⟨hm.below.size, by simp, by simp [getL_new]⟩
    · obtain ⟨h1, h2, h3⟩ := hm.live x b hx
      refine ⟨h1, by simp; omega, ?_⟩
      cases x with
      | r r => exact h3
      | n k => exact h3
      | l t =>
        obtain ⟨c, hc⟩ := Option.isSome_iff_exists.1 h3
        simp only; rw [getL_app (getL_lt hc)]; exact h3
  · intro x y b hx hy
    simp only [Mu.upd, Mu.setCap] at hx hy
    split at hx <;> split at hy
    · simp_all
    · cases hx; exact absurd (hm.live _ _ hy).2.1 (Nat.lt_irrefl _)
    · cases hy; exact absurd (hm.live _ _ hx).2.1 (Nat.lt_irrefl _)
    · exact hm.inj _ _ _ hx hy
  · exact hm.below.alloc hm.below.size _
  · intro b hb
    obtain ⟨h1, h2, h3⟩ := hm.fr b hb
    refine ⟨by simp; omega, by rw [heap_alloc w _ h1]; exact h2, fun x hx => ?_⟩
    simp only [Mu.upd, Mu.setCap] at hx
    split at hx
    · cases hx; exact absurd h1 (Nat.lt_irrefl _)
    · exact h3 x hx
  · intro b hb
    obtain ⟨h1, h3⟩ := hm.xo b hb
    refine ⟨by simp; omega, fun x hx => ?_⟩
    simp only [Mu.upd, Mu.setCap] at hx
    split at hx
    · cases hx; exact absurd h1 (Nat.lt_irrefl _)
    · exact h3 x hx
  · exact hm.np
  · intro r b hb
    obtain ⟨h1, h2⟩ := hm.pins r b hb
    exact ⟨h1, fun hs => by simp only [Mu.upd, Mu.setCap]; rw [if_neg (by intro e; cases e)]; exact h2 hs⟩
  · exact hm.gi
  · refine hm.bty.map (fun r' c' h1 h2 b hb => .inl ⟨r', c', h1, h2, by simpa [Mu.upd, Mu.setCap] using hb⟩) (fun t' o' h1 h2 b hb => ?_) fun x b vs T hx hv => ⟨vs, (heap_alloc w _ (hm.live _ _ hx).2.1).trans hv⟩
    rcases Nat.lt_trichotomy t' lsts.length with hlt | heq | hgt
    · rw [getL_app hlt] at h1
      simp only [Mu.upd, Mu.setCap] at hb
      rw [if_neg (by intro e; cases e; exact absurd hlt (Nat.lt_irrefl _))] at hb
      exact .inl ⟨t', o', h1, h2, hb⟩
    · subst heq
      rw [getL_new] at h1; cases h1
      simp only [Mu.upd, Mu.setCap, if_true] at hb
      cases hb
      exact .inr ⟨vs, by rw [heap_alloc_new, hel h2]⟩
    · have := getL_lt h1; simp at this; omega
  · intro r c h
    exact (hm.htop r c h).imp (c := cx A0 w0 recs lsts w μ) rfl (by simp [cx, Mu.upd, Mu.setCap]) (fun b hb => heap_alloc w _ (hm.live _ _ hb).2.1) fun us hu => hu.mono hle
  · intro d hd
    exact (hm.deep d hd).mono (c := cx A0 w0 recs lsts w μ) ⟨hle.A, hle.w, fun k => by simp [cx, Mu.upd, Mu.setCap], fun k b hb => heap_alloc w _ (hm.live _ _ hb).2.1, hle.nr, fun r hr h => by simp only [cx, Mu.upd, Mu.setCap]; rw [if_neg (by intro e; cases e)]; exact h⟩
  · exact hm.pinl.le hle
theorem Mem.newLst (hm : Mem A0 w0 recs lsts w μ) {l : LObj} (hp : l.e.isMap = false) {us : List Value} {rest : List Value} (hr : RepAll (Rep (Imm A0 w0 μ w) w l.e) l.xs us) {vs : Array Value} (hvs : vs.toList = us ++ rest) {c : Nat} (hsz : vs.size = c * l.e.size) (hcap : l.xs.length ≤ c) (el : TypeId) (hel : l.e = .int .u8 → el = GI.u8) :
    Mem A0 w0 recs (lsts ++ [some l]) (w.alloc (.cells vs el)) ((μ.upd (.l lsts.length) w.heap.size).setCap lsts.length c) :=
  hm.newLst' (.plain hp hr) hvs hsz hcap _ ((OwnL.plain hp).2 ⟨el, heap_alloc_new w _⟩) fun h => by rw [hel h]

theorem le_nilLst (l : LObj) : (cx A0 w0 recs lsts w μ).Le (cx A0 w0 recs (lsts ++ [some l]) w μ) :=
  ⟨fun _ hb => hb, fun b hb => rfl, Nat.le_refl _, by simp [cx], fun r hr hs => ⟨hs, rfl⟩,
   fun t o' ht ho => by
     have ht' : t < lsts.length := ht
     simp only [cx, getL_app ht'] at ho
     exact ⟨o', ho, rfl, rfl, rfl, rfl⟩, fun _ _ h => h⟩
theorem Mem.nilLst (hm : Mem A0 w0 recs lsts w μ) {l : LObj} (hl : l.xs = []) (hpl : l.e.isMap = false) : Mem A0 w0 recs (lsts ++ [some l]) w μ := by
  have hle := le_nilLst (A0 := A0) (w0 := w0) (w := w) (recs := recs) (lsts := lsts) (μ := μ) l
  constructor
  · intro r cells' h hk
    obtain ⟨b, vs', hb, ho, hv⟩ := hm.hrec r cells' h hk
    exact ⟨b, vs', hb, ho, hv.mono hle⟩
  · intro t o ht
    rcases Nat.lt_trichotomy t lsts.length with hlt | heq | hgt
    · rw [getL_app hlt] at ht
      exact hm.hlst t o ht
    · subst heq
      rw [getL_new] at ht; cases ht
      refine .inl ⟨?_, hl, hpl⟩
      show μ.at_ _ = none
      cases hx : μ.at_ (.l lsts.length) with
      | none => rfl
      | some b =>
        obtain ⟨c, hc⟩ := Option.isSome_iff_exists.1 (hm.live _ _ hx).2.2
        exact absurd (getL_lt hc) (Nat.lt_irrefl _)
    · have := getL_lt ht; simp at this; omega
  · intro x b hx
    obtain ⟨h1, h2, h3⟩ := hm.live x b hx
    refine ⟨h1, h2, ?_⟩
    cases x with
    | r r => exact h3
    | n k => exact h3
    | l t =>
      obtain ⟨c, hc⟩ := Option.isSome_iff_exists.1 h3
      simp only; rw [getL_app (getL_lt hc)]; exact h3
  · exact hm.inj
  · exact hm.below
  · exact hm.fr
  · exact hm.xo
  · exact hm.np
  · exact hm.pins
  · exact hm.gi
  · refine hm.bty.map (fun r' c' h1 h2 b hb => .inl ⟨r', c', h1, h2, hb⟩) (fun t' o' h1 h2 b hb => ?_) fun x b vs T hx hv => ⟨vs, hv⟩
    rcases Nat.lt_trichotomy t' lsts.length with hlt | heq | hgt
    · rw [getL_app hlt] at h1
      exact .inl ⟨t', o', h1, h2, hb⟩
    · subst heq
      obtain ⟨c, hc⟩ := Option.isSome_iff_exists.1 (hm.live _ _ hb).2.2
      exact absurd (getL_lt hc) (Nat.lt_irrefl _)
    · have := getL_lt h1; simp at this; omega
  · intro r c h
    exact (hm.htop r c h).imp (c := cx A0 w0 recs lsts w μ) rfl rfl (fun b hb => rfl) fun us hu => hu.mono hle
  · intro d hd
    exact (hm.deep d hd).mono (c := cx A0 w0 recs lsts w μ) ⟨hle.A, hle.w, fun k => rfl, fun k b hb => rfl, hle.nr, fun r hr h => h⟩
  · exact hm.pinl.le hle
end
end Go.Pe
end
