/- The evaluator: what an operation, a region and a body come to, of the abstract state. -/
import Derived.Test.YtgghmllnhaahgaaPeHand
namespace Go.Pe
open Go.RowKit

section
variable (ε : Env) {S : Type}

def ty1 (t : Nat) : Option Ty := (ε.ti t).bind fun i => i.ty
/-- A slice type's element type. -/
def elemT (t : Nat) : Option Nat := match ε.ti t with | some i => (match i.desc with | .slice e => some e | _ => none) | none => none

def evInt (op : BinOp) (k : IntKind) (a b : Int) (K : AV → Option S) : Option S :=
  match op with
  | .add => K (.d (.int k) (k.wrap (a + b)))
  | .sub => K (.d (.int k) (k.wrap (a - b)))
  | .mul => K (.d (.int k) (k.wrap (a * b)))
  | .quo => if b = 0 then none else K (.d (.int k) (k.wrap (a.tdiv b)))
  | .rem => if b = 0 then none else K (.d (.int k) (a.tmod b))
  | .and => K (.d (.int k) (k.wrap (BitVec.ofInt k.bits a &&& BitVec.ofInt k.bits b).toNat))
  | .or => K (.d (.int k) (k.wrap (BitVec.ofInt k.bits a ||| BitVec.ofInt k.bits b).toNat))
  | .xor => K (.d (.int k) (k.wrap (BitVec.ofInt k.bits a ^^^ BitVec.ofInt k.bits b).toNat))
  | .andNot => K (.d (.int k) (k.wrap (BitVec.ofInt k.bits a &&& ~~~BitVec.ofInt k.bits b).toNat))
  | .eql => K (.d .bool (a == b))
  | .neq => K (.d .bool (a != b))
  | .lss => K (.d .bool (decide (a < b)))
  | .leq => K (.d .bool (decide (a ≤ b)))
  | .gtr => K (.d .bool (decide (a > b)))
  | .geq => K (.d .bool (decide (a ≥ b)))
  | _ => none

def evStr (op : BinOp) (a b : List UInt8) (K : AV → Option S) : Option S :=
  match op with
  | .add => if a.length + b.length ≤ 4611686018427387904 then K (.d .str (a ++ b)) else none
  | .eql => K (.d .bool (a == b))
  | .neq => K (.d .bool (a != b))
  | .lss => K (.d .bool (Op.bytesLess a b))
  | .leq => K (.d .bool (Op.bytesLess a b || a == b))
  | .gtr => K (.d .bool (!(Op.bytesLess a b || a == b)))
  | .geq => K (.d .bool (!(Op.bytesLess a b)))
  | _ => none

def eqCell : TypeDesc → AV → AV → Option Bool
  | .bool, .d .bool a, .d .bool b => some (a == b)
  | .int _, .d (.int k) a, .d (.int k') b => if k = k' then some (a == b) else none
  | .string, .d .str a, .d .str b => some (a == b)
  | _, _, _ => none
def eqField (f : Field) (x y : AV) : Option Bool := match ε.ti f.type with | some i => eqCell i.desc x y | none => none
def eqCells : List Field → List AV → List AV → Option Bool
  | [], [], [] => some true
  | [f], [x], [y] => eqField ε f x y
  | f :: fs, x :: xs, y :: ys => (eqField ε f x y).bind fun b => (eqCells fs xs ys).bind fun r => some (b && r)
  | _, _, _ => none
/-- The fields of a struct that '==' compares one by one. -/
def eqT (t : Nat) : Option (List Field) := match ε.ti t with | some i => (match i.eq with | true => (match i.desc with | .struct fs => some fs.toList | _ => none) | false => none) | none => none
def isBool (t : Nat) : Bool := match ε.ti t with | some i => (match i.desc with | .bool => true | _ => false) | none => false
def evBool (op : BinOp) (a b : Bool) (K : AV → Option S) : Option S := match op with
  | .eql => K (.d .bool (a == b))
  | .neq => K (.d .bool (a != b))
  | _ => none
def evBin (op : BinOp) (t : Nat) (x y : AV) (K : AV → Option S) : Option S :=
  match x, y with
  | .d (.int k) a, .d (.int k') b =>
    match op with
    | .shl => if b < 0 then none else K (.d (.int k) (k.wrap (a * 2 ^ (min b.toNat k.bits))))
    | .shr => if b < 0 then none else K (.d (.int k) (a.fdiv (2 ^ (min b.toNat k.bits))))
    | op => if k = k' then evInt op k a b K else none
  | .d .str a, .d .str b => evStr op a b K
  | .agg a, .agg b => (match eqT ε t with
    | some fs => (match op with
      | .eql => (eqCells ε fs a b).bind fun r => K (.d .bool r)
      | .neq => (eqCells ε fs a b).bind fun r => K (.d .bool (!r))
      | _ => none)
    | none => none)
  | .d .bool a, .d .bool b => (match isBool ε t with | true => evBool op a b K | false => none)
  | _, _ => none

def evUn (op : UnOp) (x : AV) (K : AV → Option S) : Option S :=
  match op, x with
  | .not, .d .bool b => K (.d .bool (!b))
  | .neg, .d (.int k) n => K (.d (.int k) (k.wrap (0 - n)))
  | _, _ => none

def bytesOf (s : List UInt8) : List Int := s.map fun b => (b.toNat : Int)
def strOf (l : List Int) : List UInt8 := l.map fun n => UInt8.ofNat n.toNat

def isByteSlice (t : Nat) : Bool := match elemT ε t with
  | some et => (match ε.ti et with | some i => (match i.desc with | .int .u8 => i.size == 1 | _ => false) | none => false)
  | none => false
def isStr (t : Nat) : Bool := match ε.ti t with | some i => (match i.desc with | .string => true | _ => false) | none => false
/-- A slice type whose elements have as many cells as a kind. -/
def szOk (t : Nat) (e : Ty) : Bool := match elemT ε t with
  | some et => (match ε.ti et with | some i => i.size == e.size | none => false)
  | none => false

def evConv (lsts : List (Option LObj)) (src dst : Nat) (x : AV) (K : AV → Option S) : Option S :=
  match ε.ti src, ε.ti dst with
  | some _, some i =>
    (match i.desc, x with
    | .int k, .d (.int _) n => K (.d (.int k) (k.wrap n))
    | .string, .d .str s => K (.d .str s)
    | .string, x => if isByteSlice ε src then (asTy lsts (.list (.int .u8)) x).bind fun l => K (.d .str (strOf l)) else none
    | .slice _, .d .str s => if isByteSlice ε dst then K (.d (.list (.int .u8)) (bytesOf s)) else none
    | _, _ => none)
  | _, _ => none

/-- A value as a list, with its elements' kind. -/
def AV.list (lsts : List (Option LObj)) : AV → Option LObj
  | .d (.list e) x => some ⟨e, x⟩
  | .full e x => some ⟨e, x⟩
  | .whole t => getL lsts t
  | _ => none

def evLen (t : Nat) (lsts : List (Option LObj)) (x : AV) (K : AV → Option S) : Option S :=
  match x with
  | .d .str s => if isStr ε t then K (.d (.int .i64) (s.length : Int)) else none
  | .nilS => if (elemT ε t).isSome then K (.d (.int .i64) 0) else none
  | .sx (.stk fs) => if (elemT ε t).isSome then K (.d (.int .i64) (fs.length : Int)) else none
  | .sx (.foc _ fs) => if (elemT ε t).isSome then K (.d (.int .i64) ((fs.length : Int) + 1)) else none
  | x => if (elemT ε t).isSome then (match x.list lsts with
    | some o => K (.d (.int .i64) (o.xs.length : Int))
    | none => none) else none

def cutLo {α : Type} (l : List α) (a : Int) (K : List α → Option S) : Option S := if 0 ≤ a ∧ a ≤ (l.length : Int) then K (l.drop a.toNat) else none
def cutHi {α : Type} (l : List α) (b : Int) (K : List α → Option S) : Option S := if 0 ≤ b ∧ b ≤ (l.length : Int) then K (l.take b.toNat) else none
def cutMid {α : Type} (l : List α) (a b : Int) (K : List α → Option S) : Option S := if 0 ≤ a ∧ a ≤ b ∧ b ≤ (l.length : Int) then K ((l.take b.toNat).drop a.toNat) else none
def sameInt (a b : Int) (K : Option S) : Option S := if a = b then K else none
def within (n : Int) (len : Nat) (K : Option S) : Option S := if 0 ≤ n ∧ n < (len : Int) then K else none
def cut {α : Type} (l : List α) (lo hi : Option AV) (K : List α → Option S) : Option S :=
  match lo, hi with
  | none, none => K l
  | some (.d (.int _) a), none => cutLo l a K
  | none, some (.d (.int _) b) => cutHi l b K
  | some (.d (.int _) a), some (.d (.int _) b) => cutMid l a b K
  | _, _ => none

def evSlice (t : Nat) (x : AV) (lo hi mx : Option AV) (K : AV → Option S) : Option S :=
  match x, mx with
  | .d .str s, none => if isStr ε t then cut s lo hi fun r => K (.d .str r) else none
  | .d (.list e) l, none => if szOk ε t e then cut l lo hi fun r => K (.d (.list e) r) else none
  | .full e l, none => if szOk ε t e then cut l lo hi fun r => K (.d (.list e) r) else none
  | .d (.list e) l, some (.d (.int _) m) => (match hi with | some (.d (.int _) b) => if szOk ε t e then sameInt m b (cut l lo hi fun r => K (.full e r)) else none | _ => none)
  | .full e l, some (.d (.int _) m) => (match hi with | some (.d (.int _) b) => if szOk ε t e then sameInt m b (cut l lo hi fun r => K (.full e r)) else none | _ => none)
  | .sx (.foc r fs), none => (match lo, hi with | none, some (.d (.int _) b) => if szOk ε t .value then sameInt b (fs.length : Int) (K (.sx (.cut r fs))) else none | _, _ => none)
  | _, _ => none

def fieldAt (t f : Nat) : Option (Nat × Nat × Bool) :=   -- where a field begins, its cells, whether it is a struct
  match ε.ti t with
  | some i => (match i.desc with
    | .struct fs => (match fs[f]? with | some fd => (match ε.ti fd.type with | some j => some (fd.offset, j.size, j.agg) | none => none) | none => none)
    | _ => none)
  | none => none

def partOf (cells : List AV) (off n : Nat) (ag : Bool) : Option AV :=
  if ag then (if off + n ≤ cells.length then some (.agg ((cells.drop off).take n)) else none)
  else match cells.drop off with | c :: _ => some c | [] => none

def evField (t : Nat) (x : AV) (f : Nat) (K : AV → Option S) : Option S :=
  match fieldAt ε t f, x with
  | some (off, n, ag), .agg l => (partOf l off n ag).bind K
  | _, _ => none

def evFieldAddr (st : St) (t : Nat) (x : AV) (f : Nat) (K : AV → Option S) : Option S :=
  match fieldAt ε t f with
  | some (off, n, _) => if n = 0 then none else
    (match x with
    | .ptr r o => if (getL st.recs r).isSome then K (.ptr r (o + off)) else none
    | .eptr t' i o => if (getL st.lsts t').isSome then K (.eptr t' i (o + off)) else none
    | .pim l => if off ≤ l.length then K (.pim (l.drop off)) else none
    | .sx (.tp r o) => K (.sx (.tp r (o + off)))
    | _ => none)
  | none => none

def evIndex (t : Nat) (x i : AV) (K : AV → Option S) : Option S :=
  match x, i with
  | .d .str s, .d (.int _) n => if isStr ε t then (nth s n).bind fun b => K (.d (.int .u8) (b.toNat : Int)) else none
  | _, _ => none

def evIndexAddr (t : Nat) (lsts : List (Option LObj)) (x i : AV) (K : AV → Option S) : Option S :=
  match x, i with
  | .whole q, .d (.int _) n => (match getL lsts q with | some o => if szOk ε t o.e then within n o.xs.length (K (.eptr q (Int.toNat n) 0)) else none | none => none)
  | .d (.list e) l, .d (.int _) n => if szOk ε t e then (nth l n).bind fun y => K (.pim (unpack e y)) else none
  | .full e l, .d (.int _) n => if szOk ε t e then (nth l n).bind fun y => K (.pim (unpack e y)) else none
  | .sx (.foc r fs), .d (.int _) n => if szOk ε t .value then sameInt n (fs.length : Int) (K (.sx (.tp r 0))) else none
  | _, _ => none

/-- The cells of such a record. -/
def topCells (recs : List (Option (List AV))) (r : Nat) : Option (List AV) := match getL recs r with
  | some (.sx .mark :: c) => some c
  | _ => none
def evLoad (st : St) (t : Nat) (a : AV) (K : AV → Option S) : Option S :=
  match ε.ti t with
  | none => none
  | some i =>
    match a with
    | .ptr r off => (match getL st.recs r with | some cells => (partOf cells off i.size i.agg).bind K | none => none)
    | .pim cells => (partOf cells 0 i.size i.agg).bind K
    | .eptr q n off => (match getL st.lsts q with | some o => (o.xs[n]?).bind fun y => (partOf (unpack o.e y) off i.size i.agg).bind K | none => none)
    | .sx (.tp r off) => (match topCells st.recs r with | some cells => (partOf cells off i.size i.agg).bind K | none => none)
    | _ => none

/-- What one cell may hold. -/
def AV.isCell : AV → Bool
  | .d t _ => (match t with | .bool | .int _ | .str | .list _ => true | _ => false)
  | .full _ _ | .nilS | .whole _ | .ptr _ _ | .eptr _ _ _ | .pim _ | .fn _ _ _ | .nilP | .ifc _ _ => true
  | .sx x => x.isCell
  | _ => false
def cellsOk : List AV → Bool
  | [] => true
  | v :: l => v.isCell && cellsOk l

def splice (cells : List AV) (off : Nat) (new : List AV) : List AV := cells.take off ++ new ++ cells.drop (off + new.length)

mutual
/-- A list of the call's own is told no more. -/
def AV.kill (t : Nat) : AV → AV
  | .whole j => if j = t then .dead else .whole j
  | .eptr j i o => if j = t then .dead else .eptr j i o
  | .pim l => .pim (killL t l)
  | .agg l => .agg (killL t l)
  | .ifc q l => .ifc q (killL t l)
  | .tup l => .tup (killL t l)
  | .fn f a b => .fn f (killL t a) (killL t b)
  | v => v
def killL (t : Nat) : List AV → List AV
  | [] => []
  | v :: l => v.kill t :: killL t l
end
mutual
/-- A list of the call's own is closed from now on. -/
def AV.froze (t : Nat) (o : LObj) : AV → AV
  | .whole j => if j = t then .d (.list o.e) o.xs else .whole j
  | .eptr j i q => if j = t then .dead else .eptr j i q
  | .pim l => .pim (frozeL t o l)
  | .agg l => .agg (frozeL t o l)
  | .ifc q l => .ifc q (frozeL t o l)
  | .tup l => .tup (frozeL t o l)
  | .fn f a b => .fn f (frozeL t o a) (frozeL t o b)
  | v => v
def frozeL (t : Nat) (o : LObj) : List AV → List AV
  | [] => []
  | v :: l => v.froze t o :: frozeL t o l
end
def St.mapAV (f : AV → AV) (st : St) : St := { st with slots := st.slots.map f, recs := st.recs.map fun r => r.map fun l => l.map f }
def St.freeze1 (st : St) (t : Nat) : St :=
  match getL st.lsts t with
  | some o => { (st.mapAV (AV.froze t o)) with lsts := st.lsts.set t none }
  | none => st
mutual
def AV.wholes : AV → List Nat
  | .whole j => [j]
  | .agg l | .tup l | .ifc _ l => wholesL l
  | .fn _ a b => wholesL a ++ wholesL b
  | _ => []
def wholesL : List AV → List Nat
  | [] => []
  | v :: l => v.wholes ++ wholesL l
end
/-- Close what a value tells of lists of the call's own: for good. -/
def St.freeze (st : St) (ts : List Nat) : St := ts.foldl St.freeze1 st

def evStore (st : St) (t : Nat) (a v : Operand) (K : St → Option S) : Option S :=
  match ε.ti t with
  | none => none
  | some i =>
    match st.ev a with
    | .ptr r off => if (st.ev v).cells.length = i.size ∧ cellsOk (st.ev v).cells = true then (match getL st.recs r with
      | some cells => if off + i.size ≤ cells.length then K { st with recs := st.recs.set r (some (splice cells off (st.ev v).cells)) } else none
      | none => none) else none
    | .eptr _ _ _ =>
      let st1 := st.freeze (st.ev v).wholes
      if (st1.ev v).cells.length = i.size ∧ cellsOk (st1.ev v).cells = true then
        (match st1.ev a with
        | .eptr q n off => (match getL st1.lsts q with
          | some o => (o.xs[n]?).bind fun y => if off + i.size ≤ (unpack o.e y).length then
            (packTo [] o.e (splice (unpack o.e y) off (st1.ev v).cells)).bind fun z => (match z.2 with | [] => K { st1 with lsts := st1.lsts.set q (some ⟨o.e, o.xs.set n z.1⟩) } | _ => none) else none
          | none => none)
        | _ => none) else none
    | .sx (.tp r off) => if (st.ev v).cells.length = i.size ∧ cellsOk (st.ev v).cells = true then (match topCells st.recs r with
      | some cells => if off + i.size ≤ cells.length then K { st with recs := st.recs.set r (some (.sx .mark :: splice cells off (st.ev v).cells)) } else none
      | none => none) else none
    | _ => none

/-- What is appended. -/
def appArg (lsts : List (Option LObj)) (xT : Nat) (e : Ty) (x : AV) : Option (List e.den) :=
  match x with
  | .d .str b => if isStr ε xT then asTy [] (.list e) (.d (.list (.int .u8)) (bytesOf b)) else none
  | x => if (elemT ε xT).isSome then asTy lsts (.list e) x else none
def appOk (n : Nat) (K : Option S) : Option S := if n ≤ 4294967296 then K else none
mutual
/-- Nothing more is told of a row of values that hold lists of their own. -/
def AV.killS : AV → AV
  | .sx _ => .dead
  | .pim l => .pim (killSL l)
  | .agg l => .agg (killSL l)
  | .ifc q l => .ifc q (killSL l)
  | .tup l => .tup (killSL l)
  | .fn f a b => .fn f (killSL a) (killSL b)
  | v => v
def killSL : List AV → List AV
  | [] => []
  | v :: l => v.killS :: killSL l
end
/-- Records of that kind are told no more. -/
def killSR (recs : List (Option (List AV))) : List (Option (List AV)) := recs.map fun r => match r with
  | some c => (match isMark c with | true => none | false => some (killSL c))
  | none => none
def oneOf {α : Type} : List α → Option α
  | [x] => some x
  | _ => none
def evAppend (st : St) (sT xT : Nat) (s x : AV) (K : AV → St → Option S) : Option S :=
  match s with
  | .nilS => (match (elemT ε sT).bind (ty1 ε) with
    | some e => (appArg ε st.lsts xT e x).bind fun ys => appOk ys.length (K (.whole st.lsts.length) { st with lsts := st.lsts ++ [some ⟨e, ys⟩] })
    | none => none)
  | .full e xs => if (elemT ε sT).bind (ty1 ε) = some e then (appArg ε st.lsts xT e x).bind fun ys => appOk (xs.length + ys.length) (K (.d (.list e) (xs ++ ys)) st) else none
  | .whole t => (match getL st.lsts t with
    | some o => if (elemT ε sT).bind (ty1 ε) = some o.e then (appArg ε st.lsts xT o.e x).bind fun ys =>
        appOk (o.xs.length + ys.length) (K (.whole t) { (st.mapAV (AV.kill t)) with lsts := st.lsts.set t (some ⟨o.e, o.xs ++ ys⟩) }) else none
    | none => none)
  | .sx (.stk fs) => if (elemT ε sT).bind (ty1 ε) = some .value then (appArg ε st.lsts xT .value x).bind fun ys => (oneOf ys).bind fun y =>
        appOk (fs.length + 1) (K (.sx (.foc st.recs.length fs)) { st with slots := killSL st.slots, recs := killSR st.recs ++ [some (.sx .mark :: unpack .value y)] }) else none
  | _ => none

def makeOk (n c : Int) (K : Option S) : Option S := if 0 ≤ n ∧ n ≤ c ∧ c ≤ 4294967296 then K else none
def evMake (st : St) (t : Nat) (len cap : AV) (K : AV → St → Option S) : Option S :=
  match elemT ε t with
  | none => none
  | some et => match ε.ti et, len, cap with
    | some i, .d (.int _) n, .d (.int _) c => (match i.ty with
      | some e => (match packTo [] e i.zero with
        | some (z, []) => makeOk n c (K (.whole st.lsts.length) { st with lsts := st.lsts ++ [some ⟨e, List.replicate (Int.toNat n) z⟩] })
        | _ => none)
      | none => none)
    | _, _, _ => none

def evBuildGo (place : Nat → Option (Nat × Nat)) (cells : List AV) : List (Nat × AV) → Option (List AV)
  | [] => some cells
  | (i, v) :: rest => match place i with
    | some (off, n) => if v.cells.length = n ∧ off + n ≤ cells.length ∧ cellsOk v.cells = true then evBuildGo place (splice cells off v.cells) rest else none
    | none => none
def evBuild (t : Nat) (parts : List (Nat × AV)) (K : AV → Option S) : Option S :=
  match ε.ti t with
  | some i => (match i.desc with
    | .struct fs => if !fs.toList.all (fun fd => (ε.ti fd.type).isSome) then none else (evBuildGo (fun f => (fieldAt ε t f).map fun q => (q.1, q.2.1)) i.zero parts).bind fun l => K (.agg l)
    | .array _ el => (match ε.ti el with
      | some j => (evBuildGo (fun f => some (f * j.size, j.size)) i.zero parts).bind fun l => K (.agg l)
      | none => none)
    | _ => none)
  | none => none

def packAll (e : Ty) : List (Nat × AV) → Nat → Option (List e.den)
  | [], _ => some []
  | (i, v) :: rest, k => if i = k ∧ cellsOk v.cells = true then (packVal [] e v).bind fun x => (packAll e rest (k + 1)).bind fun l => some (x :: l) else none
def hasN (n : Nat) : List Nat → Bool
  | [] => false
  | m :: l => match Nat.beq m n with | true => true | false => hasN n l
def ownLit (d : Option Nat) : Bool := match d with | some n => hasN n ε.own | none => false
def evBuildSlice (st : St) (own : Bool) (t len : Nat) (parts : List (Nat × Operand)) (K : AV → St → Option S) : Option S :=
  match (elemT ε t).bind (ty1 ε) with
  | some e => if parts.length = len ∧ len * e.size ≤ 16777216 ∧ e.size ≠ 0 then
      (match parts with
      | [] => K (.whole st.lsts.length) { st with lsts := st.lsts ++ [some ⟨e, []⟩] }
      | parts => let st1 := st.freeze (parts.flatMap fun p => (st.ev p.2).wholes)
        (packAll e (parts.map fun p => (p.1, st1.ev p.2)) 0).bind fun l => (match own with | true => K (.whole st1.lsts.length) { st1 with lsts := st1.lsts ++ [some ⟨e, l⟩] } | false => K (.full e l) st1)) else none
  | none => none

def resVal : List AV → AV
  | [v] => v
  | l => .tup l
/-- A call that hands own memory on. -/
def evHand (h : HF) (ρ lm : List Nat) (sm : SM) (st : St) (args : List AV) (K : AV → St → Option S) : Option S :=
  match nodupB ρ && nodupB lm && allSome st.recs ρ && allLt st.lsts.length lm && Nat.ble ρ.length h.I.recs.length with
  | false => none
  | true => (abs h.I (view st ρ lm sm args)).bind fun y => (h.F y).bind fun o => K (resVal (unvals st ρ lm sm (fill h.O o))) (unview st ρ lm sm (fill h.O o))
def evHands (st : St) (args : St → Option (List AV)) (K : AV → St → Option S) : List HF → Option S
  | [] => none
  | h :: r => match (args st).bind (mt h st) with
    | some m => (args (st.freeze m.fz)).bind fun l => evHand h m.ρ m.lm (fixSM (st.freeze m.fz).recs m.ρ m.sm) (st.freeze m.fz) l K
    | none => evHands st args K r
/-- The same, of a function that may panic. -/
def evHandP (h : PF) (ρ lm : List Nat) (sm : SM) (st : St) (args : List AV) (K Z : AV → St → Option S) : Option S :=
  match nodupB ρ && nodupB lm && allSome st.recs ρ && allLt st.lsts.length lm && Nat.ble ρ.length h.I.recs.length with
  | false => none
  | true => (abs h.I (view st ρ lm sm args)).bind fun y => (h.F y).bind fun o => match o with
    | .inl o => K (resVal (unvals st ρ lm sm (fill h.O o))) (unview st ρ lm sm (fill h.O o))
    | .inr z => Z (resVal (unvals st ρ lm sm (fill h.Z z))) (unview st ρ lm sm (fill h.Z z))
def evHandsP (st : St) (args : St → Option (List AV)) (K Z : AV → St → Option S) : List PF → Option S
  | [] => none
  | h :: r => match (args st).bind (mt h.hf st) with
    | some m => (args (st.freeze m.fz)).bind fun l => evHandP h m.ρ m.lm (fixSM (st.freeze m.fz).recs m.ρ m.sm) (st.freeze m.fz) l K Z
    | none => evHandsP st args K Z r
/-- What a call hands on. -/
def callArgs (g : Operand) (args : List Operand) (st : St) : Option (List AV) :=
  match st.ev g with
  | .fn _ a b => some (a ++ args.map st.ev ++ b)
  | _ => none
def evCall (st : St) (f : Nat) (args : List Operand) (pre post : List AV) (K : AV → St → Option S) : Option S :=
  match ε.fn f with
  | none => none
  | some (G, sc) =>
    if sc then (closeL st.lsts (pre ++ args.map st.ev ++ post)).bind fun as => G as fun v => if v.scalar then K v st else none
    else
      let st1 := st.freeze (args.flatMap fun p => (st.ev p).wholes)
      if closedL (pre ++ args.map st1.ev ++ post) then G (pre ++ args.map st1.ev ++ post) fun v => K v st1 else none

/- (chosen, so that the kernel never opens them) -/
noncomputable def minI : Int → Int → Int := Classical.choose (⟨fun a b => if @LT.lt Int _ b a then b else a, fun _ _ => rfl⟩ : ∃ f : Int → Int → Int, ∀ a b, f a b = if @LT.lt Int _ b a then b else a)
theorem minI_eq (a b : Int) : minI a b = if @LT.lt Int _ b a then b else a := Classical.choose_spec (⟨fun a b => if @LT.lt Int _ b a then b else a, fun _ _ => rfl⟩ : ∃ f : Int → Int → Int, ∀ a b, f a b = if @LT.lt Int _ b a then b else a) a b
noncomputable def maxI : Int → Int → Int := Classical.choose (⟨fun a b => if @GT.gt Int _ b a then b else a, fun _ _ => rfl⟩ : ∃ f : Int → Int → Int, ∀ a b, f a b = if @GT.gt Int _ b a then b else a)
theorem maxI_eq (a b : Int) : maxI a b = if @GT.gt Int _ b a then b else a := Classical.choose_spec (⟨fun a b => if @GT.gt Int _ b a then b else a, fun _ _ => rfl⟩ : ∃ f : Int → Int → Int, ∀ a b, f a b = if @GT.gt Int _ b a then b else a) a b
noncomputable def evMin (x y : AV) (K : AV → Option S) : Option S :=
  match x, y with
  | .d (.int k) a, .d (.int _) b => K (.d (.int k) (minI a b))
  | _, _ => none
noncomputable def evMax (x y : AV) (K : AV → Option S) : Option S :=
  match x, y with
  | .d (.int k) a, .d (.int _) b => K (.d (.int k) (maxI a b))
  | _, _ => none
/-- A new builder: its own address, or none, in its first cell. -/
def bldZero (b : Bool) (n : Nat) (cells : List AV) : List AV := match b with
  | true => (match cells with | [.nilP, .nilS] => [.bld n, .nilS] | l => l)
  | false => cells
def opt (st : St) (x : Option Operand) : Option AV := x.map st.ev

/-- One operation. -/
noncomputable def evOp (st : St) (o : Oper) (K : AV → St → Option S) : Option S :=
  match o.op with
  | .move x | .assign x => K (st.ev x) st
  | .pick c a b => (match st.ev c with | .d .bool t => cond t (K (st.ev a) st) (K (st.ev b) st) | _ => none)
  | .alloc t => (match ε.ti t with | some i => K (.ptr st.recs.length 0) { st with recs := st.recs ++ [some (bldZero i.bld st.recs.length i.zero)] } | none => none)
  | .box t x => (match ε.ti t with | some i => if (st.ev x).cells.length = i.size ∧ cellsOk (st.ev x).cells = true then K (.ptr st.recs.length 0) { st with recs := st.recs ++ [some (bldZero i.bld st.recs.length (st.ev x).cells)] } else none | none => none)
  | .build t parts => evBuild ε t (parts.toList.map fun p => (p.1, st.ev p.2)) fun v => K v st
  | .buildSlice t n parts => evBuildSlice ε st (ownLit ε o.dst) t n parts.toList K
  | .load t a => evLoad ε st t (st.ev a) fun v => K v st
  | .store t a x => evStore ε st t a x fun st' => K .dead st'
  | .nilCheck x => (match st.ev x with | .ptr r off => if (getL st.recs r).isSome then K (.ptr r off) st else none | .pim l => K (.pim l) st | .eptr t i off => if (getL st.lsts t).isSome then K (.eptr t i off) st else none | .sx x => (match x with | .tp r o => K (.sx (.tp r o)) st | _ => none) | .fn f a b => (match f with | .func _ => K (.fn f a b) st | _ => none) | _ => none)
  | .binOp op t x y _ => evBin ε op t (st.ev x) (st.ev y) fun v => K v st
  | .unOp op _ x => evUn op (st.ev x) fun v => K v st
  | .convert src dst x => evConv ε st.lsts src dst (st.ev x) fun v => K v st
  | .makeFunc f a b => K (.fn f (a.toList.map st.ev) (b.toList.map st.ev)) st
  | .makeInterface t x => (match ε.ti t with | some i => (match i.desc with | .struct _ | .int _ | .string | .bool => K (.ifc t [st.ev x]) st | _ => none) | none => none)
  | .makeSlice t l c => evMake ε st t (st.ev l) (st.ev c) K
  | .slice t x lo hi mx => evSlice ε t (st.ev x) (opt st lo) (opt st hi) (opt st mx) fun v => K v st
  | .fieldAddr t x f => evFieldAddr ε st t (st.ev x) f fun v => K v st
  | .field t x f => evField ε t (st.ev x) f fun v => K v st
  | .indexAddr t x i => evIndexAddr ε t st.lsts (st.ev x) (st.ev i) fun v => K v st
  | .index t x i => evIndex ε t (st.ev x) (st.ev i) fun v => K v st
  | .extract x i => (match st.ev x with | .tup l => (match l[i]? with | some v => K v st | none => none) | _ => none)
  | .call c => (match c.callee with
    | .builtin .len => (match c.argTypes.toList, c.args.toList with | [t], [x] => evLen ε t st.lsts (st.ev x) fun v => K v st | _, _ => none)
    | .builtin .append => (match c.argTypes.toList, c.args.toList with | [t, u], [s, x] => evAppend ε st t u (st.ev s) (st.ev x) K | _, _ => none)
    | .builtin .min => (match c.args.toList with | [x, y] => evMin (st.ev x) (st.ev y) fun v => K v st | _ => none)
    | .builtin .max => (match c.args.toList with | [x, y] => evMax (st.ev x) (st.ev y) fun v => K v st | _ => none)
    | .value g => (match st.ev g with | .fn (.func f) a b => (match (ε.fn f).isSome with | true => evCall ε st f c.args.toList a b K | false => evHands st (callArgs g c.args.toList) K (ε.hf f)) | _ => none)
    | _ => none)
  | _ => none

/-- A list compared with nil: which it is hangs on what is not told of a list of nothing: both ways must come to the same. -/
def nilCmp (st : St) (o : Oper) : Option ((e : Ty) × List e.den) :=
  match o.op with
  | .binOp .eql t x (.const (.slice none 0 0)) _ => (match st.ev x with
    | .d (.list e) xs => (match (elemT ε t).isSome with | true => some ⟨e, xs⟩ | false => none)
    | _ => none)
  | _ => none
open Classical in
noncomputable def nilEq {α : Type} (xs : List α) (T F : Option S) : Option S := if xs = [] then (if T = F then T else none) else F

/-! A state, with its lists laid out (the kernel then looks things up in lists that stand as they are). -/
noncomputable def normL {α R : Type} (l : List α) : (List α → R) → R := List.rec (motive := fun _ => (List α → R) → R) (fun K => K []) (fun x _ ih K => ih fun r => K (x :: r)) l
theorem normL_eq {α R : Type} : ∀ (l : List α) (K : List α → R), normL l K = K l
  | [], _ => rfl
  | x :: l, K => (normL_eq l fun r => K (x :: r) : normL l (fun r => K (x :: r)) = K (x :: l))
noncomputable def normA {R : Type} (v : AV) (K : AV → R) : R := match v with
  | .agg l => normL l fun l => K (.agg l)
  | .tup l => normL l fun l => K (.tup l)
  | .pim l => normL l fun l => K (.pim l)
  | v => K v
theorem normA_eq {R : Type} (v : AV) (K : AV → R) : normA v K = K v := by cases v <;> simp only [normA, normL_eq]
noncomputable def normO {α R : Type} (o : Option (List α)) (K : Option (List α) → R) : R := match o with
  | none => K none
  | some l => normL l fun l => K (some l)
theorem normO_eq {α R : Type} (o : Option (List α)) (K : Option (List α) → R) : normO o K = K o := by cases o <;> simp only [normO, normL_eq]
noncomputable def normR {α R : Type} (l : List (Option (List α))) : (List (Option (List α)) → R) → R := List.rec (motive := fun _ => (List (Option (List α)) → R) → R) (fun K => K []) (fun x _ ih K => normO x fun x => ih fun r => K (x :: r)) l
theorem normR_eq {α R : Type} : ∀ (l : List (Option (List α))) (K : List (Option (List α)) → R), normR l K = K l
  | [], _ => rfl
  | x :: l, K => (show normO x (fun x => normR l fun r => K (x :: r)) = _ by rw [normO_eq, normR_eq l])
noncomputable def normSt {R : Type} (st : St) (K : St → R) : R := match st with
  | ⟨a, b, c⟩ => normL a fun a => normR b fun b => normL c fun c => K ⟨a, b, c⟩
theorem normSt_eq {R : Type} (st : St) (K : St → R) : normSt st K = K st := by cases st; simp only [normSt, normL_eq, normR_eq]
noncomputable def putN {R : Type} (st : St) (dst : Option Nat) (v : AV) (K : St → R) : R := normA v fun v => normSt (st.put dst v) K
theorem putN_eq {R : Type} (st : St) (dst : Option Nat) (v : AV) (K : St → R) : putN st dst v K = K (st.put dst v) := by simp only [putN, normA_eq, normSt_eq]

/-- A cell that names a row of values that hold lists of their own. -/
def cellAt (recs : List (Option (List AV))) (q j : Nat) : Option SX := match getL recs q with
  | some c => (match isMark c with | true => none | false => (match c[j]? with | some (.sx x) => some x | _ => none))
  | none => none
/-- A call that yields the place of such a row's last one. -/
def evTop (st : St) : List AV → (AV → St → Option S) → Option S
  | [.ptr q off], K => (match cellAt st.recs q off with
    | some (.foc r fs) => appOk (fs.length + 1) (K (.sx (.tp r 0)) st)
    | _ => none)
  | _, _ => none
/-- One operation that may panic. -/
noncomputable def evOpZ (st : St) (o : Oper) (K Z : AV → St → Option S) : Option S :=
  match o.op with
  | .panic x => (match st.ev x with | .ifc q l => Z (.ifc q l) st | _ => none)
  | .call c => (match c.callee with
    | .value g => (match st.ev g with
      | .fn (.func f) _ _ => (match ε.pf f with | [] => (match ε.top f with | true => (match callArgs g c.args.toList st with | some l => evTop st l K | none => none) | false => evOp ε st o K) | h :: r => evHandsP st (callArgs g c.args.toList) K Z (h :: r))
      | _ => evOp ε st o K)
    | _ => evOp ε st o K)
  | _ => evOp ε st o K
/-- Operations in the order of the text. -/
noncomputable def evOps (ops : Array Oper) : List Nat → St → (St → Option S) → (AV → St → Option S) → Option S
  | [], st, K, _ => K st
  | i :: rest, st, K, Z => match ops[i]? with
    | none => evOps ops rest st K Z
    | some o => match o.guard with
      | none => (match nilCmp ε st o with
        | some q => nilEq q.2 (putN st o.dst (.d .bool true) fun s => evOps ops rest s K Z) (putN st o.dst (.d .bool false) fun s => evOps ops rest s K Z)
        | none => evOpZ ε st o (fun v st' => putN st' o.dst v fun s => evOps ops rest s K Z) Z)
      | some (j, want) => match (ops[j]?).bind (·.dst) with
        | none => none
        | some d => match st.slots[d]? with
          | some (.tup []) => putN st o.dst (.tup []) fun s => evOps ops rest s K Z
          | some (.d .bool b) =>
            cond b
              (if want then evOpZ ε { st with slots := st.slots.set d (.d .bool true) } o (fun v st' => putN st' o.dst v fun s => evOps ops rest s K Z) Z
               else (putN { st with slots := st.slots.set d (.d .bool true) } o.dst (.tup []) fun s => evOps ops rest s K Z))
              (if want then (putN { st with slots := st.slots.set d (.d .bool false) } o.dst (.tup []) fun s => evOps ops rest s K Z)
               else evOpZ ε { st with slots := st.slots.set d (.d .bool false) } o (fun v st' => putN st' o.dst v fun s => evOps ops rest s K Z) Z)
          | _ => none

/-! ### A region that draws its order -/
/-- Of an operation of such a region: its number, what it is to memory (0: it only reads; 1, 2: it makes a record, a list; 4: it appends to a list of the call's own; 5: it writes into a record of the call's own; 3: more), the number of what it makes, those that come before it, the places that it looks at, whether it looks at closed values alone and yields one; whether it looks at no record's cells. -/
structure It where
  idx : Nat
  kind : Nat
  n : Nat
  anc : Nat
  touch : List Loc
  cl : Bool
  mf : Bool
  hm : Bool
/-- What it yields does not hang on which lists of the call's own are told of, but for those that it looks at. -/
def homOp : Op → Bool
  | .move _ | .assign _ | .fieldAddr _ _ _ | .extract _ _ | .field _ _ _ | .nilCheck _ | .load _ _ => true
  | _ => false
mutual
/-- Nothing within is told no more. -/
def AV.hmok : AV → Bool
  | .dead => false
  | .agg l | .tup l | .ifc _ l => hmokL l
  | .pim l => closedL l
  | .fn _ a b => hmokL a && hmokL b
  | _ => true
def hmokL : List AV → Bool
  | [] => true
  | v :: l => v.hmok && hmokL l
end
def hmOps (st : St) : List Operand → Bool
  | [] => true
  | x :: r => (st.ev x).hmok && hmOps st r
/-- The number of the record or list that it writes into. -/
def tgtOf (st : St) (o : Oper) : Nat := match o.op with
  | .store _ a _ => (match st.ev a with | .ptr r _ => r | .sx (.tp r _) => r | .eptr t _ _ => t | _ => 0)
  | .call c => (match c.args.toList with | s :: _ => (match st.ev s with | .whole t => t | _ => 0) | _ => 0)
  | _ => 0
/-- It looks at no memory. -/
def memfree : Op → Bool
  | .move _ | .assign _ | .pick _ _ _ | .fieldAddr _ _ _ | .extract _ _ | .field _ _ _ | .binOp _ _ _ _ _ | .unOp _ _ _ => true
  | _ => false
def kindOf (st : St) (o : Oper) : Nat :=
  match o.op with
  | .alloc _ | .box _ _ => 1
  | .makeSlice _ _ _ => 2
  | .store _ a x => (match st.ev a with | .ptr _ _ => 5 | .sx y => (match y with | .tp _ _ => 5 | _ => 3) | .eptr _ _ _ => (match (st.ev x).wholes with | [] => 6 | _ => 3) | _ => 3)
  | .buildSlice _ _ parts => (match parts.toList with | [] => 2 | l => (match ownLit ε o.dst with | true => 3 | false => (match l.flatMap fun p => (st.ev p.2).wholes with | [] => 0 | _ => 3)))
  | .call c => (match c.callee with
    | .builtin .append => (match c.args.toList with | s :: _ => (match st.ev s with | .nilS => 2 | .full _ _ => 0 | .whole _ => 4 | _ => 3) | _ => 3)
    | .value g => (match st.ev g with
      | .fn (.func f) _ _ => (match ε.fn f with
        | some (_, sc) => (match sc with | true => 0 | false => (match c.args.toList.flatMap fun p => (st.ev p).wholes with | [] => 0 | _ => 3))
        | none => 3)
      | _ => 3)
    | _ => 0)
  | _ => 0
def touchOf (st : St) (o : Oper) : List Loc := o.op.operands.toList.flatMap fun x => (st.ev x).locs
def ancAt (done : List It) (i : Nat) : Option Nat := match done with
  | [] => none
  | y :: r => match Nat.beq y.idx i with | true => some y.anc | false => ancAt r i
def ancOf (done : List It) (i : Nat) : List Edge → Option Nat
  | [] => some 0
  | e :: r => match Region.binds .any e with
    | false => ancOf done i r
    | true => match ancAt done e.on with
      | some m => (match ancOf done i r with | some k => some (Nat.lor (Nat.lor (Nat.shiftLeft 1 e.on) m) k) | none => none)
      | none => none
/-- One writes, the other does not look there. -/
def wrOk (y x : It) : Bool := (Nat.beq y.kind 5 && Nat.blt x.kind 3 && !hasR y.n x.touch && !(Nat.beq x.kind 1 && Nat.beq x.n y.n)) || (Nat.beq y.kind 6 && Nat.blt x.kind 3 && !hasL y.n x.touch && !(Nat.beq x.kind 2 && Nat.beq x.n y.n))
/-- Both write, to different places. -/
def wr2Ok (y x : It) : Bool := (Nat.beq y.kind 5 && Nat.beq x.kind 6) || (Nat.beq y.kind 6 && Nat.beq x.kind 5) || (Nat.beq y.kind 5 && Nat.beq x.kind 5 && !Nat.beq y.n x.n) || (Nat.beq y.kind 6 && Nat.beq x.kind 6 && !Nat.beq y.n x.n)
/-- One appends, the other does not look there. -/
def hmOk (y x : It) : Bool := Nat.beq y.kind 4 && x.hm && !hasL y.n x.touch
def pairOk (ops : Array Oper) (y x : It) : Bool :=
  (match ops[y.idx]?, ops[x.idx]? with | some p, some q => p.apart ops q | _, _ => false) &&
  ((Nat.blt y.kind 3 && Nat.blt x.kind 3 && !(Nat.beq y.kind 1 && Nat.beq x.kind 1) && !(Nat.beq y.kind 2 && Nat.beq x.kind 2) &&
  !(Nat.beq y.kind 1 && hasR y.n x.touch) && !(Nat.beq y.kind 2 && hasL y.n x.touch) && !(Nat.beq x.kind 1 && hasR x.n y.touch) && !(Nat.beq x.kind 2 && hasL x.n y.touch)) ||
  (Nat.beq y.kind 4 && x.cl) || (y.cl && Nat.beq x.kind 4) || (Nat.beq y.kind 5 && x.mf) || (y.mf && Nat.beq x.kind 5) || wrOk y x || wrOk x y || wr2Ok y x || hmOk y x || hmOk x y)
def pairsOk (ops : Array Oper) (x : It) : List It → Bool
  | [] => true
  | y :: r => (Nat.testBit x.anc y.idx || pairOk ops y x) && pairsOk ops x r
def closedOps (st : St) : List Operand → Bool
  | [] => true
  | x :: r => (st.ev x).closed && closedOps st r
def itOf (st : St) (o : Oper) (i anc : Nat) (v : AV) : It :=
  let k := kindOf ε st o
  ⟨i, k, (match k with | 1 => st.recs.length | 2 => st.lsts.length | _ => tgtOf st o), anc, touchOf st o, Nat.beq k 0 && closedOps st o.op.operands.toList && v.closed, Nat.beq k 0 && (memfree o.op || closedOps st o.op.operands.toList), Nat.beq k 0 && homOp o.op && hmOps st o.op.operands.toList⟩
def itSkip (i anc : Nat) : It := ⟨i, 0, 0, anc, [], true, true, true⟩

/-! The same, with all numbers closed (the kernel reckons with closed numbers alone). -/
def tabOf (done : List It) : List (Nat × Nat) := done.map fun y => (y.idx, y.anc)
def ancAtT (i : Nat) : List (Nat × Nat) → Option Nat
  | [] => none
  | (j, m) :: r => match Nat.beq j i with | true => some m | false => ancAtT i r
def ancOfT (tab : List (Nat × Nat)) : List Edge → Option Nat
  | [] => some 0
  | e :: r => match Region.binds .any e with
    | false => ancOfT tab r
    | true => match ancAtT e.on tab with
      | some m => (match ancOfT tab r with | some k => some (Nat.lor (Nat.lor (Nat.shiftLeft 1 e.on) m) k) | none => none)
      | none => none
def pairOkT (ops : Array Oper) (j i : Nat) (y x : It) : Bool :=
  (match ops[j]?, ops[i]? with | some p, some q => p.apart ops q | _, _ => false) &&
  ((Nat.blt y.kind 3 && Nat.blt x.kind 3 && !(Nat.beq y.kind 1 && Nat.beq x.kind 1) && !(Nat.beq y.kind 2 && Nat.beq x.kind 2) &&
  !(Nat.beq y.kind 1 && hasR y.n x.touch) && !(Nat.beq y.kind 2 && hasL y.n x.touch) && !(Nat.beq x.kind 1 && hasR x.n y.touch) && !(Nat.beq x.kind 2 && hasL x.n y.touch)) ||
  (Nat.beq y.kind 4 && x.cl) || (y.cl && Nat.beq x.kind 4) || (Nat.beq y.kind 5 && x.mf) || (y.mf && Nat.beq x.kind 5) || wrOk y x || wrOk x y || wr2Ok y x || hmOk y x || hmOk x y)
def pairsOkT (ops : Array Oper) (i anc : Nat) (x : It) : List (Nat × Nat) → List It → Bool
  | (j, _) :: t, y :: r => (Nat.testBit anc j || pairOkT ops j i y x) && pairsOkT ops i anc x t r
  | [], [] => true
  | _, _ => false
theorem ancAtT_eq (i : Nat) : ∀ done : List It, ancAtT i (tabOf done) = ancAt done i
  | [] => rfl
  | y :: r => by simp only [tabOf, List.map_cons, ancAtT, ancAt]; rw [← ancAtT_eq i r]; rfl
theorem ancOfT_eq (i : Nat) (done : List It) : ∀ es, ancOfT (tabOf done) es = ancOf done i es
  | [] => rfl
  | e :: r => by simp only [ancOfT, ancOf]; rw [ancOfT_eq i done r, ancAtT_eq]
theorem pairsOkT_eq (ops : Array Oper) (x : It) : ∀ done : List It, pairsOkT ops x.idx x.anc x (tabOf done) done = pairsOk ops x done
  | [] => rfl
  | y :: r => by simp only [tabOf, List.map_cons, pairsOkT, pairsOk]; rw [← pairsOkT_eq ops x r]; rfl

noncomputable def normK {R : Type} (k : Nat) (K : Nat → R) : R := match Nat.beq k 0 with
  | true => K 0
  | false => match Nat.beq k 1 with
    | true => K 1
    | false => match Nat.beq k 2 with
      | true => K 2
      | false => match Nat.beq k 3 with
        | true => K 3
        | false => match Nat.beq k 4 with
          | true => K 4
          | false => match Nat.beq k 5 with
            | true => K 5
            | false => match Nat.beq k 6 with
              | true => K 6
              | false => K k
theorem normK_eq {R : Type} (k : Nat) (K : Nat → R) : normK k K = K k := by
  unfold normK
  (repeat' split) <;> first | rfl | (rename_i h; rw [Nat.eq_of_beq_eq_true h])
def normB {R : Type} (b : Bool) (K : Bool → R) : R := match b with | true => K true | false => K false
theorem normB_eq {R : Type} (b : Bool) (K : Bool → R) : normB b K = K b := by cases b <;> rfl
noncomputable def normIt {R : Type} (x : It) (K : It → R) : R := match x with
  | ⟨i, k, n, a, t, c, m, h⟩ => normK k fun k => normL t fun t => normB c fun c => normB m fun m => normB h fun h => K ⟨i, k, n, a, t, c, m, h⟩
theorem normIt_eq {R : Type} (x : It) (K : It → R) : normIt x K = K x := by cases x; simp only [normIt, normK_eq, normL_eq, normB_eq]

/-- Its operations, in the order of the text; any other order comes to the same. -/
noncomputable def evD (ops : Array Oper) : List Nat → List (Nat × Nat) → List It → St → (St → Option S) → Option S
  | [], _, _, st, K => K st
  | i :: rest, tab, done, st, K => match ops[i]? with
    | none => none
    | some o => match ancOfT tab o.after.toList with
      | none => none
      | some anc => match o.guard with
        | none => evOp ε st o fun v st' => normIt (itOf ε st o i anc v) fun it => (match pairsOkT ops i anc it tab done with | true => putN st' o.dst v fun s => evD ops rest ((i, anc) :: tab) (it :: done) s K | false => none)
        | some (j, want) => match (ops[j]?).bind (·.dst) with
          | none => none
          | some d => match st.slots[d]? with
            | some (.tup []) => (match pairsOkT ops i anc (itSkip i anc) tab done with | true => putN st o.dst (.tup []) fun s => evD ops rest ((i, anc) :: tab) (itSkip i anc :: done) s K | false => none)
            | some (.d .bool b) =>
              cond b
                (match want with
                 | true => evOp ε { st with slots := st.slots.set d (.d .bool true) } o fun v st' => normIt (itOf ε { st with slots := st.slots.set d (.d .bool true) } o i anc v) fun it => (match pairsOkT ops i anc it tab done with | true => putN st' o.dst v fun s => evD ops rest ((i, anc) :: tab) (it :: done) s K | false => none)
                 | false => (match pairsOkT ops i anc (itSkip i anc) tab done with | true => putN { st with slots := st.slots.set d (.d .bool true) } o.dst (.tup []) fun s => evD ops rest ((i, anc) :: tab) (itSkip i anc :: done) s K | false => none))
                (match want with
                 | true => (match pairsOkT ops i anc (itSkip i anc) tab done with | true => putN { st with slots := st.slots.set d (.d .bool false) } o.dst (.tup []) fun s => evD ops rest ((i, anc) :: tab) (itSkip i anc :: done) s K | false => none)
                 | false => evOp ε { st with slots := st.slots.set d (.d .bool false) } o fun v st' => normIt (itOf ε { st with slots := st.slots.set d (.d .bool false) } o i anc v) fun it => (match pairsOkT ops i anc it tab done with | true => putN st' o.dst v fun s => evD ops rest ((i, anc) :: tab) (it :: done) s K | false => none))
            | _ => none

inductive Ex | normal | exit (id : Nat) | ret | panic
  deriving DecidableEq

/-- Code without loops. -/
noncomputable def evC : Code → St → (Ex → St → Option S) → Option S
  | .skip, st, K | .label _, st, K => K .normal st
  | .region _ ops draw, st, K => (match draw with | true => evD ε ops (List.range ops.size) [] [] st fun st' => K .normal st' | false => evOps ε ops (List.range ops.size) st (fun st' => K .normal st') fun v st' => K .panic { st' with slots := [v] })
  | .seq a b, st, K => evC a st fun ex st' => match ex with | .normal => evC b st' K | e => K e st'
  | .cond c x y, st, K => (match st.ev c with | .d .bool b => cond b (evC x st K) (evC y st K) | _ => none)
  | .block id c, st, K => evC c st fun ex st' => match ex with | .exit j => if j = id then K .normal st' else K (.exit j) st' | e => K e st'
  | .exit id, st, K => K (.exit id) st
  | .ret, st, K => K .ret st
  | _, _, _ => none

/-- What a function hands back. -/
def evRes (st : St) : List ResultVar → Option (List AV)
  | [] => some []
  | .tmp t :: r => (((st.slots.getD t .dead).close st.lsts)).bind fun v => (evRes st r).bind fun l => some (v :: l)
  | .cell a t :: r => match st.slots.getD a .dead with
    | .ptr q 0 => (match getL st.recs q, ε.ti t with
      | some cells, some i => if cells.length = i.size then (((if i.agg then some (.agg cells) else cells.head?) : Option AV).bind fun v => (v.close st.lsts).bind fun v => (evRes st r).bind fun l => some (v :: l)) else none
      | _, _ => none)
    | _ => none
/-- A function without loops. -/
noncomputable def evFun (fn : Func) (args : List AV) (K : AV → Option S) : Option S :=
  match fn.body with
  | none => none
  | some c => evC ε c { slots := args ++ List.replicate (fn.ntmps - args.length) .dead, recs := [], lsts := [] } fun ex st => match ex with
    | .normal | .ret => (evRes ε st fn.results.toList).bind fun l => K (resVal l)
    | _ => none
end
end Go.Pe
