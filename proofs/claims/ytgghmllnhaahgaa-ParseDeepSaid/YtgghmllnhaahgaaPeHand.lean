/- Shapes of states; a state as its shape tells it; own memory that is handed on to another function, and back. -/
import Derived.Test.YtgghmllnhaahgaaPeDefs
namespace Go.Pe
open Go.RowKit

/-! ### Shapes of states -/
inductive SAV where
  | dead | hole (t : Ty) | ptr (r off : Nat) | whole (t : Nat) | nilP | nilS | eptr (t off : Nat) | agg (l : List SAV) | ifc (q : Nat) (l : List SAV) | bld (r : Nat) | fn (f : Fn) (a b : List SAV) | stk | same
mutual
@[reducible] def SAV.den : SAV → Type
  | .hole t => t.den
  | .eptr _ _ => Nat
  | .agg l => SAVs.den l
  | .ifc _ l => SAVs.den l
  | .fn _ a b => SAVs.den a × SAVs.den b
  | .stk => List V
  | .dead | .ptr _ _ | .whole _ | .nilP | .nilS | .bld _ | .same => Unit
@[reducible] def SAVs.den : List SAV → Type
  | [] => Unit
  | s :: r => s.den × SAVs.den r
end
@[reducible] def recsDen : List (Option (List SAV)) → Type
  | [] => Unit
  | none :: r => recsDen r
  | some l :: r => SAVs.den l × recsDen r
@[reducible] def lstsDen : List (Option Ty) → Type
  | [] => Unit
  | none :: r => lstsDen r
  | some t :: r => List t.den × lstsDen r
structure Shape where
  slots : List SAV
  recs : List (Option (List SAV))
  lsts : List (Option Ty)
@[reducible] def Shape.den (sh : Shape) : Type := SAVs.den sh.slots × recsDen sh.recs × lstsDen sh.lsts

mutual
def fillA : (s : SAV) → s.den → AV
  | .dead, _ => .dead
  | .hole t, x => .d t x
  | .ptr r off, _ => .ptr r off
  | .bld r, _ => .bld r
  | .whole t, _ => .whole t
  | .nilP, _ => .nilP
  | .nilS, _ => .nilS
  | .eptr t off, i => .eptr t i off
  | .agg l, z => .agg (fillL l z)
  | .ifc q l, z => .ifc q (fillL l z)
  | .fn f a b, z => .fn f (fillL a z.1) (fillL b z.2)
  | .stk, x => .sx (.stk x)
  | .same, _ => .sx .same
def fillL : (l : List SAV) → SAVs.den l → List AV
  | [], _ => []
  | s :: r, z => fillA s z.1 :: fillL r z.2
end
def fillR : (l : List (Option (List SAV))) → recsDen l → List (Option (List AV))
  | [], _ => []
  | none :: r, z => none :: fillR r z
  | some l :: r, z => some (fillL l z.1) :: fillR r z.2
def fillT : (l : List (Option Ty)) → lstsDen l → List (Option LObj)
  | [], _ => []
  | none :: r, z => none :: fillT r z
  | some t :: r, z => some ⟨t, z.1⟩ :: fillT r z.2
def fill (sh : Shape) (z : sh.den) : St := ⟨fillL sh.slots z.1, fillR sh.recs z.2.1, fillT sh.lsts z.2.2⟩

/-- May a list be closed here? -/
def shut (keep : List (Option Ty)) : AV → Bool
  | .whole j => (getL keep j).isNone
  | _ => true
def Ty.single : Ty → Bool | .bool | .int _ | .str | .list _ => true | _ => false
def fnEq : Fn → Fn → Bool
  | .func a, .func b => Nat.beq a b
  | _, _ => false
theorem fnEq_eq {f g : Fn} (h : fnEq f g = true) : f = g := by
  unfold fnEq at h
  split at h
  · rw [Nat.eq_of_beq_eq_true h]
  · cases h
mutual
def absA (lsts : List (Option LObj)) (keep : List (Option Ty)) (nr : Nat) : (s : SAV) → AV → Option s.den
  | .dead, _ => some ()
  | .hole t, v => if t.single && shut keep v then asTy lsts t v else none
  | .ptr r off, v => (match v with | .ptr r' off' => if r = r' ∧ off = off' ∧ r < nr then some () else none | _ => none)
  | .bld r, v => (match v with | .bld r' => if r = r' ∧ r < nr then some () else none | _ => none)
  | .whole t, v => (match v with
    | .whole t' => if t = t' ∧ (getL lsts t).isSome = true ∧ (getL keep t).isSome = true then some () else none
    | .nilS => if (getL lsts t).isNone = true ∧ (getL keep t).isSome = true then some () else none
    | _ => none)
  | .nilP, v => (match v with | .nilP => some () | _ => none)
  | .nilS, v => (match v with | .nilS => some () | _ => none)
  | .eptr t off, v => (match v with | .eptr t' i off' => if t = t' ∧ off = off' ∧ (getL lsts t).isSome = true ∧ (getL keep t).isSome = true then some i else none | _ => none)
  | .agg l, v => (match v with | .agg vs => absL lsts keep nr l vs | _ => none)
  | .ifc q l, v => (match v with | .ifc q' vs => (match Nat.beq q q' with | true => absL lsts keep nr l vs | false => none) | _ => none)
  | .fn f a b, v => (match v with | .fn g vs us => (match fnEq f g with | true => (absL lsts keep nr a vs).bind fun x => (absL lsts keep nr b us).bind fun y => some (x, y) | false => none) | _ => none)
  | .stk, v => (match v with | .sx (.stk fs) => some fs | _ => none)
  | .same, v => (match v with | .sx .same => some () | _ => none)
def absL (lsts : List (Option LObj)) (keep : List (Option Ty)) (nr : Nat) : (l : List SAV) → List AV → Option (SAVs.den l)
  | [], vs => (match vs with | [] => some () | _ :: _ => none)
  | s :: r, vs => (match vs with | v :: vs => (absA lsts keep nr s v).bind fun x => (absL lsts keep nr r vs).bind fun y => some (x, y) | [] => none)
end
def absR (lsts : List (Option LObj)) (keep : List (Option Ty)) (nr : Nat) : (l : List (Option (List SAV))) → List (Option (List AV)) → Option (recsDen l)
  | [], _ => some ()
  | none :: r, vs => absR lsts keep nr r vs.tail
  | some l :: r, some c :: vs => (match isMark c with | true => none | false => (absL lsts keep nr l c).bind fun x => (absR lsts keep nr r vs).bind fun y => some (x, y))
  | _, _ => none
def absT : (l : List (Option Ty)) → List (Option LObj) → Option (lstsDen l)
  | [], _ => some ()
  | none :: r, vs => absT r vs.tail
  | some t :: r, vs =>
    (match vs.head? with
    | some (some o) => if h : Ty.list o.e = Ty.list t then some ((h ▸ (o.xs : (Ty.list o.e).den) : (Ty.list t).den) : List t.den) else none
    | _ => some ([] : List t.den)).bind fun x => (absT r vs.tail).bind fun y => some (x, y)
def abs (sh : Shape) (st : St) : Option sh.den :=
  (absL st.lsts sh.lsts sh.recs.length sh.slots st.slots).bind fun x => (absR st.lsts sh.lsts sh.recs.length sh.recs st.recs).bind fun y => (absT sh.lsts st.lsts).bind fun z => some (x, y, z)

/-! ### Own memory, handed on -/
/-- What becomes of a row of values that hold lists of their own: it is handed on, or it stays as it is, or nothing is told of it. -/
inductive SM | hand | keep (x : SX) | no
def SM.isHand : SM → Bool | .hand => true | _ => false
def SM.view : SM → SX → AV
  | .hand, .stk fs => .sx (.stk fs)
  | .keep (.stk _), .stk _ => .sx .same
  | .keep (.foc _ _), .foc _ _ => .sx .same
  | .keep .same, .same => .sx .same
  | _, _ => .dead
def SM.back : SM → SX → AV
  | .hand, .stk fs => .sx (.stk fs)
  | .keep (.stk fs), .same => .sx (.stk fs)
  | .keep (.foc r fs), .same => .sx (.foc r fs)
  | .keep .same, .same => .sx .same
  | _, _ => .dead
def SM.old : SM → SX → AV
  | .hand, _ => .dead
  | _, x => .sx x
mutual
/-- Other numbers for the call's own records and lists. -/
def AV.ren (fr fl : Nat → Option Nat) (fx : SX → AV) : AV → AV
  | .ptr r off => (match fr r with | some i => .ptr i off | none => .dead)
  | .bld r => (match fr r with | some i => .bld i | none => .dead)
  | .whole t => (match fl t with | some i => .whole i | none => .dead)
  | .eptr t i off => (match fl t with | some j => .eptr j i off | none => .dead)
  | .agg l => .agg (renL fr fl fx l)
  | .ifc q l => .ifc q (renL fr fl fx l)
  | .tup l => .tup (renL fr fl fx l)
  | .pim l => .pim (renL fr fl fx l)
  | .fn f a b => .fn f (renL fr fl fx a) (renL fr fl fx b)
  | .sx x => fx x
  | v => v
def renL (fr fl : Nat → Option Nat) (fx : SX → AV) : List AV → List AV
  | [] => []
  | v :: l => v.ren fr fl fx :: renL fr fl fx l
end
/-- Where a number stands. -/
def idx (n : Nat) : List Nat → Option Nat
  | [] => none
  | m :: l => match Nat.beq m n with | true => some 0 | false => (idx n l).map (· + 1)
def nodupB : List Nat → Bool
  | [] => true
  | m :: l => (match idx m l with | none => true | some _ => false) && nodupB l

/-- A function that is handed own memory: what it takes, what it leaves, what it tells. -/
structure HF where
  I : Shape
  O : Shape
  F : I.den → Option O.den

/-- What is found in a state: the records and lists that are handed on; lists that are closed first. -/
structure Mt where
  ρ : List Nat
  lm : List Nat
  fz : List Nat
  sm : SM
def mtN (i r : Nat) (l : List Nat) : Option (List Nat) :=
  match l[i]? with
  | some r' => (match Nat.beq r r' with | true => some l | false => none)
  | none => (match Nat.beq i l.length with | true => (match idx r l with | none => some (l ++ [r]) | some _ => none) | false => none)
mutual
def mtA : SAV → AV → Mt → Option Mt
  | .ptr i _, v, m => (match v with | .ptr r _ => (mtN i r m.ρ).map fun l => { m with ρ := l } | _ => none)
  | .bld i, v, m => (match v with | .bld r => (mtN i r m.ρ).map fun l => { m with ρ := l } | _ => none)
  | .whole i, v, m => (match v with | .whole r => (mtN i r m.lm).map fun l => { m with lm := l } | .nilS => some m | _ => none)
  | .eptr i _, v, m => (match v with | .eptr r _ _ => (mtN i r m.lm).map fun l => { m with lm := l } | _ => none)
  | .hole _, v, m => (match v with | .whole r => some { m with fz := r :: m.fz } | _ => some m)
  | .agg l, v, m => (match v with | .agg vs => mtL l vs m | _ => none)
  | .ifc _ l, v, m => (match v with | .ifc _ vs => mtL l vs m | _ => none)
  | .fn f a b, v, m => (match v with | .fn g vs us => (match fnEq f g with | true => (mtL a vs m).bind (mtL b us) | false => none) | _ => none)
  | .nilP, v, m => (match v with | .nilP => some m | _ => none)
  | .nilS, v, m => (match v with | .nilS => some m | _ => none)
  | .stk, v, m => (match v with | .sx (.stk _) => (match m.sm with | .no => some { m with sm := .hand } | _ => none) | _ => none)
  | .same, v, m => (match m.sm with | .no => (match v with | .sx _ => some { m with sm := .keep .mark } | _ => none) | _ => none)
  | .dead, _, m => some m
def mtL : List SAV → List AV → Mt → Option Mt
  | [], vs, m => (match vs with | [] => some m | _ :: _ => none)
  | s :: l, vs, m => (match vs with | v :: vs => (mtA s v m).bind (mtL l vs) | [] => none)
end
def mtRecs (st : St) : List (Option (List SAV)) → Nat → Mt → Option Mt
  | [], _, m => some m
  | none :: r, i, m => mtRecs st r (i + 1) m
  | some l :: r, i, m => match m.ρ[i]? with
    | some j => (match getL st.recs j with | some cells => (mtL l cells m).bind (mtRecs st r (i + 1)) | none => none)
    | none => none
def mt (h : HF) (st : St) (args : List AV) : Option Mt := (mtL h.I.slots args ⟨[], [], [], .no⟩).bind fun m => mtRecs st h.I.recs 0 m

/-- What names such a row, among the cells of the records that are handed on. -/
def findC : List AV → Option SX
  | [] => none
  | .sx (.stk fs) :: _ => some (.stk fs)
  | .sx (.foc r fs) :: _ => some (.foc r fs)
  | .sx .same :: _ => some .same
  | _ :: l => findC l
def findR (recs : List (Option (List AV))) : List Nat → Option SX
  | [] => none
  | r :: ρ => match getL recs r with
    | some c => (match findC c with | some x => some x | none => findR recs ρ)
    | none => findR recs ρ
def fixSM (recs : List (Option (List AV))) (ρ : List Nat) : SM → SM
  | .keep _ => (match findR recs ρ with | some x => .keep x | none => .no)
  | s => s
/-- A state as the function sees it. -/
def viewR (ρ lm : List Nat) (sm : SM) : List AV → List AV := renL (fun r => idx r ρ) (fun t => idx t lm) sm.view
def view (st : St) (ρ lm : List Nat) (sm : SM) (args : List AV) : St := ⟨viewR ρ lm sm args, ρ.map fun r => (getL st.recs r).map (viewR ρ lm sm), lm.map fun t => getL st.lsts t⟩
/-- The number that one of the function's records gets behind it; where a number comes from. -/
def backN (ρ : List Nat) (n : Nat) (i : Nat) : Nat := match ρ[i]? with | some r => r | none => n + (i - ρ.length)
def srcN (ρ : List Nat) (n j : Nat) : Option Nat := match idx j ρ with
  | some i => some i
  | none => (match Nat.blt j n with | true => none | false => some (ρ.length + (j - n)))
def unL (lm : List Nat) (t : Nat) : Option Nat := match idx t lm with | some _ => none | none => some t
def backL (ρ lm : List Nat) (sm : SM) (n nl : Nat) : List AV → List AV := renL (fun i => some (backN ρ n i)) (fun i => some (backN lm nl i)) sm.back
def newRecs (st : St) (ρ lm : List Nat) (sm : SM) (s : St) (j : Nat) : Option (List AV) := match srcN ρ st.recs.length j with
  | some i => (match getL s.recs i with | some c => (match isMark c with | true => none | false => some (backL ρ lm sm st.recs.length st.lsts.length c)) | none => none)
  | none => (match getL st.recs j with | some c => (match isMark c && sm.isHand with | true => none | false => some (renL some (unL lm) sm.old c)) | none => none)
def newLsts (st : St) (lm : List Nat) (s : St) (j : Nat) : Option LObj := match srcN lm st.lsts.length j with
  | some i => getL s.lsts i
  | none => getL st.lsts j
/-- The state behind it. -/
def unview (st : St) (ρ lm : List Nat) (sm : SM) (s : St) : St :=
  ⟨renL some (unL lm) sm.old st.slots, (List.range (st.recs.length + (s.recs.length - ρ.length))).map (newRecs st ρ lm sm s), (List.range (st.lsts.length + (s.lsts.length - lm.length))).map (newLsts st lm s)⟩
def unvals (st : St) (ρ lm : List Nat) (sm : SM) (s : St) : List AV := backL ρ lm sm st.recs.length st.lsts.length s.slots
def allSome (l : List (Option (List AV))) : List Nat → Bool
  | [] => true
  | r :: ρ => (match getL l r with | some c => !isMark c | none => false) && allSome l ρ
def allLt (n : Nat) : List Nat → Bool
  | [] => true
  | r :: ρ => Nat.blt r n && allLt n ρ

/-- A function that is handed own memory and may panic: what it then leaves, the value first. -/
structure PF where
  I : Shape
  O : Shape
  Z : Shape
  F : I.den → Option (O.den ⊕ Z.den)
def PF.hf (h : PF) : HF := ⟨h.I, h.O, fun _ => none⟩
structure Env where
  ti : Nat → Option TI
  fn : Nat → Option (PFun × Bool)   -- with whether what it hands back is scalar
  hf : Nat → List HF
  pf : Nat → List PF
  top : Nat → Bool   -- functions that yield the place of a row's last one
  own : List Nat   -- literals that are lists of the call's own, by the slots that they go to
end Go.Pe
