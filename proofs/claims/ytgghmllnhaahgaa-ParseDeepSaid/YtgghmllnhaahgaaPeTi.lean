/- What is known of a type, read off the program. -/
import Derived.Test.YtgghmllnhaahgaaPeFun
namespace Go.Pe
open Go.RowKit
set_option linter.unusedSectionVars false
variable [GI]

def tysOf (f : Nat → Option Ty) : List Nat → Option Ty
  | [] => some .unit
  | [t] => f t
  | t :: r => (f t).bind fun a => (tysOf f r).bind fun b => some (.prod a b)
/-- A type's kind; 'vt' is the type of values that hold values of their own type. -/
def tyOf (P : Program) (vt : Nat) : Nat → Nat → Option Ty
  | 0, _ => none
  | n + 1, t => if t = vt then some .value else match P.underlying t with
    | some .bool => some .bool
    | some (.int k) => some (.int k)
    | some .string => some .str
    | some (.slice e) => (tyOf P vt n e).map .list
    | some (.struct fs) => tysOf (tyOf P vt n) (fs.toList.map (·.type))
    | some (.array m e) => tysOf (tyOf P vt n) (List.replicate m e)
    | _ => none
/-- Bytes are of one type. -/
def tyU8 (t : Nat) (e : Ty) : Option Ty := match e with
  | .int .u8 => (match Nat.beq t GI.u8 with | true => some (.int .u8) | false => none)
  | e => some e
theorem tyU8_some {t : Nat} {e e' : Ty} (h : tyU8 t e = some e') : e' = e ∧ (e' = .int .u8 → t = GI.u8) := by
  unfold tyU8 at h
  split at h
  · split at h
    · rename_i hb; cases h; exact ⟨rfl, fun _ => Nat.eq_of_beq_eq_true hb⟩
    · cases h
  · rename_i hne; cases h; exact ⟨rfl, fun e => absurd e hne⟩
def tiOf (P : Program) (vt t : Nat) : Option TI :=
  match P.underlying t, P.info? t with
  | some d, some inf => match inf.zero with
    | some z => if z.cells.size = inf.size ∧ inf.bytes ≤ 16384 then
        some ⟨d, inf.size, (match d with | .struct _ | .array _ _ => true | _ => false), (tyOf P vt 8 t).bind fun e => if e.size = inf.size then tyU8 t e else none, z.cells.toList.map ofConst,
          (match d with | .struct fs => !P.stoodInHeld t && !P.eqGuardType P.depth t && eqFs 0 fs.toList | _ => false), Nat.beq t GI.bt⟩ else none
    | none => none
  | _, _ => none

theorem consts_rep (c : Cx) : ∀ l : List Value, RepAVs c (l.map ofConst) l
  | [] => by simp [RepAVs]
  | v :: l => by simp only [List.map_cons]; exact RepAVs.cons (ofConst_rep c v) (consts_rep c l)
theorem tiOf_ok {P : Program} {vt t : Nat} {i : TI} (h : tiOf P vt t = some i) : TiOk P t i := by
  unfold tiOf at h
  split at h
  · rename_i d inf hd hi
    split at h
    · rename_i z hz
      split at h
      · rename_i hc
        cases h
        refine ⟨hd, ⟨inf, hi, rfl, hc.2, z, hz, hc.1, fun c => consts_rep _ _⟩, rfl, fun e he => ?_, fun he => ?_, fun he => Nat.eq_of_beq_eq_true he, fun he => ?_⟩
        · simp only [Option.bind_eq_some_iff] at he
          obtain ⟨e', _, he⟩ := he
          split at he
          · rename_i hs; rw [(tyU8_some he).1]; exact hs
          · cases he
        · simp only [Option.bind_eq_some_iff] at he
          obtain ⟨e', _, he⟩ := he
          split at he
          · exact (tyU8_some he).2 rfl
          · cases he
        · dsimp only at he
          split at he
          · rename_i fs
            simp only [Bool.and_eq_true, Bool.not_eq_true'] at he
            exact ⟨fs, hd, he.1.1, he.1.2, he.2⟩
          · cases he
      · cases h
    · cases h
  · cases h

/-! Parts of code. -/
def _root_.Go.Code.cl : Code → Code | .seq a _ => a | c => c
def _root_.Go.Code.cr : Code → Code | .seq _ b => b | c => c
def _root_.Go.Code.cb : Code → Code | .block _ b => b | .loop b => b | c => c
def _root_.Go.Code.ct : Code → Code | .cond _ a _ => a | c => c
def _root_.Go.Code.ce : Code → Code | .cond _ _ b => b | c => c
def codeOf (f : Func) : Code := match f.body with | some c => c | none => .skip

/-- A table of functions. -/
structure FnRow (P : Program) where
  f : Nat
  G : PFun
  sc : Bool
  sound : Sound P f @G
  uni : PFun.Uni @G
def fnOf {P : Program} : List (FnRow P) → Nat → Option (PFun × Bool)
  | [], _ => none
  | r :: l, f => match Nat.beq r.f f with | true => some (r.G, r.sc) | false => fnOf l f
/-- Functions that are handed own memory. -/
structure HRow (P : Program) where
  f : Nat
  h : HF
  sound : SoundH P f h
def hfOf {P : Program} : List (HRow P) → Nat → List HF
  | [], _ => []
  | r :: l, f => match Nat.beq r.f f with | true => r.h :: hfOf l f | false => hfOf l f
theorem hfOf_ok {P : Program} : ∀ {l : List (HRow P)} {f : Nat} {h : HF}, h ∈ hfOf l f → SoundH P f h
  | [], f, h, hh => by simp [hfOf] at hh
  | r :: l, f, h, hh => by
    simp only [hfOf] at hh
    split at hh
    · rename_i e
      have e : r.f = f := by simpa using e
      rcases List.mem_cons.1 hh with rfl | hh
      · exact e ▸ r.sound
      · exact hfOf_ok hh
    · exact hfOf_ok hh
/-- Functions that may panic. -/
structure PRow (P : Program) where
  f : Nat
  h : PF
  sound : SoundP P f h
def pfOf {P : Program} : List (PRow P) → Nat → List PF
  | [], _ => []
  | r :: l, f => match Nat.beq r.f f with | true => r.h :: pfOf l f | false => pfOf l f
theorem pfOf_ok {P : Program} : ∀ {l : List (PRow P)} {f : Nat} {h : PF}, h ∈ pfOf l f → SoundP P f h
  | [], f, h, hh => by simp [pfOf] at hh
  | r :: l, f, h, hh => by
    simp only [pfOf] at hh
    split at hh
    · rename_i e
      have e : r.f = f := by simpa using e
      rcases List.mem_cons.1 hh with rfl | hh
      · exact e ▸ r.sound
      · exact pfOf_ok hh
    · exact pfOf_ok hh
def envOfP (P : Program) (vt : Nat) (l : List (FnRow P)) (hl : List (HRow P)) (pl : List (PRow P)) (own : List Nat := []) : Env := ⟨tiOf P vt, fnOf l, hfOf hl, pfOf pl, fun _ => false, own⟩
def envOfT (P : Program) (vt : Nat) (l : List (FnRow P)) (hl : List (HRow P)) (pl : List (PRow P)) (top : Nat) (own : List Nat := []) : Env := ⟨tiOf P vt, fnOf l, hfOf hl, pfOf pl, Nat.beq top, own⟩
def envOf (P : Program) (vt : Nat) (l : List (FnRow P)) (hl : List (HRow P)) (own : List Nat := []) : Env := ⟨tiOf P vt, fnOf l, hfOf hl, fun _ => [], fun _ => false, own⟩
theorem fnOf_ok {P : Program} : ∀ {l : List (FnRow P)} {f : Nat} {G : PFun} {sc : Bool}, fnOf l f = some (@G, sc) → Sound P f @G ∧ PFun.Uni @G
  | r :: l, f, G, sc, h => by
    simp only [fnOf] at h
    split at h
    · rename_i e
      have e : r.f = f := by simpa using e
      subst e
      have h1 : (r.G : PFun) = @G := congrArg Prod.fst (Option.some.inj h)
      exact ⟨h1 ▸ r.sound, h1 ▸ r.uni⟩
    · exact fnOf_ok h
theorem envOf_ok {P : Program} (vt : Nat) (l : List (FnRow P)) (hl : List (HRow P)) (hm : P.follows .mixedOrders = true) (own : List Nat := []) : EnvOk P (envOf P vt l hl own) :=
  ⟨fun _ _ h => tiOf_ok h, fun _ _ _ h => (fnOf_ok h).1, fun _ _ _ h => (fnOf_ok h).2, hm, fun _ _ h => hfOf_ok h, (fun _ _ h => by cases h), (fun _ h => by cases h)⟩
theorem envOfP_ok {P : Program} (vt : Nat) (l : List (FnRow P)) (hl : List (HRow P)) (pl : List (PRow P)) (hm : P.follows .mixedOrders = true) (own : List Nat := []) : EnvOk P (envOfP P vt l hl pl own) :=
  ⟨fun _ _ h => tiOf_ok h, fun _ _ _ h => (fnOf_ok h).1, fun _ _ _ h => (fnOf_ok h).2, hm, fun _ _ h => hfOf_ok h, fun _ _ h => pfOf_ok h, (fun _ h => by cases h)⟩
theorem envOfT_ok {P : Program} (vt : Nat) (l : List (FnRow P)) (hl : List (HRow P)) (pl : List (PRow P)) {top : Nat} (ht : TopFn P top) (hm : P.follows .mixedOrders = true) (own : List Nat := []) : EnvOk P (envOfT P vt l hl pl top own) :=
  ⟨fun _ _ h => tiOf_ok h, fun _ _ _ h => (fnOf_ok h).1, fun _ _ _ h => (fnOf_ok h).2, hm, fun _ _ h => hfOf_ok h, fun _ _ h => pfOf_ok h, (fun f h => by obtain rfl := Nat.eq_of_beq_eq_true h; exact ht)⟩
theorem pfun_uni {ps rs : List KD} (F : argsDen ps → Option (argsDen rs)) : PFun.Uni (pfun F) := by
  intro S args K
  show ((decArgs ps args).bind fun x => (F x).bind fun y => K (encRes rs y)) = ((decArgs ps args).bind fun x => (F x).bind fun y => some (encRes rs y)).bind K
  rw [Option.bind_assoc]; congr; funext x; rw [Option.bind_assoc]; rfl
/-- Is what it hands back scalar? -/
def KD.scalar : KD → Bool
  | .one .bool | .one (.int _) | .one .str => true
  | _ => false
def rowOf {P : Program} {f : Nat} {ps rs : List KD} {F : argsDen ps → Option (argsDen rs)} (sc : Bool) (h : Sound P f (pfun F)) : FnRow P := ⟨f, pfun F, sc, h, pfun_uni F⟩

/-- How long a loop may go on: no longer than all that it holds. -/
def Ty.fuel : (t : Ty) → t.den → Nat
  | .bool, _ => 0
  | .int _, x => x.natAbs
  | .str, x => x.length
  | .list _, x => x.length
  | .unit, _ => 0
  | .prod a b, x => a.fuel x.1 + b.fuel x.2
  | .value, _ => 0
mutual
def SAV.fuel : (s : SAV) → s.den → Nat
  | .hole t, x => t.fuel x
  | .agg l, x => fuelL l x
  | .ifc _ l, x => fuelL l x
  | .fn _ a b, x => fuelL a x.1 + fuelL b x.2
  | .eptr _ _, i => i
  | .stk, x => x.length
  | .dead, _ | .ptr _ _, _ | .whole _, _ | .nilP, _ | .nilS, _ | .bld _, _ | .same, _ => 0
def fuelL : (l : List SAV) → SAVs.den l → Nat
  | [], _ => 0
  | s :: r, z => s.fuel z.1 + fuelL r z.2
end
def fuelR : (l : List (Option (List SAV))) → recsDen l → Nat
  | [], _ => 0
  | none :: r, z => fuelR r z
  | some l :: r, z => fuelL l z.1 + fuelR r z.2
def fuelT : (l : List (Option Ty)) → lstsDen l → Nat
  | [], _ => 0
  | none :: r, z => fuelT r z
  | some _ :: r, z => z.1.length + fuelT r z.2
def fuelOf (sh : Shape) (z : sh.den) : Nat := 1000000 + (fuelL sh.slots z.1 + fuelR sh.recs z.2.1 + fuelT sh.lsts z.2.2)
/-- A loop, gone through. -/
def go {sh : Shape} {β : Type} (step : (sh.den → Option β) → sh.den → Option β) (y : sh.den) : Option β := iter step (fuelOf sh y) y
theorem go_of {P : Program} {ε : Env} (hε : EnvOk P ε) {np : Nat} {tp : Bool} {c : Code} (x : Ann P np tp c) {sh : Shape} {outs : List (Ex × Shape)} {step : (sh.den → Option (OutDen outs)) → sh.den → Option (OutDen outs)}
    (h1 : Nat.ble np sh.recs.length = true) (h2 : outsOk np outs = true) (h : ∀ rec y, step rec y = evA ε x (fill sh y) (fun ex st => match ex with | .normal => (abs sh st).bind rec | e => packOut outs e st)) : PieceSound P np tp (.loop c) sh outs (go step) :=
  ⟨Nat.le_of_ble_eq_true h1, fun y o ho => (loop_of hε x h1 h2 h (fuelOf sh y)).2 y o ho⟩

/-! ### Recursion: as deep as a great number -/
/- (chosen, so that the kernel never counts it down) -/
noncomputable def recN : Nat := Classical.choose (⟨1000000, rfl⟩ : ∃ n : Nat, n = 1000000)
theorem recN_eq : recN = 1000000 := Classical.choose_spec (⟨1000000, rfl⟩ : ∃ n : Nat, n = 1000000)
abbrev Has (P : Program) (f : Nat) : Prop := ∃ fn, P.funcs[f]? = some fn ∧ (fn.name == "runtime.NumGoroutine") = false ∧ fn.body.isSome = true
theorem sound_none {P : Program} {f : Nat} (h : Has P f) {ps rs : List KD} : Sound P f (pfun (fun _ : argsDen ps => (none : Option (argsDen rs)))) := by
  refine ⟨h, ?_⟩
  intro S args K r hG
  simp only [pfun, Option.bind_none, Option.bind_eq_some_iff] at hG
  obtain ⟨_, _, hG⟩ := hG
  cases hG
noncomputable def recF {P : Program} {f : Nat} (h : Has P f) {ps rs : List KD} (step : (F : argsDen ps → Option (argsDen rs)) → Sound P f (pfun F) → {F : argsDen ps → Option (argsDen rs) // Sound P f (pfun F)}) :
    (n : Nat) → {F : argsDen ps → Option (argsDen rs) // Sound P f (pfun F)}
  | 0 => ⟨fun _ => none, sound_none h⟩
  | n + 1 => step (recF h step n).1 (recF h step n).2
theorem soundH_none {P : Program} {f : Nat} (h : Has P f) {I O : Shape} : SoundH P f ⟨I, O, fun _ => none⟩ := by
  refine ⟨h, ?_⟩
  intro y o ho
  cases ho
noncomputable def recH {P : Program} {f : Nat} (h : Has P f) {I O : Shape} (step : (F : I.den → Option O.den) → SoundH P f ⟨I, O, F⟩ → {F : I.den → Option O.den // SoundH P f ⟨I, O, F⟩}) :
    (n : Nat) → {F : I.den → Option O.den // SoundH P f ⟨I, O, F⟩}
  | 0 => ⟨fun _ => none, soundH_none h⟩
  | n + 1 => step (recH h step n).1 (recH h step n).2
end Go.Pe
